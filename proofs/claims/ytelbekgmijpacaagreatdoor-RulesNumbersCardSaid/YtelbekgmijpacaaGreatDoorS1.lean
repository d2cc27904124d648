import Derived.Test.YtelbekgmijpacaaGreatDoorS0
namespace Go.Abs
noncomputable def c0 : XCaller := zrun E0 F0 (zdraw E0) .nil 1000 100
theorem c0_ok : CallOk E0.P E0.G c0 := zrun_ok E0_ok F0_ok dr0_ok (fun f k h => by rw [Tr.get_nil] at h; cases h) 1000 100
def decl1 (s : List UInt8) : AVal := .agg [.int .i64 1, .str s, .int .i64 2, .str [], .str [], .int .i64 0, .int .i64 0, .nilsl, .nilsl, .str [], .int .i64 0, .int .i64 0, .nilsl, .nilsl, .int .i64 0, .int .i64 0]
noncomputable def codeOf (f : Func) : Code := match f.body with
  | some c => c
  | none => .skip
noncomputable def sndO (o : Option (Code × XSt)) : XSt := match o with
  | some (_, x) => x
  | none => xstart [] 0 0 .nil
noncomputable def preMix (s : List UInt8) : Option (Code × XSt) := zpre E0 (zdraw E0) 1000 c0 4 (codeOf Go.Proofs.Tryz.f60) (xstart [decl1 s] 85 0 .nil)
noncomputable def stMix (s : List UInt8) : XSt := sndO (preMix s)
def rest4 (c : Code) : Code := match c with
  | .seq _ (.seq _ (.seq _ (.seq _ r))) => r
  | _ => .skip
theorem preMix_eq (s : List UInt8) : preMix s = some (rest4 (codeOf Go.Proofs.Tryz.f60), stMix s) := by kernel_rfl
theorem stMix_4 (s : List UInt8) : (stMix s).ev (.tmp 4) = .v (.map 0) := by kernel_rfl
theorem stMix_n (s : List UInt8) : (stMix s).n = 85 := by kernel_rfl
end Go.Abs
