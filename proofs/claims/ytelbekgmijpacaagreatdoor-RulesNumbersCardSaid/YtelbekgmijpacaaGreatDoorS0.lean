import Derived.Test.YtelbekgmijpacaaGreatDoorT7
import Derived.Test.YtelbekgmijpacaaGreatDoorRows
import Derived.Test.YtelbekgmijpacaaGreatDoorChecked
import Derived.Lib.Bytealg
namespace Go.Abs
/-! The functions without a text. -/
def xcount (c : UInt8) : List UInt8 → Nat → Nat
  | [], n => n
  | x :: r, n => cond (Nat.beq x.toNat c.toNat) (xcount c r (Nat.add n 1)) (xcount c r n)
theorem xcount_eq (c : UInt8) : ∀ (l : List UInt8) (n : Nat), xcount c l n = n + l.count c
  | [], n => by simp [xcount]
  | x :: r, n => by
    simp only [xcount, List.count_cons]
    rw [xcount_eq c r (Nat.add n 1), xcount_eq c r n]
    by_cases h : x = c
    · subst h
      simp
      omega
    · have h1 : Nat.beq x.toNat c.toNat = false := by
        rw [Bool.eq_false_iff]
        intro e
        exact h (UInt8.toNat_inj.1 (Nat.eq_of_beq_eq_true e))
      have h2 : (x == c) = false := by simpa using h
      rw [h1, h2]
      simp
def xcmp : List UInt8 → List UInt8 → Int
  | [], [] => 0
  | [], _ :: _ => -1
  | _ :: _, [] => 1
  | x :: r, y :: l => cond (Nat.blt x.toNat y.toNat) (-1) (cond (Nat.blt y.toNat x.toNat) 1 (xcmp r l))
theorem xcmp_eq : ∀ a b : List UInt8, xcmp a b = Lib.compareBytes a b
  | [], [] => rfl
  | [], _ :: _ => rfl
  | _ :: _, [] => rfl
  | x :: r, y :: l => by
    have h : ∀ u v : UInt8, Nat.blt u.toNat v.toNat = decide (u < v) := fun u v => by
      rw [blt_iff]
      exact decide_eq_decide.2 UInt8.lt_iff_toNat_lt.symm
    simp only [xcmp, Lib.compareBytes, h, xcmp_eq r l]
    by_cases h1 : x < y
    · simp [h1]
    · by_cases h2 : y < x
      · simp [h1, h2]
      · simp [h1, h2]
def XFact (P : Program) (g : FuncId) (l : List AVal) (r : AVal) : Prop := ∃ fn e, P.funcs[g]? = some fn ∧ (fn.name == "runtime.NumGoroutine") = false ∧ fn.body.isNone = true ∧ Extern.findNext fn = none ∧ Extern.find fn = some e ∧
    ∀ (σ : Nat → Pl) (N : Nat) (w : World) (Args : Array Value), VRs σ N l Args → ∃ V, (e Args).run P w = .ok V w ∧ VR σ N r V
theorem xsame {P : Program} {g : FuncId} {fn : Func} {v : AVal} (hf : P.funcs[g]? = some fn) (h1 : (fn.name == "runtime.NumGoroutine") = false) (h2 : fn.body.isNone = true) (h3 : Extern.findNext fn = none) (h4 : Extern.find fn = some Extern.AbiNoEscape.same) : XFact P g [v] v :=
  ⟨fn, _, hf, h1, h2, h3, h4, fun σ N w Args hv => by
    obtain ⟨V, rfl, h⟩ := vrs_one hv
    exact ⟨V, rfl, h⟩⟩
theorem xcounts {P : Program} {g : FuncId} {fn : Func} {s : List UInt8} {c : Nat} (hf : P.funcs[g]? = some fn) (h1 : (fn.name == "runtime.NumGoroutine") = false) (h2 : fn.body.isNone = true) (h3 : Extern.findNext fn = none) (h4 : Extern.find fn = some Extern.BytealgCount.count) :
    XFact P g [.str s, .int .u8 (.ofNat c)] (.int .i64 (.ofNat (xcount (UInt8.ofNat c) s 0))) :=
  ⟨fn, _, hf, h1, h2, h3, h4, fun σ N w Args hv => by
    obtain ⟨V, U, rfl, hV, hU⟩ := vrs_two hv
    cases hV
    cases hU
    refine ⟨_, Lib.run_countString _ _ w, ?_⟩
    rw [xcount_eq]
    simp only [Lib.countByte, Nat.zero_add, Int.ofNat_eq_natCast, Int.toNat_natCast]
    exact .int _ _⟩
noncomputable def T0 : Tr TI := tis Go.Proofs.Tryz.prog
noncomputable def F0 : Tr Func := tfs Go.Proofs.Tryz.prog
theorem xcmps {P : Program} {g : FuncId} {fn : Func} {s t : List UInt8} (hf : P.funcs[g]? = some fn) (h1 : (fn.name == "runtime.NumGoroutine") = false) (h2 : fn.body.isNone = true) (h3 : Extern.findNext fn = none) (h4 : Extern.find fn = some Extern.BytealgCompare.compare) :
    XFact P g [.str s, .str t] (.int .i64 (xcmp s t)) :=
  ⟨fn, _, hf, h1, h2, h3, h4, fun σ N w Args hv => by
    have h := ext_cmp (P := P) σ N w Args hv
    rw [Lib.cmp_eq] at h
    rw [xcmp_eq]
    exact h⟩
/-- The numbers of a table of the library's. -/
def dints : List (DataW Unit) → List Int
  | [] => []
  | .lit (.int _ n) :: r => n :: dints r
  | _ :: r => dints r
def dtab : DataW Unit → List Int
  | .agg l => dints l
  | _ => []
noncomputable def zAscii : List Int := dtab Go.Proofs.YtelbekgmijpacaaGreatDoor.Rows.laid_strings_asciiSpace
noncomputable def G0 : Nat → Option (List AVal) := fun g => match g with
  | 1 => some (zAscii.map fun n => .int .u8 n)
  | _ => none
noncomputable def X0 : FuncId → List AVal → Option AVal := fun g l => match g, l with
  | 176, [v] => some v
  | 166, [.str s, .int .u8 (.ofNat c)] => some (.int .i64 (.ofNat (xcount (UInt8.ofNat c) s 0)))
  | 124, [.str s, .str t] => some (.int .i64 (xcmp s t))
  | _, _ => none
noncomputable def E0 : XE := { P := Go.Proofs.Tryz.prog, T := T0, G := G0, X := X0, TT := fun t => Nat.beq t 148 }
theorem x176 (v : AVal) : XFact Go.Proofs.Tryz.prog 176 [v] v := xsame (fn := Go.Proofs.Tryz.f176) (by kernel_rfl) (by kernel_rfl) (by kernel_rfl) (by kernel_rfl) (by kernel_rfl)
theorem x166 (s : List UInt8) (c : Nat) : XFact Go.Proofs.Tryz.prog 166 [.str s, .int .u8 (.ofNat c)] (.int .i64 (.ofNat (xcount (UInt8.ofNat c) s 0))) := xcounts (fn := Go.Proofs.Tryz.f166) (by kernel_rfl) (by kernel_rfl) (by kernel_rfl) (by kernel_rfl) (by kernel_rfl)
theorem x124 (s t : List UInt8) : XFact Go.Proofs.Tryz.prog 124 [.str s, .str t] (.int .i64 (xcmp s t)) := xcmps (fn := Go.Proofs.Tryz.f124) (by kernel_rfl) (by kernel_rfl) (by kernel_rfl) (by kernel_rfl) (by kernel_rfl)
theorem E0_ok : EOk E0 := ⟨tis_ok _, fun g l r h => by
  have h' : X0 g l = some r := h
  unfold X0 at h'
  split at h'
  · cases h'; exact x176 _
  · cases h'; exact x166 _ _
  · cases h'; exact x124 _ _
  · cases h'⟩
theorem F0_ok : FOk E0.P F0 := tfs_ok _
theorem E0_mixed : E0.P.follows .mixedOrders = true := by kernel_rfl
theorem dr0_ok : ZDrOk E0 (zdraw E0) := zdraw_ok E0_ok E0_mixed
end Go.Abs
