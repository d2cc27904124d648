import Derived.Test.YtelbekgmijpacaaGreatDoorS3
namespace Go.Abs
def names17 : List (List UInt8) := [65, 66, 67, 68, 69, 70, 71, 72, 73, 74, 75, 76, 77, 78, 79, 80, 81].map fun c => [65, 65, c]
theorem run33 : zall (fun s => isRet (c2 33 [decl1 s] 0 .nil) (.int .i64 0)) names17 = true := by kernel_rfl
theorem plain33 : plainFn E0.P 33 = true := by kernel_rfl
def zin (s : List UInt8) : List (List UInt8) → Bool
  | [] => false
  | x :: r => cond (zbeq s x) true (zin s r)
theorem zin_ok {s : List UInt8} : ∀ {l : List (List UInt8)}, zin s l = true → s ∈ l
  | [], h => by cases h
  | x :: r, h => by
    simp only [zin] at h
    cases hb : zbeq s x with
    | true =>
      rw [zbeq_eq] at hb
      have : s = x := by simpa using hb
      simp [this]
    | false =>
      rw [hb] at h
      simp [zin_ok h]
theorem one_ok {s : List UInt8} (h : s ∈ names17) (H : AHeap) : ACalls E0.P E0.G 33 [decl1 s] H fun e H' => e = .ret (.int .i64 0) ∧ H' = H := by
  refine CallOk.one plain33 (decl1_bel s) (.int _ _) ?_ H
  rw [← empty_eq]
  obtain ⟨n, t, hr⟩ := isRet_ok (zall_ok run33 s h)
  exact ((c2_ok 33 [decl1 s] 0 .nil).1 _ _ _ hr).2.mono fun e H' he => he.1
noncomputable def kOne : List AVal → Nat → Tr ABlk → XC := fun l n h => match l with
  | [.agg [.int .i64 (.ofNat 1), .str s, .int .i64 (.ofNat 2), .str [], .str [], .int .i64 (.ofNat 0), .int .i64 (.ofNat 0), .nilsl, .nilsl, .str [], .int .i64 (.ofNat 0), .int .i64 (.ofNat 0), .nilsl, .nilsl, .int .i64 (.ofNat 0), .int .i64 (.ofNat 0)]] => cond (zin s names17) (.ret (.int .i64 0) n h) (.bad 78)
  | _ => .bad 78
noncomputable def K3 : ZKnown := Tr.set 24 33 (some kOne) K0
theorem K3_ok : ZKnownOk E0 K3 := fun f k hk args n h => by
  unfold K3 at hk
  rw [Tr.get_set _ _ _ _ (by decide)] at hk
  by_cases h33 : f = 33
  · subst h33
    rw [if_pos rfl] at hk
    cases hk
    unfold kOne
    split
    · rename_i s
      cases hb : zin s names17 with
      | true =>
        refine ⟨fun v n' h' e => ?_, fun v n' h' e => (by cases e)⟩
        cases e
        exact ⟨plain33, one_ok (zin_ok hb) _⟩
      | false => exact ⟨fun v n' h' e => (by cases e), fun v n' h' e => (by cases e)⟩
    · exact ⟨fun v n' h' e => (by cases e), fun v n' h' e => (by cases e)⟩
  · rw [if_neg h33] at hk
    exact K0_ok f k hk args n h
noncomputable def c3 : XCaller := zrun E0 F0 (zdraw E0) K3 1000 100
theorem c3_ok : CallOk E0.P E0.G c3 := zrun_ok E0_ok F0_ok dr0_ok K3_ok 1000 100
end Go.Abs
