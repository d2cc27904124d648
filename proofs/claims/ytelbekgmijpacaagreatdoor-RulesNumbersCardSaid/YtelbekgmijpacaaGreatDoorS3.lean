import Derived.Test.YtelbekgmijpacaaGreatDoorS2
namespace Go.Abs
noncomputable def kMixed : List AVal → Nat → Tr ABlk → XC := fun l n h => match l with
  | [.agg [.int .i64 (.ofNat 1), .str _, .int .i64 (.ofNat 2), .str [], .str [], .int .i64 (.ofNat 0), .int .i64 (.ofNat 0), .nilsl, .nilsl, .str [], .int .i64 (.ofNat 0), .int .i64 (.ofNat 0), .nilsl, .nilsl, .int .i64 (.ofNat 0), .int .i64 (.ofNat 0)]] => .ret (.bool false) n h
  | _ => .bad 76
noncomputable def kWord : List AVal → Nat → Tr ABlk → XC := fun l n h => match l with
  | [.str []] => .ret (.bool false) n h
  | _ => .bad 77
noncomputable def K1 : ZKnown := Tr.set 24 60 (some kMixed) .nil
noncomputable def K0 : ZKnown := Tr.set 24 55 (some kWord) K1
theorem decl1_bel (s : List UInt8) : ∀ u ∈ [decl1 s], Bel 0 u := by
  intro u hu
  simp only [List.mem_singleton] at hu
  subst hu
  unfold decl1
  refine .agg _ fun v hv => ?_
  simp only [List.mem_cons, List.not_mem_nil, or_false] at hv
  rcases hv with rfl | rfl | rfl | rfl | rfl | rfl | rfl | rfl | rfl | rfl | rfl | rfl | rfl | rfl | rfl | rfl <;> constructor
theorem empty_eq : ({ next := 0, get := (Tr.nil : Tr ABlk).get } : AHeap) = { next := 0, get := fun _ => none } := by
  congr 1
  funext b
  exact Tr.get_nil b
theorem plain60 : plainFn E0.P 60 = true := by kernel_rfl
theorem plain55 : plainFn E0.P 55 = true := by kernel_rfl
theorem mixed_all (s : List UInt8) (H : AHeap) : ACalls E0.P E0.G 60 [decl1 s] H fun e H' => e = .ret (.bool false) ∧ H' = H :=
  CallOk.one plain60 (decl1_bel s) (.bool _) (by rw [← empty_eq]; exact mixed_zero s) H
theorem kMixed_ok (l : List AVal) (n : Nat) (h : Tr ABlk) : (∀ v n' h', kMixed l n h = .ret v n' h' → ACalls E0.P E0.G 60 l { next := n, get := h.get } (fun e H' => e = .ret v ∧ H' = { next := n', get := h'.get })) ∧ (∀ v n' h', kMixed l n h = .exn v n' h' → False) := by
  unfold kMixed
  split
  · refine ⟨fun v n' h' e => ?_, fun v n' h' e => (by cases e)⟩
    cases e
    exact mixed_all _ _
  · exact ⟨fun v n' h' e => (by cases e), fun v n' h' e => (by cases e)⟩
theorem K1_ok : ZKnownOk E0 K1 := fun f k hk args n h => by
  unfold K1 at hk
  rw [Tr.get_set _ _ _ _ (by decide)] at hk
  by_cases h60 : f = 60
  · subst h60
    rw [if_pos rfl] at hk
    cases hk
    have := kMixed_ok args n h
    exact ⟨fun v n' h' e => ⟨plain60, this.1 v n' h' e⟩, fun v n' h' e => (this.2 v n' h' e).elim⟩
  · rw [if_neg h60, Tr.get_nil] at hk
    cases hk
noncomputable def c1 : XCaller := zrun E0 F0 (zdraw E0) K1 1000 100
theorem c1_ok : CallOk E0.P E0.G c1 := zrun_ok E0_ok F0_ok dr0_ok K1_ok 1000 100
def isRet (r : XC) (v : AVal) : Bool := match r with
  | .ret u _ _ => abeq u v
  | _ => false
theorem isRet_ok {r : XC} {v : AVal} (h : isRet r v = true) : ∃ n t, r = .ret v n t := by
  unfold isRet at h
  split at h
  · exact ⟨_, _, by rw [abeq_ok _ _ h]⟩
  · cases h
theorem run55 : isRet (c1 55 [.str []] 0 .nil) (.bool false) = true := by kernel_rfl
theorem word_empty (H : AHeap) : ACalls E0.P E0.G 55 [.str []] H fun e H' => e = .ret (.bool false) ∧ H' = H := by
  refine CallOk.one plain55 (fun u hu => ?_) (.bool _) ?_ H
  · simp only [List.mem_singleton] at hu
    subst hu
    constructor
  · rw [← empty_eq]
    obtain ⟨n, t, h⟩ := isRet_ok run55
    exact ((c1_ok 55 [.str []] 0 .nil).1 _ _ _ h).2.mono fun e H' he => he.1
theorem K0_ok : ZKnownOk E0 K0 := fun f k hk args n h => by
  unfold K0 at hk
  rw [Tr.get_set _ _ _ _ (by decide)] at hk
  by_cases h55 : f = 55
  · subst h55
    rw [if_pos rfl] at hk
    cases hk
    unfold kWord
    split
    · refine ⟨fun v n' h' e => ?_, fun v n' h' e => (by cases e)⟩
      cases e
      exact ⟨plain55, word_empty _⟩
    · exact ⟨fun v n' h' e => (by cases e), fun v n' h' e => (by cases e)⟩
  · rw [if_neg h55] at hk
    exact K1_ok f k hk args n h
noncomputable def c2 : XCaller := zrun E0 F0 (zdraw E0) K0 1000 100
theorem c2_ok : CallOk E0.P E0.G c2 := zrun_ok E0_ok F0_ok dr0_ok K0_ok 1000 100
end Go.Abs
