import Derived.Test.YtelbekgmijpacaaGreatDoorN1
namespace Go.Abs
theorem run3 : isRet (c3 3 [] 0 .nil) (.bool true) = true := by kernel_rfl
theorem numbers_calls : ACalls E0.P E0.G 3 [] { next := 0, get := fun _ => none } fun e _ => e = .ret (.bool true) := by
  rw [← empty_eq]
  obtain ⟨n, t, h⟩ := isRet_ok run3
  exact ((c3_ok 3 [] 0 .nil).1 _ _ _ h).2.mono fun e H' he => he.1
end Go.Abs
