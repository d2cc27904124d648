import Derived.Test.YtelbekgmijpacaaGreatDoorS3
namespace Go.Abs
def noneArgs : List AVal := [.undef, .undef, .undef, .agg [.undef, .undef, .undef, .undef, .undef]]
theorem run4 : isRet (c2 4 noneArgs 0 .nil) (.bool true) = true := by kernel_rfl
theorem none_calls : ACalls E0.P E0.G 4 noneArgs { next := 0, get := fun _ => none } fun e _ => e = .ret (.bool true) := by
  rw [← empty_eq]
  obtain ⟨n, t, h⟩ := isRet_ok run4
  exact ((c2_ok 4 noneArgs 0 .nil).1 _ _ _ h).2.mono fun e H' he => he.1
end Go.Abs
