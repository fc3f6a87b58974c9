/- PLAIN FACTS: a leaf that integers determine is a formula of its type. -/
import Derived.Test.YtchoelgkcnnnkaaGreatDoorGrA
import Derived.Test.YtchoelgkcnnnkaaGreatDoorTypeD
set_option linter.all false
namespace Go.Proofs.YtchoelgkcnnnkaaGreatDoor
open Go.RowKit
namespace Pl
theorem leafTm_formed (t x0 x1 : Int) (ht : t = 1 ∨ t = 2 ∨ t = 3) : formed (leafTm t x0 x1) = true ∧ operandsOf (leafTm t x0 x1).k = 0 ∧ ty (.lf (leafTm t x0 x1)) = t ∧ (leafTm t x0 x1).s.size ≤ 3 := by
  have r3 := pickOf_range x1 3 (by decide)
  have r5 := pickOf_range x1 5 (by decide)
  have r10 := pickOf_range x1 10 (by decide)
  have r2 := pickOf_range x1 2 (by decide)
  unfold leafTm
  by_cases hp : pickOf x0 2 = 0
  · rw [if_pos hp]
    rcases (by omega : pickOf x1 3 = 0 ∨ pickOf x1 3 = 1 ∨ pickOf x1 3 = 2) with hq | hq | hq <;> rw [hq] <;> rcases ht with rfl | rfl | rfl <;> exact ⟨by decide +kernel, by decide, by decide +kernel, by decide⟩
  · rw [if_neg hp]
    rcases ht with rfl | rfl | rfl
    · rw [if_pos rfl]
      refine ⟨?_, rfl, rfl, by show 0 ≤ 3; decide⟩
      simp only [formed, if_true, decide_eq_true r10.1, decide_eq_true (show pickOf x1 10 ≤ 1000000000000 by omega), Bool.true_and]
      decide +kernel
    · rw [if_neg (by decide), if_pos rfl]
      refine ⟨?_, rfl, rfl, by show 0 ≤ 3; decide⟩
      have h : pickOf x1 2 = 0 ∨ pickOf x1 2 = 1 := by omega
      rcases h with h | h <;> rw [h] <;> decide +kernel
    · rw [if_neg (by decide), if_neg (by decide)]
      rcases (by omega : pickOf x1 5 = 0 ∨ pickOf x1 5 = 1 ∨ pickOf x1 5 = 2 ∨ pickOf x1 5 = 3 ∨ pickOf x1 5 = 4) with h | h | h | h | h <;> rw [h] <;> exact ⟨by decide +kernel, by decide, by decide +kernel, by decide⟩
theorem leafTm_wf (t x0 x1 : Int) (ht : t = 1 ∨ t = 2 ∨ t = 3) : (Fm.lf (leafTm t x0 x1)).wf := ⟨(leafTm_formed t x0 x1 ht).1, (leafTm_formed t x0 x1 ht).2.1⟩
end Pl
end Go.Proofs.YtchoelgkcnnnkaaGreatDoor
