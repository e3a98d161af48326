/- The plain law of SawMore: some of the slabs.
   Conditions: none. -/
import Derived.Test.YtnnfpbdimgagdaaGreatDoorSwT5
namespace Go.Proofs.YtnnfpbdimgagdaaGreatDoor
open Go Go.Ev
set_option maxRecDepth 1000000
theorem tall2_1 : tallC 2 1 = true := by kernel_rfl
theorem tall2_2 : tallC 2 2 = true := by kernel_rfl
theorem tall2_3 : tallC 2 3 = true := by kernel_rfl
theorem tall2_4 : tallC 2 4 = true := by kernel_rfl
theorem tall2_5 : tallC 2 5 = true := by kernel_rfl
theorem tall2_6 : tallC 2 6 = true := by kernel_rfl
theorem wide2 : wideC 2 = true := by
  unfold wideC
  rw [List.all_eq_true]
  intro k hk
  have hk : k < 8 := List.mem_range.1 hk
  rcases (by omega : k = 0 ∨ k = 1 ∨ k = 2 ∨ k = 3 ∨ k = 4 ∨ k = 5 ∨ k = 6 ∨ k = 7) with rfl | rfl | rfl | rfl | rfl | rfl | rfl | rfl
  · exact tall2_1
  · exact tall2_2
  · exact tall2_3
  · exact tall2_4
  · exact tall2_5
  · exact tall2_6
  · exact tall2_7
  · exact tall2_8
end Go.Proofs.YtnnfpbdimgagdaaGreatDoor
