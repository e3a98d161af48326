/- The plain law of SawMore: some of the slabs.
   Conditions: none. -/
import Derived.Test.YtnnfpbdimgagdaaGreatDoorSxE
namespace Go.Proofs.YtnnfpbdimgagdaaGreatDoor
open Go Go.Ev
set_option maxRecDepth 1000000
theorem tall4_1 : tallC 4 1 = true := by kernel_rfl
theorem tall4_2 : tallC 4 2 = true := by kernel_rfl
theorem tall4_3 : tallC 4 3 = true := by kernel_rfl
theorem tall4_4 : tallC 4 4 = true := by kernel_rfl
theorem wide4 : wideC 4 = true := by
  unfold wideC
  rw [List.all_eq_true]
  intro k hk
  have hk : k < 4 := List.mem_range.1 hk
  rcases (by omega : k = 0 ∨ k = 1 ∨ k = 2 ∨ k = 3) with rfl | rfl | rfl | rfl
  · exact tall4_1
  · exact tall4_2
  · exact tall4_3
  · exact tall4_4
end Go.Proofs.YtnnfpbdimgagdaaGreatDoor
