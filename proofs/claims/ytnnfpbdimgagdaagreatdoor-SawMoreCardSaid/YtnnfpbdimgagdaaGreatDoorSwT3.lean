/- The plain law of SawMore: some of the slabs.
   Conditions: none. -/
import Derived.Test.YtnnfpbdimgagdaaGreatDoorSxE
namespace Go.Proofs.YtnnfpbdimgagdaaGreatDoor
open Go Go.Ev
set_option maxRecDepth 1000000
theorem wide1 : wideC 1 = true := by kernel_rfl
theorem wide3 : wideC 3 = true := by kernel_rfl
theorem wide5 : wideC 5 = true := by kernel_rfl
end Go.Proofs.YtnnfpbdimgagdaaGreatDoor
