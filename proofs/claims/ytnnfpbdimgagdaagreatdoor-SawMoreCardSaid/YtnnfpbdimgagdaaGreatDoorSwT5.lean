/- The plain law of SawMore: some of the slabs.
   Conditions: none. -/
import Derived.Test.YtnnfpbdimgagdaaGreatDoorSxE
namespace Go.Proofs.YtnnfpbdimgagdaaGreatDoor
open Go Go.Ev
set_option maxRecDepth 1000000
theorem tall2_7 : tallC 2 7 = true := by kernel_rfl
theorem tall2_8 : tallC 2 8 = true := by kernel_rfl
end Go.Proofs.YtnnfpbdimgagdaaGreatDoor
