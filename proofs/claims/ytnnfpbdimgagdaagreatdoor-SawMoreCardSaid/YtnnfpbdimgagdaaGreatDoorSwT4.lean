/- The plain law of SawMore: some of the slabs.
   Conditions: none. -/
import Derived.Test.YtnnfpbdimgagdaaGreatDoorSxE
namespace Go.Proofs.YtnnfpbdimgagdaaGreatDoor
open Go Go.Ev
set_option maxRecDepth 1000000
theorem wide6 : wideC 6 = true := by kernel_rfl
theorem wide7 : wideC 7 = true := by kernel_rfl
theorem wide8 : wideC 8 = true := by kernel_rfl
end Go.Proofs.YtnnfpbdimgagdaaGreatDoor
