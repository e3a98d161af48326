/- SawMore: the run of its function works, by the evaluator with words: it answers true.
   Conditions: the two tables of package math/bits hold what the program's text lays. -/
import Derived.Test.YtnnfpbdimgagdaaGreatDoorSxE
namespace Go.Proofs.YtnnfpbdimgagdaaGreatDoor
open Go Go.Ev
set_option maxRecDepth 1000000
theorem run_works (e0 e1 : TypeId) : isT (mCall P ctx table specs4 100 2 7 [] (twoTabs .u8 tab32 tab64 e0 e1)) = true := by kernel_rfl
end Go.Proofs.YtnnfpbdimgagdaaGreatDoor
