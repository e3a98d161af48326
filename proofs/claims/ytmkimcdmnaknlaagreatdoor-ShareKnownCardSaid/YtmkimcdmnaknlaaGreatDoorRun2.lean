/- ShareKnown: the whole run, by the evaluator: it answers true.
   Conditions: the two tables of package math/bits hold what the program's text lays. -/
import Derived.Test.YtmkimcdmnaknlaaGreatDoorShT
namespace Go.Proofs.YtmkimcdmnaknlaaGreatDoor
open Go Go.Ev
set_option maxRecDepth 1000000
theorem run_true (e0 e1 : TypeId) : isT (mCall P ctx table specs2 200 2 3 [] (twoTabs .u8 tab32 tab64 e0 e1)) = true := by kernel_rfl
end Go.Proofs.YtmkimcdmnaknlaaGreatDoor
