/- BlockKnown: the whole run, by the evaluator: it answers true.
   Conditions: the two tables of package math/bits hold what the program's text lays. -/
import Derived.Test.YtclepgonpdcibaaGreatDoorEvBb
import Derived.Test.YtclepgonpdcibaaGreatDoorEvS
namespace Go.Proofs.YtclepgonpdcibaaGreatDoor
open Go Go.Ev
set_option maxRecDepth 1000000
noncomputable def specsW : Tr FnF := specsOf [(28, closedSpec .u8 tab32 tab64 (.bool true))] .leaf
theorem run_true (e0 e1 : TypeId) : isT (mCall P ctx table specsW 100 2 3 [] (twoTabs .u8 tab32 tab64 e0 e1)) = true := by kernel_rfl
end Go.Proofs.YtclepgonpdcibaaGreatDoor
