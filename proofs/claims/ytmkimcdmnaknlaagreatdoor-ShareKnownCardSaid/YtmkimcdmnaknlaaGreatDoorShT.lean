/- The words that stand for functions in the runs of ShareKnown.
   Conditions: none (definitions alone). -/
import Derived.Test.YtmkimcdmnaknlaaGreatDoorShE
namespace Go.Proofs.YtmkimcdmnaknlaaGreatDoor
open Go Go.Ev
noncomputable section
def specs1 : Tr FnF := specsOf [(80, sApp), (33, sOr (sHill ents) (sNil 1 nilV))] .leaf
def specs2 : Tr FnF := specsOf [(80, sApp), (33, sOr (sHill ents) (sNil 1 nilV)), (23, closedSpec .u8 tab32 tab64 (.bool true))] .leaf
end
end Go.Proofs.YtmkimcdmnaknlaaGreatDoor
