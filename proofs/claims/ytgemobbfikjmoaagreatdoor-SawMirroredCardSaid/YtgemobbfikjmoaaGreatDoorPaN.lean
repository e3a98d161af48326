/- Slabs of at most sixteen cells tried by the kernel, part five.
   Conditions: none beyond the given statement's own. -/
import Derived.Test.YtgemobbfikjmoaaGreatDoorPaM
set_option linter.unusedVariables false
set_option linter.unusedSimpArgs false
set_option linter.defProp false
namespace Go.Proofs.YtgemobbfikjmoaaGreatDoor
open Go Go.Ev
set_option maxRecDepth 1000000
theorem mirQ35:Tn Ui 3 5=true:=by kernel_rfl
theorem mirQ53:Tn Ui 5 3=true:=by kernel_rfl
end Go.Proofs.YtgemobbfikjmoaaGreatDoor
