/- Slabs of at most sixteen cells tried by the kernel, part seven.
   Conditions: none beyond the given statement's own. -/
import Derived.Test.YtgemobbfikjmoaaGreatDoorPaO
set_option linter.unusedVariables false
set_option linter.unusedSimpArgs false
set_option linter.defProp false
namespace Go.Proofs.YtgemobbfikjmoaaGreatDoor
open Go Go.Ev
set_option maxRecDepth 1000000
theorem mirQ72:Tn Ui 7 2=true:=by kernel_rfl
end Go.Proofs.YtgemobbfikjmoaaGreatDoor
