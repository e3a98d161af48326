/- Slabs of at most sixteen cells tried by the kernel, part two.
   Conditions: none beyond the given statement's own. -/
import Derived.Test.YtgemobbfikjmoaaGreatDoorPaJ
set_option linter.unusedVariables false
set_option linter.unusedSimpArgs false
set_option linter.defProp false
namespace Go.Proofs.YtgemobbfikjmoaaGreatDoor
open Go Go.Ev
set_option maxRecDepth 1000000
theorem mirQ27:Tn Ui 2 7=true:=by kernel_rfl
theorem mirQ34:Tn Ui 3 4=true:=by kernel_rfl
end Go.Proofs.YtgemobbfikjmoaaGreatDoor
