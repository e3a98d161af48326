/- Slabs of at most sixteen cells tried by the kernel, part four.
   Conditions: none beyond the given statement's own. -/
import Derived.Test.YtgemobbfikjmoaaGreatDoorPaL
set_option linter.unusedVariables false
set_option linter.unusedSimpArgs false
set_option linter.defProp false
namespace Go.Proofs.YtgemobbfikjmoaaGreatDoor
open Go Go.Ev
set_option maxRecDepth 1000000
theorem mirQ43:Tn Ui 4 3=true:=by kernel_rfl
theorem mirQ62:Tn Ui 6 2=true:=by kernel_rfl
end Go.Proofs.YtgemobbfikjmoaaGreatDoor
