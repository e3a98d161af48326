/- Slabs of at most sixteen cells tried by the kernel, part two.
   Conditions: none beyond the given statement's own. -/
import Derived.Test.YtgemobbfikjmoaaGreatDoorPaI
set_option linter.unusedVariables false
set_option linter.unusedSimpArgs false
set_option linter.defProp false
namespace Go.Proofs.YtgemobbfikjmoaaGreatDoor
open Go Go.Ev
set_option maxRecDepth 1000000
theorem idleQ27:allQ idleT 2 7=true:=by kernel_rfl
theorem idleQ28:allQ idleT 2 8=true:=by kernel_rfl
end Go.Proofs.YtgemobbfikjmoaaGreatDoor
