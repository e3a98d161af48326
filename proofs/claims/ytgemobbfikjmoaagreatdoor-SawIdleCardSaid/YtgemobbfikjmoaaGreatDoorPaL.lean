/- Slabs of at most sixteen cells tried by the kernel, part four.
   Conditions: none beyond the given statement's own. -/
import Derived.Test.YtgemobbfikjmoaaGreatDoorPaK
set_option linter.unusedVariables false
set_option linter.unusedSimpArgs false
set_option linter.defProp false
namespace Go.Proofs.YtgemobbfikjmoaaGreatDoor
open Go Go.Ev
set_option maxRecDepth 1000000
theorem idleQ82:allQ idleT 8 2=true:=by kernel_rfl
theorem idleQ72:allQ idleT 7 2=true:=by kernel_rfl
theorem idleQ53:allQ idleT 5 3=true:=by kernel_rfl
end Go.Proofs.YtgemobbfikjmoaaGreatDoor
