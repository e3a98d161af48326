/- Slabs of at most sixteen cells tried by the kernel, part one.
   Conditions: none beyond the given statement's own. -/
import Derived.Test.YtgemobbfikjmoaaGreatDoorPaH
set_option linter.unusedVariables false
set_option linter.unusedSimpArgs false
set_option linter.defProp false
namespace Go.Proofs.YtgemobbfikjmoaaGreatDoor
open Go Go.Ev
set_option maxRecDepth 1000000
theorem idleH18:allH idleT 1 8=true:=by kernel_rfl
theorem idleH26:allH idleT 2 6=true:=by kernel_rfl
theorem idleH33:allH idleT 3 3=true:=by kernel_rfl
theorem idleQ34:allQ idleT 3 4=true:=by kernel_rfl
theorem idleH42:allH idleT 4 2=true:=by kernel_rfl
theorem idleQ43:allQ idleT 4 3=true:=by kernel_rfl
theorem idleH52:allH idleT 5 2=true:=by kernel_rfl
theorem idleH61:allH idleT 6 1=true:=by kernel_rfl
theorem idleQ62:allQ idleT 6 2=true:=by kernel_rfl
theorem idleH71:allH idleT 7 1=true:=by kernel_rfl
theorem idleH81:allH idleT 8 1=true:=by kernel_rfl
end Go.Proofs.YtgemobbfikjmoaaGreatDoor
