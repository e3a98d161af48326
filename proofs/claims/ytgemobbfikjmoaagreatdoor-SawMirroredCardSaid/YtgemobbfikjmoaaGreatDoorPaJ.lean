/- Slabs of at most sixteen cells tried by the kernel, part one.
   Conditions: none beyond the given statement's own. -/
import Derived.Test.YtgemobbfikjmoaaGreatDoorPaI
set_option linter.unusedVariables false
set_option linter.unusedSimpArgs false
set_option linter.defProp false
namespace Go.Proofs.YtgemobbfikjmoaaGreatDoor
open Go Go.Ev
set_option maxRecDepth 1000000
theorem mirH18:wj Ui 1 8=true:=by kernel_rfl
theorem mirH26:wj Ui 2 6=true:=by kernel_rfl
theorem mirH33:wj Ui 3 3=true:=by kernel_rfl
theorem mirH42:wj Ui 4 2=true:=by kernel_rfl
theorem mirH52:wj Ui 5 2=true:=by kernel_rfl
theorem mirH61:wj Ui 6 1=true:=by kernel_rfl
theorem mirH71:wj Ui 7 1=true:=by kernel_rfl
theorem mirH81:wj Ui 8 1=true:=by kernel_rfl
end Go.Proofs.YtgemobbfikjmoaaGreatDoor
