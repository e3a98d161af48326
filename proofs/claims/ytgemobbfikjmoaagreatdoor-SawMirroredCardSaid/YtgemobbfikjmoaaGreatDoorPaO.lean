/- Slabs of at most sixteen cells tried by the kernel, part six.
   Conditions: none beyond the given statement's own. -/
import Derived.Test.YtgemobbfikjmoaaGreatDoorPaN
set_option linter.unusedVariables false
set_option linter.unusedSimpArgs false
set_option linter.defProp false
namespace Go.Proofs.YtgemobbfikjmoaaGreatDoor
open Go Go.Ev
set_option maxRecDepth 1000000
theorem mirN44:Ui 4 4 []=true:=by kernel_rfl
theorem Zrj:P4 Ui 4 4 0=true:=by kernel_rfl
theorem Zri:P4 Ui 4 4 1=true:=by kernel_rfl
theorem Zrh:P4 Ui 4 4 2=true:=by kernel_rfl
theorem Zrg:P4 Ui 4 4 3=true:=by kernel_rfl
theorem mirQ44:Tn Ui 4 4=true:=fg mirN44 Zrj Zri Zrh Zrg
end Go.Proofs.YtgemobbfikjmoaaGreatDoor
