/- Slabs of at most sixteen cells tried by the kernel, part three.
   Conditions: none beyond the given statement's own. -/
import Derived.Test.YtgemobbfikjmoaaGreatDoorPaK
set_option linter.unusedVariables false
set_option linter.unusedSimpArgs false
set_option linter.defProp false
namespace Go.Proofs.YtgemobbfikjmoaaGreatDoor
open Go Go.Ev
set_option maxRecDepth 1000000
theorem mirN28:Ui 2 8 []=true:=by kernel_rfl
theorem Zrn:P4 Ui 2 8 0=true:=by kernel_rfl
theorem Zrm:P4 Ui 2 8 1=true:=by kernel_rfl
theorem Zrl:P4 Ui 2 8 2=true:=by kernel_rfl
theorem Zrk:P4 Ui 2 8 3=true:=by kernel_rfl
theorem mirQ28:Tn Ui 2 8=true:=fg mirN28 Zrn Zrm Zrl Zrk
end Go.Proofs.YtgemobbfikjmoaaGreatDoor
