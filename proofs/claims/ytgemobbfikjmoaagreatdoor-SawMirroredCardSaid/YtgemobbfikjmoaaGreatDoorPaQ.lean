/- Slabs of at most sixteen cells tried by the kernel, part eight.
   Conditions: none beyond the given statement's own. -/
import Derived.Test.YtgemobbfikjmoaaGreatDoorPaP
set_option linter.unusedVariables false
set_option linter.unusedSimpArgs false
set_option linter.defProp false
namespace Go.Proofs.YtgemobbfikjmoaaGreatDoor
open Go Go.Ev
set_option maxRecDepth 1000000
theorem mirN82:Ui 8 2 []=true:=by kernel_rfl
theorem Zrf:P4 Ui 8 2 0=true:=by kernel_rfl
theorem Zre:P4 Ui 8 2 1=true:=by kernel_rfl
theorem Zrd:P4 Ui 8 2 2=true:=by kernel_rfl
theorem Zrc:P4 Ui 8 2 3=true:=by kernel_rfl
theorem mirQ82:Tn Ui 8 2=true:=fg mirN82 Zrf Zre Zrd Zrc
end Go.Proofs.YtgemobbfikjmoaaGreatDoor
