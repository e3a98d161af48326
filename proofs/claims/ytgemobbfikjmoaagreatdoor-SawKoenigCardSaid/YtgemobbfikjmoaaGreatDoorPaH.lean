/- All slabs of at most twelve cells tried by the kernel.
   Conditions: none beyond the given statement's own. -/
import Derived.Test.YtgemobbfikjmoaaGreatDoorPaG
set_option linter.unusedVariables false
set_option linter.unusedSimpArgs false
set_option linter.defProp false
namespace Go.Proofs.YtgemobbfikjmoaaGreatDoor
open Go Go.Ev
set_option maxRecDepth 1000000
theorem koe1:koeH 1 8=true:=by kernel_rfl
theorem koe2:koeH 2 5=true:=by kernel_rfl
theorem koe26:koeQ 2 6=true:=by kernel_rfl
theorem koe3:koeH 3 3=true:=by kernel_rfl
theorem koe34:koeQ 3 4=true:=by kernel_rfl
theorem koe4:koeH 4 2=true:=by kernel_rfl
theorem koe43:koeQ 4 3=true:=by kernel_rfl
theorem koe5:koeH 5 2=true:=by kernel_rfl
theorem koe6:koeH 6 1=true:=by kernel_rfl
theorem koe62:koeQ 6 2=true:=by kernel_rfl
theorem koe7:koeH 7 1=true:=by kernel_rfl
theorem koe8:koeH 8 1=true:=by kernel_rfl
end Go.Proofs.YtgemobbfikjmoaaGreatDoor
