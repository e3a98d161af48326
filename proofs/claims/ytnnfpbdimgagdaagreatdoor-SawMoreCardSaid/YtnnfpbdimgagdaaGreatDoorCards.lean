/-
  DERIVED. GIVEN WITH THE SEED: THE CARDS: each row of YtnnfpbdimgagdaaGreatDoorRows.lean that lists a variable, with what it lists TIED to the program's text (the seventh form; the later family's looks); each row that meets fmt, with fmt's text TOLD by the authors' own Lean function (tested against real Go, not proved from fmt's source: count such statements apart). THE CARD IS WHAT COUNTS. Prove the row's statement (the work); the ties are given (YtnnfpbdimgagdaaGreatDoorTie.lean); close each card by the builder's one call (the guide's Derived/Test/ToyasCard.lean, 'card_holds'). Laid BY PROGRAM, IN A SANDBOX (cutbox-door.mjs). By AI agents, Wed Nov 11 2026. No macro, syntax, notation, axiom, sorry.
-/
import Derived.Test.YtnnfpbdimgagdaaGreatDoorRows
import GoSem.ClaimSeven
namespace Go.Proofs.YtnnfpbdimgagdaaGreatDoor
namespace Rows

/-- THE TIED CARD OF 'novaculitelaw03.SawMore'. -/
def sawMoreCard : Claim7 := { stood := { row := sawMoreRow, standIns := [], harness := (true, "b3a21e51df8888fa0661fe9856c761c4c3bcd28d34445fad3aad26cccc92342f"), looks := false }, kinds := [], alts := [], laidByText := true, laidKinds := [.data, .data], laidTests := true, laidLooks := .later }
def SawMoreCardSaid : Prop := Claim7.holds Tryz.pinned (.plain (OpenSpec.ofChange sawMoreSpec)) sawMoreCard

/-- THE SECOND FORM's CARD OF 'novaculitelaw03.SawMore'. -/
def sawMoreUptoCard : Claim7 := { stood := { row := sawMoreUptoRow, standIns := [], harness := (true, "b3a21e51df8888fa0661fe9856c761c4c3bcd28d34445fad3aad26cccc92342f"), looks := false }, kinds := [], alts := [], laidByText := true, laidKinds := [.data, .data], laidTests := true, laidLooks := .later }
def SawMoreUptoCardSaid : Prop := Claim7.holds Tryz.pinned (.plain (OpenSpec.upto sawMoreSpec)) sawMoreUptoCard
end Rows
end Go.Proofs.YtnnfpbdimgagdaaGreatDoor
