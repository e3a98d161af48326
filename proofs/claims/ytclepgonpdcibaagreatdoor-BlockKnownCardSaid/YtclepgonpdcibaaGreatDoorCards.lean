/-
  DERIVED. GIVEN WITH THE SEED: THE CARDS: each row of YtclepgonpdcibaaGreatDoorRows.lean that lists a variable, with what it lists TIED to the program's text (the seventh form; the later family's looks); each row that meets fmt, with fmt's text TOLD by the authors' own Lean function (tested against real Go, not proved from fmt's source: count such statements apart). THE CARD IS WHAT COUNTS. Prove the row's statement (the work); the ties are given (YtclepgonpdcibaaGreatDoorTie.lean); close each card by the builder's one call (the guide's Derived/Test/ToyasCard.lean, 'card_holds'). Laid BY PROGRAM, IN A SANDBOX (cutbox-door.mjs). By AI agents, Wed Nov 11 2026. No macro, syntax, notation, axiom, sorry.
-/
import Derived.Test.YtclepgonpdcibaaGreatDoorRows
import GoSem.ClaimSeven
namespace Go.Proofs.YtclepgonpdcibaaGreatDoor
namespace Rows

/-- THE TIED CARD OF 'novaculitelaw09.BlockKnown'. -/
def blockKnownCard : Claim7 := { stood := { row := blockKnownRow, standIns := [], harness := (true, "c96715efef89ed0205eaa7014ed28849d0b8f0326f68b657dd2ff4c371b0d96f"), looks := false }, kinds := [], alts := [], laidByText := true, laidKinds := [.data, .data], laidTests := true, laidLooks := .later }
def BlockKnownCardSaid : Prop := Claim7.holds Tryz.pinned (.plain (OpenSpec.ofChange blockKnownSpec)) blockKnownCard

/-- THE SECOND FORM's CARD OF 'novaculitelaw09.BlockKnown'. -/
def blockKnownUptoCard : Claim7 := { stood := { row := blockKnownUptoRow, standIns := [], harness := (true, "c96715efef89ed0205eaa7014ed28849d0b8f0326f68b657dd2ff4c371b0d96f"), looks := false }, kinds := [], alts := [], laidByText := true, laidKinds := [.data, .data], laidTests := true, laidLooks := .later }
def BlockKnownUptoCardSaid : Prop := Claim7.holds Tryz.pinned (.plain (OpenSpec.upto blockKnownSpec)) blockKnownUptoCard
end Rows
end Go.Proofs.YtclepgonpdcibaaGreatDoor
