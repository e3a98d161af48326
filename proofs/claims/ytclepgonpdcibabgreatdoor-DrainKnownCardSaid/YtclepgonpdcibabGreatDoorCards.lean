/-
  DERIVED. GIVEN WITH THE SEED: THE CARDS: each row of YtclepgonpdcibabGreatDoorRows.lean that lists a variable, with what it lists TIED to the program's text (the seventh form; the later family's looks); each row that meets fmt, with fmt's text TOLD by the authors' own Lean function (tested against real Go, not proved from fmt's source: count such statements apart). THE CARD IS WHAT COUNTS. Prove the row's statement (the work); the ties are given (YtclepgonpdcibabGreatDoorTie.lean); close each card by the builder's one call (the guide's Derived/Test/ToyasCard.lean, 'card_holds'). Laid BY PROGRAM, IN A SANDBOX (cutbox-door.mjs). By AI agents, Wed Nov 11 2026. No macro, syntax, notation, axiom, sorry.
-/
import Derived.Test.YtclepgonpdcibabGreatDoorRows
import GoSem.ClaimSeven
namespace Go.Proofs.YtclepgonpdcibabGreatDoor
namespace Rows

/-- THE TIED CARD OF 'novaculitelaw02.DrainKnown'. -/
def drainKnownCard : Claim7 := { stood := { row := drainKnownRow, standIns := [], harness := (true, "1e126d1aeddb596d77d5418b332379fd8e906f43dd54bd7960bab4a6de7e4f31"), looks := true }, kinds := [], alts := [], laidByText := true, laidKinds := [.data, .data], laidTests := true, laidLooks := .later }
def DrainKnownCardSaid : Prop := Claim7.holds Tryz.pinned (.plain (OpenSpec.ofChange drainKnownSpec)) drainKnownCard

/-- THE SECOND FORM's CARD OF 'novaculitelaw02.DrainKnown'. -/
def drainKnownUptoCard : Claim7 := { stood := { row := drainKnownUptoRow, standIns := [], harness := (true, "1e126d1aeddb596d77d5418b332379fd8e906f43dd54bd7960bab4a6de7e4f31"), looks := true }, kinds := [], alts := [], laidByText := true, laidKinds := [.data, .data], laidTests := true, laidLooks := .later }
def DrainKnownUptoCardSaid : Prop := Claim7.holds Tryz.pinned (.plain (OpenSpec.upto drainKnownSpec)) drainKnownUptoCard
end Rows
end Go.Proofs.YtclepgonpdcibabGreatDoor
