/-
  DERIVED. GIVEN WITH THE SEED: THE CARDS: each row of YtkdbjplfmangmaaDoorRows.lean that lists a variable, with what it lists TIED to the program's text (the seventh form; the later family's looks); each row that meets fmt, with fmt's text TOLD by the authors' own Lean function (tested against real Go, not proved from fmt's source: count such statements apart). THE CARD IS WHAT COUNTS. Prove the row's statement (the work); the ties are given (YtkdbjplfmangmaaDoorTie.lean); close each card by the builder's one call (the guide's Derived/Test/ToyasCard.lean, 'card_holds'). Laid BY PROGRAM, IN A SANDBOX (cutbox-door.mjs). By AI agents, Wed Nov 11 2026. No macro, syntax, notation, axiom, sorry.
-/
import Derived.Test.YtkdbjplfmangmaaDoorRows
import GoSem.ClaimSeven
namespace Go.Proofs.YtkdbjplfmangmaaDoor
namespace Rows

/-- THE TIED CARD OF 'novaculitelaw03.SawKnown'. -/
def sawKnownCard : Claim7 := { stood := { row := sawKnownRow, standIns := [], harness := (true, "fb311b031aed363eab7c71f9c43a1a1178a0665d66babd1d9093b636f464d472"), looks := false }, kinds := [], alts := [], laidByText := true, laidKinds := [.data, .data], laidTests := true, laidLooks := .later }
def SawKnownCardSaid : Prop := Claim7.holds Tryd.pinned (.plain (OpenSpec.ofChange sawKnownSpec)) sawKnownCard

/-- THE SECOND FORM's CARD OF 'novaculitelaw03.SawKnown'. -/
def sawKnownUptoCard : Claim7 := { stood := { row := sawKnownUptoRow, standIns := [], harness := (true, "fb311b031aed363eab7c71f9c43a1a1178a0665d66babd1d9093b636f464d472"), looks := false }, kinds := [], alts := [], laidByText := true, laidKinds := [.data, .data], laidTests := true, laidLooks := .later }
def SawKnownUptoCardSaid : Prop := Claim7.holds Tryd.pinned (.plain (OpenSpec.upto sawKnownSpec)) sawKnownUptoCard
end Rows
end Go.Proofs.YtkdbjplfmangmaaDoor
