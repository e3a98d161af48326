/-
  DERIVED. GIVEN WITH THE SEED: THE CARDS: each row of YtgemobbfikjmoaaGreatDoorRows.lean that lists a variable, with what it lists TIED to the program's text (the seventh form; the later family's looks); each row that meets fmt, with fmt's text TOLD by the authors' own Lean function (tested against real Go, not proved from fmt's source: count such statements apart). THE CARD IS WHAT COUNTS. Prove the row's statement (the work); the ties are given (YtgemobbfikjmoaaGreatDoorTie.lean); close each card by the builder's one call (the guide's Derived/Test/ToyasCard.lean, 'card_holds'). Laid BY PROGRAM, IN A SANDBOX (cutbox-door.mjs). By AI agents, Wed Nov 11 2026. No macro, syntax, notation, axiom, sorry.
-/
import Derived.Test.YtgemobbfikjmoaaGreatDoorRows
import GoSem.ClaimSeven
namespace Go.Proofs.YtgemobbfikjmoaaGreatDoor
namespace Rows

/-- THE TIED CARD OF 'novaculitelaw03.SawBest'. -/
def sawBestCard : Claim7 := { stood := { row := sawBestRow, standIns := [], harness := (true, "37fe21c6ee92a4d9acb954347c44f6a90680299b8981b8532aec3b754a78f079"), looks := false }, kinds := [], alts := [], laidByText := true, laidKinds := [.data, .data], laidTests := true, laidLooks := .later }
def SawBestCardSaid : Prop := Claim7.holds Tryz.pinned (.plain (OpenSpec.ofChange sawBestSpec)) sawBestCard

/-- THE TIED CARD OF 'novaculitelaw03.SawBars'. -/
def sawBarsCard : Claim7 := { stood := { row := sawBarsRow, standIns := [], harness := (true, "37fe21c6ee92a4d9acb954347c44f6a90680299b8981b8532aec3b754a78f079"), looks := false }, kinds := [], alts := [], laidByText := true, laidKinds := [.data, .data], laidTests := true, laidLooks := .later }
def SawBarsCardSaid : Prop := Claim7.holds Tryz.pinned (.plain (OpenSpec.ofChange sawBarsSpec)) sawBarsCard

/-- THE TIED CARD OF 'novaculitelaw03.SawHeights'. -/
def sawHeightsCard : Claim7 := { stood := { row := sawHeightsRow, standIns := [], harness := (true, "37fe21c6ee92a4d9acb954347c44f6a90680299b8981b8532aec3b754a78f079"), looks := false }, kinds := [], alts := [], laidByText := true, laidKinds := [.data, .data], laidTests := true, laidLooks := .later }
def SawHeightsCardSaid : Prop := Claim7.holds Tryz.pinned (.plain (OpenSpec.ofChange sawHeightsSpec)) sawHeightsCard

/-- THE TIED CARD OF 'novaculitelaw03.SawTwo'. -/
def sawTwoCard : Claim7 := { stood := { row := sawTwoRow, standIns := [], harness := (true, "37fe21c6ee92a4d9acb954347c44f6a90680299b8981b8532aec3b754a78f079"), looks := false }, kinds := [], alts := [], laidByText := true, laidKinds := [.data, .data], laidTests := true, laidLooks := .later }
def SawTwoCardSaid : Prop := Claim7.holds Tryz.pinned (.plain (OpenSpec.ofChange sawTwoSpec)) sawTwoCard

/-- THE TIED CARD OF 'novaculitelaw03.SawCells'. -/
def sawCellsCard : Claim7 := { stood := { row := sawCellsRow, standIns := [], harness := (true, "37fe21c6ee92a4d9acb954347c44f6a90680299b8981b8532aec3b754a78f079"), looks := false }, kinds := [], alts := [], laidByText := true, laidKinds := [.data, .data], laidTests := true, laidLooks := .later }
def SawCellsCardSaid : Prop := Claim7.holds Tryz.pinned (.plain (OpenSpec.ofChange sawCellsSpec)) sawCellsCard

/-- THE TIED CARD OF 'novaculitelaw03.SawIdle'. -/
def sawIdleCard : Claim7 := { stood := { row := sawIdleRow, standIns := [], harness := (true, "37fe21c6ee92a4d9acb954347c44f6a90680299b8981b8532aec3b754a78f079"), looks := false }, kinds := [], alts := [], laidByText := true, laidKinds := [.data, .data], laidTests := true, laidLooks := .later }
def SawIdleCardSaid : Prop := Claim7.holds Tryz.pinned (.plain (OpenSpec.ofChange sawIdleSpec)) sawIdleCard

/-- THE TIED CARD OF 'novaculitelaw03.SawThurston'. -/
def sawThurstonCard : Claim7 := { stood := { row := sawThurstonRow, standIns := [], harness := (true, "37fe21c6ee92a4d9acb954347c44f6a90680299b8981b8532aec3b754a78f079"), looks := false }, kinds := [], alts := [], laidByText := true, laidKinds := [.data, .data], laidTests := true, laidLooks := .later }
def SawThurstonCardSaid : Prop := Claim7.holds Tryz.pinned (.plain (OpenSpec.ofChange sawThurstonSpec)) sawThurstonCard

/-- THE TIED CARD OF 'novaculitelaw03.SawOrdered'. -/
def sawOrderedCard : Claim7 := { stood := { row := sawOrderedRow, standIns := [], harness := (true, "37fe21c6ee92a4d9acb954347c44f6a90680299b8981b8532aec3b754a78f079"), looks := false }, kinds := [], alts := [], laidByText := true, laidKinds := [.data, .data], laidTests := true, laidLooks := .later }
def SawOrderedCardSaid : Prop := Claim7.holds Tryz.pinned (.plain (OpenSpec.ofChange sawOrderedSpec)) sawOrderedCard

/-- THE TIED CARD OF 'novaculitelaw03.SawTurned'. -/
def sawTurnedCard : Claim7 := { stood := { row := sawTurnedRow, standIns := [], harness := (true, "37fe21c6ee92a4d9acb954347c44f6a90680299b8981b8532aec3b754a78f079"), looks := false }, kinds := [], alts := [], laidByText := true, laidKinds := [.data, .data], laidTests := true, laidLooks := .later }
def SawTurnedCardSaid : Prop := Claim7.holds Tryz.pinned (.plain (OpenSpec.ofChange sawTurnedSpec)) sawTurnedCard

/-- THE TIED CARD OF 'novaculitelaw03.SawKoenig'. -/
def sawKoenigCard : Claim7 := { stood := { row := sawKoenigRow, standIns := [], harness := (true, "37fe21c6ee92a4d9acb954347c44f6a90680299b8981b8532aec3b754a78f079"), looks := false }, kinds := [], alts := [], laidByText := true, laidKinds := [.data, .data], laidTests := true, laidLooks := .later }
def SawKoenigCardSaid : Prop := Claim7.holds Tryz.pinned (.plain (OpenSpec.ofChange sawKoenigSpec)) sawKoenigCard

/-- THE TIED CARD OF 'novaculitelaw03.SawShown'. -/
def sawShownCard : Claim7 := { stood := { row := sawShownRow, standIns := [], harness := (true, "37fe21c6ee92a4d9acb954347c44f6a90680299b8981b8532aec3b754a78f079"), looks := false }, kinds := [], alts := [], laidByText := true, laidKinds := [.data, .data], laidTests := true, laidLooks := .later }
def SawShownCardSaid : Prop := Claim7.holds Tryz.pinned (.plain (OpenSpec.ofChange sawShownSpec)) sawShownCard

/-- THE TIED CARD OF 'novaculitelaw03.SawMirrored'. -/
def sawMirroredCard : Claim7 := { stood := { row := sawMirroredRow, standIns := [], harness := (true, "37fe21c6ee92a4d9acb954347c44f6a90680299b8981b8532aec3b754a78f079"), looks := false }, kinds := [], alts := [], laidByText := true, laidKinds := [.data, .data], laidTests := true, laidLooks := .later }
def SawMirroredCardSaid : Prop := Claim7.holds Tryz.pinned (.plain (OpenSpec.ofChange sawMirroredSpec)) sawMirroredCard

/-- THE SECOND FORM's CARD OF 'novaculitelaw03.SawBest'. -/
def sawBestUptoCard : Claim7 := { stood := { row := sawBestUptoRow, standIns := [], harness := (true, "37fe21c6ee92a4d9acb954347c44f6a90680299b8981b8532aec3b754a78f079"), looks := false }, kinds := [], alts := [], laidByText := true, laidKinds := [.data, .data], laidTests := true, laidLooks := .later }
def SawBestUptoCardSaid : Prop := Claim7.holds Tryz.pinned (.plain (OpenSpec.upto sawBestSpec)) sawBestUptoCard

/-- THE SECOND FORM's CARD OF 'novaculitelaw03.SawBars'. -/
def sawBarsUptoCard : Claim7 := { stood := { row := sawBarsUptoRow, standIns := [], harness := (true, "37fe21c6ee92a4d9acb954347c44f6a90680299b8981b8532aec3b754a78f079"), looks := false }, kinds := [], alts := [], laidByText := true, laidKinds := [.data, .data], laidTests := true, laidLooks := .later }
def SawBarsUptoCardSaid : Prop := Claim7.holds Tryz.pinned (.plain (OpenSpec.upto sawBarsSpec)) sawBarsUptoCard

/-- THE SECOND FORM's CARD OF 'novaculitelaw03.SawHeights'. -/
def sawHeightsUptoCard : Claim7 := { stood := { row := sawHeightsUptoRow, standIns := [], harness := (true, "37fe21c6ee92a4d9acb954347c44f6a90680299b8981b8532aec3b754a78f079"), looks := false }, kinds := [], alts := [], laidByText := true, laidKinds := [.data, .data], laidTests := true, laidLooks := .later }
def SawHeightsUptoCardSaid : Prop := Claim7.holds Tryz.pinned (.plain (OpenSpec.upto sawHeightsSpec)) sawHeightsUptoCard

/-- THE SECOND FORM's CARD OF 'novaculitelaw03.SawTwo'. -/
def sawTwoUptoCard : Claim7 := { stood := { row := sawTwoUptoRow, standIns := [], harness := (true, "37fe21c6ee92a4d9acb954347c44f6a90680299b8981b8532aec3b754a78f079"), looks := false }, kinds := [], alts := [], laidByText := true, laidKinds := [.data, .data], laidTests := true, laidLooks := .later }
def SawTwoUptoCardSaid : Prop := Claim7.holds Tryz.pinned (.plain (OpenSpec.upto sawTwoSpec)) sawTwoUptoCard

/-- THE SECOND FORM's CARD OF 'novaculitelaw03.SawCells'. -/
def sawCellsUptoCard : Claim7 := { stood := { row := sawCellsUptoRow, standIns := [], harness := (true, "37fe21c6ee92a4d9acb954347c44f6a90680299b8981b8532aec3b754a78f079"), looks := false }, kinds := [], alts := [], laidByText := true, laidKinds := [.data, .data], laidTests := true, laidLooks := .later }
def SawCellsUptoCardSaid : Prop := Claim7.holds Tryz.pinned (.plain (OpenSpec.upto sawCellsSpec)) sawCellsUptoCard

/-- THE SECOND FORM's CARD OF 'novaculitelaw03.SawIdle'. -/
def sawIdleUptoCard : Claim7 := { stood := { row := sawIdleUptoRow, standIns := [], harness := (true, "37fe21c6ee92a4d9acb954347c44f6a90680299b8981b8532aec3b754a78f079"), looks := false }, kinds := [], alts := [], laidByText := true, laidKinds := [.data, .data], laidTests := true, laidLooks := .later }
def SawIdleUptoCardSaid : Prop := Claim7.holds Tryz.pinned (.plain (OpenSpec.upto sawIdleSpec)) sawIdleUptoCard

/-- THE SECOND FORM's CARD OF 'novaculitelaw03.SawThurston'. -/
def sawThurstonUptoCard : Claim7 := { stood := { row := sawThurstonUptoRow, standIns := [], harness := (true, "37fe21c6ee92a4d9acb954347c44f6a90680299b8981b8532aec3b754a78f079"), looks := false }, kinds := [], alts := [], laidByText := true, laidKinds := [.data, .data], laidTests := true, laidLooks := .later }
def SawThurstonUptoCardSaid : Prop := Claim7.holds Tryz.pinned (.plain (OpenSpec.upto sawThurstonSpec)) sawThurstonUptoCard

/-- THE SECOND FORM's CARD OF 'novaculitelaw03.SawOrdered'. -/
def sawOrderedUptoCard : Claim7 := { stood := { row := sawOrderedUptoRow, standIns := [], harness := (true, "37fe21c6ee92a4d9acb954347c44f6a90680299b8981b8532aec3b754a78f079"), looks := false }, kinds := [], alts := [], laidByText := true, laidKinds := [.data, .data], laidTests := true, laidLooks := .later }
def SawOrderedUptoCardSaid : Prop := Claim7.holds Tryz.pinned (.plain (OpenSpec.upto sawOrderedSpec)) sawOrderedUptoCard

/-- THE SECOND FORM's CARD OF 'novaculitelaw03.SawTurned'. -/
def sawTurnedUptoCard : Claim7 := { stood := { row := sawTurnedUptoRow, standIns := [], harness := (true, "37fe21c6ee92a4d9acb954347c44f6a90680299b8981b8532aec3b754a78f079"), looks := false }, kinds := [], alts := [], laidByText := true, laidKinds := [.data, .data], laidTests := true, laidLooks := .later }
def SawTurnedUptoCardSaid : Prop := Claim7.holds Tryz.pinned (.plain (OpenSpec.upto sawTurnedSpec)) sawTurnedUptoCard

/-- THE SECOND FORM's CARD OF 'novaculitelaw03.SawKoenig'. -/
def sawKoenigUptoCard : Claim7 := { stood := { row := sawKoenigUptoRow, standIns := [], harness := (true, "37fe21c6ee92a4d9acb954347c44f6a90680299b8981b8532aec3b754a78f079"), looks := false }, kinds := [], alts := [], laidByText := true, laidKinds := [.data, .data], laidTests := true, laidLooks := .later }
def SawKoenigUptoCardSaid : Prop := Claim7.holds Tryz.pinned (.plain (OpenSpec.upto sawKoenigSpec)) sawKoenigUptoCard

/-- THE SECOND FORM's CARD OF 'novaculitelaw03.SawShown'. -/
def sawShownUptoCard : Claim7 := { stood := { row := sawShownUptoRow, standIns := [], harness := (true, "37fe21c6ee92a4d9acb954347c44f6a90680299b8981b8532aec3b754a78f079"), looks := false }, kinds := [], alts := [], laidByText := true, laidKinds := [.data, .data], laidTests := true, laidLooks := .later }
def SawShownUptoCardSaid : Prop := Claim7.holds Tryz.pinned (.plain (OpenSpec.upto sawShownSpec)) sawShownUptoCard

/-- THE SECOND FORM's CARD OF 'novaculitelaw03.SawMirrored'. -/
def sawMirroredUptoCard : Claim7 := { stood := { row := sawMirroredUptoRow, standIns := [], harness := (true, "37fe21c6ee92a4d9acb954347c44f6a90680299b8981b8532aec3b754a78f079"), looks := false }, kinds := [], alts := [], laidByText := true, laidKinds := [.data, .data], laidTests := true, laidLooks := .later }
def SawMirroredUptoCardSaid : Prop := Claim7.holds Tryz.pinned (.plain (OpenSpec.upto sawMirroredSpec)) sawMirroredUptoCard
end Rows
end Go.Proofs.YtgemobbfikjmoaaGreatDoor
