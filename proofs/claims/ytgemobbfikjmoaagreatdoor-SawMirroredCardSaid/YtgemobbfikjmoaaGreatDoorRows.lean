/-
  NARROWER THAN 'FOR EVERY INPUT', by the rows' own cells (each row's printed sentence says how): SawBest: laid · SawBars: laid · SawHeights: laid · SawTwo: laid · SawCells: laid · SawIdle: laid · SawThurston: laid · SawOrdered: laid · SawTurned: laid · SawKoenig: laid · SawShown: laid · SawMirrored: laid.
  DERIVED. THE GIVEN ROWS OF THIS SEAT. 12 by the template 'for every input the law returns true; each argument reads behind the call as it read before'; 0 by the template 'total and deterministic' (their statements: YtgemobbfikjmoaaGreatDoorTotals.lean).
  GIVEN WITH THE SEED: the statements are not yours to turn. If you find one false, say at which input.
  Laid BY PROGRAM, IN A SANDBOX (cutbox-rows.mjs): the forced cells as the released guide's own fill.sh prints them over the translation 1f6b6867f4e79a05… (all of the seat's roots in one cut). By AI agents, Wed Nov 11 2026. No macro, syntax, notation, axiom, sorry.
-/
import Derived.Test.YtgemobbfikjmoaaGreatDoorChecked
import GoSem.Claim
import GoSem.ClaimJoined
import GoSem.ClaimMapViews
import Derived.JoinedTies
import Derived.KernelRfl
namespace Go.Proofs.YtgemobbfikjmoaaGreatDoor
/- THE CELL 'sum', in the pinned program and in every row, IS THE sha256 OF THE DUMP (.gsa) THAT YtgemobbfikjmoaaGreatDoorProg.lean LOADS. Nothing in Lean hashes anything: it is a label: what it is worth is what the hold of that sum in a sandbox is worth. -/
noncomputable def Tryz.pinned : Pinned := { name := "ytgemobbfikjmoaagreatdoor", sum := "1f6b6867f4e79a055ba3063401234ad447201dbcf6c4887562ddf501feb7ca18", checked := Tryz.checked }
namespace Rows
def none {H : Type} : Left H := { results := [], args := [] }

/- WHAT THE LISTED PACKAGE-LEVEL VARIABLES READ AS WHEN THE CALL BEGINS. Each datum BY PROGRAM (the guide's laid-datum.mjs) off the statement by which the dump's own 'gosem.cut.vars' lays the variable. In a bare row this is a premise. The card (YtgemobbfikjmoaaGreatDoorCards.lean) ties it to the program's text. -/
def laid_math_bits_deBruijn32tab {H : Type} : DataW H := .agg [.lit (.int .u8 0), .lit (.int .u8 1), .lit (.int .u8 28), .lit (.int .u8 2), .lit (.int .u8 29), .lit (.int .u8 14), .lit (.int .u8 24), .lit (.int .u8 3), .lit (.int .u8 30), .lit (.int .u8 22), .lit (.int .u8 20), .lit (.int .u8 15), .lit (.int .u8 25), .lit (.int .u8 17), .lit (.int .u8 4), .lit (.int .u8 8), .lit (.int .u8 31), .lit (.int .u8 27), .lit (.int .u8 13), .lit (.int .u8 23), .lit (.int .u8 21), .lit (.int .u8 19), .lit (.int .u8 16), .lit (.int .u8 7), .lit (.int .u8 26), .lit (.int .u8 12), .lit (.int .u8 18), .lit (.int .u8 6), .lit (.int .u8 11), .lit (.int .u8 5), .lit (.int .u8 10), .lit (.int .u8 9)]
def laid_math_bits_deBruijn64tab {H : Type} : DataW H := .agg [.lit (.int .u8 0), .lit (.int .u8 1), .lit (.int .u8 56), .lit (.int .u8 2), .lit (.int .u8 57), .lit (.int .u8 49), .lit (.int .u8 28), .lit (.int .u8 3), .lit (.int .u8 61), .lit (.int .u8 58), .lit (.int .u8 42), .lit (.int .u8 50), .lit (.int .u8 38), .lit (.int .u8 29), .lit (.int .u8 17), .lit (.int .u8 4), .lit (.int .u8 62), .lit (.int .u8 47), .lit (.int .u8 59), .lit (.int .u8 36), .lit (.int .u8 45), .lit (.int .u8 43), .lit (.int .u8 51), .lit (.int .u8 22), .lit (.int .u8 53), .lit (.int .u8 39), .lit (.int .u8 33), .lit (.int .u8 30), .lit (.int .u8 24), .lit (.int .u8 18), .lit (.int .u8 12), .lit (.int .u8 5), .lit (.int .u8 63), .lit (.int .u8 55), .lit (.int .u8 48), .lit (.int .u8 27), .lit (.int .u8 60), .lit (.int .u8 41), .lit (.int .u8 37), .lit (.int .u8 16), .lit (.int .u8 46), .lit (.int .u8 35), .lit (.int .u8 44), .lit (.int .u8 21), .lit (.int .u8 52), .lit (.int .u8 32), .lit (.int .u8 23), .lit (.int .u8 11), .lit (.int .u8 54), .lit (.int .u8 26), .lit (.int .u8 40), .lit (.int .u8 15), .lit (.int .u8 34), .lit (.int .u8 20), .lit (.int .u8 31), .lit (.int .u8 10), .lit (.int .u8 25), .lit (.int .u8 14), .lit (.int .u8 19), .lit (.int .u8 9), .lit (.int .u8 13), .lit (.int .u8 8), .lit (.int .u8 7), .lit (.int .u8 6)]

/-- 'novaculitelaw03.SawBest': WHATEVER THE INPUT: true; the input reads as it did. -/
def sawBestSpec : ChangeSpec := { name := "sawBest", fn := fun _ => fun
  | [d] => { results := [.lit (.bool true)], args := [d] }
  | _ => none }
def sawBestRow : OpenClaim := { program := "ytgemobbfikjmoaagreatdoor", sum := "1f6b6867f4e79a055ba3063401234ad447201dbcf6c4887562ddf501feb7ca18", func := "novaculite/novaculitelaw03.SawBest", spec := "sawBest", unfollowed := true, recurses := true, named := ["math/bits.deBruijn32tab", "math/bits.deBruijn64tab"], apart := false, laid := [("math/bits.deBruijn32tab", laid_math_bits_deBruijn32tab), ("math/bits.deBruijn64tab", laid_math_bits_deBruijn64tab)] }
def SawBestSaid : Prop := sawBestRow.holds Tryz.pinned (OpenSpec.ofChange sawBestSpec)

/-- ITS FALSE NEIGHBOUR: 'it returns false'. Refute it at one input. -/
def sawBestWrong : ChangeSpec := { name := "sawBest", fn := fun _ => fun
  | [d] => { results := [.lit (.bool false)], args := [d] }
  | _ => none }
def SawBestWrongFalsely : Prop := sawBestRow.holds Tryz.pinned (OpenSpec.ofChange sawBestWrong)

/-- 'novaculitelaw03.SawBars': WHATEVER THE INPUT: true; the input reads as it did. -/
def sawBarsSpec : ChangeSpec := { name := "sawBars", fn := fun _ => fun
  | [d1, d2, d3] => { results := [.lit (.bool true)], args := [d1, d2, d3] }
  | _ => none }
def sawBarsRow : OpenClaim := { program := "ytgemobbfikjmoaagreatdoor", sum := "1f6b6867f4e79a055ba3063401234ad447201dbcf6c4887562ddf501feb7ca18", func := "novaculite/novaculitelaw03.SawBars", spec := "sawBars", unfollowed := true, recurses := true, named := ["math/bits.deBruijn32tab", "math/bits.deBruijn64tab"], apart := false, laid := [("math/bits.deBruijn32tab", laid_math_bits_deBruijn32tab), ("math/bits.deBruijn64tab", laid_math_bits_deBruijn64tab)] }
def SawBarsSaid : Prop := sawBarsRow.holds Tryz.pinned (OpenSpec.ofChange sawBarsSpec)

/-- ITS FALSE NEIGHBOUR: 'it returns false'. Refute it at one input. -/
def sawBarsWrong : ChangeSpec := { name := "sawBars", fn := fun _ => fun
  | [d1, d2, d3] => { results := [.lit (.bool false)], args := [d1, d2, d3] }
  | _ => none }
def SawBarsWrongFalsely : Prop := sawBarsRow.holds Tryz.pinned (OpenSpec.ofChange sawBarsWrong)

/-- 'novaculitelaw03.SawHeights': WHATEVER THE INPUT: true; the input reads as it did. -/
def sawHeightsSpec : ChangeSpec := { name := "sawHeights", fn := fun _ => fun
  | [d1, d2, d3] => { results := [.lit (.bool true)], args := [d1, d2, d3] }
  | _ => none }
def sawHeightsRow : OpenClaim := { program := "ytgemobbfikjmoaagreatdoor", sum := "1f6b6867f4e79a055ba3063401234ad447201dbcf6c4887562ddf501feb7ca18", func := "novaculite/novaculitelaw03.SawHeights", spec := "sawHeights", unfollowed := true, recurses := true, named := ["math/bits.deBruijn32tab", "math/bits.deBruijn64tab"], apart := false, laid := [("math/bits.deBruijn32tab", laid_math_bits_deBruijn32tab), ("math/bits.deBruijn64tab", laid_math_bits_deBruijn64tab)] }
def SawHeightsSaid : Prop := sawHeightsRow.holds Tryz.pinned (OpenSpec.ofChange sawHeightsSpec)

/-- ITS FALSE NEIGHBOUR: 'it returns false'. Refute it at one input. -/
def sawHeightsWrong : ChangeSpec := { name := "sawHeights", fn := fun _ => fun
  | [d1, d2, d3] => { results := [.lit (.bool false)], args := [d1, d2, d3] }
  | _ => none }
def SawHeightsWrongFalsely : Prop := sawHeightsRow.holds Tryz.pinned (OpenSpec.ofChange sawHeightsWrong)

/-- 'novaculitelaw03.SawTwo': WHATEVER THE INPUT: true; the input reads as it did. -/
def sawTwoSpec : ChangeSpec := { name := "sawTwo", fn := fun _ => fun
  | [d1, d2, d3] => { results := [.lit (.bool true)], args := [d1, d2, d3] }
  | _ => none }
def sawTwoRow : OpenClaim := { program := "ytgemobbfikjmoaagreatdoor", sum := "1f6b6867f4e79a055ba3063401234ad447201dbcf6c4887562ddf501feb7ca18", func := "novaculite/novaculitelaw03.SawTwo", spec := "sawTwo", unfollowed := true, recurses := true, named := ["math/bits.deBruijn32tab", "math/bits.deBruijn64tab"], apart := false, laid := [("math/bits.deBruijn32tab", laid_math_bits_deBruijn32tab), ("math/bits.deBruijn64tab", laid_math_bits_deBruijn64tab)] }
def SawTwoSaid : Prop := sawTwoRow.holds Tryz.pinned (OpenSpec.ofChange sawTwoSpec)

/-- ITS FALSE NEIGHBOUR: 'it returns false'. Refute it at one input. -/
def sawTwoWrong : ChangeSpec := { name := "sawTwo", fn := fun _ => fun
  | [d1, d2, d3] => { results := [.lit (.bool false)], args := [d1, d2, d3] }
  | _ => none }
def SawTwoWrongFalsely : Prop := sawTwoRow.holds Tryz.pinned (OpenSpec.ofChange sawTwoWrong)

/-- 'novaculitelaw03.SawCells': WHATEVER THE INPUT: true; the input reads as it did. -/
def sawCellsSpec : ChangeSpec := { name := "sawCells", fn := fun _ => fun
  | [d1, d2] => { results := [.lit (.bool true)], args := [d1, d2] }
  | _ => none }
def sawCellsRow : OpenClaim := { program := "ytgemobbfikjmoaagreatdoor", sum := "1f6b6867f4e79a055ba3063401234ad447201dbcf6c4887562ddf501feb7ca18", func := "novaculite/novaculitelaw03.SawCells", spec := "sawCells", unfollowed := true, recurses := true, named := ["math/bits.deBruijn32tab", "math/bits.deBruijn64tab"], apart := false, laid := [("math/bits.deBruijn32tab", laid_math_bits_deBruijn32tab), ("math/bits.deBruijn64tab", laid_math_bits_deBruijn64tab)] }
def SawCellsSaid : Prop := sawCellsRow.holds Tryz.pinned (OpenSpec.ofChange sawCellsSpec)

/-- ITS FALSE NEIGHBOUR: 'it returns false'. Refute it at one input. -/
def sawCellsWrong : ChangeSpec := { name := "sawCells", fn := fun _ => fun
  | [d1, d2] => { results := [.lit (.bool false)], args := [d1, d2] }
  | _ => none }
def SawCellsWrongFalsely : Prop := sawCellsRow.holds Tryz.pinned (OpenSpec.ofChange sawCellsWrong)

/-- 'novaculitelaw03.SawIdle': WHATEVER THE INPUT: true; the input reads as it did. -/
def sawIdleSpec : ChangeSpec := { name := "sawIdle", fn := fun _ => fun
  | [d] => { results := [.lit (.bool true)], args := [d] }
  | _ => none }
def sawIdleRow : OpenClaim := { program := "ytgemobbfikjmoaagreatdoor", sum := "1f6b6867f4e79a055ba3063401234ad447201dbcf6c4887562ddf501feb7ca18", func := "novaculite/novaculitelaw03.SawIdle", spec := "sawIdle", unfollowed := true, recurses := true, named := ["math/bits.deBruijn32tab", "math/bits.deBruijn64tab"], apart := false, laid := [("math/bits.deBruijn32tab", laid_math_bits_deBruijn32tab), ("math/bits.deBruijn64tab", laid_math_bits_deBruijn64tab)] }
def SawIdleSaid : Prop := sawIdleRow.holds Tryz.pinned (OpenSpec.ofChange sawIdleSpec)

/-- ITS FALSE NEIGHBOUR: 'it returns false'. Refute it at one input. -/
def sawIdleWrong : ChangeSpec := { name := "sawIdle", fn := fun _ => fun
  | [d] => { results := [.lit (.bool false)], args := [d] }
  | _ => none }
def SawIdleWrongFalsely : Prop := sawIdleRow.holds Tryz.pinned (OpenSpec.ofChange sawIdleWrong)

/-- 'novaculitelaw03.SawThurston': WHATEVER THE INPUT: true; the input reads as it did. -/
def sawThurstonSpec : ChangeSpec := { name := "sawThurston", fn := fun _ => fun
  | [d1, d2] => { results := [.lit (.bool true)], args := [d1, d2] }
  | _ => none }
def sawThurstonRow : OpenClaim := { program := "ytgemobbfikjmoaagreatdoor", sum := "1f6b6867f4e79a055ba3063401234ad447201dbcf6c4887562ddf501feb7ca18", func := "novaculite/novaculitelaw03.SawThurston", spec := "sawThurston", unfollowed := true, recurses := true, named := ["math/bits.deBruijn32tab", "math/bits.deBruijn64tab"], apart := false, laid := [("math/bits.deBruijn32tab", laid_math_bits_deBruijn32tab), ("math/bits.deBruijn64tab", laid_math_bits_deBruijn64tab)] }
def SawThurstonSaid : Prop := sawThurstonRow.holds Tryz.pinned (OpenSpec.ofChange sawThurstonSpec)

/-- ITS FALSE NEIGHBOUR: 'it returns false'. Refute it at one input. -/
def sawThurstonWrong : ChangeSpec := { name := "sawThurston", fn := fun _ => fun
  | [d1, d2] => { results := [.lit (.bool false)], args := [d1, d2] }
  | _ => none }
def SawThurstonWrongFalsely : Prop := sawThurstonRow.holds Tryz.pinned (OpenSpec.ofChange sawThurstonWrong)

/-- 'novaculitelaw03.SawOrdered': WHATEVER THE INPUT: true; the input reads as it did. -/
def sawOrderedSpec : ChangeSpec := { name := "sawOrdered", fn := fun _ => fun
  | [d1, d2, d3] => { results := [.lit (.bool true)], args := [d1, d2, d3] }
  | _ => none }
def sawOrderedRow : OpenClaim := { program := "ytgemobbfikjmoaagreatdoor", sum := "1f6b6867f4e79a055ba3063401234ad447201dbcf6c4887562ddf501feb7ca18", func := "novaculite/novaculitelaw03.SawOrdered", spec := "sawOrdered", unfollowed := true, recurses := true, named := ["math/bits.deBruijn32tab", "math/bits.deBruijn64tab"], apart := false, laid := [("math/bits.deBruijn32tab", laid_math_bits_deBruijn32tab), ("math/bits.deBruijn64tab", laid_math_bits_deBruijn64tab)] }
def SawOrderedSaid : Prop := sawOrderedRow.holds Tryz.pinned (OpenSpec.ofChange sawOrderedSpec)

/-- ITS FALSE NEIGHBOUR: 'it returns false'. Refute it at one input. -/
def sawOrderedWrong : ChangeSpec := { name := "sawOrdered", fn := fun _ => fun
  | [d1, d2, d3] => { results := [.lit (.bool false)], args := [d1, d2, d3] }
  | _ => none }
def SawOrderedWrongFalsely : Prop := sawOrderedRow.holds Tryz.pinned (OpenSpec.ofChange sawOrderedWrong)

/-- 'novaculitelaw03.SawTurned': WHATEVER THE INPUT: true; the input reads as it did. -/
def sawTurnedSpec : ChangeSpec := { name := "sawTurned", fn := fun _ => fun
  | [d1, d2] => { results := [.lit (.bool true)], args := [d1, d2] }
  | _ => none }
def sawTurnedRow : OpenClaim := { program := "ytgemobbfikjmoaagreatdoor", sum := "1f6b6867f4e79a055ba3063401234ad447201dbcf6c4887562ddf501feb7ca18", func := "novaculite/novaculitelaw03.SawTurned", spec := "sawTurned", unfollowed := true, recurses := true, named := ["math/bits.deBruijn32tab", "math/bits.deBruijn64tab"], apart := false, laid := [("math/bits.deBruijn32tab", laid_math_bits_deBruijn32tab), ("math/bits.deBruijn64tab", laid_math_bits_deBruijn64tab)] }
def SawTurnedSaid : Prop := sawTurnedRow.holds Tryz.pinned (OpenSpec.ofChange sawTurnedSpec)

/-- ITS FALSE NEIGHBOUR: 'it returns false'. Refute it at one input. -/
def sawTurnedWrong : ChangeSpec := { name := "sawTurned", fn := fun _ => fun
  | [d1, d2] => { results := [.lit (.bool false)], args := [d1, d2] }
  | _ => none }
def SawTurnedWrongFalsely : Prop := sawTurnedRow.holds Tryz.pinned (OpenSpec.ofChange sawTurnedWrong)

/-- 'novaculitelaw03.SawKoenig': WHATEVER THE INPUT: true; the input reads as it did. -/
def sawKoenigSpec : ChangeSpec := { name := "sawKoenig", fn := fun _ => fun
  | [d] => { results := [.lit (.bool true)], args := [d] }
  | _ => none }
def sawKoenigRow : OpenClaim := { program := "ytgemobbfikjmoaagreatdoor", sum := "1f6b6867f4e79a055ba3063401234ad447201dbcf6c4887562ddf501feb7ca18", func := "novaculite/novaculitelaw03.SawKoenig", spec := "sawKoenig", unfollowed := true, recurses := true, named := ["math/bits.deBruijn32tab", "math/bits.deBruijn64tab"], apart := false, laid := [("math/bits.deBruijn32tab", laid_math_bits_deBruijn32tab), ("math/bits.deBruijn64tab", laid_math_bits_deBruijn64tab)] }
def SawKoenigSaid : Prop := sawKoenigRow.holds Tryz.pinned (OpenSpec.ofChange sawKoenigSpec)

/-- ITS FALSE NEIGHBOUR: 'it returns false'. Refute it at one input. -/
def sawKoenigWrong : ChangeSpec := { name := "sawKoenig", fn := fun _ => fun
  | [d] => { results := [.lit (.bool false)], args := [d] }
  | _ => none }
def SawKoenigWrongFalsely : Prop := sawKoenigRow.holds Tryz.pinned (OpenSpec.ofChange sawKoenigWrong)

/-- 'novaculitelaw03.SawShown': WHATEVER THE INPUT: true; the input reads as it did. -/
def sawShownSpec : ChangeSpec := { name := "sawShown", fn := fun _ => fun
  | [d1, d2, d3, d4, d5] => { results := [.lit (.bool true)], args := [d1, d2, d3, d4, d5] }
  | _ => none }
def sawShownRow : OpenClaim := { program := "ytgemobbfikjmoaagreatdoor", sum := "1f6b6867f4e79a055ba3063401234ad447201dbcf6c4887562ddf501feb7ca18", func := "novaculite/novaculitelaw03.SawShown", spec := "sawShown", unfollowed := true, recurses := true, named := ["math/bits.deBruijn32tab", "math/bits.deBruijn64tab"], apart := false, laid := [("math/bits.deBruijn32tab", laid_math_bits_deBruijn32tab), ("math/bits.deBruijn64tab", laid_math_bits_deBruijn64tab)] }
def SawShownSaid : Prop := sawShownRow.holds Tryz.pinned (OpenSpec.ofChange sawShownSpec)

/-- ITS FALSE NEIGHBOUR: 'it returns false'. Refute it at one input. -/
def sawShownWrong : ChangeSpec := { name := "sawShown", fn := fun _ => fun
  | [d1, d2, d3, d4, d5] => { results := [.lit (.bool false)], args := [d1, d2, d3, d4, d5] }
  | _ => none }
def SawShownWrongFalsely : Prop := sawShownRow.holds Tryz.pinned (OpenSpec.ofChange sawShownWrong)

/-- 'novaculitelaw03.SawMirrored': WHATEVER THE INPUT: true; the input reads as it did. -/
def sawMirroredSpec : ChangeSpec := { name := "sawMirrored", fn := fun _ => fun
  | [d1, d2, d3] => { results := [.lit (.bool true)], args := [d1, d2, d3] }
  | _ => none }
def sawMirroredRow : OpenClaim := { program := "ytgemobbfikjmoaagreatdoor", sum := "1f6b6867f4e79a055ba3063401234ad447201dbcf6c4887562ddf501feb7ca18", func := "novaculite/novaculitelaw03.SawMirrored", spec := "sawMirrored", unfollowed := true, recurses := true, named := ["math/bits.deBruijn32tab", "math/bits.deBruijn64tab"], apart := false, laid := [("math/bits.deBruijn32tab", laid_math_bits_deBruijn32tab), ("math/bits.deBruijn64tab", laid_math_bits_deBruijn64tab)] }
def SawMirroredSaid : Prop := sawMirroredRow.holds Tryz.pinned (OpenSpec.ofChange sawMirroredSpec)

/-- ITS FALSE NEIGHBOUR: 'it returns false'. Refute it at one input. -/
def sawMirroredWrong : ChangeSpec := { name := "sawMirrored", fn := fun _ => fun
  | [d1, d2, d3] => { results := [.lit (.bool false)], args := [d1, d2, d3] }
  | _ => none }
def SawMirroredWrongFalsely : Prop := sawMirroredRow.holds Tryz.pinned (OpenSpec.ofChange sawMirroredWrong)

/- THE SECOND FORM. 'bulk': how many values and letters a reading holds, each counted each time it is reached (what is shared counts as often as it is met; a slice's spare places count too). A statement '..UptoSaid' is the law's where the arguments, and the package variables that the reading takes, are together of bulk at most 1048576: NARROWER than '..Said'. Prove '..Said' where nothing that the law and all that it calls make is longer than what came in: it says more and counts as full. Else prove '..UptoSaid'. A law counts once. -/
mutual
def uptoBulk {H : Type} : DataW H → Nat
  | .lit (.string bytes) => bytes.length + 1
  | .lit _ => 1
  | .nil => 1
  | .ptr d => uptoBulk d + 1
  | .slice elems spare => uptoBulkAll elems + uptoBulkAll spare + 1
  | .agg parts => uptoBulkAll parts + 1
  | .iface _ d => uptoBulk d + 1
  | .map entries => uptoBulkEntries entries + 1
  | .held _ => 1
def uptoBulkAll {H : Type} : List (DataW H) → Nat
  | [] => 0
  | d :: r => uptoBulk d + uptoBulkAll r
def uptoBulkEntries {H : Type} : List (Lit × DataW H) → Nat
  | [] => 0
  | x :: r => uptoBulkEntry x + uptoBulkEntries r
def uptoBulkEntry {H : Type} : Lit × DataW H → Nat
  | (.string bytes, d) => bytes.length + uptoBulk d + 1
  | (_, d) => uptoBulk d + 1
 end
def uptoSmall : (H : Type) → List (DataW H) → Bool := fun _ ds => decide (uptoBulkAll ds ≤ 1048576)
def OpenSpec.upto (s : _root_.Go.ChangeSpec) : _root_.Go.OpenSpec := { _root_.Go.OpenSpec.ofChange s with cond := some uptoSmall }

/-- 'novaculitelaw03.SawBest', WHERE WHAT IT READS IS OF BULK AT MOST 1048576: true; the input reads as it did. -/
def sawBestUptoRow : OpenClaim := { program := "ytgemobbfikjmoaagreatdoor", sum := "1f6b6867f4e79a055ba3063401234ad447201dbcf6c4887562ddf501feb7ca18", func := "novaculite/novaculitelaw03.SawBest", spec := "sawBest", unfollowed := true, recurses := true, named := ["math/bits.deBruijn32tab", "math/bits.deBruijn64tab"], apart := false, laid := [("math/bits.deBruijn32tab", laid_math_bits_deBruijn32tab), ("math/bits.deBruijn64tab", laid_math_bits_deBruijn64tab)], narrowed := true }
def SawBestUptoSaid : Prop := sawBestUptoRow.holds Tryz.pinned (OpenSpec.upto sawBestSpec)

/-- 'novaculitelaw03.SawBars', WHERE WHAT IT READS IS OF BULK AT MOST 1048576: true; the input reads as it did. -/
def sawBarsUptoRow : OpenClaim := { program := "ytgemobbfikjmoaagreatdoor", sum := "1f6b6867f4e79a055ba3063401234ad447201dbcf6c4887562ddf501feb7ca18", func := "novaculite/novaculitelaw03.SawBars", spec := "sawBars", unfollowed := true, recurses := true, named := ["math/bits.deBruijn32tab", "math/bits.deBruijn64tab"], apart := false, laid := [("math/bits.deBruijn32tab", laid_math_bits_deBruijn32tab), ("math/bits.deBruijn64tab", laid_math_bits_deBruijn64tab)], narrowed := true }
def SawBarsUptoSaid : Prop := sawBarsUptoRow.holds Tryz.pinned (OpenSpec.upto sawBarsSpec)

/-- 'novaculitelaw03.SawHeights', WHERE WHAT IT READS IS OF BULK AT MOST 1048576: true; the input reads as it did. -/
def sawHeightsUptoRow : OpenClaim := { program := "ytgemobbfikjmoaagreatdoor", sum := "1f6b6867f4e79a055ba3063401234ad447201dbcf6c4887562ddf501feb7ca18", func := "novaculite/novaculitelaw03.SawHeights", spec := "sawHeights", unfollowed := true, recurses := true, named := ["math/bits.deBruijn32tab", "math/bits.deBruijn64tab"], apart := false, laid := [("math/bits.deBruijn32tab", laid_math_bits_deBruijn32tab), ("math/bits.deBruijn64tab", laid_math_bits_deBruijn64tab)], narrowed := true }
def SawHeightsUptoSaid : Prop := sawHeightsUptoRow.holds Tryz.pinned (OpenSpec.upto sawHeightsSpec)

/-- 'novaculitelaw03.SawTwo', WHERE WHAT IT READS IS OF BULK AT MOST 1048576: true; the input reads as it did. -/
def sawTwoUptoRow : OpenClaim := { program := "ytgemobbfikjmoaagreatdoor", sum := "1f6b6867f4e79a055ba3063401234ad447201dbcf6c4887562ddf501feb7ca18", func := "novaculite/novaculitelaw03.SawTwo", spec := "sawTwo", unfollowed := true, recurses := true, named := ["math/bits.deBruijn32tab", "math/bits.deBruijn64tab"], apart := false, laid := [("math/bits.deBruijn32tab", laid_math_bits_deBruijn32tab), ("math/bits.deBruijn64tab", laid_math_bits_deBruijn64tab)], narrowed := true }
def SawTwoUptoSaid : Prop := sawTwoUptoRow.holds Tryz.pinned (OpenSpec.upto sawTwoSpec)

/-- 'novaculitelaw03.SawCells', WHERE WHAT IT READS IS OF BULK AT MOST 1048576: true; the input reads as it did. -/
def sawCellsUptoRow : OpenClaim := { program := "ytgemobbfikjmoaagreatdoor", sum := "1f6b6867f4e79a055ba3063401234ad447201dbcf6c4887562ddf501feb7ca18", func := "novaculite/novaculitelaw03.SawCells", spec := "sawCells", unfollowed := true, recurses := true, named := ["math/bits.deBruijn32tab", "math/bits.deBruijn64tab"], apart := false, laid := [("math/bits.deBruijn32tab", laid_math_bits_deBruijn32tab), ("math/bits.deBruijn64tab", laid_math_bits_deBruijn64tab)], narrowed := true }
def SawCellsUptoSaid : Prop := sawCellsUptoRow.holds Tryz.pinned (OpenSpec.upto sawCellsSpec)

/-- 'novaculitelaw03.SawIdle', WHERE WHAT IT READS IS OF BULK AT MOST 1048576: true; the input reads as it did. -/
def sawIdleUptoRow : OpenClaim := { program := "ytgemobbfikjmoaagreatdoor", sum := "1f6b6867f4e79a055ba3063401234ad447201dbcf6c4887562ddf501feb7ca18", func := "novaculite/novaculitelaw03.SawIdle", spec := "sawIdle", unfollowed := true, recurses := true, named := ["math/bits.deBruijn32tab", "math/bits.deBruijn64tab"], apart := false, laid := [("math/bits.deBruijn32tab", laid_math_bits_deBruijn32tab), ("math/bits.deBruijn64tab", laid_math_bits_deBruijn64tab)], narrowed := true }
def SawIdleUptoSaid : Prop := sawIdleUptoRow.holds Tryz.pinned (OpenSpec.upto sawIdleSpec)

/-- 'novaculitelaw03.SawThurston', WHERE WHAT IT READS IS OF BULK AT MOST 1048576: true; the input reads as it did. -/
def sawThurstonUptoRow : OpenClaim := { program := "ytgemobbfikjmoaagreatdoor", sum := "1f6b6867f4e79a055ba3063401234ad447201dbcf6c4887562ddf501feb7ca18", func := "novaculite/novaculitelaw03.SawThurston", spec := "sawThurston", unfollowed := true, recurses := true, named := ["math/bits.deBruijn32tab", "math/bits.deBruijn64tab"], apart := false, laid := [("math/bits.deBruijn32tab", laid_math_bits_deBruijn32tab), ("math/bits.deBruijn64tab", laid_math_bits_deBruijn64tab)], narrowed := true }
def SawThurstonUptoSaid : Prop := sawThurstonUptoRow.holds Tryz.pinned (OpenSpec.upto sawThurstonSpec)

/-- 'novaculitelaw03.SawOrdered', WHERE WHAT IT READS IS OF BULK AT MOST 1048576: true; the input reads as it did. -/
def sawOrderedUptoRow : OpenClaim := { program := "ytgemobbfikjmoaagreatdoor", sum := "1f6b6867f4e79a055ba3063401234ad447201dbcf6c4887562ddf501feb7ca18", func := "novaculite/novaculitelaw03.SawOrdered", spec := "sawOrdered", unfollowed := true, recurses := true, named := ["math/bits.deBruijn32tab", "math/bits.deBruijn64tab"], apart := false, laid := [("math/bits.deBruijn32tab", laid_math_bits_deBruijn32tab), ("math/bits.deBruijn64tab", laid_math_bits_deBruijn64tab)], narrowed := true }
def SawOrderedUptoSaid : Prop := sawOrderedUptoRow.holds Tryz.pinned (OpenSpec.upto sawOrderedSpec)

/-- 'novaculitelaw03.SawTurned', WHERE WHAT IT READS IS OF BULK AT MOST 1048576: true; the input reads as it did. -/
def sawTurnedUptoRow : OpenClaim := { program := "ytgemobbfikjmoaagreatdoor", sum := "1f6b6867f4e79a055ba3063401234ad447201dbcf6c4887562ddf501feb7ca18", func := "novaculite/novaculitelaw03.SawTurned", spec := "sawTurned", unfollowed := true, recurses := true, named := ["math/bits.deBruijn32tab", "math/bits.deBruijn64tab"], apart := false, laid := [("math/bits.deBruijn32tab", laid_math_bits_deBruijn32tab), ("math/bits.deBruijn64tab", laid_math_bits_deBruijn64tab)], narrowed := true }
def SawTurnedUptoSaid : Prop := sawTurnedUptoRow.holds Tryz.pinned (OpenSpec.upto sawTurnedSpec)

/-- 'novaculitelaw03.SawKoenig', WHERE WHAT IT READS IS OF BULK AT MOST 1048576: true; the input reads as it did. -/
def sawKoenigUptoRow : OpenClaim := { program := "ytgemobbfikjmoaagreatdoor", sum := "1f6b6867f4e79a055ba3063401234ad447201dbcf6c4887562ddf501feb7ca18", func := "novaculite/novaculitelaw03.SawKoenig", spec := "sawKoenig", unfollowed := true, recurses := true, named := ["math/bits.deBruijn32tab", "math/bits.deBruijn64tab"], apart := false, laid := [("math/bits.deBruijn32tab", laid_math_bits_deBruijn32tab), ("math/bits.deBruijn64tab", laid_math_bits_deBruijn64tab)], narrowed := true }
def SawKoenigUptoSaid : Prop := sawKoenigUptoRow.holds Tryz.pinned (OpenSpec.upto sawKoenigSpec)

/-- 'novaculitelaw03.SawShown', WHERE WHAT IT READS IS OF BULK AT MOST 1048576: true; the input reads as it did. -/
def sawShownUptoRow : OpenClaim := { program := "ytgemobbfikjmoaagreatdoor", sum := "1f6b6867f4e79a055ba3063401234ad447201dbcf6c4887562ddf501feb7ca18", func := "novaculite/novaculitelaw03.SawShown", spec := "sawShown", unfollowed := true, recurses := true, named := ["math/bits.deBruijn32tab", "math/bits.deBruijn64tab"], apart := false, laid := [("math/bits.deBruijn32tab", laid_math_bits_deBruijn32tab), ("math/bits.deBruijn64tab", laid_math_bits_deBruijn64tab)], narrowed := true }
def SawShownUptoSaid : Prop := sawShownUptoRow.holds Tryz.pinned (OpenSpec.upto sawShownSpec)

/-- 'novaculitelaw03.SawMirrored', WHERE WHAT IT READS IS OF BULK AT MOST 1048576: true; the input reads as it did. -/
def sawMirroredUptoRow : OpenClaim := { program := "ytgemobbfikjmoaagreatdoor", sum := "1f6b6867f4e79a055ba3063401234ad447201dbcf6c4887562ddf501feb7ca18", func := "novaculite/novaculitelaw03.SawMirrored", spec := "sawMirrored", unfollowed := true, recurses := true, named := ["math/bits.deBruijn32tab", "math/bits.deBruijn64tab"], apart := false, laid := [("math/bits.deBruijn32tab", laid_math_bits_deBruijn32tab), ("math/bits.deBruijn64tab", laid_math_bits_deBruijn64tab)], narrowed := true }
def SawMirroredUptoSaid : Prop := sawMirroredUptoRow.holds Tryz.pinned (OpenSpec.upto sawMirroredSpec)

end Rows
end Go.Proofs.YtgemobbfikjmoaaGreatDoor
