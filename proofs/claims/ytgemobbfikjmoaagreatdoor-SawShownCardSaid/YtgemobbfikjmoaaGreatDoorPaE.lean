/- The functions' texts for the second evaluator, each with its proof.
   Conditions: none beyond the given statement's own. -/
import Derived.Test.YtgemobbfikjmoaaGreatDoorPaD
import Derived.Test.YtgemobbfikjmoaaGreatDoorProg
import Derived.KernelRfl
set_option linter.unusedVariables false
set_option linter.unusedSimpArgs false
set_option linter.defProp false
namespace Go.Proofs.YtgemobbfikjmoaaGreatDoor
open Go Go.Ev
set_option maxRecDepth 1000000
noncomputable section
noncomputable abbrev P : Program := Go.Proofs.Tryz.prog
def fuel : Nat := 100000
def keeps : List (List Tmp) := [[], [], [], [], [], [], [], [], [], [], [], [], [], [0, 1, 2, 3, 4, 5, 10, 11, 12, 13, 14, 15, 16, 17, 18, 19, 20, 27, 28, 29, 46, 56, 59, 63, 68, 78, 81, 82, 83, 84, 93, 103, 106, 123, 130], [], [0, 1, 2, 3, 4, 5, 6, 7, 8, 9, 10, 11, 12, 13, 14, 15, 16, 17, 18, 19, 20, 21, 22, 83, 150], [0, 1, 2, 3, 4, 5, 12], [], [0, 1, 2, 3, 4, 5, 12], [], [0, 1, 4, 5, 10, 14, 25], [0, 1, 2, 3, 4, 5, 12], [], [0, 1, 2, 3, 4, 5, 6, 13], [], [0, 1, 2, 3, 4, 5, 6, 13], [], [0, 1, 4, 5, 10, 14, 25], [0, 1, 2, 3, 4, 5, 6, 7, 9, 16, 22, 23, 24, 25, 37], [], [0, 1, 2, 3, 6, 7, 8, 9, 10, 12, 14, 20, 24, 29, 30, 31, 32, 35, 47, 51, 65, 66, 67, 68, 77, 82], [], [0, 1, 2, 4, 5, 6, 7, 8, 17, 23], [], [0, 1, 2, 3, 6, 7, 8, 10, 11, 12, 20, 24, 41], [], [0, 1, 2, 3], [], [0, 1, 2, 3], [], [0, 1, 2, 3, 6, 7, 9, 10, 11, 12, 13, 24, 25, 26], [], [0, 1, 2, 3, 6, 7], [], [0, 1, 2, 3, 6, 7], [], [0, 1, 2, 3, 4, 5, 12], [], [0, 1, 2, 3, 4, 5, 12], [], [], [], [0, 1, 2, 4, 7], [], [0, 1, 2, 4, 5, 6, 28, 29, 30, 47], [], [0, 1, 2, 3, 4, 9, 10, 11, 17], [], [], [0, 1, 4], [], [], [0, 1, 3, 4], [0, 1, 2, 3, 4, 6, 9, 10, 11, 12, 28, 41], [0, 1, 4], [0, 1, 4], [], [], [], [], [], [], [], [], [], [], [], [], [0, 1, 4, 5, 6, 7, 8, 9, 10, 11, 12, 19, 28, 35], [0, 1, 2, 3, 4], [0, 1, 3], [0, 2, 3, 9], [], [], [], [0, 1, 4], [], [0], [0], [0], [0], [0, 1, 2, 6], [0, 2, 3, 4, 9], [0, 2], [0, 1, 2, 3, 4, 5, 6, 8, 9, 10, 30, 52, 53, 54, 55, 58, 67, 80, 81, 82, 88, 96], [0, 1, 2, 3, 4, 5, 6, 7, 8, 9, 11, 12, 13, 20, 21, 22, 23, 28, 31], [], [0, 1, 2, 4, 5, 6, 7, 9, 14, 27, 28, 29, 30, 41], [0, 1, 2, 3, 6, 7, 8, 9, 10, 11, 13, 14, 16, 24, 42, 43, 44, 45, 59, 66], [0, 1, 4, 5, 6, 7, 12, 19, 29], [0, 2, 3, 5], [0, 1, 2, 4], [], [], [0, 1, 4, 5, 6, 7, 12, 19, 29], [0, 1, 2, 3, 4, 5], [], [], [], [], [], [0, 1, 2, 4, 5, 6, 7, 8, 9, 10, 11, 12, 13, 14, 21, 29, 30, 31, 32, 41, 58, 76, 97, 104], [0, 1, 2, 4, 5, 9], [0, 1, 2, 3, 4, 5, 6, 7, 8, 9], [], [], [0, 1, 2], [0, 1, 2, 3, 6, 7, 8, 9, 10, 11, 12, 13, 15, 16, 17, 18, 44, 78, 79, 80, 95], [], [0, 1, 2, 4, 5, 6, 7, 8, 9, 10, 11, 12, 18, 22, 36, 37, 38, 43, 44, 45, 71], [], [0, 1, 2, 3, 6, 7, 8, 9, 10, 11, 12, 14, 23, 34, 41], [], [], [0, 1, 2, 3, 4, 8, 9, 10, 11, 12, 13, 14, 25, 28, 29, 30], [0, 1, 4], [], [0, 1, 4], [0, 1, 2, 3, 4, 6, 7, 8, 20, 21, 22, 23, 47], [], [], [], [], [], [0, 1, 4, 5, 7, 8, 9, 16], [0, 1, 3, 4, 5, 7, 8, 9, 16], [0, 2, 3, 4, 5, 8, 13, 25, 32, 44], [0, 1, 4, 5, 7, 8, 9, 16], [0, 1, 4, 5, 7, 8, 9, 16], [], [], [], [], [0, 2, 4], [], [], [], [0, 1, 4, 5, 6, 11, 12, 13, 16, 19], [0, 1, 2, 3], [], [0, 2], [0, 1, 2, 3, 4, 10, 11, 12, 13, 14, 15, 16, 17, 18, 19, 20, 25, 32, 39, 56, 75, 80, 97, 125], [0, 1, 2, 23], [0, 1, 2, 3, 4, 5, 7, 9, 16, 17, 18, 19, 26, 41], [0, 1, 2, 4], [], [0, 2], [0, 1, 4], [0, 1, 3], [1, 2, 3, 4, 5, 6, 7, 8, 14, 15, 41], [0, 1, 2, 3, 6, 7, 8, 9, 10, 22], [0, 1, 2, 3, 4, 5, 8, 9, 30, 45, 61, 76], [0, 1, 2, 4], [], [0, 1, 2, 3, 4], [], [0, 2], [], [], [0, 1, 2, 4, 5, 7, 8, 9, 10, 13, 14, 15, 16, 81, 105], [0, 1, 2, 6, 7, 9, 12, 13, 14, 15, 28], [0, 1, 3], [0, 1, 2, 4, 5, 6, 7, 17, 27, 34, 46], [], [], [], [0, 2], [], [], [], [], [], [], [], [], [], [0, 2, 4, 8], [0, 2, 4, 8, 14], [0, 1, 2, 3, 8, 9, 14, 34], [], [], [], [], [], [], [], [0, 2, 4], [0, 2, 4], [0, 1, 4, 5, 7, 8, 9, 16], [0, 1, 2, 5, 34], [], [0, 2], [0, 2], [], [], [], [], [], [], [], [], [], [], [], [], [], [], [], [], [], [], [], [], [], [], [], [], [], [], [], [], [], [], []]
def trees : List Bool := [false, false, false, true, true, true, true, true, true, true, true, true, true, true, true, true, true, true, true, true, true, true, true, true, true, true, true, true, true, true, true, true, true, true, true, true, true, true, true, true, true, true, true, true, true, true, true, true, true, true, true, true, true, true, true, true, true, false, false, false, false, false, true, true, true, false, false, true, true, false, false, false, false, true, false, false, false, false, true, true, false, false, false, false, false, false, true, true, true, true, true, true, true, true, true, true, true, true, false, false, true, false, true, true, false, false, true, true, true, true, true, true, true, false, true, false, true, true, true, true, true, false, false, true, true, true, true, true, true, true, true, true, false, false, false, true, false, true, false, false, false, false, false, true, false, true, false, true, false, false, true, false, false, false, true, true, true, false, false, false, true, false, true, true, true, true, true, true, true, true, false, false, true, true, true, false, true, false, false, false, true, false, false, true, false, false, true, true, false, false, false, false, false, false, false, false, true, true, false, false, true, true, true, false, true, false, false, false, false, false, false, false, false, false, false, false, false, false, false, false, false, false, false, false, false, false, false, false, false, false, false, false, false, false]
def thawl : List Bool := [false, false, false, false, false, false, false, false, false, false, false, false, false, false, false, false, false, false, false, false, false, false, false, false, false, false, false, false, false, false, false, false, false, false, false, false, false, false, false, false, false, false, false, false, false, false, false, false, false, false, false, false, false, false, false, false, false, false, false, false, false, false, false, false, false, false, false, false, false, false, false, false, false, false, false, false, false, false, false, false, false, true, false, true, false, true, false, false, false, false, false, false, false, false, false, false, false, false, false, true, false, false, false, false, true, false, false, false, false, false, false, false, false, false, false, false, false, false, false, false, false, false, false, false, false, false, false, false, false, false, false, false, false, false, false, false, true, false, false, false, false, false, false, false, false, false, false, false, false, true, false, true, false, false, false, false, false, false, false, false, false, false, false, false, false, false, false, false, false, false, false, false, false, false, false, false, false, true, true, true, false, true, true, false, true, true, false, false, true, true, true, false, true, true, true, true, false, false, false, false, false, false, false, true, false, false, false, false, true, false, false, false, false, false, false, false, false, false, false, false, false, false, false, false, false, false, false, false, false, false, false, false, false, false]
noncomputable abbrev tab0 : List TV := tabT tb32
noncomputable abbrev tab1 : List TV := tabT tb64
def TC : TC := ⟨fuel, fun f => (nth keeps f).getD [], fun f => (nth trees f).getD false, fun f => (nth thawl f).getD false, twoT⟩
def zc24 : List TV := [(.v (.int .i64 (.ofNat 0))), (.v (.int .i64 (.ofNat 0))), nilT]
def zc71 : List TV := [(.v (.int .i64 (.ofNat 0))), (.v (.int .i64 (.ofNat 0)))]
def zc104 : List TV := [(.v (.int .i64 (.ofNat 0))), (.v (.int .i64 (.ofNat 0))), (.v (.int .u64 (.ofNat 0))), (.v (.int .u64 (.ofNat 0))), (.v (.int .u64 (.ofNat 0))), (.v (.int .u64 (.ofNat 0))), (.v (.int .u64 (.ofNat 0))), (.v (.int .u64 (.ofNat 0))), (.v (.int .u64 (.ofNat 0))), (.v (.int .u64 (.ofNat 0))), (.v (.int .u64 (.ofNat 0))), (.v (.int .u64 (.ofNat 0))), (.v (.int .u64 (.ofNat 0))), (.v (.int .u64 (.ofNat 0))), (.v (.int .u64 (.ofNat 0))), (.v (.int .u64 (.ofNat 0))), (.v (.int .u64 (.ofNat 0))), (.v (.int .u64 (.ofNat 0))), (.v (.int .u64 (.ofNat 0)))]
def zc158 : List TV := [(.v (.int .i64 (.ofNat 0))), (.v (.int .i64 (.ofNat 0))), (.v (.int .i64 (.ofNat 0))), (.v (.int .i64 (.ofNat 0))), (.v (.int .i64 (.ofNat 0))), (.v (.int .i64 (.ofNat 0))), (.v (.int .i64 (.ofNat 0))), (.v (.int .i64 (.ofNat 0))), (.v (.int .i64 (.ofNat 0))), (.v (.int .i64 (.ofNat 0))), (.v (.int .i64 (.ofNat 0))), (.v (.int .i64 (.ofNat 0))), (.v (.int .i64 (.ofNat 0))), (.v (.int .i64 (.ofNat 0))), (.v (.int .i64 (.ofNat 0))), (.v (.int .i64 (.ofNat 0)))]
def zc111 : List TV := [(.v (.int .i64 (.ofNat 0))), (.v (.int .i64 (.ofNat 0)))]
def zc172 : List TV := [(.v (.int .i64 (.ofNat 0))), (.v (.int .i64 (.ofNat 0))), (.v (.int .i64 (.ofNat 0))), (.v (.int .i64 (.ofNat 0)))]
def zc173 : List TV := [(.v (.int .i64 (.ofNat 0))), (.v (.int .i64 (.ofNat 0))), (.v (.int .i64 (.ofNat 0))), (.v (.int .i64 (.ofNat 0))), (.v (.int .i64 (.ofNat 0))), (.v (.int .i64 (.ofNat 0))), (.v (.int .i64 (.ofNat 0))), (.v (.int .i64 (.ofNat 0)))]
def str0 : Value := (.string ⟨#[0, 1, 2, 2, 3, 3, 3, 3, 4, 4, 4, 4, 4, 4, 4, 4, 5, 5, 5, 5, 5, 5, 5, 5, 5, 5, 5, 5, 5, 5, 5, 5, 6, 6, 6, 6, 6, 6, 6, 6, 6, 6, 6, 6, 6, 6, 6, 6, 6, 6, 6, 6, 6, 6, 6, 6, 6, 6, 6, 6, 6, 6, 6, 6, 7, 7, 7, 7, 7, 7, 7, 7, 7, 7, 7, 7, 7, 7, 7, 7, 7, 7, 7, 7, 7, 7, 7, 7, 7, 7, 7, 7, 7, 7, 7, 7, 7, 7, 7, 7, 7, 7, 7, 7, 7, 7, 7, 7, 7, 7, 7, 7, 7, 7, 7, 7, 7, 7, 7, 7, 7, 7, 7, 7, 7, 7, 7, 7, 8, 8, 8, 8, 8, 8, 8, 8, 8, 8, 8, 8, 8, 8, 8, 8, 8, 8, 8, 8, 8, 8, 8, 8, 8, 8, 8, 8, 8, 8, 8, 8, 8, 8, 8, 8, 8, 8, 8, 8, 8, 8, 8, 8, 8, 8, 8, 8, 8, 8, 8, 8, 8, 8, 8, 8, 8, 8, 8, 8, 8, 8, 8, 8, 8, 8, 8, 8, 8, 8, 8, 8, 8, 8, 8, 8, 8, 8, 8, 8, 8, 8, 8, 8, 8, 8, 8, 8, 8, 8, 8, 8, 8, 8, 8, 8, 8, 8, 8, 8, 8, 8, 8, 8, 8, 8, 8, 8, 8, 8, 8, 8, 8, 8, 8, 8, 8, 8, 8, 8, 8, 8, 8, 8, 8, 8, 8, 8]⟩)
def str1 : Value := (.string ⟨#[0, 1, 1, 2, 1, 2, 2, 3, 1, 2, 2, 3, 2, 3, 3, 4, 1, 2, 2, 3, 2, 3, 3, 4, 2, 3, 3, 4, 3, 4, 4, 5, 1, 2, 2, 3, 2, 3, 3, 4, 2, 3, 3, 4, 3, 4, 4, 5, 2, 3, 3, 4, 3, 4, 4, 5, 3, 4, 4, 5, 4, 5, 5, 6, 1, 2, 2, 3, 2, 3, 3, 4, 2, 3, 3, 4, 3, 4, 4, 5, 2, 3, 3, 4, 3, 4, 4, 5, 3, 4, 4, 5, 4, 5, 5, 6, 2, 3, 3, 4, 3, 4, 4, 5, 3, 4, 4, 5, 4, 5, 5, 6, 3, 4, 4, 5, 4, 5, 5, 6, 4, 5, 5, 6, 5, 6, 6, 7, 1, 2, 2, 3, 2, 3, 3, 4, 2, 3, 3, 4, 3, 4, 4, 5, 2, 3, 3, 4, 3, 4, 4, 5, 3, 4, 4, 5, 4, 5, 5, 6, 2, 3, 3, 4, 3, 4, 4, 5, 3, 4, 4, 5, 4, 5, 5, 6, 3, 4, 4, 5, 4, 5, 5, 6, 4, 5, 5, 6, 5, 6, 6, 7, 2, 3, 3, 4, 3, 4, 4, 5, 3, 4, 4, 5, 4, 5, 5, 6, 3, 4, 4, 5, 4, 5, 5, 6, 4, 5, 5, 6, 5, 6, 6, 7, 3, 4, 4, 5, 4, 5, 5, 6, 4, 5, 5, 6, 5, 6, 6, 7, 4, 5, 5, 6, 5, 6, 6, 7, 5, 6, 6, 7, 6, 7, 7, 8]⟩)
end
end Go.Proofs.YtgemobbfikjmoaaGreatDoor
namespace Go.Proofs.YtgemobbfikjmoaaGreatDoor
open Go Go.Ev
set_option maxRecDepth 1000000
set_option linter.unusedVariables false
end Go.Proofs.YtgemobbfikjmoaaGreatDoor
namespace Go.Proofs.YtgemobbfikjmoaaGreatDoor
open Go Go.Ev
set_option maxRecDepth 1000000
set_option linter.unusedVariables false
end Go.Proofs.YtgemobbfikjmoaaGreatDoor
namespace Go.Proofs.YtgemobbfikjmoaaGreatDoor
open Go Go.Ev
set_option maxRecDepth 1000000
set_option linter.unusedVariables false
end Go.Proofs.YtgemobbfikjmoaaGreatDoor
namespace Go.Proofs.YtgemobbfikjmoaaGreatDoor
open Go Go.Ev
set_option maxRecDepth 1000000
set_option linter.unusedVariables false
noncomputable section
def C13 (call : CallT) (tlo base : Nat) : PieceT (TV × TV × TV × TV × TV × TV × TV × TV × TV × TV × TV × TV × TV × TV × TV × TV × TV × TV × TV × TV × TV × TV × TV × TV × TV × TV × TV × TV × TV × TV × TV × TV × TV × TV × TV × Unit) :=
 (seqT (leafT fun S H k =>
 need (stor S.1) <|
 let t5 := (.ptr (lenG H) 0)
 let H0 := (pushT H (.cells (cellsT S.1)))
 k (z0 (hush S.1) <| z5 t5 <| z6 (tB false) <| stN 35 S) H0)
 (seqT (leafT fun S H k =>
 lA tlo base 4 H (g5 S) fun t21 H1 =>
 bindV (callTree call 54 [setV t21, tN 16] H1) fun t22 =>
 let t11 := (.ptr (lenG H1) 0)
 let H2 := (pushT H1 (.cells zc24))
 bindV (storeT tlo base 3 H2 t11 t22) fun H3 =>
 k (z7 t11 <| stN 35 S) H3)
 (seqT (leafT fun S H k =>
 k (z8 nilT <| stN 35 S) H)
 (seqT (seqT (leafT fun S H k =>
 bindV (shiftT (g7 S) 0) fun t23 =>
 lF tlo base H t23 fun t24 H4 =>
 bindV (shiftT (g7 S) 1) fun t25 =>
 lF tlo base H4 t25 fun t26 H5 =>
 bindV (b2 evMul t24 t26) fun t27 =>
 k (z17 t27 <| z18 (tN 0) <| stN 35 S) H5)
 (blockT 0 (loopT (seqT (leafT fun S H k =>
 bindV (b2 evLss (g18 S) (g17 S)) fun t29 =>
 k (z19 t29 <| stN 35 S) H)
 (seqT (condT (fun S => some (g19 S))
 (doneT .normal)
 (doneT (.exit 0)))
 (seqT (blockT 1 (seqT (leafT fun S H k =>
 k (z9 (g18 S) <| z18 (hush (g18 S)) <| stN 35 S) H)
 (seqT (leafT fun S H k =>
 bindV (b2 evShr (lendV (g1 S)) (lendV (g9 S))) fun t33 =>
 bindV (b2 evAnd t33 (.v (.int .u16 (.ofNat 1)))) fun t34 =>
 bindV (eqlT .int t34 (.v (.int .u16 (.ofNat 1)))) fun t35 =>
 gV t35 true (lendV (g2 S)) H fun t37 H6 =>
 gB t35 true (b2 evGeq t37 (.v (.int .u8 (.ofNat 30)))) H6 fun t38 H7 =>
 gV t35 true (lendV t38) H7 fun t39 H8 =>
 guardT t39 false (bindV (shiftT (g7 S) 2) fun g9 => pairT g9 H8) H8 fun t40 H9 =>
 guardT t39 false (lF tlo base H9 t40 fun g10 H10 => pairT g10 H10) H9 fun t41 H11 =>
 guardT t39 false ( pairT (lendV (keepV (g9 S))) H11) H11 fun t42 H12 =>
 guardT t39 false (bindV (callTree call 64 [setV t41, setV t42] H12) fun g13 => pairT g13 H12) H12 fun t43 H13 =>
 guardT t39 false (bindV (b1 evNot t43) fun g14 => pairT g14 H13) H13 fun t44 H14 =>
 gB t35 true (pickT t39 (tB true) (setV t44)) H14 fun t45 H15 =>
 bindV (pickT (lendV t35) (setV t45) (tB false)) fun t46 =>
 k (z1 (keepV (g1 S)) <| z2 (keepV (g2 S)) <| z9 (keepV (keepV (g9 S))) <| z20 t46 <| stN 35 S) H15)
 (condT (fun S => some (g20 S))
 (leafT fun S H k =>
 bindV (elemsT 1 [0] [setV (setV (g9 S))] (repG [tN 0] 1)) fun c16 =>
 appendT tlo H 3 1 8 (g8 S) (.row .full (.own 3) 1 c16) fun t50 H17 =>
 k (z8 t50 <| z9 (setV (g9 S)) <| stN 35 S) H17)
 (doneT .normal)))))
 (leafT fun S H k =>
 bindV (b2 evAdd (g18 S) (tN 1)) fun t51 =>
 k (z18 t51 <| stN 35 S) H)))) fuel)))
 (seqT (leafT fun S H k =>
 bindV (b1 (evConv .i64) (lendV (g2 S))) fun t53 =>
 bindV (b2 evRem t53 (tN 10)) fun t54 =>
 bindV (b2 evSub t54 (tN 1)) fun t55 =>
 k (z2 (keepV (g2 S)) <| z10 t55 <| stN 35 S) H)
 (seqT (leafT fun S H k =>
 k (z11 (tN 0) <| stN 35 S) H)
 (seqT (blockT 2 (seqT (leafT fun S H k =>
 bindV (b2 evLss (lendV (g10 S)) (tN 0)) fun t58 =>
 k (z10 (keepV (g10 S)) <| z21 t58 <| stN 35 S) H)
 (condT (fun S => some (g21 S))
 (leafT fun S H k =>
 k (z11 (tN 1) <| stN 35 S) H)
 (seqT (leafT fun S H k =>
 need (allG pass [setV (g7 S)]) <|
 callIn call tlo 65 [setV (setV (g8 S)), .fn (.func 80) [] [setV (g7 S)]] H fun t62 H18 =>
 k (z7 (setV (g7 S)) <| z8 (setV (g8 S)) <| z22 t62 <| stN 35 S) H18)
 (condT (fun S => some (g22 S))
 (leafT fun S H k =>
 k (z11 (tN 13) <| stN 35 S) H)
 (seqT (leafT fun S H k =>
 lA tlo base 3 H (g7 S) fun t64 H19 =>
 bindV (callTree call 79 [setV t64, setV (lendV (g8 S))] H19) fun t66 =>
 bindV (b1 evNot t66) fun t67 =>
 k (z8 (keepV (g8 S)) <| z23 t67 <| stN 35 S) H19)
 (condT (fun S => some (g23 S))
 (leafT fun S H k =>
 k (z11 (tN 21) <| stN 35 S) H)
 (seqT (leafT fun S H k =>
 bindV (lenT (lendV (g8 S))) fun t70 =>
 bindV (b2 evGtr t70 (lendV (g10 S))) fun t72 =>
 k (z8 (keepV (g8 S)) <| z10 (keepV (g10 S)) <| z24 t72 <| stN 35 S) H)
 (condT (fun S => some (g24 S))
 (leafT fun S H k =>
 k (z11 (tN 14) <| stN 35 S) H)
 (doneT .normal))))))))))
 (seqT (seqT (leafT fun S H k =>
 lA tlo base 3 H (g7 S) fun t73 H20 =>
 bindV (callTree call 30 [setV t73, setV (lendV (g10 S)), setV (lendV (g8 S))] H20) fun t76 =>
 bindV (neqT .int t76 (lendV (g11 S))) fun t78 =>
 k (z8 (keepV (g8 S)) <| z10 (keepV (g10 S)) <| z11 (keepV (g11 S)) <| z25 t78 <| stN 35 S) H20)
 (condT (fun S => some (g25 S))
 (seqT (leafT fun S H k =>
 k (z6 (tB false) <| stN 35 S) H)
 (doneT .ret))
 (doneT .normal)))
 (seqT (leafT fun S H k =>
 k (z12 nilT <| stN 35 S) H)
 (seqT (leafT fun S H k =>
 bindV (elemsT 1 [] [] (repG [tN 0] 0)) fun c21 =>
 k (z13 (.row .full (.own 3) 1 c21) <| stN 35 S) H)
 (seqT (leafT fun S H k =>
 k (z14 (tN 0) <| stN 35 S) H)
 (seqT (seqT (leafT fun S H k =>
 lA tlo base 3 H (g7 S) fun t80 H22 =>
 bindV (callTree call 63 [setV t80] H22) fun t81 =>
 bindV (lenT t81) fun t82 =>
 k (z26 t81 <| z27 t82 <| z28 (tN 0) <| stN 35 S) H22)
 (blockT 3 (loopT (seqT (leafT fun S H k =>
 bindV (b2 evLss (g28 S) (g27 S)) fun t84 =>
 k (z29 t84 <| stN 35 S) H)
 (seqT (condT (fun S => some (g29 S))
 (doneT .normal)
 (doneT (.exit 3)))
 (seqT (blockT 4 (seqT (leafT fun S H k =>
 bindV (idxSlT 2 (g26 S) (hush (g28 S))) fun t86 =>
 sA tlo base 2 H t86 fun t87 H23 =>
 let t20 := (.ptr (lenG H23) 0)
 let H24 := (pushT H23 (.cells zc71))
 bindV (storeT tlo base 2 H24 t20 t87) fun H25 =>
 k (z15 (g28 S) <| z16 t20 <| z28 (hush (g28 S)) <| stN 35 S) H25)
 (seqT (seqT (leafT fun S H k =>
 bindV (b2 evRem (lendV (g15 S)) (tN 32)) fun t90 =>
 bindV (b2 evShr (lendV (g3 S)) t90) fun t91 =>
 bindV (b2 evAnd t91 (.v (.int .u32 (.ofNat 1)))) fun t92 =>
 bindV (eqlT .int t92 (.v (.int .u32 (.ofNat 0)))) fun t93 =>
 k (z3 (keepV (g3 S)) <| z15 (keepV (g15 S)) <| z30 t93 <| stN 35 S) H)
 (condT (fun S => some (g30 S))
 (doneT (.exit 4))
 (doneT .normal)))
 (seqT (seqT (leafT fun S H k =>
 bindV (idxArrT 2 1 (g16 S) (tN 0)) fun t95 =>
 lF tlo base H t95 fun t96 H26 =>
 bindV (callTree call 64 [setV (lendV (g13 S)), setV t96] H26) fun t97 =>
 gV t97 false (lendV (keepV (g13 S))) H26 fun t99 H27 =>
 gB t97 false (idxArrT 2 1 (g16 S) (tN 1)) H27 fun t100 H28 =>
 guardT (lendV t97) false (lF tlo base H28 t100 fun g29 H29 => pairT g29 H29) H28 fun t101 H30 =>
 gB t97 false (callTree call 64 [setV t99, setV t101] H30) H30 fun t102 H31 =>
 bindV (pickT (lendV t97) (tB true) (setV t102)) fun t103 =>
 k (z13 (keepV (keepV (g13 S))) <| z31 t103 <| stN 35 S) H31)
 (condT (fun S => some (g31 S))
 (seqT (seqT (leafT fun S H k =>
 bindV (b2 evRem (lendV (g4 S)) (.v (.int .u8 (.ofNat 4)))) fun t105 =>
 bindV (b2 evGtr t105 (.v (.int .u8 (.ofNat 0)))) fun t106 =>
 k (z4 (keepV (g4 S)) <| z32 t106 <| stN 35 S) H)
 (condT (fun S => some (g32 S))
 (doneT (.exit 4))
 (doneT .normal)))
 (leafT fun S H k =>
 k (z14 (tN 6) <| stN 35 S) H))
 (doneT .normal)))
 (leafT fun S H k =>
 sA tlo base 2 H (g16 S) fun t108 H32 =>
 bindV (elemsT 2 [0] [setV t108] (repG [.agg zc71] 1)) fun c33 =>
 appendT tlo H32 71 2 16 (g12 S) (.row .full (.own 71) 2 c33) fun t110 H34 =>
 bindV (idxArrT 2 1 (stale (g16 S)) (tN 0)) fun t112 =>
 need (apartT [hdX (stale (hush (g12 S))) (hdP H (g12 S)), hdX (stale (.row .full (.own 71) 2 c33)) (hdP H32 (.row .full (.own 71) 2 c33))] [hdX t112 (hdP H34 t112)]) <|
 sF tlo base H34 t112 fun t113 H35 =>
 bindV (idxArrT 2 1 (stale (g16 S)) (tN 1)) fun t114 =>
 need (apartT [hdX (stale (hush (g12 S))) (hdP H (g12 S)), hdX (stale (.row .full (.own 71) 2 c33)) (hdP H32 (.row .full (.own 71) 2 c33))] [hdX t114 (hdP H35 t114)]) <|
 sF tlo base H35 t114 fun t115 H36 =>
 bindV (elemsT 1 [0, 1] [setV t113, setV t115] (repG [tN 0] 2)) fun c37 =>
 appendT tlo H36 3 1 8 (stale (g13 S)) (.row .full (.own 3) 1 c37) fun t117 H38 =>
 k (z12 (stale t110) <| z13 t117 <| stN 35 S) H38)))))
 (leafT fun S H k =>
 bindV (b2 evAdd (g28 S) (tN 1)) fun t118 =>
 k (z28 t118 <| stN 35 S) H)))) fuel)))
 (seqT (seqT (leafT fun S H k =>
 lA tlo base 3 H (g7 S) fun t119 H39 =>
 bindV (callTree call 52 [setV t119, setV (lendV (g12 S))] H39) fun t121 =>
 bindV (neqT .int t121 (lendV (g14 S))) fun t123 =>
 k (z12 (keepV (g12 S)) <| z14 (keepV (g14 S)) <| z33 t123 <| stN 35 S) H39)
 (condT (fun S => some (g33 S))
 (seqT (leafT fun S H k =>
 k (z6 (tB false) <| stN 35 S) H)
 (doneT .ret))
 (doneT .normal)))
 (seqT (seqT (leafT fun S H k =>
 bindV (neqT .int (lendV (g14 S)) (tN 0)) fun t125 =>
 gV t125 false (lendV (g12 S)) H fun t127 H40 =>
 gB t125 false (lenT t127) H40 fun t128 H41 =>
 gB t125 false (b2 evLss t128 (tN 2)) H41 fun t129 H42 =>
 bindV (pickT (lendV t125) (tB true) (setV t129)) fun t130 =>
 k (z12 (keepV (g12 S)) <| z14 (keepV (g14 S)) <| z34 t130 <| stN 35 S) H42)
 (condT (fun S => some (g34 S))
 (seqT (leafT fun S H k =>
 bindV (callTree call 15 [] H) fun t131 =>
 k (z6 t131 <| stN 35 S) H)
 (doneT .ret))
 (doneT .normal)))
 (seqT (leafT fun S H k =>
 thawB 2 true (g12 S) H fun c43 H43 =>
 thawB 2 true c43 H43 fun c44 H44 =>
 callIn call tlo 81 [c44] H44 fun t133 H45 =>
 k (z12 c43 <| stN 35 S) H45)
 (seqT (leafT fun S H k =>
 lA tlo base 3 H (g7 S) fun t134 H46 =>
 bindV (callTree call 52 [setV t134, setV (lendV (g12 S))] H46) fun t136 =>
 bindV (eqlT .int t136 (tN 7)) fun t137 =>
 gB t137 true (callTree call 15 [] H46) H46 fun t139 H47 =>
 bindV (pickT (lendV t137) (setV t139) (tB false)) fun t140 =>
 k (z6 t140 <| z12 (keepV (g12 S)) <| stN 35 S) H47)
 (doneT .ret)))))))))))))))))
def F13 : FnT := fun call tlo l H => bindV (C13 call tlo (lenG H) (argT l 0, argT l 1, argT l 2, argT l 3, argT l 4, argT l 5, argT l 10, argT l 11, argT l 12, argT l 13, argT l 14, argT l 15, argT l 16, argT l 17, argT l 18, argT l 19, argT l 20, argT l 27, argT l 28, argT l 29, argT l 46, argT l 56, argT l 59, argT l 63, argT l 68, argT l 78, argT l 81, argT l 82, argT l 83, argT l 84, argT l 93, argT l 103, argT l 106, argT l 123, argT l 130, ()) H) fun p => resE p.1 (need (allG resOk [p.2.1.2.2.2.2.2.2.1]) (some (endT (lenG H) p.2.1.2.2.2.2.2.2.1 p.2.2)))
theorem F13_eq : FEq P TC 13 F13 := fun _ _ _ _ => by kernel_rfl
def C15 (call : CallT) (tlo base : Nat) : PieceT (TV × TV × TV × TV × TV × TV × TV × TV × TV × TV × TV × TV × TV × TV × TV × TV × TV × TV × TV × TV × TV × TV × TV × TV × TV × Unit) :=
 (seqT (leafT fun S H k =>
 k (z0 (tB false) <| stN 25 S) H)
 (seqT (leafT fun S H k =>
 bindV (callTree call 87 [] H) fun t24 =>
 bindV (callTree call 46 [setV t24] H) fun t25 =>
 withX (compT (lendV t25) 0) fun c0 =>
 withX (compT (compGone (lendV t25) 0) 1) fun c1 =>
 k (z1 c0 <| z2 c1 <| stN 25 S) H)
 (seqT (leafT fun S H k =>
 bindV (callTree call 88 [] H) fun t29 =>
 bindV (callTree call 48 [setV t29] H) fun t30 =>
 withX (compT (lendV t30) 0) fun c2 =>
 withX (compT (compGone (lendV t30) 0) 1) fun c3 =>
 k (z3 c2 <| z4 c3 <| stN 25 S) H)
 (seqT (leafT fun S H k =>
 bindV (callTree call 89 [] H) fun t34 =>
 bindV (callTree call 18 [setV t34] H) fun t35 =>
 withX (compT (lendV t35) 0) fun c4 =>
 withX (compT (compGone (lendV t35) 0) 1) fun c5 =>
 k (z5 c4 <| z6 c5 <| stN 25 S) H)
 (seqT (leafT fun S H k =>
 bindV (callTree call 89 [] H) fun t39 =>
 bindV (callTree call 21 [setV t39] H) fun t40 =>
 withX (compT (lendV t40) 0) fun c6 =>
 withX (compT (compGone (lendV t40) 0) 1) fun c7 =>
 k (z7 c6 <| z8 c7 <| stN 25 S) H)
 (seqT (leafT fun S H k =>
 bindV (callTree call 90 [] H) fun t44 =>
 bindV (callTree call 23 [setV t44] H) fun t45 =>
 withX (compT (lendV t45) 0) fun c8 =>
 withX (compT (compGone (lendV t45) 0) 1) fun c9 =>
 k (z9 c8 <| z10 c9 <| stN 25 S) H)
 (seqT (leafT fun S H k =>
 bindV (callTree call 91 [tN 2, tN 1, nilT] H) fun t49 =>
 bindV (callTree call 25 [setV t49] H) fun t50 =>
 withX (compT (lendV t50) 0) fun c10 =>
 withX (compT (compGone (lendV t50) 0) 1) fun c11 =>
 k (z11 c10 <| z12 c11 <| stN 25 S) H)
 (seqT (leafT fun S H k =>
 bindV (callTree call 89 [] H) fun t54 =>
 bindV (callTree call 28 [setV t54] H) fun t55 =>
 withX (compT (lendV t55) 0) fun c12 =>
 withX (compT (compGone (lendV t55) 0) 1) fun c13 =>
 k (z13 c12 <| z14 c13 <| stN 25 S) H)
 (seqT (seqT (leafT fun S H k =>
 bindV (neqT .int (lendV (g2 S)) (tN 0)) fun t59 =>
 gV t59 false (lendV (g4 S)) H fun t61 H14 =>
 gB t59 false (neqT .int t61 (tN 0)) H14 fun t62 H15 =>
 bindV (pickT (lendV t59) (tB true) (setV t62)) fun t63 =>
 gV t63 false (lendV (g6 S)) H15 fun t65 H16 =>
 gB t63 false (neqT .int t65 (tN 0)) H16 fun t66 H17 =>
 bindV (pickT (lendV t63) (tB true) (setV t66)) fun t67 =>
 gV t67 false (lendV (g8 S)) H17 fun t69 H18 =>
 gB t67 false (neqT .int t69 (tN 0)) H18 fun t70 H19 =>
 bindV (pickT (lendV t67) (tB true) (setV t70)) fun t71 =>
 gV t71 false (lendV (g10 S)) H19 fun t73 H20 =>
 gB t71 false (neqT .int t73 (tN 0)) H20 fun t74 H21 =>
 bindV (pickT (lendV t71) (tB true) (setV t74)) fun t75 =>
 gV t75 false (lendV (g12 S)) H21 fun t77 H22 =>
 gB t75 false (neqT .int t77 (tN 0)) H22 fun t78 H23 =>
 bindV (pickT (lendV t75) (tB true) (setV t78)) fun t79 =>
 gV t79 false (lendV (g14 S)) H23 fun t81 H24 =>
 gB t79 false (neqT .int t81 (tN 0)) H24 fun t82 H25 =>
 bindV (pickT (lendV t79) (tB true) (setV t82)) fun t83 =>
 k (z2 (keepV (g2 S)) <| z4 (keepV (g4 S)) <| z6 (keepV (g6 S)) <| z8 (keepV (g8 S)) <| z10 (keepV (g10 S)) <| z12 (keepV (g12 S)) <| z14 (keepV (g14 S)) <| z23 t83 <| stN 25 S) H25)
 (condT (fun S => some (g23 S))
 (seqT (leafT fun S H k =>
 k (z0 (tB false) <| stN 25 S) H)
 (doneT .ret))
 (doneT .normal)))
 (seqT (leafT fun S H k =>
 bindV (callTree call 88 [] H) fun t85 =>
 bindV (elemsT 1 [0, 1, 2, 3] [tN 0, tN 1, tN 2, tN 3] (repG [tN 0] 4)) fun c26 =>
 bindV (callTree call 92 [setV (.row .full (.own 3) 1 c26)] H) fun t87 =>
 bindV (callTree call 32 [setV t85, setV t87] H) fun t88 =>
 withX (compT (lendV t88) 0) fun c27 =>
 withX (compT (compGone (lendV t88) 0) 1) fun c28 =>
 k (z2 c28 <| z15 c27 <| stN 25 S) H)
 (seqT (leafT fun S H k =>
 bindV (callTree call 88 [] H) fun t92 =>
 bindV (elemsT 1 [0, 1, 2, 3] [tN 0, tN 1, tN 2, tN 3] (repG [tN 0] 4)) fun c29 =>
 bindV (callTree call 92 [setV (.row .full (.own 3) 1 c29)] H) fun t94 =>
 bindV (callTree call 34 [setV t92, setV t94, tN 4] H) fun t95 =>
 withX (compT (lendV t95) 0) fun c30 =>
 withX (compT (compGone (lendV t95) 0) 1) fun c31 =>
 k (z4 c31 <| z16 c30 <| stN 25 S) H)
 (seqT (leafT fun S H k =>
 bindV (callTree call 88 [] H) fun t99 =>
 bindV (callTree call 36 [setV t99] H) fun t100 =>
 withX (compT (lendV t100) 0) fun c32 =>
 withX (compT (compGone (lendV t100) 0) 1) fun c33 =>
 k (z6 c33 <| z17 c32 <| stN 25 S) H)
 (seqT (leafT fun S H k =>
 bindV (callTree call 88 [] H) fun t104 =>
 bindV (callTree call 38 [setV t104] H) fun t105 =>
 withX (compT (lendV t105) 0) fun c34 =>
 withX (compT (compGone (lendV t105) 0) 1) fun c35 =>
 k (z8 c35 <| z18 c34 <| stN 25 S) H)
 (seqT (leafT fun S H k =>
 bindV (callTree call 88 [] H) fun t109 =>
 bindV (callTree call 40 [setV t109, setV (lendV (g17 S)), setV (lendV (g18 S))] H) fun t112 =>
 withX (compT (lendV t112) 0) fun c36 =>
 withX (compT (compGone (lendV t112) 0) 1) fun c37 =>
 k (z10 c37 <| z17 (keepV (g17 S)) <| z18 (keepV (g18 S)) <| z19 c36 <| stN 25 S) H)
 (seqT (leafT fun S H k =>
 bindV (callTree call 90 [] H) fun t116 =>
 bindV (callTree call 36 [setV t116] H) fun t117 =>
 withX (compT (lendV t117) 0) fun c38 =>
 withX (compT (compGone (lendV t117) 0) 1) fun c39 =>
 k (z12 c39 <| stN 25 S) H)
 (seqT (leafT fun S H k =>
 bindV (callTree call 88 [] H) fun t121 =>
 bindV (callTree call 16 [setV t121] H) fun t122 =>
 withX (compT (lendV t122) 0) fun c40 =>
 withX (compT (compGone (lendV t122) 0) 1) fun c41 =>
 k (z14 c41 <| z20 c40 <| stN 25 S) H)
 (seqT (seqT (leafT fun S H k =>
 bindV (neqT .int (lendV (g2 S)) (tN 0)) fun t126 =>
 gV t126 false (lendV (g4 S)) H fun t128 H42 =>
 gB t126 false (neqT .int t128 (tN 0)) H42 fun t129 H43 =>
 bindV (pickT (lendV t126) (tB true) (setV t129)) fun t130 =>
 gV t130 false (lendV (g6 S)) H43 fun t132 H44 =>
 gB t130 false (neqT .int t132 (tN 0)) H44 fun t133 H45 =>
 bindV (pickT (lendV t130) (tB true) (setV t133)) fun t134 =>
 gV t134 false (lendV (g8 S)) H45 fun t136 H46 =>
 gB t134 false (neqT .int t136 (tN 0)) H46 fun t137 H47 =>
 bindV (pickT (lendV t134) (tB true) (setV t137)) fun t138 =>
 gV t138 false (lendV (g10 S)) H47 fun t140 H48 =>
 gB t138 false (neqT .int t140 (tN 0)) H48 fun t141 H49 =>
 bindV (pickT (lendV t138) (tB true) (setV t141)) fun t142 =>
 gV t142 false (lendV (g12 S)) H49 fun t144 H50 =>
 gB t142 false (neqT .int t144 (tN 12)) H50 fun t145 H51 =>
 bindV (pickT (lendV t142) (tB true) (setV t145)) fun t146 =>
 gV t146 false (lendV (g14 S)) H51 fun t148 H52 =>
 gB t146 false (neqT .int t148 (tN 0)) H52 fun t149 H53 =>
 bindV (pickT (lendV t146) (tB true) (setV t149)) fun t150 =>
 k (z2 (keepV (g2 S)) <| z4 (keepV (g4 S)) <| z6 (keepV (g6 S)) <| z8 (keepV (g8 S)) <| z10 (keepV (g10 S)) <| z12 (keepV (g12 S)) <| z14 (keepV (g14 S)) <| z24 t150 <| stN 25 S) H53)
 (condT (fun S => some (g24 S))
 (seqT (leafT fun S H k =>
 k (z0 (tB false) <| stN 25 S) H)
 (doneT .ret))
 (doneT .normal)))
 (seqT (leafT fun S H k =>
 bindV (callTree call 88 [] H) fun t152 =>
 bindV (callTree call 42 [setV t152, setV (lendV (g17 S)), setV (lendV (g18 S))] H) fun t155 =>
 withX (compT (lendV t155) 0) fun c54 =>
 withX (compT (compGone (lendV t155) 0) 1) fun c55 =>
 k (z2 c55 <| z17 (keepV (g17 S)) <| z18 (keepV (g18 S)) <| z21 c54 <| stN 25 S) H)
 (seqT (leafT fun S H k =>
 bindV (callTree call 88 [] H) fun t159 =>
 bindV (callTree call 44 [setV t159, setV (lendV (g17 S)), setV (lendV (g18 S))] H) fun t162 =>
 withX (compT (lendV t162) 0) fun c56 =>
 withX (compT (compGone (lendV t162) 0) 1) fun c57 =>
 k (z4 c57 <| z17 (keepV (g17 S)) <| z18 (keepV (g18 S)) <| z22 c56 <| stN 25 S) H)
 (seqT (leafT fun S H k =>
 bindV (eqlT .int (lendV (g2 S)) (tN 0)) fun t166 =>
 gV t166 true (lendV (g4 S)) H fun t168 H58 =>
 gB t166 true (eqlT .int t168 (tN 0)) H58 fun t169 H59 =>
 bindV (pickT (lendV t166) (setV t169) (tB false)) fun t170 =>
 gV t170 true (lendV (g1 S)) H59 fun t172 H60 =>
 guardT (lendV t170) true (bindV (elemsT 1 [0, 1, 2] [tN 0, tN 1, tN 2] (repG [tN 0] 3)) fun c61 => pairT (.row .full (.own 3) 1 c61) H60) H60 fun t173 H62 =>
 gB t170 true (callTree call 93 [setV t173] H62) H62 fun t174 H63 =>
 gB t170 true (callTree call 27 [setV t172, setV t174] H63) H63 fun t175 H64 =>
 bindV (pickT (lendV t170) (setV t175) (tB false)) fun t176 =>
 gV t176 true (setV (g3 S)) H64 fun t178 H65 =>
 bindV (pickT (lendV t176) (setV t178) (tB false)) fun t179 =>
 gV t179 true (lendV (g5 S)) H65 fun t181 H66 =>
 guardT (lendV t179) true (bindV (elemsT 1 [0, 1, 2, 3, 4, 5, 6, 7] [tN 0, tN 1, tN 2, tN 5, tN 3, tN 6, tN 7, tN 8] (repG [tN 0] 8)) fun c67 => pairT (.row .full (.own 3) 1 c67) H66) H66 fun t182 H68 =>
 gB t179 true (callTree call 92 [setV t182] H68) H68 fun t183 H69 =>
 gB t179 true (callTree call 20 [setV t181, setV t183] H69) H69 fun t184 H70 =>
 bindV (pickT (lendV t179) (setV t184) (tB false)) fun t185 =>
 gV t185 true (lendV (g7 S)) H70 fun t187 H71 =>
 gB t185 true (eqlT .int t187 (tN 2)) H71 fun t188 H72 =>
 bindV (pickT (lendV t185) (setV t188) (tB false)) fun t189 =>
 gV t189 true (lendV (g9 S)) H72 fun t191 H73 =>
 guardT (lendV t189) true (bindV (elemsT 1 [0, 1] [tN 0, tN 2] (repG [tN 0] 2)) fun c74 => pairT (.row .full (.own 3) 1 c74) H73) H73 fun t192 H75 =>
 gB t189 true (callTree call 93 [setV t192] H75) H75 fun t193 H76 =>
 gB t189 true (callTree call 27 [setV t191, setV t193] H76) H76 fun t194 H77 =>
 bindV (pickT (lendV t189) (setV t194) (tB false)) fun t195 =>
 gV t195 true (lendV (g11 S)) H77 fun t197 H78 =>
 guardT (lendV t195) true (bindV (elemsT 1 [0, 1] [tN 0, tN 1] (repG [tN 0] 2)) fun c79 => pairT (.row .full (.own 3) 1 c79) H78) H78 fun t198 H80 =>
 gB t195 true (callTree call 92 [setV t198] H80) H80 fun t199 H81 =>
 gB t195 true (callTree call 20 [setV t197, setV t199] H81) H81 fun t200 H82 =>
 bindV (pickT (lendV t195) (setV t200) (tB false)) fun t201 =>
 gV t201 true (lendV (g13 S)) H82 fun t203 H83 =>
 guardT (lendV t201) true (bindV (elemsT 1 [0, 1, 2, 3] [tN 0, tN 2, tN 6, tN 8] (repG [tN 0] 4)) fun c84 => pairT (.row .full (.own 3) 1 c84) H83) H83 fun t204 H85 =>
 gB t201 true (callTree call 93 [setV t204] H85) H85 fun t205 H86 =>
 gB t201 true (callTree call 27 [setV t203, setV t205] H86) H86 fun t206 H87 =>
 bindV (pickT (lendV t201) (setV t206) (tB false)) fun t207 =>
 gV t207 true (lendV (g15 S)) H87 fun t209 H88 =>
 guardT (lendV t207) true (bindV (elemsT 1 [0, 1, 2, 3, 4, 5, 6, 7, 8] [tN 0, tN 1, tN 0, .v (.int .i64 (.negSucc 0)), .v (.int .i64 (.negSucc 1)), .v (.int .i64 (.negSucc 0)), tN 0, tN 1, tN 0] (repG [tN 0] 9)) fun c89 => pairT (.row .full (.own 3) 1 c89) H88) H88 fun t210 H90 =>
 gB t207 true (callTree call 93 [setV t210] H90) H90 fun t211 H91 =>
 gB t207 true (callTree call 27 [setV t209, setV t211] H91) H91 fun t212 H92 =>
 bindV (pickT (lendV t207) (setV t212) (tB false)) fun t213 =>
 gV t213 true (lendV (g16 S)) H92 fun t215 H93 =>
 guardT (lendV t213) true (bindV (elemsT 1 [0, 1, 2, 3] [tN 0, tN 2, tN 1, tN 3] (repG [tN 0] 4)) fun c94 => pairT (.row .full (.own 3) 1 c94) H93) H93 fun t216 H95 =>
 gB t213 true (callTree call 92 [setV t216] H95) H95 fun t217 H96 =>
 gB t213 true (callTree call 20 [setV t215, setV t217] H96) H96 fun t218 H97 =>
 bindV (pickT (lendV t213) (setV t218) (tB false)) fun t219 =>
 gV t219 true (lendV (g17 S)) H97 fun t221 H98 =>
 guardT (lendV t219) true (bindV (elemsT 1 [0, 1, 2, 3] [tN 0, tN 1, tN 2, tN 3] (repG [tN 0] 4)) fun c99 => pairT (.row .full (.own 3) 1 c99) H98) H98 fun t222 H100 =>
 gB t219 true (callTree call 92 [setV t222] H100) H100 fun t223 H101 =>
 gB t219 true (callTree call 20 [setV t221, setV t223] H101) H101 fun t224 H102 =>
 bindV (pickT (lendV t219) (setV t224) (tB false)) fun t225 =>
 gV t225 true (lendV (g18 S)) H102 fun t227 H103 =>
 gV t225 true (lendV (keepV (g16 S))) H103 fun t228 H104 =>
 gB t225 true (callTree call 20 [setV t227, setV t228] H104) H104 fun t229 H105 =>
 bindV (pickT (lendV t225) (setV t229) (tB false)) fun t230 =>
 gV t230 true (lendV (g19 S)) H105 fun t232 H106 =>
 gB t230 true (eqlT .int t232 (tN 1)) H106 fun t233 H107 =>
 bindV (pickT (lendV t230) (setV t233) (tB false)) fun t234 =>
 gV t234 true (lendV (g20 S)) H107 fun t236 H108 =>
 gB t234 true (eqlT .int t236 (tN 2)) H108 fun t237 H109 =>
 bindV (pickT (lendV t234) (setV t237) (tB false)) fun t238 =>
 gV t238 true (lendV (g21 S)) H109 fun t240 H110 =>
 gV t238 true (lendV (keepV (g17 S))) H110 fun t241 H111 =>
 gB t238 true (callTree call 20 [setV t240, setV t241] H111) H111 fun t242 H112 =>
 bindV (pickT (lendV t238) (setV t242) (tB false)) fun t243 =>
 gV t243 true (lendV (g22 S)) H112 fun t245 H113 =>
 gV t243 true (lendV (keepV (g18 S))) H113 fun t246 H114 =>
 gB t243 true (callTree call 20 [setV t245, setV t246] H114) H114 fun t247 H115 =>
 bindV (pickT (lendV t243) (setV t247) (tB false)) fun t248 =>
 gB t248 true (callTree call 88 [] H115) H115 fun t250 H116 =>
 gV t248 true (lendV (keepV (keepV (g17 S)))) H116 fun t251 H117 =>
 gB t248 true (callTree call 52 [setV t250, setV t251] H117) H117 fun t252 H118 =>
 gB t248 true (eqlT .int t252 (tN 0)) H118 fun t253 H119 =>
 bindV (pickT (lendV t248) (setV t253) (tB false)) fun t254 =>
 gB t254 true (callTree call 90 [] H119) H119 fun t256 H120 =>
 guardT (lendV t254) true (bindV (elemsT 1 [0] [tN 1] (repG [tN 0] 1)) fun c121 => pairT (.row .full (.own 3) 1 c121) H120) H120 fun t257 H122 =>
 gB t254 true (callTree call 93 [setV t257] H122) H122 fun t258 H123 =>
 gB t254 true (callTree call 30 [setV t256, tN 1, setV t258] H123) H123 fun t259 H124 =>
 gB t254 true (eqlT .int t259 (tN 0)) H124 fun t260 H125 =>
 bindV (pickT (lendV t254) (setV t260) (tB false)) fun t261 =>
 gB t261 true (callTree call 90 [] H125) H125 fun t263 H126 =>
 guardT (lendV t261) true (bindV (elemsT 1 [0] [tN 1] (repG [tN 0] 1)) fun c127 => pairT (.row .full (.own 3) 1 c127) H126) H126 fun t264 H128 =>
 gB t261 true (callTree call 93 [setV t264] H128) H128 fun t265 H129 =>
 gB t261 true (callTree call 30 [setV t263, tN 0, setV t265] H129) H129 fun t266 H130 =>
 gB t261 true (eqlT .int t266 (tN 14)) H130 fun t267 H131 =>
 bindV (pickT (lendV t261) (setV t267) (tB false)) fun t268 =>
 k (z0 t268 <| z1 (keepV (g1 S)) <| z2 (keepV (g2 S)) <| z3 (setV (g3 S)) <| z4 (keepV (g4 S)) <| z5 (keepV (g5 S)) <| z7 (keepV (g7 S)) <| z9 (keepV (g9 S)) <| z11 (keepV (g11 S)) <| z13 (keepV (g13 S)) <| z15 (keepV (g15 S)) <| z16 (keepV (keepV (g16 S))) <| z17 (keepV (keepV (keepV (g17 S)))) <| z18 (keepV (keepV (g18 S))) <| z19 (keepV (g19 S)) <| z20 (keepV (g20 S)) <| z21 (keepV (g21 S)) <| z22 (keepV (g22 S)) <| stN 25 S) H131)
 (doneT .ret)))))))))))))))))))))
def F15 : FnT := fun call tlo l H => bindV (C15 call tlo (lenG H) (argT l 0, argT l 1, argT l 2, argT l 3, argT l 4, argT l 5, argT l 6, argT l 7, argT l 8, argT l 9, argT l 10, argT l 11, argT l 12, argT l 13, argT l 14, argT l 15, argT l 16, argT l 17, argT l 18, argT l 19, argT l 20, argT l 21, argT l 22, argT l 83, argT l 150, ()) H) fun p => resE p.1 (need (allG resOk [p.2.1.1]) (some (endT (lenG H) p.2.1.1 p.2.2)))
theorem F15_eq : FEq P TC 15 F15 := fun _ _ _ _ => by kernel_rfl
def C16 (call : CallT) (tlo base : Nat) : PieceT (TV × TV × TV × TV × TV × TV × TV × Unit) :=
 (seqT (leafT fun S H k =>
 need (stor S.1) <|
 let t1 := (.ptr (lenG H) 0)
 let H0 := (pushT H (.cells (cellsT S.1)))
 k (z0 (hush S.1) <| z1 t1 <| z2 (tN 0) <| z3 (tN 0) <| stN 7 S) H0)
 (seqT (leafT fun S H k =>
 lA tlo base 3 H (g1 S) fun t7 H1 =>
 bindV (callTree call 94 [setV t7] H1) fun t8 =>
 withX (compT (lendV t8) 0) fun c2 =>
 withX (compT (compGone (lendV t8) 0) 1) fun c3 =>
 let t4 := (.ptr (lenG H1) 0)
 let H4 := (pushT H1 (.cells zc104))
 bindV (storeT tlo base 19 H4 t4 c2) fun H5 =>
 k (z4 t4 <| z5 c3 <| stN 7 S) H5)
 (seqT (seqT (leafT fun S H k =>
 bindV (neqT .int (lendV (g5 S)) (tN 0)) fun t12 =>
 k (z5 (keepV (g5 S)) <| z6 t12 <| stN 7 S) H)
 (condT (fun S => some (g6 S))
 (seqT (leafT fun S H k =>
 k (z2 (tN 0) <| z3 (g5 S) <| z5 (hush (g5 S)) <| stN 7 S) H)
 (doneT .ret))
 (doneT .normal)))
 (seqT (leafT fun S H k =>
 lA tlo base 19 H (g4 S) fun t14 H6 =>
 bindV (shiftT (g4 S) 2) fun t15 =>
 lF tlo base H6 t15 fun t16 H7 =>
 bindV (callTree call 95 [setV t14, setV t16] H7) fun t17 =>
 k (z2 t17 <| z3 (tN 0) <| stN 7 S) H7)
 (doneT .ret)))))
def F16 : FnT := fun call tlo l H => bindV (C16 call tlo (lenG H) (argT l 0, argT l 1, argT l 2, argT l 3, argT l 4, argT l 5, argT l 12, ()) H) fun p => resE p.1 (need (allG resOk [p.2.1.2.2.1, p.2.1.2.2.2.1]) (some (endT (lenG H) (.tup [p.2.1.2.2.1, p.2.1.2.2.2.1]) p.2.2)))
theorem F16_eq : FEq P TC 16 F16 := fun _ _ _ _ => by kernel_rfl
def C18 (call : CallT) (tlo base : Nat) : PieceT (TV × TV × TV × TV × TV × TV × TV × Unit) :=
 (seqT (leafT fun S H k =>
 need (stor S.1) <|
 let t1 := (.ptr (lenG H) 0)
 let H0 := (pushT H (.cells (cellsT S.1)))
 k (z0 (hush S.1) <| z1 t1 <| z2 nilT <| z3 (tN 0) <| stN 7 S) H0)
 (seqT (leafT fun S H k =>
 lA tlo base 3 H (g1 S) fun t7 H1 =>
 bindV (callTree call 94 [setV t7] H1) fun t8 =>
 withX (compT (lendV t8) 0) fun c2 =>
 withX (compT (compGone (lendV t8) 0) 1) fun c3 =>
 let t4 := (.ptr (lenG H1) 0)
 let H4 := (pushT H1 (.cells zc104))
 bindV (storeT tlo base 19 H4 t4 c2) fun H5 =>
 k (z4 t4 <| z5 c3 <| stN 7 S) H5)
 (seqT (seqT (leafT fun S H k =>
 bindV (neqT .int (lendV (g5 S)) (tN 0)) fun t12 =>
 k (z5 (keepV (g5 S)) <| z6 t12 <| stN 7 S) H)
 (condT (fun S => some (g6 S))
 (seqT (leafT fun S H k =>
 k (z2 nilT <| z3 (g5 S) <| z5 (hush (g5 S)) <| stN 7 S) H)
 (doneT .ret))
 (doneT .normal)))
 (seqT (leafT fun S H k =>
 lA tlo base 19 H (g4 S) fun t14 H6 =>
 bindV (shiftT (g4 S) 2) fun t15 =>
 lF tlo base H6 t15 fun t16 H7 =>
 bindV (callTree call 97 [setV t14, setV t16] H7) fun t17 =>
 k (z2 t17 <| z3 (tN 0) <| stN 7 S) H7)
 (doneT .ret)))))
def F18 : FnT := fun call tlo l H => bindV (C18 call tlo (lenG H) (argT l 0, argT l 1, argT l 2, argT l 3, argT l 4, argT l 5, argT l 12, ()) H) fun p => resE p.1 (need (allG resOk [p.2.1.2.2.1, p.2.1.2.2.2.1]) (some (endT (lenG H) (.tup [p.2.1.2.2.1, p.2.1.2.2.2.1]) p.2.2)))
theorem F18_eq : FEq P TC 18 F18 := fun _ _ _ _ => by kernel_rfl
def C20 (call : CallT) (tlo base : Nat) : PieceT (TV × TV × TV × TV × TV × TV × TV × Unit) :=
 (seqT (leafT fun S H k =>
 k (z2 (tB false) <| stN 7 S) H)
 (seqT (seqT (leafT fun S H k =>
 bindV (lenT (lendV S.1)) fun t7 =>
 bindV (lenT (lendV (g1 S))) fun t9 =>
 bindV (neqT .int t7 t9) fun t10 =>
 k (z0 (keepV S.1) <| z1 (keepV (g1 S)) <| z4 t10 <| stN 7 S) H)
 (condT (fun S => some (g4 S))
 (seqT (leafT fun S H k =>
 k (z2 (tB false) <| stN 7 S) H)
 (doneT .ret))
 (doneT .normal)))
 (seqT (seqT (leafT fun S H k =>
 k (z3 (tN 0) <| stN 7 S) H)
 (blockT 0 (loopT (seqT (seqT (leafT fun S H k =>
 bindV (lenT (lendV S.1)) fun t13 =>
 bindV (b2 evLss (lendV (g3 S)) t13) fun t14 =>
 k (z0 (keepV S.1) <| z3 (keepV (g3 S)) <| z5 t14 <| stN 7 S) H)
 (condT (fun S => some (g5 S))
 (doneT .normal)
 (doneT (.exit 0))))
 (seqT (blockT 1 (seqT (leafT fun S H k =>
 bindV (idxSlT 2 (lendV S.1) (lendV (g3 S))) fun t19 =>
 lA tlo base 2 H t19 fun t20 H0 =>
 bindV (idxSlT 2 (lendV (g1 S)) (lendV (keepV (g3 S)))) fun t23 =>
 lA tlo base 2 H0 t23 fun t24 H1 =>
 bindV (neqT (.ints 2) t20 t24) fun t25 =>
 k (z0 (keepV S.1) <| z1 (keepV (g1 S)) <| z3 (keepV (keepV (g3 S))) <| z6 t25 <| stN 7 S) H1)
 (condT (fun S => some (g6 S))
 (seqT (leafT fun S H k =>
 k (z2 (tB false) <| stN 7 S) H)
 (doneT .ret))
 (doneT .normal))))
 (leafT fun S H k =>
 bindV (b2 evAdd (lendV (g3 S)) (tN 1)) fun t16 =>
 k (z3 t16 <| stN 7 S) H))) fuel)))
 (seqT (leafT fun S H k =>
 k (z2 (tB true) <| stN 7 S) H)
 (doneT .ret)))))
def F20 : FnT := fun call tlo l H => bindV (C20 call tlo (lenG H) (argT l 0, argT l 1, argT l 4, argT l 5, argT l 10, argT l 14, argT l 25, ()) H) fun p => resE p.1 (need (allG resOk [p.2.1.2.2.1]) (some (endT (lenG H) p.2.1.2.2.1 p.2.2)))
theorem F20_eq : FEq P TC 20 F20 := fun _ _ _ _ => by kernel_rfl
def C21 (call : CallT) (tlo base : Nat) : PieceT (TV × TV × TV × TV × TV × TV × TV × Unit) :=
 (seqT (leafT fun S H k =>
 need (stor S.1) <|
 let t1 := (.ptr (lenG H) 0)
 let H0 := (pushT H (.cells (cellsT S.1)))
 k (z0 (hush S.1) <| z1 t1 <| z2 (tN 0) <| z3 (tN 0) <| stN 7 S) H0)
 (seqT (leafT fun S H k =>
 lA tlo base 3 H (g1 S) fun t7 H1 =>
 bindV (callTree call 94 [setV t7] H1) fun t8 =>
 withX (compT (lendV t8) 0) fun c2 =>
 withX (compT (compGone (lendV t8) 0) 1) fun c3 =>
 let t4 := (.ptr (lenG H1) 0)
 let H4 := (pushT H1 (.cells zc104))
 bindV (storeT tlo base 19 H4 t4 c2) fun H5 =>
 k (z4 t4 <| z5 c3 <| stN 7 S) H5)
 (seqT (seqT (leafT fun S H k =>
 bindV (neqT .int (lendV (g5 S)) (tN 0)) fun t12 =>
 k (z5 (keepV (g5 S)) <| z6 t12 <| stN 7 S) H)
 (condT (fun S => some (g6 S))
 (seqT (leafT fun S H k =>
 k (z2 (tN 0) <| z3 (g5 S) <| z5 (hush (g5 S)) <| stN 7 S) H)
 (doneT .ret))
 (doneT .normal)))
 (seqT (leafT fun S H k =>
 sA tlo base 19 H (g4 S) fun t14 H6 =>
 bindV (shiftT (g4 S) 2) fun t15 =>
 sF tlo base H6 t15 fun t16 H7 =>
 let t17 := (.map (lenG H7))
 let H8 := (pushT H7 (.map []))
 callIn call tlo 98 [setV t14, setV t16, setV t17] H8 fun t18 H9 =>
 bindV (partT false 1 (setV t18) 1) fun t19 =>
 k (z2 t19 <| z3 (tN 0) <| stN 7 S) H9)
 (doneT .ret)))))
def F21 : FnT := fun call tlo l H => bindV (C21 call tlo (lenG H) (argT l 0, argT l 1, argT l 2, argT l 3, argT l 4, argT l 5, argT l 12, ()) H) fun p => resE p.1 (need (allG resOk [p.2.1.2.2.1, p.2.1.2.2.2.1]) (some (endT (lenG H) (.tup [p.2.1.2.2.1, p.2.1.2.2.2.1]) p.2.2)))
theorem F21_eq : FEq P TC 21 F21 := fun _ _ _ _ => by kernel_rfl
def C23 (call : CallT) (tlo base : Nat) : PieceT (TV × TV × TV × TV × TV × TV × TV × TV × Unit) :=
 (seqT (leafT fun S H k =>
 need (stor S.1) <|
 let t1 := (.ptr (lenG H) 0)
 let H0 := (pushT H (.cells (cellsT S.1)))
 k (z0 (hush S.1) <| z1 t1 <| z2 nilT <| z3 (tN 0) <| stN 8 S) H0)
 (seqT (leafT fun S H k =>
 lA tlo base 3 H (g1 S) fun t8 H1 =>
 bindV (callTree call 94 [setV t8] H1) fun t9 =>
 withX (compT (lendV t9) 0) fun c2 =>
 withX (compT (compGone (lendV t9) 0) 1) fun c3 =>
 let t4 := (.ptr (lenG H1) 0)
 let H4 := (pushT H1 (.cells zc104))
 bindV (storeT tlo base 19 H4 t4 c2) fun H5 =>
 k (z4 t4 <| z5 c3 <| stN 8 S) H5)
 (seqT (seqT (leafT fun S H k =>
 bindV (neqT .int (lendV (g5 S)) (tN 0)) fun t13 =>
 k (z5 (keepV (g5 S)) <| z7 t13 <| stN 8 S) H)
 (condT (fun S => some (g7 S))
 (seqT (leafT fun S H k =>
 k (z2 nilT <| z3 (g5 S) <| z5 (hush (g5 S)) <| stN 8 S) H)
 (doneT .ret))
 (doneT .normal)))
 (seqT (leafT fun S H k =>
 lA tlo base 19 H (g4 S) fun t15 H6 =>
 bindV (shiftT (g4 S) 2) fun t16 =>
 lF tlo base H6 t16 fun t17 H7 =>
 bindV (callTree call 95 [setV t15, setV t17] H7) fun t18 =>
 let t6 := (.ptr (lenG H7) 0)
 let H8 := (pushT H7 (.cells [tN 0]))
 bindV (storeT tlo base 1 H8 t6 t18) fun H9 =>
 k (z6 t6 <| stN 8 S) H9)
 (seqT (leafT fun S H k =>
 bindV (shiftT (g4 S) 2) fun t19 =>
 lF tlo base H t19 fun t20 H10 =>
 bindV (callTree call 100 [setV t20] H10) fun t21 =>
 need (allG pass [setV (g4 S), setV (g6 S)]) <|
 thawB 1 false t21 H10 fun c11 H11 =>
 callIn call tlo 99 [c11, .fn (.func 101) [] [setV (g4 S), setV (g6 S)]] H11 fun t23 H12 =>
 k (z2 t23 <| z3 (tN 0) <| z4 (setV (g4 S)) <| z6 (setV (g6 S)) <| stN 8 S) H12)
 (doneT .ret))))))
def F23 : FnT := fun call tlo l H => bindV (C23 call tlo (lenG H) (argT l 0, argT l 1, argT l 2, argT l 3, argT l 4, argT l 5, argT l 6, argT l 13, ()) H) fun p => resE p.1 (need (allG resOk [p.2.1.2.2.1, p.2.1.2.2.2.1]) (some (endT (lenG H) (.tup [p.2.1.2.2.1, p.2.1.2.2.2.1]) p.2.2)))
theorem F23_eq : FEq P TC 23 F23 := fun _ _ _ _ => by kernel_rfl
def C25 (call : CallT) (tlo base : Nat) : PieceT (TV × TV × TV × TV × TV × TV × TV × TV × Unit) :=
 (seqT (leafT fun S H k =>
 need (stor S.1) <|
 let t1 := (.ptr (lenG H) 0)
 let H0 := (pushT H (.cells (cellsT S.1)))
 k (z0 (hush S.1) <| z1 t1 <| z2 nilT <| z3 (tN 0) <| stN 8 S) H0)
 (seqT (leafT fun S H k =>
 lA tlo base 3 H (g1 S) fun t8 H1 =>
 bindV (callTree call 94 [setV t8] H1) fun t9 =>
 withX (compT (lendV t9) 0) fun c2 =>
 withX (compT (compGone (lendV t9) 0) 1) fun c3 =>
 let t4 := (.ptr (lenG H1) 0)
 let H4 := (pushT H1 (.cells zc104))
 bindV (storeT tlo base 19 H4 t4 c2) fun H5 =>
 k (z4 t4 <| z5 c3 <| stN 8 S) H5)
 (seqT (seqT (leafT fun S H k =>
 bindV (neqT .int (lendV (g5 S)) (tN 0)) fun t13 =>
 k (z5 (keepV (g5 S)) <| z7 t13 <| stN 8 S) H)
 (condT (fun S => some (g7 S))
 (seqT (leafT fun S H k =>
 k (z2 nilT <| z3 (g5 S) <| z5 (hush (g5 S)) <| stN 8 S) H)
 (doneT .ret))
 (doneT .normal)))
 (seqT (leafT fun S H k =>
 lA tlo base 19 H (g4 S) fun t15 H6 =>
 bindV (shiftT (g4 S) 2) fun t16 =>
 lF tlo base H6 t16 fun t17 H7 =>
 bindV (callTree call 95 [setV t15, setV t17] H7) fun t18 =>
 let t6 := (.ptr (lenG H7) 0)
 let H8 := (pushT H7 (.cells [tN 0]))
 bindV (storeT tlo base 1 H8 t6 t18) fun H9 =>
 k (z6 t6 <| stN 8 S) H9)
 (seqT (leafT fun S H k =>
 lA tlo base 19 H (g4 S) fun t19 H10 =>
 bindV (shiftT (g4 S) 2) fun t20 =>
 lF tlo base H10 t20 fun t21 H11 =>
 bindV (callTree call 97 [setV t19, setV t21] H11) fun t22 =>
 need (allG pass [setV (g4 S), setV (g6 S)]) <|
 thawB 2 true t22 H11 fun c12 H12 =>
 callIn call tlo 104 [c12, .fn (.func 105) [] [setV (g4 S), setV (g6 S)]] H12 fun t24 H13 =>
 k (z2 t24 <| z3 (tN 0) <| z4 (setV (g4 S)) <| z6 (setV (g6 S)) <| stN 8 S) H13)
 (doneT .ret))))))
def F25 : FnT := fun call tlo l H => bindV (C25 call tlo (lenG H) (argT l 0, argT l 1, argT l 2, argT l 3, argT l 4, argT l 5, argT l 6, argT l 13, ()) H) fun p => resE p.1 (need (allG resOk [p.2.1.2.2.1, p.2.1.2.2.2.1]) (some (endT (lenG H) (.tup [p.2.1.2.2.1, p.2.1.2.2.2.1]) p.2.2)))
theorem F25_eq : FEq P TC 25 F25 := fun _ _ _ _ => by kernel_rfl
end
end Go.Proofs.YtgemobbfikjmoaaGreatDoor
namespace Go.Proofs.YtgemobbfikjmoaaGreatDoor
open Go Go.Ev
set_option maxRecDepth 1000000
set_option linter.unusedVariables false
noncomputable section
def C27 (call : CallT) (tlo base : Nat) : PieceT (TV × TV × TV × TV × TV × TV × TV × Unit) :=
 (seqT (leafT fun S H k =>
 k (z2 (tB false) <| stN 7 S) H)
 (seqT (seqT (leafT fun S H k =>
 bindV (lenT (lendV S.1)) fun t7 =>
 bindV (lenT (lendV (g1 S))) fun t9 =>
 bindV (neqT .int t7 t9) fun t10 =>
 k (z0 (keepV S.1) <| z1 (keepV (g1 S)) <| z4 t10 <| stN 7 S) H)
 (condT (fun S => some (g4 S))
 (seqT (leafT fun S H k =>
 k (z2 (tB false) <| stN 7 S) H)
 (doneT .ret))
 (doneT .normal)))
 (seqT (seqT (leafT fun S H k =>
 k (z3 (tN 0) <| stN 7 S) H)
 (blockT 0 (loopT (seqT (seqT (leafT fun S H k =>
 bindV (lenT (lendV S.1)) fun t13 =>
 bindV (b2 evLss (lendV (g3 S)) t13) fun t14 =>
 k (z0 (keepV S.1) <| z3 (keepV (g3 S)) <| z5 t14 <| stN 7 S) H)
 (condT (fun S => some (g5 S))
 (doneT .normal)
 (doneT (.exit 0))))
 (seqT (blockT 1 (seqT (leafT fun S H k =>
 bindV (idxSlT 1 (lendV S.1) (lendV (g3 S))) fun t19 =>
 lF tlo base H t19 fun t20 H0 =>
 bindV (idxSlT 1 (lendV (g1 S)) (lendV (keepV (g3 S)))) fun t23 =>
 lF tlo base H0 t23 fun t24 H1 =>
 bindV (neqT .int t20 t24) fun t25 =>
 k (z0 (keepV S.1) <| z1 (keepV (g1 S)) <| z3 (keepV (keepV (g3 S))) <| z6 t25 <| stN 7 S) H1)
 (condT (fun S => some (g6 S))
 (seqT (leafT fun S H k =>
 k (z2 (tB false) <| stN 7 S) H)
 (doneT .ret))
 (doneT .normal))))
 (leafT fun S H k =>
 bindV (b2 evAdd (lendV (g3 S)) (tN 1)) fun t16 =>
 k (z3 t16 <| stN 7 S) H))) fuel)))
 (seqT (leafT fun S H k =>
 k (z2 (tB true) <| stN 7 S) H)
 (doneT .ret)))))
def F27 : FnT := fun call tlo l H => bindV (C27 call tlo (lenG H) (argT l 0, argT l 1, argT l 4, argT l 5, argT l 10, argT l 14, argT l 25, ()) H) fun p => resE p.1 (need (allG resOk [p.2.1.2.2.1]) (some (endT (lenG H) p.2.1.2.2.1 p.2.2)))
theorem F27_eq : FEq P TC 27 F27 := fun _ _ _ _ => by kernel_rfl
def C28 (call : CallT) (tlo base : Nat) : PieceT (TV × TV × TV × TV × TV × TV × TV × TV × TV × TV × TV × TV × TV × TV × TV × Unit) :=
 (seqT (leafT fun S H k =>
 need (stor S.1) <|
 let t1 := (.ptr (lenG H) 0)
 let H0 := (pushT H (.cells (cellsT S.1)))
 k (z0 (hush S.1) <| z1 t1 <| z2 nilT <| z3 (tN 0) <| stN 15 S) H0)
 (seqT (leafT fun S H k =>
 lA tlo base 3 H (g1 S) fun t11 H1 =>
 bindV (callTree call 94 [setV t11] H1) fun t12 =>
 withX (compT (lendV t12) 0) fun c2 =>
 withX (compT (compGone (lendV t12) 0) 1) fun c3 =>
 let t4 := (.ptr (lenG H1) 0)
 let H4 := (pushT H1 (.cells zc104))
 bindV (storeT tlo base 19 H4 t4 c2) fun H5 =>
 k (z4 t4 <| z5 c3 <| stN 15 S) H5)
 (seqT (seqT (leafT fun S H k =>
 bindV (neqT .int (lendV (g5 S)) (tN 0)) fun t16 =>
 k (z5 (keepV (g5 S)) <| z9 t16 <| stN 15 S) H)
 (condT (fun S => some (g9 S))
 (seqT (leafT fun S H k =>
 k (z2 nilT <| z3 (g5 S) <| z5 (hush (g5 S)) <| stN 15 S) H)
 (doneT .ret))
 (doneT .normal)))
 (seqT (leafT fun S H k =>
 k (z6 nilT <| stN 15 S) H)
 (seqT (leafT fun S H k =>
 bindV (shiftT (g4 S) 2) fun t18 =>
 sF tlo base H t18 fun t19 H6 =>
 k (z7 t19 <| stN 15 S) H6)
 (seqT (seqT (leafT fun S H k =>
 bindV (shiftT (g4 S) 2) fun t20 =>
 lF tlo base H t20 fun t21 H7 =>
 bindV (callTree call 100 [setV t21] H7) fun t22 =>
 bindV (lenT t22) fun t23 =>
 k (z10 t22 <| z11 t23 <| z12 (tN 0) <| stN 15 S) H7)
 (blockT 0 (loopT (seqT (leafT fun S H k =>
 bindV (b2 evLss (g12 S) (g11 S)) fun t25 =>
 k (z13 t25 <| stN 15 S) H)
 (seqT (condT (fun S => some (g13 S))
 (doneT .normal)
 (doneT (.exit 0)))
 (seqT (blockT 1 (seqT (leafT fun S H k =>
 bindV (idxSlT 1 (g10 S) (g12 S)) fun t26 =>
 sF tlo base H t26 fun t27 H8 =>
 k (z8 t27 <| stN 15 S) H8)
 (seqT (leafT fun S H k =>
 lA tlo base 19 H (g4 S) fun t28 H9 =>
 bindV (b2 evShl (.v (.int .u64 (.ofNat 1))) (lendV (g8 S))) fun t31 =>
 bindV (b2 evAndNot (lendV (g7 S)) t31) fun t32 =>
 bindV (callTree call 95 [setV t28, setV t32] H9) fun t33 =>
 lA tlo base 19 H9 (g4 S) fun t34 H10 =>
 bindV (callTree call 95 [setV t34, setV (lendV (keepV (g7 S)))] H10) fun t36 =>
 bindV (b2 evLss t33 t36) fun t37 =>
 k (z7 (keepV (keepV (g7 S))) <| z8 (keepV (g8 S)) <| z14 t37 <| stN 15 S) H10)
 (condT (fun S => some (g14 S))
 (seqT (leafT fun S H k =>
 bindV (b2 evShl (.v (.int .u64 (.ofNat 1))) (lendV (g8 S))) fun t40 =>
 bindV (b2 evAndNot (lendV (g7 S)) t40) fun t41 =>
 k (z7 t41 <| z8 (keepV (g8 S)) <| stN 15 S) H)
 (leafT fun S H k =>
 bindV (elemsT 1 [0] [setV (setV (g8 S))] (repG [tN 0] 1)) fun c11 =>
 appendT tlo H 3 1 8 (g6 S) (.row .full (.own 3) 1 c11) fun t45 H12 =>
 k (z6 t45 <| z8 (setV (g8 S)) <| stN 15 S) H12))
 (doneT .normal)))))
 (leafT fun S H k =>
 bindV (b2 evAdd (g12 S) (tN 1)) fun t46 =>
 k (z12 t46 <| stN 15 S) H)))) fuel)))
 (seqT (leafT fun S H k =>
 k (z2 (g6 S) <| z3 (tN 0) <| z6 (hush (g6 S)) <| stN 15 S) H)
 (doneT .ret))))))))
def F28 : FnT := fun call tlo l H => bindV (C28 call tlo (lenG H) (argT l 0, argT l 1, argT l 2, argT l 3, argT l 4, argT l 5, argT l 6, argT l 7, argT l 9, argT l 16, argT l 22, argT l 23, argT l 24, argT l 25, argT l 37, ()) H) fun p => resE p.1 (need (allG resOk [p.2.1.2.2.1, p.2.1.2.2.2.1]) (some (endT (lenG H) (.tup [p.2.1.2.2.1, p.2.1.2.2.2.1]) p.2.2)))
theorem F28_eq : FEq P TC 28 F28 := fun _ _ _ _ => by kernel_rfl
def C30 (call : CallT) (tlo base : Nat) : PieceT (TV × TV × TV × TV × TV × TV × TV × TV × TV × TV × TV × TV × TV × TV × TV × TV × TV × TV × TV × TV × TV × TV × TV × TV × TV × TV × Unit) :=
 (seqT (leafT fun S H k =>
 need (stor S.1) <|
 let t3 := (.ptr (lenG H) 0)
 let H0 := (pushT H (.cells (cellsT S.1)))
 k (z0 (hush S.1) <| z3 t3 <| z4 (tN 0) <| stN 26 S) H0)
 (seqT (leafT fun S H k =>
 lA tlo base 3 H (g3 S) fun t16 H1 =>
 bindV (callTree call 94 [setV t16] H1) fun t17 =>
 withX (compT (lendV t17) 0) fun c2 =>
 withX (compT (compGone (lendV t17) 0) 1) fun c3 =>
 let t7 := (.ptr (lenG H1) 0)
 let H4 := (pushT H1 (.cells zc104))
 bindV (storeT tlo base 19 H4 t7 c2) fun H5 =>
 k (z5 t7 <| z6 c3 <| stN 26 S) H5)
 (seqT (blockT 0 (seqT (leafT fun S H k =>
 bindV (neqT .int (lendV (g6 S)) (tN 0)) fun t22 =>
 k (z6 (keepV (g6 S)) <| z11 t22 <| stN 26 S) H)
 (condT (fun S => some (g11 S))
 (seqT (leafT fun S H k =>
 k (z4 (g6 S) <| z6 (hush (g6 S)) <| stN 26 S) H)
 (doneT .ret))
 (seqT (leafT fun S H k =>
 bindV (b2 evLss (lendV (g1 S)) (tN 0)) fun t26 =>
 k (z1 (keepV (g1 S)) <| z12 t26 <| stN 26 S) H)
 (condT (fun S => some (g12 S))
 (seqT (leafT fun S H k =>
 k (z4 (tN 1) <| stN 26 S) H)
 (doneT .ret))
 (doneT .normal))))))
 (seqT (leafT fun S H k =>
 bindV (shiftT (g5 S) 2) fun t27 =>
 sF tlo base H t27 fun t28 H6 =>
 k (z7 t28 <| z8 (.v (.int .i64 (.negSucc 0))) <| stN 26 S) H6)
 (seqT (seqT (leafT fun S H k =>
 bindV (lenT (setV (g2 S))) fun t30 =>
 k (z2 (setV (g2 S)) <| z13 (setV (g2 S)) <| z14 t30 <| z15 (tN 0) <| stN 26 S) H)
 (blockT 1 (loopT (seqT (leafT fun S H k =>
 bindV (b2 evLss (g15 S) (g14 S)) fun t32 =>
 k (z16 t32 <| stN 26 S) H)
 (seqT (condT (fun S => some (g16 S))
 (doneT .normal)
 (doneT (.exit 1)))
 (seqT (blockT 2 (seqT (leafT fun S H k =>
 bindV (idxSlT 1 (g13 S) (g15 S)) fun t33 =>
 sF tlo base H t33 fun t34 H7 =>
 k (z9 t34 <| stN 26 S) H7)
 (seqT (blockT 3 (seqT (leafT fun S H k =>
 bindV (b2 evLss (lendV (g9 S)) (tN 0)) fun t37 =>
 gV t37 false (lendV (keepV (g9 S))) H fun t39 H8 =>
 gB t37 false (shiftT (g5 S) 0) H8 fun t40 H9 =>
 guardT (lendV t37) false (lF tlo base H9 t40 fun g10 H10 => pairT g10 H10) H9 fun t41 H11 =>
 gB t37 false (shiftT (g5 S) 1) H11 fun t42 H12 =>
 guardT (lendV t37) false (lF tlo base H12 t42 fun g13 H13 => pairT g13 H13) H12 fun t43 H14 =>
 gB t37 false (b2 evMul t41 t43) H14 fun t44 H15 =>
 gB t37 false (b2 evGeq t39 t44) H15 fun t45 H16 =>
 bindV (pickT (lendV t37) (tB true) (setV t45)) fun t46 =>
 k (z9 (keepV (keepV (g9 S))) <| z17 t46 <| stN 26 S) H16)
 (condT (fun S => some (g17 S))
 (seqT (leafT fun S H k =>
 k (z4 (tN 2) <| stN 26 S) H)
 (doneT .ret))
 (seqT (leafT fun S H k =>
 bindV (b2 evLeq (lendV (g9 S)) (lendV (g8 S))) fun t50 =>
 k (z8 (keepV (g8 S)) <| z9 (keepV (g9 S)) <| z18 t50 <| stN 26 S) H)
 (condT (fun S => some (g18 S))
 (seqT (leafT fun S H k =>
 k (z4 (tN 7) <| stN 26 S) H)
 (doneT .ret))
 (seqT (leafT fun S H k =>
 bindV (shiftT (g5 S) 2) fun t52 =>
 lF tlo base H t52 fun t53 H17 =>
 bindV (b2 evShr t53 (lendV (g9 S))) fun t55 =>
 bindV (b2 evAnd t55 (.v (.int .u64 (.ofNat 1)))) fun t56 =>
 bindV (eqlT .int t56 (.v (.int .u64 (.ofNat 0)))) fun t57 =>
 k (z9 (keepV (g9 S)) <| z19 t57 <| stN 26 S) H17)
 (condT (fun S => some (g19 S))
 (seqT (leafT fun S H k =>
 k (z4 (tN 13) <| stN 26 S) H)
 (doneT .ret))
 (doneT .normal))))))))
 (seqT (leafT fun S H k =>
 bindV (b2 evShl (.v (.int .u64 (.ofNat 1))) (lendV (g9 S))) fun t60 =>
 bindV (b2 evAndNot (lendV (g7 S)) t60) fun t61 =>
 k (z7 t61 <| z9 (keepV (g9 S)) <| stN 26 S) H)
 (leafT fun S H k =>
 k (z8 (g9 S) <| z9 (hush (g9 S)) <| stN 26 S) H)))))
 (leafT fun S H k =>
 bindV (b2 evAdd (g15 S) (tN 1)) fun t63 =>
 k (z15 t63 <| stN 26 S) H)))) fuel)))
 (seqT (seqT (leafT fun S H k =>
 bindV (callTree call 100 [setV (lendV (g7 S))] H) fun t65 =>
 bindV (lenT t65) fun t66 =>
 k (z7 (keepV (g7 S)) <| z20 t65 <| z21 t66 <| z22 (tN 0) <| stN 26 S) H)
 (blockT 4 (loopT (seqT (leafT fun S H k =>
 bindV (b2 evLss (g22 S) (g21 S)) fun t68 =>
 k (z23 t68 <| stN 26 S) H)
 (seqT (condT (fun S => some (g23 S))
 (doneT .normal)
 (doneT (.exit 4)))
 (seqT (blockT 5 (seqT (leafT fun S H k =>
 bindV (idxSlT 1 (g20 S) (g22 S)) fun t69 =>
 sF tlo base H t69 fun t70 H18 =>
 k (z10 t70 <| stN 26 S) H18)
 (seqT (leafT fun S H k =>
 bindV (shiftT (g5 S) 3) fun t72 =>
 bindV (idxArrT 16 1 t72 (lendV (g10 S))) fun t73 =>
 lF tlo base H t73 fun t74 H19 =>
 bindV (b2 evAnd t74 (lendV (g7 S))) fun t76 =>
 bindV (neqT .int t76 (.v (.int .u64 (.ofNat 0)))) fun t77 =>
 k (z7 (keepV (g7 S)) <| z10 (keepV (g10 S)) <| z24 t77 <| stN 26 S) H19)
 (condT (fun S => some (g24 S))
 (seqT (leafT fun S H k =>
 k (z4 (tN 21) <| stN 26 S) H)
 (doneT .ret))
 (doneT .normal)))))
 (leafT fun S H k =>
 bindV (b2 evAdd (g22 S) (tN 1)) fun t78 =>
 k (z22 t78 <| stN 26 S) H)))) fuel)))
 (seqT (seqT (leafT fun S H k =>
 bindV (lenT (lendV (g2 S))) fun t80 =>
 bindV (b2 evGtr t80 (lendV (g1 S))) fun t82 =>
 k (z1 (keepV (g1 S)) <| z2 (keepV (g2 S)) <| z25 t82 <| stN 26 S) H)
 (condT (fun S => some (g25 S))
 (seqT (leafT fun S H k =>
 k (z4 (tN 14) <| stN 26 S) H)
 (doneT .ret))
 (doneT .normal)))
 (seqT (leafT fun S H k =>
 k (z4 (tN 0) <| stN 26 S) H)
 (doneT .ret)))))))))
def F30 : FnT := fun call tlo l H => bindV (C30 call tlo (lenG H) (argT l 0, argT l 1, argT l 2, argT l 3, argT l 6, argT l 7, argT l 8, argT l 9, argT l 10, argT l 12, argT l 14, argT l 20, argT l 24, argT l 29, argT l 30, argT l 31, argT l 32, argT l 35, argT l 47, argT l 51, argT l 65, argT l 66, argT l 67, argT l 68, argT l 77, argT l 82, ()) H) fun p => resE p.1 (need (allG resOk [p.2.1.2.2.2.2.1]) (some (endT (lenG H) p.2.1.2.2.2.2.1 p.2.2)))
theorem F30_eq : FEq P TC 30 F30 := fun _ _ _ _ => by kernel_rfl
def C32 (call : CallT) (tlo base : Nat) : PieceT (TV × TV × TV × TV × TV × TV × TV × TV × TV × TV × Unit) :=
 (seqT (leafT fun S H k =>
 need (stor S.1) <|
 let t2 := (.ptr (lenG H) 0)
 let H0 := (pushT H (.cells (cellsT S.1)))
 k (z0 (hush S.1) <| z2 t2 <| z3 nilT <| z4 (tN 0) <| stN 10 S) H0)
 (seqT (leafT fun S H k =>
 lA tlo base 3 H (g2 S) fun t10 H1 =>
 bindV (callTree call 111 [setV t10, setV (lendV (g1 S))] H1) fun t12 =>
 withX (compT (lendV t12) 0) fun c2 =>
 withX (compT (compGone (lendV t12) 0) 1) fun c3 =>
 withX (compT (compGone (compGone (lendV t12) 0) 1) 2) fun c4 =>
 let t6 := (.ptr (lenG H1) 0)
 let H5 := (pushT H1 (.cells zc104))
 bindV (storeT tlo base 19 H5 t6 c2) fun H6 =>
 k (z1 (keepV (g1 S)) <| z5 t6 <| z6 c3 <| z7 c4 <| stN 10 S) H6)
 (seqT (seqT (leafT fun S H k =>
 bindV (eqlT .int (lendV (g7 S)) (tN 0)) fun t17 =>
 k (z7 (keepV (g7 S)) <| z8 t17 <| stN 10 S) H)
 (condT (fun S => some (g8 S))
 (leafT fun S H k =>
 lA tlo base 19 H (g5 S) fun t18 H7 =>
 bindV (elemsT 1 [0] [setV (setV (g6 S))] (repG [.v (.int .u64 (.ofNat 0))] 1)) fun c8 =>
 bindV (callTree call 112 [setV t18, setV (.row .full (.own 101) 1 c8)] H7) fun t21 =>
 k (z6 (setV (g6 S)) <| z7 t21 <| stN 10 S) H7)
 (doneT .normal)))
 (seqT (seqT (leafT fun S H k =>
 bindV (neqT .int (lendV (g7 S)) (tN 0)) fun t23 =>
 k (z7 (keepV (g7 S)) <| z9 t23 <| stN 10 S) H)
 (condT (fun S => some (g9 S))
 (seqT (leafT fun S H k =>
 k (z3 nilT <| z4 (g7 S) <| z7 (hush (g7 S)) <| stN 10 S) H)
 (doneT .ret))
 (doneT .normal)))
 (seqT (leafT fun S H k =>
 sA tlo base 19 H (g5 S) fun t25 H9 =>
 callIn call tlo 113 [setV t25, setV (setV (g1 S))] H9 fun t27 H10 =>
 k (z1 (setV (g1 S)) <| z3 t27 <| z4 (tN 0) <| stN 10 S) H10)
 (doneT .ret))))))
def F32 : FnT := fun call tlo l H => bindV (C32 call tlo (lenG H) (argT l 0, argT l 1, argT l 2, argT l 4, argT l 5, argT l 6, argT l 7, argT l 8, argT l 17, argT l 23, ()) H) fun p => resE p.1 (need (allG resOk [p.2.1.2.2.2.1, p.2.1.2.2.2.2.1]) (some (endT (lenG H) (.tup [p.2.1.2.2.2.1, p.2.1.2.2.2.2.1]) p.2.2)))
theorem F32_eq : FEq P TC 32 F32 := fun _ _ _ _ => by kernel_rfl
def C34 (call : CallT) (tlo base : Nat) : PieceT (TV × TV × TV × TV × TV × TV × TV × TV × TV × TV × TV × TV × TV × Unit) :=
 (seqT (leafT fun S H k =>
 need (stor S.1) <|
 let t3 := (.ptr (lenG H) 0)
 let H0 := (pushT H (.cells (cellsT S.1)))
 k (z0 (hush S.1) <| z3 t3 <| z4 nilT <| z5 (tN 0) <| stN 13 S) H0)
 (seqT (leafT fun S H k =>
 lA tlo base 3 H (g3 S) fun t14 H1 =>
 bindV (callTree call 111 [setV t14, setV (lendV (g1 S))] H1) fun t16 =>
 withX (compT (lendV t16) 0) fun c2 =>
 withX (compT (compGone (lendV t16) 0) 1) fun c3 =>
 withX (compT (compGone (compGone (lendV t16) 0) 1) 2) fun c4 =>
 let t8 := (.ptr (lenG H1) 0)
 let H5 := (pushT H1 (.cells zc104))
 bindV (storeT tlo base 19 H5 t8 c2) fun H6 =>
 k (z1 (keepV (g1 S)) <| z6 t8 <| z7 c4 <| stN 13 S) H6)
 (seqT (blockT 0 (seqT (leafT fun S H k =>
 bindV (neqT .int (lendV (g7 S)) (tN 0)) fun t22 =>
 k (z7 (keepV (g7 S)) <| z10 t22 <| stN 13 S) H)
 (condT (fun S => some (g10 S))
 (seqT (leafT fun S H k =>
 k (z4 nilT <| z5 (g7 S) <| z7 (hush (g7 S)) <| stN 13 S) H)
 (doneT .ret))
 (seqT (leafT fun S H k =>
 bindV (b2 evLss (lendV (g2 S)) (tN 0)) fun t26 =>
 gV t26 false (lendV (keepV (g2 S))) H fun t28 H7 =>
 guardT (lendV t26) false (lA tlo base 19 H7 (g6 S) fun g8 H8 => pairT g8 H8) H7 fun t29 H9 =>
 gB t26 false (callTree call 116 [setV t29] H9) H9 fun t30 H10 =>
 gB t26 false (b2 evGeq t28 t30) H10 fun t31 H11 =>
 bindV (pickT (lendV t26) (tB true) (setV t31)) fun t32 =>
 k (z2 (keepV (keepV (g2 S))) <| z11 t32 <| stN 13 S) H11)
 (condT (fun S => some (g11 S))
 (seqT (leafT fun S H k =>
 k (z4 nilT <| z5 (tN 2) <| stN 13 S) H)
 (doneT .ret))
 (doneT .normal))))))
 (seqT (leafT fun S H k =>
 lA tlo base 19 H (g6 S) fun t34 H12 =>
 bindV (callTree call 117 [setV t34, setV (lendV (g1 S)), setV (lendV (g2 S))] H12) fun t37 =>
 withX (compT (lendV t37) 0) fun c13 =>
 withX (compT (compGone (lendV t37) 0) 1) fun c14 =>
 k (z1 (keepV (g1 S)) <| z2 (keepV (g2 S)) <| z8 c13 <| z9 c14 <| stN 13 S) H12)
 (seqT (seqT (leafT fun S H k =>
 bindV (b1 evNot (lendV (g9 S))) fun t41 =>
 k (z9 (keepV (g9 S)) <| z12 t41 <| stN 13 S) H)
 (condT (fun S => some (g12 S))
 (seqT (leafT fun S H k =>
 k (z4 nilT <| z5 (tN 13) <| stN 13 S) H)
 (doneT .ret))
 (doneT .normal)))
 (seqT (leafT fun S H k =>
 k (z4 (g8 S) <| z5 (tN 0) <| z8 (hush (g8 S)) <| stN 13 S) H)
 (doneT .ret)))))))
def F34 : FnT := fun call tlo l H => bindV (C34 call tlo (lenG H) (argT l 0, argT l 1, argT l 2, argT l 3, argT l 6, argT l 7, argT l 8, argT l 10, argT l 11, argT l 12, argT l 20, argT l 24, argT l 41, ()) H) fun p => resE p.1 (need (allG resOk [p.2.1.2.2.2.2.1, p.2.1.2.2.2.2.2.1]) (some (endT (lenG H) (.tup [p.2.1.2.2.2.2.1, p.2.1.2.2.2.2.2.1]) p.2.2)))
theorem F34_eq : FEq P TC 34 F34 := fun _ _ _ _ => by kernel_rfl
def C36 (call : CallT) (tlo base : Nat) : PieceT (TV × TV × TV × TV × Unit) :=
 (seqT (leafT fun S H k =>
 need (stor S.1) <|
 let t1 := (.ptr (lenG H) 0)
 let H0 := (pushT H (.cells (cellsT S.1)))
 k (z0 (hush S.1) <| z1 t1 <| z2 nilT <| z3 (tN 0) <| stN 4 S) H0)
 (seqT (leafT fun S H k =>
 lA tlo base 3 H (g1 S) fun t4 H1 =>
 bindV (callTree call 119 [setV t4, tN 1] H1) fun t5 =>
 withX (compT t5 0) fun c2 =>
 withX (compT (compGone t5 0) 1) fun c3 =>
 k (z2 c2 <| z3 c3 <| stN 4 S) H1)
 (doneT .ret)))
def F36 : FnT := fun call tlo l H => bindV (C36 call tlo (lenG H) (argT l 0, argT l 1, argT l 2, argT l 3, ()) H) fun p => resE p.1 (need (allG resOk [p.2.1.2.2.1, p.2.1.2.2.2.1]) (some (endT (lenG H) (.tup [p.2.1.2.2.1, p.2.1.2.2.2.1]) p.2.2)))
theorem F36_eq : FEq P TC 36 F36 := fun _ _ _ _ => by kernel_rfl
def C38 (call : CallT) (tlo base : Nat) : PieceT (TV × TV × TV × TV × Unit) :=
 (seqT (leafT fun S H k =>
 need (stor S.1) <|
 let t1 := (.ptr (lenG H) 0)
 let H0 := (pushT H (.cells (cellsT S.1)))
 k (z0 (hush S.1) <| z1 t1 <| z2 nilT <| z3 (tN 0) <| stN 4 S) H0)
 (seqT (leafT fun S H k =>
 lA tlo base 3 H (g1 S) fun t4 H1 =>
 bindV (callTree call 119 [setV t4, .v (.int .i64 (.negSucc 0))] H1) fun t5 =>
 withX (compT t5 0) fun c2 =>
 withX (compT (compGone t5 0) 1) fun c3 =>
 k (z2 c2 <| z3 c3 <| stN 4 S) H1)
 (doneT .ret)))
def F38 : FnT := fun call tlo l H => bindV (C38 call tlo (lenG H) (argT l 0, argT l 1, argT l 2, argT l 3, ()) H) fun p => resE p.1 (need (allG resOk [p.2.1.2.2.1, p.2.1.2.2.2.1]) (some (endT (lenG H) (.tup [p.2.1.2.2.1, p.2.1.2.2.2.1]) p.2.2)))
theorem F38_eq : FEq P TC 38 F38 := fun _ _ _ _ => by kernel_rfl
def C40 (call : CallT) (tlo base : Nat) : PieceT (TV × TV × TV × TV × TV × TV × TV × TV × TV × TV × TV × TV × TV × TV × Unit) :=
 (seqT (leafT fun S H k =>
 need (stor S.1) <|
 let t3 := (.ptr (lenG H) 0)
 let H0 := (pushT H (.cells (cellsT S.1)))
 k (z0 (hush S.1) <| z3 t3 <| z4 (tN 0) <| z5 (tN 0) <| stN 14 S) H0)
 (seqT (leafT fun S H k =>
 sA tlo base 3 H (g3 S) fun t15 H1 =>
 callIn call tlo 121 [setV t15, setV (setV (g1 S)), setV (setV (g2 S))] H1 fun t18 H2 =>
 withX (compT (lendV t18) 0) fun c3 =>
 withX (compT (compGone (lendV t18) 0) 1) fun c4 =>
 withX (compT (compGone (compGone (lendV t18) 0) 1) 2) fun c5 =>
 withX (compT (compGone (compGone (compGone (lendV t18) 0) 1) 2) 3) fun c6 =>
 let t8 := (.ptr (lenG H2) 0)
 let H7 := (pushT H2 (.cells zc104))
 bindV (storeT tlo base 19 H7 t8 c3) fun H8 =>
 k (z1 (setV (g1 S)) <| z2 (setV (g2 S)) <| z6 c4 <| z7 c5 <| z8 c6 <| stN 14 S) H8)
 (seqT (leafT fun S H k =>
 k (z9 (tN 0) <| stN 14 S) H)
 (seqT (seqT (leafT fun S H k =>
 bindV (lenT (lendV (g6 S))) fun t24 =>
 k (z6 (keepV (g6 S)) <| z11 t24 <| z12 (tN 0) <| stN 14 S) H)
 (blockT 0 (loopT (seqT (leafT fun S H k =>
 bindV (b2 evLss (g12 S) (g11 S)) fun t26 =>
 k (z13 t26 <| stN 14 S) H)
 (seqT (condT (fun S => some (g13 S))
 (doneT .normal)
 (doneT (.exit 0)))
 (seqT (blockT 1 (seqT (leafT fun S H k =>
 k (z10 (g12 S) <| z12 (hush (g12 S)) <| stN 14 S) H)
 (leafT fun S H k =>
 bindV (idxSlT 1 (lendV (g6 S)) (lendV (g10 S))) fun t31 =>
 lF tlo base H t31 fun t32 H9 =>
 bindV (idxSlT 1 (lendV (g7 S)) (lendV (keepV (g10 S)))) fun t35 =>
 lF tlo base H9 t35 fun t36 H10 =>
 bindV (b2 evSub t32 t36) fun t37 =>
 bindV (idxSlT 1 (lendV (keepV (g7 S))) (lendV (keepV (keepV (g10 S))))) fun t40 =>
 lF tlo base H10 t40 fun t41 H11 =>
 bindV (idxSlT 1 (lendV (keepV (g6 S))) (lendV (keepV (keepV (keepV (g10 S)))))) fun t44 =>
 lF tlo base H11 t44 fun t45 H12 =>
 bindV (b2 evSub t41 t45) fun t46 =>
 bindV (b2 (evLesser true) t37 t46) fun c13 =>
 need (isV c13) <|
 bindV (b2 evAdd (lendV (g9 S)) c13) fun t48 =>
 k (z6 (keepV (keepV (g6 S))) <| z7 (keepV (keepV (g7 S))) <| z9 t48 <| z10 (keepV (keepV (keepV (keepV (g10 S))))) <| stN 14 S) H12)))
 (leafT fun S H k =>
 bindV (b2 evAdd (g12 S) (tN 1)) fun t49 =>
 k (z12 t49 <| stN 14 S) H)))) fuel)))
 (seqT (leafT fun S H k =>
 bindV (b2 evQuo (lendV (g9 S)) (tN 4)) fun t51 =>
 k (z4 t51 <| z5 (g8 S) <| z8 (hush (g8 S)) <| z9 (keepV (g9 S)) <| stN 14 S) H)
 (doneT .ret))))))
def F40 : FnT := fun call tlo l H => bindV (C40 call tlo (lenG H) (argT l 0, argT l 1, argT l 2, argT l 3, argT l 6, argT l 7, argT l 9, argT l 10, argT l 11, argT l 12, argT l 13, argT l 24, argT l 25, argT l 26, ()) H) fun p => resE p.1 (need (allG resOk [p.2.1.2.2.2.2.1, p.2.1.2.2.2.2.2.1]) (some (endT (lenG H) (.tup [p.2.1.2.2.2.2.1, p.2.1.2.2.2.2.2.1]) p.2.2)))
theorem F40_eq : FEq P TC 40 F40 := fun _ _ _ _ => by kernel_rfl
def C42 (call : CallT) (tlo base : Nat) : PieceT (TV × TV × TV × TV × TV × TV × Unit) :=
 (seqT (leafT fun S H k =>
 need (stor S.1) <|
 let t3 := (.ptr (lenG H) 0)
 let H0 := (pushT H (.cells (cellsT S.1)))
 k (z0 (hush S.1) <| z3 t3 <| z4 nilT <| z5 (tN 0) <| stN 6 S) H0)
 (seqT (leafT fun S H k =>
 lA tlo base 3 H (g3 S) fun t8 H1 =>
 bindV (callTree call 124 [setV t8, setV (lendV (g1 S)), setV (lendV (g2 S)), .fn (.func 125) [] []] H1) fun t11 =>
 withX (compT t11 0) fun c2 =>
 withX (compT (compGone t11 0) 1) fun c3 =>
 k (z1 (keepV (g1 S)) <| z2 (keepV (g2 S)) <| z4 c2 <| z5 c3 <| stN 6 S) H1)
 (doneT .ret)))
def F42 : FnT := fun call tlo l H => bindV (C42 call tlo (lenG H) (argT l 0, argT l 1, argT l 2, argT l 3, argT l 6, argT l 7, ()) H) fun p => resE p.1 (need (allG resOk [p.2.1.2.2.2.2.1, p.2.1.2.2.2.2.2.1]) (some (endT (lenG H) (.tup [p.2.1.2.2.2.2.1, p.2.1.2.2.2.2.2.1]) p.2.2)))
theorem F42_eq : FEq P TC 42 F42 := fun _ _ _ _ => by kernel_rfl
def C44 (call : CallT) (tlo base : Nat) : PieceT (TV × TV × TV × TV × TV × TV × Unit) :=
 (seqT (leafT fun S H k =>
 need (stor S.1) <|
 let t3 := (.ptr (lenG H) 0)
 let H0 := (pushT H (.cells (cellsT S.1)))
 k (z0 (hush S.1) <| z3 t3 <| z4 nilT <| z5 (tN 0) <| stN 6 S) H0)
 (seqT (leafT fun S H k =>
 lA tlo base 3 H (g3 S) fun t8 H1 =>
 bindV (callTree call 124 [setV t8, setV (lendV (g1 S)), setV (lendV (g2 S)), .fn (.func 127) [] []] H1) fun t11 =>
 withX (compT t11 0) fun c2 =>
 withX (compT (compGone t11 0) 1) fun c3 =>
 k (z1 (keepV (g1 S)) <| z2 (keepV (g2 S)) <| z4 c2 <| z5 c3 <| stN 6 S) H1)
 (doneT .ret)))
def F44 : FnT := fun call tlo l H => bindV (C44 call tlo (lenG H) (argT l 0, argT l 1, argT l 2, argT l 3, argT l 6, argT l 7, ()) H) fun p => resE p.1 (need (allG resOk [p.2.1.2.2.2.2.1, p.2.1.2.2.2.2.2.1]) (some (endT (lenG H) (.tup [p.2.1.2.2.2.2.1, p.2.1.2.2.2.2.2.1]) p.2.2)))
theorem F44_eq : FEq P TC 44 F44 := fun _ _ _ _ => by kernel_rfl
def C46 (call : CallT) (tlo base : Nat) : PieceT (TV × TV × TV × TV × TV × TV × TV × Unit) :=
 (seqT (leafT fun S H k =>
 need (stor S.1) <|
 let t1 := (.ptr (lenG H) 0)
 let H0 := (pushT H (.cells (cellsT S.1)))
 k (z0 (hush S.1) <| z1 t1 <| z2 nilT <| z3 (tN 0) <| stN 7 S) H0)
 (seqT (leafT fun S H k =>
 lA tlo base 3 H (g1 S) fun t7 H1 =>
 bindV (callTree call 94 [setV t7] H1) fun t8 =>
 withX (compT (lendV t8) 0) fun c2 =>
 withX (compT (compGone (lendV t8) 0) 1) fun c3 =>
 let t4 := (.ptr (lenG H1) 0)
 let H4 := (pushT H1 (.cells zc104))
 bindV (storeT tlo base 19 H4 t4 c2) fun H5 =>
 k (z4 t4 <| z5 c3 <| stN 7 S) H5)
 (seqT (seqT (leafT fun S H k =>
 bindV (neqT .int (lendV (g5 S)) (tN 0)) fun t12 =>
 k (z5 (keepV (g5 S)) <| z6 t12 <| stN 7 S) H)
 (condT (fun S => some (g6 S))
 (seqT (leafT fun S H k =>
 k (z2 nilT <| z3 (g5 S) <| z5 (hush (g5 S)) <| stN 7 S) H)
 (doneT .ret))
 (doneT .normal)))
 (seqT (leafT fun S H k =>
 bindV (shiftT (g4 S) 2) fun t14 =>
 lF tlo base H t14 fun t15 H6 =>
 bindV (callTree call 100 [setV t15] H6) fun t16 =>
 k (z2 t16 <| z3 (tN 0) <| stN 7 S) H6)
 (doneT .ret)))))
def F46 : FnT := fun call tlo l H => bindV (C46 call tlo (lenG H) (argT l 0, argT l 1, argT l 2, argT l 3, argT l 4, argT l 5, argT l 12, ()) H) fun p => resE p.1 (need (allG resOk [p.2.1.2.2.1, p.2.1.2.2.2.1]) (some (endT (lenG H) (.tup [p.2.1.2.2.1, p.2.1.2.2.2.1]) p.2.2)))
theorem F46_eq : FEq P TC 46 F46 := fun _ _ _ _ => by kernel_rfl
def C48 (call : CallT) (tlo base : Nat) : PieceT (TV × TV × TV × TV × TV × TV × TV × Unit) :=
 (seqT (leafT fun S H k =>
 need (stor S.1) <|
 let t1 := (.ptr (lenG H) 0)
 let H0 := (pushT H (.cells (cellsT S.1)))
 k (z0 (hush S.1) <| z1 t1 <| z2 (tB false) <| z3 (tN 0) <| stN 7 S) H0)
 (seqT (leafT fun S H k =>
 lA tlo base 3 H (g1 S) fun t7 H1 =>
 bindV (callTree call 94 [setV t7] H1) fun t8 =>
 withX (compT (lendV t8) 0) fun c2 =>
 withX (compT (compGone (lendV t8) 0) 1) fun c3 =>
 let t4 := (.ptr (lenG H1) 0)
 let H4 := (pushT H1 (.cells zc104))
 bindV (storeT tlo base 19 H4 t4 c2) fun H5 =>
 k (z4 t4 <| z5 c3 <| stN 7 S) H5)
 (seqT (seqT (leafT fun S H k =>
 bindV (neqT .int (lendV (g5 S)) (tN 0)) fun t12 =>
 k (z5 (keepV (g5 S)) <| z6 t12 <| stN 7 S) H)
 (condT (fun S => some (g6 S))
 (seqT (leafT fun S H k =>
 k (z2 (tB false) <| z3 (g5 S) <| z5 (hush (g5 S)) <| stN 7 S) H)
 (doneT .ret))
 (doneT .normal)))
 (seqT (leafT fun S H k =>
 lA tlo base 19 H (g4 S) fun t14 H6 =>
 bindV (callTree call 128 [setV t14] H6) fun t15 =>
 k (z2 t15 <| z3 (tN 0) <| stN 7 S) H6)
 (doneT .ret)))))
def F48 : FnT := fun call tlo l H => bindV (C48 call tlo (lenG H) (argT l 0, argT l 1, argT l 2, argT l 3, argT l 4, argT l 5, argT l 12, ()) H) fun p => resE p.1 (need (allG resOk [p.2.1.2.2.1, p.2.1.2.2.2.1]) (some (endT (lenG H) (.tup [p.2.1.2.2.1, p.2.1.2.2.2.1]) p.2.2)))
theorem F48_eq : FEq P TC 48 F48 := fun _ _ _ _ => by kernel_rfl
def C52 (call : CallT) (tlo base : Nat) : PieceT (TV × TV × TV × TV × TV × Unit) :=
 (seqT (leafT fun S H k =>
 need (stor S.1) <|
 let t2 := (.ptr (lenG H) 0)
 let H0 := (pushT H (.cells (cellsT S.1)))
 k (z0 (hush S.1) <| z2 t2 <| z3 (tN 0) <| stN 5 S) H0)
 (seqT (leafT fun S H k =>
 lA tlo base 3 H (g2 S) fun t9 H1 =>
 bindV (callTree call 111 [setV t9, setV (lendV (g1 S))] H1) fun t11 =>
 withX (compT (lendV t11) 0) fun c2 =>
 withX (compT (compGone (lendV t11) 0) 1) fun c3 =>
 withX (compT (compGone (compGone (lendV t11) 0) 1) 2) fun c4 =>
 let t5 := (.ptr (lenG H1) 0)
 let H5 := (pushT H1 (.cells zc104))
 bindV (storeT tlo base 19 H5 t5 c2) fun H6 =>
 k (z1 (keepV (g1 S)) <| z4 c4 <| stN 5 S) H6)
 (seqT (leafT fun S H k =>
 k (z3 (g4 S) <| z4 (hush (g4 S)) <| stN 5 S) H)
 (doneT .ret))))
def F52 : FnT := fun call tlo l H => bindV (C52 call tlo (lenG H) (argT l 0, argT l 1, argT l 2, argT l 4, argT l 7, ()) H) fun p => resE p.1 (need (allG resOk [p.2.1.2.2.2.1]) (some (endT (lenG H) p.2.1.2.2.2.1 p.2.2)))
theorem F52_eq : FEq P TC 52 F52 := fun _ _ _ _ => by kernel_rfl
def C54 (call : CallT) (tlo base : Nat) : PieceT (TV × TV × TV × TV × TV × TV × TV × TV × TV × TV × Unit) :=
 (seqT (leafT fun S H k =>
 need (stor S.1) <|
 let t2 := (.ptr (lenG H) 0)
 let H0 := (pushT H (.cells (cellsT S.1)))
 let t4 := (.ptr (lenG H0) 0)
 let H1 := (pushT H0 (.cells zc24))
 k (z0 (hush S.1) <| z2 t2 <| z3 t4 <| stN 10 S) H1)
 (seqT (leafT fun S H k =>
 bindV (shiftT (g2 S) 0) fun t7 =>
 lF tlo base H t7 fun t8 H2 =>
 bindV (b1 (evConv .i64) t8) fun t9 =>
 bindV (b2 evRem t9 (tN 8)) fun t10 =>
 bindV (b2 evAdd (tN 1) t10) fun t11 =>
 bindV (aggT [(0, 1, t11)] zc24) fun t12 =>
 let t5 := (.ptr (lenG H2) 0)
 let H3 := (pushT H2 (.cells zc24))
 bindV (storeT tlo base 3 H3 t5 t12) fun H4 =>
 k (z4 t5 <| stN 10 S) H4)
 (seqT (leafT fun S H k =>
 bindV (shiftT (g2 S) 1) fun t13 =>
 lF tlo base H t13 fun t14 H5 =>
 bindV (b1 (evConv .i64) t14) fun t15 =>
 bindV (shiftT (g4 S) 0) fun t17 =>
 lF tlo base H5 t17 fun t18 H6 =>
 bindV (b2 evQuo (lendV (g1 S)) t18) fun t19 =>
 bindV (b2 (evLesser false) (tN 8) t19) fun c7 =>
 need (isV c7) <|
 bindV (b2 evRem t15 c7) fun t21 =>
 bindV (b2 evAdd (tN 1) t21) fun t22 =>
 bindV (shiftT (g4 S) 1) fun t23 =>
 bindV (storeT tlo base 1 H6 t23 t22) fun H8 =>
 k (z1 (keepV (g1 S)) <| stN 10 S) H8)
 (seqT (seqT (leafT fun S H k =>
 bindV (shiftT (g4 S) 0) fun t24 =>
 lF tlo base H t24 fun t25 H9 =>
 bindV (shiftT (g4 S) 1) fun t26 =>
 lF tlo base H9 t26 fun t27 H10 =>
 bindV (b2 evMul t25 t27) fun t28 =>
 k (z6 t28 <| z7 (tN 0) <| stN 10 S) H10)
 (blockT 0 (loopT (seqT (leafT fun S H k =>
 bindV (b2 evLss (g7 S) (g6 S)) fun t30 =>
 k (z8 t30 <| stN 10 S) H)
 (seqT (condT (fun S => some (g8 S))
 (doneT .normal)
 (doneT (.exit 0)))
 (seqT (blockT 1 (seqT (leafT fun S H k =>
 k (z5 (g7 S) <| z7 (hush (g7 S)) <| stN 10 S) H)
 (seqT (leafT fun S H k =>
 bindV (shiftT (g2 S) 3) fun t32 =>
 lF tlo base H t32 fun t33 H11 =>
 bindV (b2 evShr t33 (lendV (g5 S))) fun t35 =>
 bindV (b2 evAnd t35 (.v (.int .u16 (.ofNat 1)))) fun t36 =>
 bindV (eqlT .int t36 (.v (.int .u16 (.ofNat 1)))) fun t37 =>
 gB t37 true (shiftT (g2 S) 2) H11 fun t39 H12 =>
 guardT (lendV t37) true (lF tlo base H12 t39 fun g13 H13 => pairT g13 H13) H12 fun t40 H14 =>
 gB t37 true (b1 (evConv .i64) t40) H14 fun t41 H15 =>
 gV t37 true (lendV (keepV (g5 S))) H15 fun t42 H16 =>
 gB t37 true (b2 evMul (tN 5) t42) H16 fun t43 H17 =>
 gB t37 true (b2 evAdd t41 t43) H17 fun t44 H18 =>
 gB t37 true (b2 evRem t44 (tN 4)) H18 fun t45 H19 =>
 gB t37 true (eqlT .int t45 (tN 0)) H19 fun t46 H20 =>
 bindV (pickT (lendV t37) (setV t46) (tB false)) fun t47 =>
 k (z5 (keepV (keepV (g5 S))) <| z9 t47 <| stN 10 S) H20)
 (condT (fun S => some (g9 S))
 (leafT fun S H k =>
 bindV (shiftT (g4 S) 2) fun t48 =>
 loadT .take tlo base false 1 H t48 fun t49 H21 =>
 bindV (elemsT 1 [0] [setV (setV (g5 S))] (repG [tN 0] 1)) fun c22 =>
 appendT tlo H21 3 1 8 t49 (.row .full (.own 3) 1 c22) fun t52 H23 =>
 bindV (shiftT (stale (g4 S)) 2) fun t53 =>
 bindV (storeT tlo base 1 H23 t53 t52) fun H24 =>
 k (z5 (setV (g5 S)) <| stN 10 S) H24)
 (doneT .normal)))))
 (leafT fun S H k =>
 bindV (b2 evAdd (g7 S) (tN 1)) fun t54 =>
 k (z7 t54 <| stN 10 S) H)))) fuel)))
 (seqT (leafT fun S H k =>
 sA tlo base 3 H (g4 S) fun t55 H25 =>
 bindV (storeT tlo base 3 H25 (g3 S) t55) fun H26 =>
 k (stN 10 S) H26)
 (doneT .ret))))))
def F54 : FnT := fun call tlo l H => bindV (C54 call tlo (lenG H) (argT l 0, argT l 1, argT l 2, argT l 4, argT l 5, argT l 6, argT l 28, argT l 29, argT l 30, argT l 47, ()) H) fun p => resE p.1 (loadT .take tlo (lenG p.2.2) true 3 p.2.2 p.2.1.2.2.2.1 fun r0 h0 => need (allG resOk [r0]) (some (endT (lenG H) r0 h0)))
theorem F54_eq : FEq P TC 54 F54 := fun _ _ _ _ => by kernel_rfl
def C56 (call : CallT) (tlo base : Nat) : PieceT (TV × TV × TV × TV × TV × TV × TV × TV × TV × Unit) :=
 (seqT (leafT fun S H k =>
 need (stor S.1) <|
 let t1 := (.ptr (lenG H) 0)
 let H0 := (pushT H (.cells (cellsT S.1)))
 k (z0 (hush S.1) <| z1 t1 <| z2 nilT <| stN 9 S) H0)
 (seqT (leafT fun S H k =>
 k (z3 nilT <| stN 9 S) H)
 (seqT (seqT (leafT fun S H k =>
 bindV (shiftT (g1 S) 0) fun t5 =>
 lF tlo base H t5 fun t6 H1 =>
 bindV (shiftT (g1 S) 1) fun t7 =>
 lF tlo base H1 t7 fun t8 H2 =>
 bindV (b2 evMul t6 t8) fun t9 =>
 k (z5 t9 <| z6 (tN 0) <| stN 9 S) H2)
 (blockT 0 (loopT (seqT (leafT fun S H k =>
 bindV (b2 evLss (g6 S) (g5 S)) fun t11 =>
 k (z7 t11 <| stN 9 S) H)
 (seqT (condT (fun S => some (g7 S))
 (doneT .normal)
 (doneT (.exit 0)))
 (seqT (blockT 1 (seqT (leafT fun S H k =>
 k (z4 (g6 S) <| z6 (hush (g6 S)) <| stN 9 S) H)
 (seqT (leafT fun S H k =>
 bindV (shiftT (g1 S) 2) fun t13 =>
 lF tlo base H t13 fun t14 H3 =>
 bindV (callTree call 64 [setV t14, setV (lendV (g4 S))] H3) fun t16 =>
 bindV (b1 evNot t16) fun t17 =>
 k (z4 (keepV (g4 S)) <| z8 t17 <| stN 9 S) H3)
 (condT (fun S => some (g8 S))
 (leafT fun S H k =>
 bindV (elemsT 1 [0] [setV (setV (g4 S))] (repG [tN 0] 1)) fun c4 =>
 appendT tlo H 3 1 8 (g3 S) (.row .full (.own 3) 1 c4) fun t21 H5 =>
 k (z3 t21 <| z4 (setV (g4 S)) <| stN 9 S) H5)
 (doneT .normal)))))
 (leafT fun S H k =>
 bindV (b2 evAdd (g6 S) (tN 1)) fun t22 =>
 k (z6 t22 <| stN 9 S) H)))) fuel)))
 (seqT (leafT fun S H k =>
 k (z2 (g3 S) <| z3 (hush (g3 S)) <| stN 9 S) H)
 (doneT .ret)))))
def F56 : FnT := fun call tlo l H => bindV (C56 call tlo (lenG H) (argT l 0, argT l 1, argT l 2, argT l 3, argT l 4, argT l 9, argT l 10, argT l 11, argT l 17, ()) H) fun p => resE p.1 (need (allG resOk [p.2.1.2.2.1]) (some (endT (lenG H) p.2.1.2.2.1 p.2.2)))
theorem F56_eq : FEq P TC 56 F56 := fun _ _ _ _ => by kernel_rfl
def C59 (call : CallT) (tlo base : Nat) : PieceT (TV × TV × TV × Unit) :=
 (seqT (leafT fun S H k =>
 k (z2 (tB false) <| stN 3 S) H)
 (seqT (leafT fun S H k =>
 callIn call tlo 134 [setV (setV S.1), setV (setV (g1 S))] H fun t7 H0 =>
 bindV (b2 evGeq t7 (tN 0)) fun t8 =>
 k (z0 (setV S.1) <| z1 (setV (g1 S)) <| z2 t8 <| stN 3 S) H0)
 (doneT .ret)))
def F59 : FnT := fun call tlo l H => bindV (C59 call tlo (lenG H) (argT l 0, argT l 1, argT l 4, ()) H) fun p => resE p.1 (need (allG resOk [p.2.1.2.2.1]) (some (endT (lenG H) p.2.1.2.2.1 p.2.2)))
theorem F59_eq : FEq P TC 59 F59 := fun _ _ _ _ => by kernel_rfl
def C62 (call : CallT) (tlo base : Nat) : PieceT (TV × TV × TV × TV × Unit) :=
 (seqT (leafT fun S H k =>
 need (stor (g1 S)) <|
 let t3 := (.ptr (lenG H) 0)
 let H0 := (pushT H (.cells (cellsT (g1 S))))
 k (z1 (hush (g1 S)) <| z2 t3 <| z3 (tB false) <| stN 4 S) H0)
 (seqT (leafT fun S H k =>
 lA tlo base 2 H (g2 S) fun t6 H1 =>
 bindV (callTree call 135 [setV (lendV S.1), setV t6] H1) fun t7 =>
 bindV (b2 evGeq t7 (tN 0)) fun t8 =>
 k (z0 (keepV S.1) <| z3 t8 <| stN 4 S) H1)
 (doneT .ret)))
def F62 : FnT := fun call tlo l H => bindV (C62 call tlo (lenG H) (argT l 0, argT l 1, argT l 3, argT l 4, ()) H) fun p => resE p.1 (need (allG resOk [p.2.1.2.2.2.1]) (some (endT (lenG H) p.2.1.2.2.2.1 p.2.2)))
theorem F62_eq : FEq P TC 62 F62 := fun _ _ _ _ => by kernel_rfl
end
end Go.Proofs.YtgemobbfikjmoaaGreatDoor
namespace Go.Proofs.YtgemobbfikjmoaaGreatDoor
open Go Go.Ev
set_option maxRecDepth 1000000
set_option linter.unusedVariables false
noncomputable section
def C63 (call : CallT) (tlo base : Nat) : PieceT (TV × TV × TV × TV × TV × TV × TV × TV × TV × TV × TV × TV × Unit) :=
 (seqT (leafT fun S H k =>
 need (stor S.1) <|
 let t1 := (.ptr (lenG H) 0)
 let H0 := (pushT H (.cells (cellsT S.1)))
 k (z0 (hush S.1) <| z1 t1 <| z2 nilT <| stN 12 S) H0)
 (seqT (leafT fun S H k =>
 k (z3 nilT <| stN 12 S) H)
 (seqT (leafT fun S H k =>
 lA tlo base 3 H (g1 S) fun t7 H1 =>
 bindV (callTree call 56 [setV t7] H1) fun t8 =>
 k (z4 t8 <| stN 12 S) H1)
 (seqT (seqT (leafT fun S H k =>
 bindV (lenT (setV (g4 S))) fun t10 =>
 k (z4 (setV (g4 S)) <| z6 (setV (g4 S)) <| z7 t10 <| z8 (tN 0) <| stN 12 S) H)
 (blockT 0 (loopT (seqT (leafT fun S H k =>
 bindV (b2 evLss (g8 S) (g7 S)) fun t12 =>
 k (z9 t12 <| stN 12 S) H)
 (seqT (condT (fun S => some (g9 S))
 (doneT .normal)
 (doneT (.exit 0)))
 (seqT (blockT 1 (seqT (leafT fun S H k =>
 bindV (idxSlT 1 (g6 S) (g8 S)) fun t13 =>
 sF tlo base H t13 fun t14 H2 =>
 k (z5 t14 <| stN 12 S) H2)
 (seqT (seqT (leafT fun S H k =>
 bindV (shiftT (g1 S) 0) fun t16 =>
 lF tlo base H t16 fun t17 H3 =>
 bindV (b2 evRem (lendV (g5 S)) t17) fun t18 =>
 bindV (shiftT (g1 S) 0) fun t19 =>
 lF tlo base H3 t19 fun t20 H4 =>
 bindV (b2 evSub t20 (tN 1)) fun t21 =>
 bindV (b2 evLss t18 t21) fun t22 =>
 gV t22 true (lendV (g4 S)) H4 fun t24 H5 =>
 gV t22 true (lendV (keepV (g5 S))) H5 fun t25 H6 =>
 gB t22 true (b2 evAdd t25 (tN 1)) H6 fun t26 H7 =>
 gB t22 true (callTree call 64 [setV t24, setV t26] H7) H7 fun t27 H8 =>
 bindV (pickT (lendV t22) (setV t27) (tB false)) fun t28 =>
 k (z4 (keepV (g4 S)) <| z5 (keepV (keepV (g5 S))) <| z10 t28 <| stN 12 S) H8)
 (condT (fun S => some (g10 S))
 (leafT fun S H k =>
 bindV (b2 evAdd (lendV (setV (g5 S))) (tN 1)) fun t32 =>
 bindV (aggT [(0, 1, (setV (g5 S))), (1, 1, t32)] zc71) fun t33 =>
 bindV (elemsT 2 [0] [setV t33] (repG [.agg zc71] 1)) fun c9 =>
 appendT tlo H 71 2 16 (g3 S) (.row .full (.own 71) 2 c9) fun t35 H10 =>
 k (z3 t35 <| z5 (keepV (setV (g5 S))) <| stN 12 S) H10)
 (doneT .normal)))
 (seqT (leafT fun S H k =>
 bindV (shiftT (g1 S) 0) fun t38 =>
 lF tlo base H t38 fun t39 H11 =>
 bindV (b2 evAdd (lendV (g5 S)) t39) fun t40 =>
 bindV (callTree call 64 [setV (lendV (g4 S)), setV t40] H11) fun t41 =>
 k (z4 (keepV (g4 S)) <| z5 (keepV (g5 S)) <| z11 t41 <| stN 12 S) H11)
 (condT (fun S => some (g11 S))
 (leafT fun S H k =>
 bindV (shiftT (g1 S) 0) fun t45 =>
 lF tlo base H t45 fun t46 H12 =>
 bindV (b2 evAdd (lendV (setV (g5 S))) t46) fun t47 =>
 bindV (aggT [(0, 1, (setV (g5 S))), (1, 1, t47)] zc71) fun t48 =>
 bindV (elemsT 2 [0] [setV t48] (repG [.agg zc71] 1)) fun c13 =>
 appendT tlo H12 71 2 16 (g3 S) (.row .full (.own 71) 2 c13) fun t50 H14 =>
 k (z3 t50 <| z5 (keepV (setV (g5 S))) <| stN 12 S) H14)
 (doneT .normal))))))
 (leafT fun S H k =>
 bindV (b2 evAdd (g8 S) (tN 1)) fun t51 =>
 k (z8 t51 <| stN 12 S) H)))) fuel)))
 (seqT (leafT fun S H k =>
 thawB 2 true (g3 S) H fun c15 H15 =>
 thawB 2 true c15 H15 fun c16 H16 =>
 callIn call tlo 136 [c16] H16 fun t53 H17 =>
 k (z2 t53 <| z3 c15 <| stN 12 S) H17)
 (doneT .ret))))))
def F63 : FnT := fun call tlo l H => bindV (C63 call tlo (lenG H) (argT l 0, argT l 1, argT l 2, argT l 3, argT l 4, argT l 6, argT l 9, argT l 10, argT l 11, argT l 12, argT l 28, argT l 41, ()) H) fun p => resE p.1 (need (allG resOk [p.2.1.2.2.1]) (some (endT (lenG H) p.2.1.2.2.1 p.2.2)))
theorem F63_eq : FEq P TC 63 F63 := fun _ _ _ _ => by kernel_rfl
def C64 (call : CallT) (tlo base : Nat) : PieceT (TV × TV × TV × Unit) :=
 (seqT (leafT fun S H k =>
 k (z2 (tB false) <| stN 3 S) H)
 (seqT (leafT fun S H k =>
 bindV (callTree call 137 [setV (lendV S.1), setV (lendV (g1 S))] H) fun t7 =>
 bindV (b2 evGeq t7 (tN 0)) fun t8 =>
 k (z0 (keepV S.1) <| z1 (keepV (g1 S)) <| z2 t8 <| stN 3 S) H)
 (doneT .ret)))
def F64 : FnT := fun call tlo l H => bindV (C64 call tlo (lenG H) (argT l 0, argT l 1, argT l 4, ()) H) fun p => resE p.1 (need (allG resOk [p.2.1.2.2.1]) (some (endT (lenG H) p.2.1.2.2.1 p.2.2)))
theorem F64_eq : FEq P TC 64 F64 := fun _ _ _ _ => by kernel_rfl
def C65 (call : CallT) (tlo base : Nat) : PieceT (TV × TV × TV × Unit) :=
 (seqT (leafT fun S H k =>
 k (z2 (tB false) <| stN 3 S) H)
 (seqT (leafT fun S H k =>
 callIn call tlo 138 [setV (setV S.1), setV (setV (g1 S))] H fun t7 H0 =>
 bindV (b2 evGeq t7 (tN 0)) fun t8 =>
 k (z0 (setV S.1) <| z1 (setV (g1 S)) <| z2 t8 <| stN 3 S) H0)
 (doneT .ret)))
def F65 : FnT := fun call tlo l H => bindV (C65 call tlo (lenG H) (argT l 0, argT l 1, argT l 4, ()) H) fun p => resE p.1 (need (allG resOk [p.2.1.2.2.1]) (some (endT (lenG H) p.2.1.2.2.1 p.2.2)))
theorem F65_eq : FEq P TC 65 F65 := fun _ _ _ _ => by kernel_rfl
def C78 (call : CallT) (tlo base : Nat) : PieceT (TV × TV × TV × TV × TV × TV × TV × TV × TV × TV × TV × TV × TV × TV × Unit) :=
 (seqT (leafT fun S H k =>
 k (z2 (tN 0) <| stN 14 S) H)
 (seqT (seqT (leafT fun S H k =>
 bindV (lenT (setV S.1)) fun t10 =>
 k (z0 (setV S.1) <| z7 (setV S.1) <| z8 t10 <| z9 (tN 0) <| stN 14 S) H)
 (blockT 0 (loopT (seqT (leafT fun S H k =>
 bindV (b2 evLss (g9 S) (g8 S)) fun t12 =>
 k (z10 t12 <| stN 14 S) H)
 (seqT (condT (fun S => some (g10 S))
 (doneT .normal)
 (doneT (.exit 0)))
 (seqT (blockT 1 (seqT (leafT fun S H k =>
 bindV (idxSlT 1 (g7 S) (hush (g9 S))) fun t14 =>
 sF tlo base H t14 fun t15 H0 =>
 k (z3 (g9 S) <| z4 t15 <| z9 (hush (g9 S)) <| stN 14 S) H0)
 (seqT (seqT (leafT fun S H k =>
 bindV (lenT (lendV (g1 S))) fun t18 =>
 bindV (b2 evGeq (lendV (g3 S)) t18) fun t19 =>
 k (z1 (keepV (g1 S)) <| z3 (keepV (g3 S)) <| z11 t19 <| stN 14 S) H)
 (condT (fun S => some (g11 S))
 (seqT (leafT fun S H k =>
 k (z2 (tN 1) <| stN 14 S) H)
 (doneT .ret))
 (doneT .normal)))
 (seqT (leafT fun S H k =>
 bindV (idxSlT 1 (lendV (g1 S)) (lendV (g3 S))) fun t22 =>
 sF tlo base H t22 fun t23 H1 =>
 k (z1 (keepV (g1 S)) <| z3 (keepV (g3 S)) <| z5 t23 <| stN 14 S) H1)
 (seqT (leafT fun S H k =>
 bindV (callTree call 147 [setV (lendV (g4 S)), setV (lendV (g5 S))] H) fun t26 =>
 k (z4 (keepV (g4 S)) <| z5 (keepV (g5 S)) <| z6 t26 <| stN 14 S) H)
 (seqT (leafT fun S H k =>
 bindV (neqT .int (lendV (g6 S)) (tN 0)) fun t28 =>
 k (z6 (keepV (g6 S)) <| z12 t28 <| stN 14 S) H)
 (condT (fun S => some (g12 S))
 (seqT (leafT fun S H k =>
 k (z2 (g6 S) <| z6 (hush (g6 S)) <| stN 14 S) H)
 (doneT .ret))
 (doneT .normal))))))))
 (leafT fun S H k =>
 bindV (b2 evAdd (g9 S) (tN 1)) fun t30 =>
 k (z9 t30 <| stN 14 S) H)))) fuel)))
 (seqT (seqT (leafT fun S H k =>
 bindV (lenT (lendV S.1)) fun t32 =>
 bindV (lenT (lendV (g1 S))) fun t34 =>
 bindV (b2 evLss t32 t34) fun t35 =>
 k (z0 (keepV S.1) <| z1 (keepV (g1 S)) <| z13 t35 <| stN 14 S) H)
 (condT (fun S => some (g13 S))
 (seqT (leafT fun S H k =>
 k (z2 (.v (.int .i64 (.negSucc 0))) <| stN 14 S) H)
 (doneT .ret))
 (doneT .normal)))
 (seqT (leafT fun S H k =>
 k (z2 (tN 0) <| stN 14 S) H)
 (doneT .ret)))))
def F78 : FnT := fun call tlo l H => bindV (C78 call tlo (lenG H) (argT l 0, argT l 1, argT l 4, argT l 5, argT l 6, argT l 7, argT l 8, argT l 9, argT l 10, argT l 11, argT l 12, argT l 19, argT l 28, argT l 35, ()) H) fun p => resE p.1 (need (allG resOk [p.2.1.2.2.1]) (some (endT (lenG H) p.2.1.2.2.1 p.2.2)))
theorem F78_eq : FEq P TC 78 F78 := fun _ _ _ _ => by kernel_rfl
def C79 (call : CallT) (tlo base : Nat) : PieceT (TV × TV × TV × TV × TV × Unit) :=
 (seqT (leafT fun S H k =>
 need (stor S.1) <|
 let t2 := (.ptr (lenG H) 0)
 let H0 := (pushT H (.cells (cellsT S.1)))
 need (stor (g1 S)) <|
 let t3 := (.ptr (lenG H0) 0)
 let H1 := (pushT H0 (.cells (cellsT (g1 S))))
 k (z0 (hush S.1) <| z1 (hush (g1 S)) <| z2 t2 <| z3 t3 <| z4 (tB false) <| stN 5 S) H1)
 (seqT (leafT fun S H k =>
 lA tlo base 3 H (g2 S) fun t5 H2 =>
 bindV (callTree call 63 [setV t5] H2) fun t6 =>
 need (allG pass [setV (g3 S)]) <|
 callIn call tlo 59 [setV t6, .fn (.func 148) [] [setV (g3 S)]] H2 fun t8 H3 =>
 bindV (b1 evNot t8) fun t9 =>
 k (z3 (setV (g3 S)) <| z4 t9 <| stN 5 S) H3)
 (doneT .ret)))
def F79 : FnT := fun call tlo l H => bindV (C79 call tlo (lenG H) (argT l 0, argT l 1, argT l 2, argT l 3, argT l 4, ()) H) fun p => resE p.1 (need (allG resOk [p.2.1.2.2.2.2.1]) (some (endT (lenG H) p.2.1.2.2.2.2.1 p.2.2)))
theorem F79_eq : FEq P TC 79 F79 := fun _ _ _ _ => by kernel_rfl
def C80 (call : CallT) (tlo base : Nat) : PieceT (TV × TV × TV × Unit) :=
 (seqT (leafT fun S H k =>
 k (z2 (tB false) <| stN 3 S) H)
 (seqT (leafT fun S H k =>
 bindV (shiftT (g1 S) 2) fun t4 =>
 lF tlo base H t4 fun t5 H0 =>
 bindV (callTree call 64 [setV t5, setV (lendV S.1)] H0) fun t7 =>
 k (z0 (keepV S.1) <| z2 t7 <| stN 3 S) H0)
 (doneT .ret)))
def F80 : FnT := fun call tlo l H => bindV (C80 call tlo (lenG H) (argT l 0, argT l 1, argT l 3, ()) H) fun p => resE p.1 (need (allG resOk [p.2.1.2.2.1]) (some (endT (lenG H) p.2.1.2.2.1 p.2.2)))
theorem F80_eq : FEq P TC 80 F80 := fun _ _ _ _ => by kernel_rfl
def C81 (call : CallT) (tlo base : Nat) : PieceT (TV × TV × TV × TV × Unit) :=
 (seqT (leafT fun S H k =>
 bindV (lenT (lendV S.1)) fun t5 =>
 bindV (b2 evSub t5 (tN 1)) fun t6 =>
 k (z0 (keepV S.1) <| z1 (tN 0) <| z2 t6 <| stN 4 S) H)
 (blockT 0 (loopT (seqT (seqT (leafT fun S H k =>
 bindV (b2 evLss (lendV (g1 S)) (lendV (g2 S))) fun t9 =>
 k (z1 (keepV (g1 S)) <| z2 (keepV (g2 S)) <| z3 t9 <| stN 4 S) H)
 (condT (fun S => some (g3 S))
 (doneT .normal)
 (doneT (.exit 0))))
 (seqT (blockT 1 (leafT fun S H k =>
 thawB 2 true S.1 H fun c0 H0 =>
 thawB 2 true (stale c0) H0 fun c1 H1 =>
 bindV (idxSlT 2 (lendV (stale c1)) (lendV (keepV (stale (g2 S))))) fun t20 =>
 sA tlo base 2 H1 t20 fun t21 H2 =>
 bindV (idxSlT 2 (lendV (keepV (stale c1))) (lendV (stale (keepV (stale (g1 S)))))) fun t24 =>
 sA tlo base 2 H2 t24 fun t25 H3 =>
 thawB 2 true (stale c0) H3 fun c4 H4 =>
 bindV (idxSlT 2 c4 (stale (lendV (stale (g1 S))))) fun t26 =>
 bindV (storeT tlo base 2 H4 t26 (stale t21)) fun H5 =>
 thawB 2 true (stale c1) H5 fun c6 H6 =>
 bindV (idxSlT 2 c6 (stale (lendV (stale (g2 S))))) fun t27 =>
 bindV (storeT tlo base 2 H6 t27 (stale t25)) fun H7 =>
 k (z0 (keepV (keepV (stale c1))) <| z1 (keepV (stale (keepV (stale (g1 S))))) <| z2 (keepV (keepV (stale (g2 S)))) <| stN 4 S) H7))
 (leafT fun S H k =>
 bindV (b2 evAdd (lendV (g1 S)) (tN 1)) fun t11 =>
 bindV (b2 evSub (lendV (g2 S)) (tN 1)) fun t13 =>
 k (z1 t11 <| z2 t13 <| stN 4 S) H))) fuel)))
def F81 : FnT := fun call tlo l H => bindV (C81 call tlo (lenG H) (argT l 0, argT l 2, argT l 3, argT l 9, ()) H) fun p => resE p.1 (need (allG resOk []) (some (endT (lenG H) (.tup []) p.2.2)))
theorem F81_eq : FEq P TC 81 F81 := fun _ _ _ _ => by kernel_rfl
def C85 (call : CallT) (tlo base : Nat) : PieceT (TV × TV × TV × Unit) :=
 (seqT (leafT fun S H k =>
 bindV (lenT (lendV S.1)) fun t6 =>
 k (z0 (keepV S.1) <| z2 t6 <| stN 3 S) H)
 (leafT fun S H k =>
 thawB 2 true S.1 H fun c0 H0 =>
 bindV (b1 (evConv .u64) (lendV (setV (stale (g2 S))))) fun t10 =>
 bindV (callTree call 150 [setV t10] H0) fun t11 =>
 thawB 2 true c0 H0 fun c1 H1 =>
 callIn call tlo 151 [c1, tN 0, setV (setV (stale (g2 S))), setV t11, setV (setV (stale (g1 S)))] H1 fun t13 H2 =>
 k (z0 c0 <| z1 (setV (stale (g1 S))) <| z2 (keepV (setV (stale (g2 S)))) <| stN 3 S) H2))
def F85 : FnT := fun call tlo l H => bindV (C85 call tlo (lenG H) (argT l 0, argT l 1, argT l 4, ()) H) fun p => resE p.1 (need (allG resOk []) (some (endT (lenG H) (.tup []) p.2.2)))
theorem F85_eq : FEq P TC 85 F85 := fun _ _ _ _ => by kernel_rfl
def C87 (call : CallT) (tlo base : Nat) : PieceT (TV × Unit) :=
 (seqT (leafT fun S H k =>
 let t0 := (.ptr (lenG H) 0)
 let H0 := (pushT H (.cells zc24))
 k (z0 t0 <| stN 1 S) H0)
 (seqT (leafT fun S H k =>
 bindV (elemsT 1 [0] [tN 3] (repG [tN 0] 1)) fun c1 =>
 bindV (callTree call 91 [tN 2, tN 2, setV (.row .full (.own 3) 1 c1)] H) fun t2 =>
 bindV (storeT tlo base 3 H S.1 t2) fun H2 =>
 k (stN 1 S) H2)
 (doneT .ret)))
def F87 : FnT := fun call tlo l H => bindV (C87 call tlo (lenG H) (argT l 0, ()) H) fun p => resE p.1 (loadT .take tlo (lenG p.2.2) true 3 p.2.2 p.2.1.1 fun r0 h0 => need (allG resOk [r0]) (some (endT (lenG H) r0 h0)))
theorem F87_eq : FEq P TC 87 F87 := fun _ _ _ _ => by kernel_rfl
def C88 (call : CallT) (tlo base : Nat) : PieceT (TV × Unit) :=
 (seqT (leafT fun S H k =>
 let t0 := (.ptr (lenG H) 0)
 let H0 := (pushT H (.cells zc24))
 k (z0 t0 <| stN 1 S) H0)
 (seqT (leafT fun S H k =>
 bindV (callTree call 91 [tN 2, tN 2, nilT] H) fun t1 =>
 bindV (storeT tlo base 3 H S.1 t1) fun H1 =>
 k (stN 1 S) H1)
 (doneT .ret)))
def F88 : FnT := fun call tlo l H => bindV (C88 call tlo (lenG H) (argT l 0, ()) H) fun p => resE p.1 (loadT .take tlo (lenG p.2.2) true 3 p.2.2 p.2.1.1 fun r0 h0 => need (allG resOk [r0]) (some (endT (lenG H) r0 h0)))
theorem F88_eq : FEq P TC 88 F88 := fun _ _ _ _ => by kernel_rfl
def C89 (call : CallT) (tlo base : Nat) : PieceT (TV × Unit) :=
 (seqT (leafT fun S H k =>
 let t0 := (.ptr (lenG H) 0)
 let H0 := (pushT H (.cells zc24))
 k (z0 t0 <| stN 1 S) H0)
 (seqT (leafT fun S H k =>
 bindV (elemsT 1 [0] [tN 4] (repG [tN 0] 1)) fun c1 =>
 bindV (callTree call 91 [tN 3, tN 3, setV (.row .full (.own 3) 1 c1)] H) fun t2 =>
 bindV (storeT tlo base 3 H S.1 t2) fun H2 =>
 k (stN 1 S) H2)
 (doneT .ret)))
def F89 : FnT := fun call tlo l H => bindV (C89 call tlo (lenG H) (argT l 0, ()) H) fun p => resE p.1 (loadT .take tlo (lenG p.2.2) true 3 p.2.2 p.2.1.1 fun r0 h0 => need (allG resOk [r0]) (some (endT (lenG H) r0 h0)))
theorem F89_eq : FEq P TC 89 F89 := fun _ _ _ _ => by kernel_rfl
def C90 (call : CallT) (tlo base : Nat) : PieceT (TV × Unit) :=
 (seqT (leafT fun S H k =>
 let t0 := (.ptr (lenG H) 0)
 let H0 := (pushT H (.cells zc24))
 k (z0 t0 <| stN 1 S) H0)
 (seqT (leafT fun S H k =>
 bindV (callTree call 91 [tN 3, tN 1, nilT] H) fun t1 =>
 bindV (storeT tlo base 3 H S.1 t1) fun H1 =>
 k (stN 1 S) H1)
 (doneT .ret)))
def F90 : FnT := fun call tlo l H => bindV (C90 call tlo (lenG H) (argT l 0, ()) H) fun p => resE p.1 (loadT .take tlo (lenG p.2.2) true 3 p.2.2 p.2.1.1 fun r0 h0 => need (allG resOk [r0]) (some (endT (lenG H) r0 h0)))
theorem F90_eq : FEq P TC 90 F90 := fun _ _ _ _ => by kernel_rfl
def C91 (call : CallT) (tlo base : Nat) : PieceT (TV × TV × TV × TV × Unit) :=
 (seqT (leafT fun S H k =>
 let t6 := (.ptr (lenG H) 0)
 let H0 := (pushT H (.cells zc24))
 k (z3 t6 <| stN 4 S) H0)
 (seqT (leafT fun S H k =>
 bindV (aggT [(0, 1, (setV S.1)), (1, 1, (setV (g1 S))), (2, 1, (setV (g2 S)))] zc24) fun t10 =>
 bindV (storeT tlo base 3 H (g3 S) t10) fun H1 =>
 k (z0 (setV S.1) <| z1 (setV (g1 S)) <| z2 (setV (g2 S)) <| stN 4 S) H1)
 (doneT .ret)))
def F91 : FnT := fun call tlo l H => bindV (C91 call tlo (lenG H) (argT l 0, argT l 1, argT l 2, argT l 6, ()) H) fun p => resE p.1 (loadT .take tlo (lenG p.2.2) true 3 p.2.2 p.2.1.2.2.2.1 fun r0 h0 => need (allG resOk [r0]) (some (endT (lenG H) r0 h0)))
theorem F91_eq : FEq P TC 91 F91 := fun _ _ _ _ => by kernel_rfl
def C92 (call : CallT) (tlo base : Nat) : PieceT (TV × TV × TV × TV × TV × Unit) :=
 (seqT (leafT fun S H k =>
 k (z1 nilT <| stN 5 S) H)
 (seqT (leafT fun S H k =>
 k (z2 nilT <| stN 5 S) H)
 (seqT (seqT (leafT fun S H k =>
 k (z3 (tN 0) <| stN 5 S) H)
 (blockT 0 (loopT (seqT (seqT (leafT fun S H k =>
 bindV (b2 evAdd (lendV (g3 S)) (tN 1)) fun t6 =>
 bindV (lenT (lendV S.1)) fun t8 =>
 bindV (b2 evLss t6 t8) fun t9 =>
 k (z0 (keepV S.1) <| z3 (keepV (g3 S)) <| z4 t9 <| stN 5 S) H)
 (condT (fun S => some (g4 S))
 (doneT .normal)
 (doneT (.exit 0))))
 (seqT (blockT 1 (leafT fun S H k =>
 bindV (idxSlT 1 (lendV S.1) (lendV (g3 S))) fun t15 =>
 sF tlo base H t15 fun t16 H0 =>
 bindV (b2 evAdd (lendV (keepV (g3 S))) (tN 1)) fun t19 =>
 bindV (idxSlT 1 (lendV (keepV S.1)) t19) fun t20 =>
 sF tlo base H0 t20 fun t21 H1 =>
 bindV (aggT [(0, 1, t16), (1, 1, t21)] zc71) fun t22 =>
 bindV (elemsT 2 [0] [setV t22] (repG [.agg zc71] 1)) fun c2 =>
 appendT tlo H1 71 2 16 (g2 S) (.row .full (.own 71) 2 c2) fun t24 H3 =>
 k (z0 (keepV (keepV S.1)) <| z2 t24 <| z3 (keepV (keepV (g3 S))) <| stN 5 S) H3))
 (leafT fun S H k =>
 bindV (b2 evAdd (lendV (g3 S)) (tN 2)) fun t11 =>
 k (z3 t11 <| stN 5 S) H))) fuel)))
 (seqT (leafT fun S H k =>
 k (z1 (g2 S) <| z2 (hush (g2 S)) <| stN 5 S) H)
 (doneT .ret)))))
def F92 : FnT := fun call tlo l H => bindV (C92 call tlo (lenG H) (argT l 0, argT l 2, argT l 3, argT l 4, argT l 9, ()) H) fun p => resE p.1 (need (allG resOk [p.2.1.2.1]) (some (endT (lenG H) p.2.1.2.1 p.2.2)))
theorem F92_eq : FEq P TC 92 F92 := fun _ _ _ _ => by kernel_rfl
def C93 (call : CallT) (tlo base : Nat) : PieceT (TV × TV × Unit) :=
 (seqT (leafT fun S H k =>
 k (z1 nilT <| stN 2 S) H)
 (seqT (leafT fun S H k =>
 k (z0 (hush S.1) <| z1 S.1 <| stN 2 S) H)
 (doneT .ret)))
def F93 : FnT := fun call tlo l H => bindV (C93 call tlo (lenG H) (argT l 0, argT l 2, ()) H) fun p => resE p.1 (need (allG resOk [p.2.1.2.1]) (some (endT (lenG H) p.2.1.2.1 p.2.2)))
theorem F93_eq : FEq P TC 93 F93 := fun _ _ _ _ => by kernel_rfl
def C94 (call : CallT) (tlo base : Nat) : PieceT (TV × TV × TV × TV × TV × TV × TV × TV × TV × TV × TV × TV × TV × TV × TV × TV × TV × TV × TV × TV × TV × TV × Unit) :=
 (seqT (leafT fun S H k =>
 need (stor S.1) <|
 let t1 := (.ptr (lenG H) 0)
 let H0 := (pushT H (.cells (cellsT S.1)))
 let t2 := (.ptr (lenG H0) 0)
 let H1 := (pushT H0 (.cells zc104))
 k (z0 (hush S.1) <| z1 t1 <| z2 t2 <| z3 (tN 0) <| stN 22 S) H1)
 (seqT (blockT 0 (seqT (leafT fun S H k =>
 bindV (shiftT (g1 S) 0) fun t11 =>
 lF tlo base H t11 fun t12 H2 =>
 bindV (b2 evLss t12 (tN 1)) fun t13 =>
 gB t13 false (shiftT (g1 S) 0) H2 fun t15 H3 =>
 guardT (lendV t13) false (lF tlo base H3 t15 fun g4 H4 => pairT g4 H4) H3 fun t16 H5 =>
 gB t13 false (b2 evGtr t16 (tN 8)) H5 fun t17 H6 =>
 bindV (pickT (lendV t13) (tB true) (setV t17)) fun t18 =>
 gB t18 false (shiftT (g1 S) 1) H6 fun t20 H7 =>
 guardT (lendV t18) false (lF tlo base H7 t20 fun g8 H8 => pairT g8 H8) H7 fun t21 H9 =>
 gB t18 false (b2 evLss t21 (tN 1)) H9 fun t22 H10 =>
 bindV (pickT (lendV t18) (tB true) (setV t22)) fun t23 =>
 gB t23 false (shiftT (g1 S) 1) H10 fun t25 H11 =>
 guardT (lendV t23) false (lF tlo base H11 t25 fun g12 H12 => pairT g12 H12) H11 fun t26 H13 =>
 gB t23 false (b2 evGtr t26 (tN 8)) H13 fun t27 H14 =>
 bindV (pickT (lendV t23) (tB true) (setV t27)) fun t28 =>
 k (z9 t28 <| stN 22 S) H14)
 (condT (fun S => some (g9 S))
 (seqT (leafT fun S H k =>
 bindV (aggT [] zc104) fun t29 =>
 bindV (storeT tlo base 19 H (g2 S) t29) fun H15 =>
 k (z3 (tN 1) <| stN 22 S) H15)
 (doneT .ret))
 (seqT (leafT fun S H k =>
 bindV (shiftT (g1 S) 0) fun t31 =>
 lF tlo base H t31 fun t32 H16 =>
 bindV (shiftT (g1 S) 1) fun t33 =>
 lF tlo base H16 t33 fun t34 H17 =>
 bindV (b2 evMul t32 t34) fun t35 =>
 bindV (b2 evGtr t35 (tN 16)) fun t36 =>
 k (z10 t36 <| stN 22 S) H17)
 (condT (fun S => some (g10 S))
 (seqT (leafT fun S H k =>
 bindV (aggT [] zc104) fun t37 =>
 bindV (storeT tlo base 19 H (g2 S) t37) fun H18 =>
 k (z3 (tN 3) <| stN 22 S) H18)
 (doneT .ret))
 (doneT .normal))))))
 (seqT (leafT fun S H k =>
 bindV (shiftT (g1 S) 0) fun t38 =>
 lF tlo base H t38 fun t39 H19 =>
 bindV (shiftT (g1 S) 1) fun t40 =>
 lF tlo base H19 t40 fun t41 H20 =>
 bindV (b2 evMul t39 t41) fun t42 =>
 k (z4 t42 <| stN 22 S) H20)
 (seqT (leafT fun S H k =>
 bindV (shiftT (g1 S) 0) fun t43 =>
 sF tlo base H t43 fun t44 H21 =>
 bindV (shiftT (g1 S) 1) fun t45 =>
 sF tlo base H21 t45 fun t46 H22 =>
 bindV (b2 evShl (.v (.int .u64 (.ofNat 1))) (lendV (g4 S))) fun t48 =>
 bindV (b2 evSub t48 (.v (.int .u64 (.ofNat 1)))) fun t49 =>
 bindV (aggT [(0, 1, t44), (1, 1, t46), (2, 1, t49)] zc104) fun t50 =>
 let t5 := (.ptr (lenG H22) 0)
 let H23 := (pushT H22 (.cells zc104))
 bindV (storeT tlo base 19 H23 t5 t50) fun H24 =>
 k (z4 (keepV (g4 S)) <| z5 t5 <| stN 22 S) H24)
 (seqT (leafT fun S H k =>
 k (z6 (.v (.int .i64 (.negSucc 0))) <| stN 22 S) H)
 (seqT (seqT (leafT fun S H k =>
 bindV (shiftT (g1 S) 2) fun t51 =>
 sF tlo base H t51 fun t52 H25 =>
 bindV (lenT t52) fun t53 =>
 k (z11 t52 <| z12 t53 <| z13 (tN 0) <| stN 22 S) H25)
 (blockT 1 (loopT (seqT (leafT fun S H k =>
 bindV (b2 evLss (g13 S) (g12 S)) fun t55 =>
 k (z14 t55 <| stN 22 S) H)
 (seqT (condT (fun S => some (g14 S))
 (doneT .normal)
 (doneT (.exit 1)))
 (seqT (blockT 2 (seqT (leafT fun S H k =>
 bindV (idxSlT 1 (g11 S) (g13 S)) fun t56 =>
 sF tlo base H t56 fun t57 H26 =>
 k (z7 t57 <| stN 22 S) H26)
 (seqT (blockT 3 (seqT (leafT fun S H k =>
 bindV (b2 evLss (lendV (g7 S)) (tN 0)) fun t60 =>
 gV t60 false (lendV (keepV (g7 S))) H fun t62 H27 =>
 gV t60 false (lendV (g4 S)) H27 fun t63 H28 =>
 gB t60 false (b2 evGeq t62 t63) H28 fun t64 H29 =>
 bindV (pickT (lendV t60) (tB true) (setV t64)) fun t65 =>
 k (z4 (keepV (g4 S)) <| z7 (keepV (keepV (g7 S))) <| z15 t65 <| stN 22 S) H29)
 (condT (fun S => some (g15 S))
 (seqT (leafT fun S H k =>
 bindV (aggT [] zc104) fun t66 =>
 bindV (storeT tlo base 19 H (g2 S) t66) fun H30 =>
 k (z3 (tN 2) <| stN 22 S) H30)
 (doneT .ret))
 (seqT (leafT fun S H k =>
 bindV (b2 evLeq (lendV (g7 S)) (lendV (g6 S))) fun t70 =>
 k (z6 (keepV (g6 S)) <| z7 (keepV (g7 S)) <| z16 t70 <| stN 22 S) H)
 (condT (fun S => some (g16 S))
 (seqT (leafT fun S H k =>
 bindV (aggT [] zc104) fun t71 =>
 bindV (storeT tlo base 19 H (g2 S) t71) fun H31 =>
 k (z3 (tN 7) <| stN 22 S) H31)
 (doneT .ret))
 (doneT .normal))))))
 (seqT (leafT fun S H k =>
 bindV (shiftT (g5 S) 2) fun t72 =>
 lF tlo base H t72 fun t73 H32 =>
 bindV (b2 evShl (.v (.int .u64 (.ofNat 1))) (lendV (g7 S))) fun t75 =>
 bindV (b2 evAndNot t73 t75) fun t76 =>
 bindV (shiftT (g5 S) 2) fun t77 =>
 bindV (storeT tlo base 1 H32 t77 t76) fun H33 =>
 k (z7 (keepV (g7 S)) <| stN 22 S) H33)
 (leafT fun S H k =>
 k (z6 (g7 S) <| z7 (hush (g7 S)) <| stN 22 S) H)))))
 (leafT fun S H k =>
 bindV (b2 evAdd (g13 S) (tN 1)) fun t79 =>
 k (z13 t79 <| stN 22 S) H)))) fuel)))
 (seqT (seqT (leafT fun S H k =>
 k (z4 (setV (g4 S)) <| z17 (setV (g4 S)) <| z18 (tN 0) <| stN 22 S) H)
 (blockT 4 (loopT (seqT (leafT fun S H k =>
 bindV (b2 evLss (g18 S) (g17 S)) fun t82 =>
 k (z19 t82 <| stN 22 S) H)
 (seqT (condT (fun S => some (g19 S))
 (doneT .normal)
 (doneT (.exit 4)))
 (seqT (blockT 5 (seqT (leafT fun S H k =>
 k (z8 (g18 S) <| z18 (hush (g18 S)) <| stN 22 S) H)
 (seqT (seqT (leafT fun S H k =>
 bindV (shiftT (g1 S) 0) fun t85 =>
 lF tlo base H t85 fun t86 H34 =>
 bindV (b2 evRem (lendV (g8 S)) t86) fun t87 =>
 bindV (b2 evGtr t87 (tN 0)) fun t88 =>
 k (z8 (keepV (g8 S)) <| z20 t88 <| stN 22 S) H34)
 (condT (fun S => some (g20 S))
 (leafT fun S H k =>
 bindV (b2 evSub (lendV (g8 S)) (tN 1)) fun t90 =>
 callIn call tlo 152 [setV (g5 S), setV t90, setV (setV (keepV (g8 S)))] H fun t92 H35 =>
 k (z5 (setV (g5 S)) <| z8 (setV (keepV (g8 S))) <| stN 22 S) H35)
 (doneT .normal)))
 (seqT (leafT fun S H k =>
 bindV (shiftT (g1 S) 0) fun t94 =>
 lF tlo base H t94 fun t95 H36 =>
 bindV (b2 evGeq (lendV (g8 S)) t95) fun t96 =>
 k (z8 (keepV (g8 S)) <| z21 t96 <| stN 22 S) H36)
 (condT (fun S => some (g21 S))
 (leafT fun S H k =>
 bindV (shiftT (g1 S) 0) fun t98 =>
 lF tlo base H t98 fun t99 H37 =>
 bindV (b2 evSub (lendV (g8 S)) t99) fun t100 =>
 callIn call tlo 152 [setV (g5 S), setV t100, setV (setV (keepV (g8 S)))] H37 fun t102 H38 =>
 k (z5 (setV (g5 S)) <| z8 (setV (keepV (g8 S))) <| stN 22 S) H38)
 (doneT .normal))))))
 (leafT fun S H k =>
 bindV (b2 evAdd (g18 S) (tN 1)) fun t103 =>
 k (z18 t103 <| stN 22 S) H)))) fuel)))
 (seqT (leafT fun S H k =>
 sA tlo base 19 H (g5 S) fun t104 H39 =>
 bindV (storeT tlo base 19 H39 (g2 S) t104) fun H40 =>
 k (z3 (tN 0) <| stN 22 S) H40)
 (doneT .ret)))))))))
def F94 : FnT := fun call tlo l H => bindV (C94 call tlo (lenG H) (argT l 0, argT l 1, argT l 2, argT l 3, argT l 4, argT l 5, argT l 6, argT l 8, argT l 9, argT l 10, argT l 30, argT l 52, argT l 53, argT l 54, argT l 55, argT l 58, argT l 67, argT l 80, argT l 81, argT l 82, argT l 88, argT l 96, ()) H) fun p => resE p.1 (loadT .take tlo (lenG p.2.2) true 19 p.2.2 p.2.1.2.2.1 fun r0 h0 => need (allG resOk [r0, p.2.1.2.2.2.1]) (some (endT (lenG H) (.tup [r0, p.2.1.2.2.2.1]) h0)))
theorem F94_eq : FEq P TC 94 F94 := fun _ _ _ _ => by kernel_rfl
def C95 (call : CallT) (tlo base : Nat) : PieceT (TV × TV × TV × TV × TV × TV × TV × TV × TV × TV × TV × TV × TV × TV × TV × TV × TV × TV × TV × Unit) :=
 (seqT (leafT fun S H k =>
 need (stor S.1) <|
 let t2 := (.ptr (lenG H) 0)
 let H0 := (pushT H (.cells (cellsT S.1)))
 need (stor (g1 S)) <|
 let t3 := (.ptr (lenG H0) 0)
 let H1 := (pushT H0 (.cells (cellsT (g1 S))))
 k (z0 (hush S.1) <| z1 (hush (g1 S)) <| z2 t2 <| z3 t3 <| z4 (tN 0) <| stN 19 S) H1)
 (seqT (leafT fun S H k =>
 let t5 := (.ptr (lenG H) 0)
 let H2 := (pushT H (.cells zc158))
 k (z5 t5 <| stN 19 S) H2)
 (seqT (seqT (leafT fun S H k =>
 k (z11 (tN 0) <| stN 19 S) H)
 (blockT 0 (loopT (seqT (leafT fun S H k =>
 bindV (b2 evLss (g11 S) (tN 16)) fun t13 =>
 k (z12 t13 <| stN 19 S) H)
 (seqT (condT (fun S => some (g12 S))
 (doneT .normal)
 (doneT (.exit 0)))
 (seqT (blockT 1 (seqT (leafT fun S H k =>
 k (z6 (g11 S) <| z11 (hush (g11 S)) <| stN 19 S) H)
 (leafT fun S H k =>
 thawB 0 false (g5 S) H fun c3 H3 =>
 bindV (idxArrT 16 1 c3 (lendV (g6 S))) fun t16 =>
 bindV (storeT tlo base 1 H3 t16 (.v (.int .i64 (.negSucc 0)))) fun H4 =>
 k (z5 c3 <| z6 (keepV (g6 S)) <| stN 19 S) H4)))
 (leafT fun S H k =>
 bindV (b2 evAdd (g11 S) (tN 1)) fun t17 =>
 k (z11 t17 <| stN 19 S) H)))) fuel)))
 (seqT (leafT fun S H k =>
 k (z7 (tN 0) <| stN 19 S) H)
 (seqT (leafT fun S H k =>
 let t8 := (.ptr (lenG H) 0)
 let H5 := (pushT H (.cells [.v (.int .u64 (.ofNat 0))]))
 bindV (storeT tlo base 1 H5 t8 (.v (.int .u64 (.ofNat 0)))) fun H6 =>
 k (z8 t8 <| stN 19 S) H6)
 (seqT (leafT fun S H k =>
 let t9 := (.ptr (lenG H) 0)
 let H7 := (pushT H (.cells [.v .nilFunc]))
 k (z9 t9 <| stN 19 S) H7)
 (seqT (leafT fun S H k =>
 need (allG pass [setV (g2 S), setV (g3 S), setV (g8 S), setV (g5 S), setV (g9 S)]) <|
 bindV (storeT tlo base 1 H (setV (g9 S)) (.fn (.func 153) [] [setV (g2 S), setV (g3 S), setV (g8 S), setV (g5 S), setV (g9 S)])) fun H8 =>
 k (z2 (setV (g2 S)) <| z3 (setV (g3 S)) <| z5 (setV (g5 S)) <| z8 (setV (g8 S)) <| z9 (setV (g9 S)) <| stN 19 S) H8)
 (seqT (seqT (leafT fun S H k =>
 lF tlo base H (g3 S) fun t19 H9 =>
 bindV (callTree call 100 [setV t19] H9) fun t20 =>
 bindV (lenT t20) fun t21 =>
 k (z13 t20 <| z14 t21 <| z15 (tN 0) <| stN 19 S) H9)
 (blockT 2 (loopT (seqT (leafT fun S H k =>
 bindV (b2 evLss (g15 S) (g14 S)) fun t23 =>
 k (z16 t23 <| stN 19 S) H)
 (seqT (condT (fun S => some (g16 S))
 (doneT .normal)
 (doneT (.exit 2)))
 (seqT (blockT 3 (seqT (leafT fun S H k =>
 bindV (idxSlT 1 (g13 S) (g15 S)) fun t24 =>
 sF tlo base H t24 fun t25 H10 =>
 k (z10 t25 <| stN 19 S) H10)
 (seqT (seqT (leafT fun S H k =>
 lA tlo base 19 H (g2 S) fun t26 H11 =>
 bindV (callTree call 154 [setV t26, setV (lendV (g10 S))] H11) fun t28 =>
 k (z10 (keepV (g10 S)) <| z17 t28 <| stN 19 S) H11)
 (condT (fun S => some (g17 S))
 (doneT (.exit 3))
 (doneT .normal)))
 (seqT (leafT fun S H k =>
 bindV (storeT tlo base 1 H (g8 S) (.v (.int .u64 (.ofNat 0)))) fun H12 =>
 k (stN 19 S) H12)
 (seqT (leafT fun S H k =>
 lF tlo base H (g9 S) fun t29 H13 =>
 callFn TC call tlo t29 [setV (setV (g10 S))] H13 fun t31 H14 =>
 k (z10 (setV (g10 S)) <| z18 t31 <| stN 19 S) H14)
 (condT (fun S => some (g18 S))
 (leafT fun S H k =>
 bindV (b2 evAdd (lendV (g7 S)) (tN 1)) fun t33 =>
 k (z7 t33 <| stN 19 S) H)
 (doneT .normal)))))))
 (leafT fun S H k =>
 bindV (b2 evAdd (g15 S) (tN 1)) fun t34 =>
 k (z15 t34 <| stN 19 S) H)))) fuel)))
 (seqT (leafT fun S H k =>
 k (z4 (g7 S) <| z7 (hush (g7 S)) <| stN 19 S) H)
 (doneT .ret))))))))))
def F95 : FnT := fun call tlo l H => bindV (C95 call tlo (lenG H) (argT l 0, argT l 1, argT l 2, argT l 3, argT l 4, argT l 5, argT l 6, argT l 7, argT l 8, argT l 9, argT l 11, argT l 12, argT l 13, argT l 20, argT l 21, argT l 22, argT l 23, argT l 28, argT l 31, ()) H) fun p => resE p.1 (need (allG resOk [p.2.1.2.2.2.2.1]) (some (endT (lenG H) p.2.1.2.2.2.2.1 p.2.2)))
theorem F95_eq : FEq P TC 95 F95 := fun _ _ _ _ => by kernel_rfl
def C97 (call : CallT) (tlo base : Nat) : PieceT (TV × TV × TV × TV × TV × TV × TV × TV × TV × TV × TV × TV × TV × TV × Unit) :=
 (seqT (leafT fun S H k =>
 need (stor S.1) <|
 let t2 := (.ptr (lenG H) 0)
 let H0 := (pushT H (.cells (cellsT S.1)))
 k (z0 (hush S.1) <| z2 t2 <| z3 nilT <| stN 14 S) H0)
 (seqT (leafT fun S H k =>
 k (z4 nilT <| stN 14 S) H)
 (seqT (leafT fun S H k =>
 lA tlo base 19 H (g2 S) fun t10 H1 =>
 bindV (callTree call 95 [setV t10, setV (lendV (g1 S))] H1) fun t12 =>
 k (z1 (keepV (g1 S)) <| z5 t12 <| stN 14 S) H1)
 (seqT (doneT .normal)
 (seqT (blockT 0 (loopT (seqT (seqT (leafT fun S H k =>
 bindV (neqT .int (lendV (g1 S)) (.v (.int .u64 (.ofNat 0)))) fun t14 =>
 k (z1 (keepV (g1 S)) <| z8 t14 <| stN 14 S) H)
 (condT (fun S => some (g8 S))
 (doneT .normal)
 (doneT (.exit 0))))
 (blockT 1 (seqT (leafT fun S H k =>
 bindV (callTree call 156 [setV (lendV (g1 S))] H) fun t16 =>
 k (z1 (keepV (g1 S)) <| z6 t16 <| stN 14 S) H)
 (seqT (leafT fun S H k =>
 bindV (b2 evShl (.v (.int .u64 (.ofNat 1))) (lendV (g6 S))) fun t19 =>
 bindV (b2 evAndNot (lendV (g1 S)) t19) fun t20 =>
 k (z1 t20 <| z6 (keepV (g6 S)) <| stN 14 S) H)
 (seqT (leafT fun S H k =>
 bindV (shiftT (g2 S) 3) fun t22 =>
 bindV (idxArrT 16 1 t22 (lendV (g6 S))) fun t23 =>
 lF tlo base H t23 fun t24 H2 =>
 bindV (b2 evAnd t24 (lendV (g1 S))) fun t26 =>
 bindV (callTree call 100 [setV t26] H2) fun t27 =>
 bindV (lenT t27) fun t28 =>
 k (z1 (keepV (g1 S)) <| z6 (keepV (g6 S)) <| z9 t27 <| z10 t28 <| z11 (tN 0) <| stN 14 S) H2)
 (blockT 2 (loopT (seqT (leafT fun S H k =>
 bindV (b2 evLss (g11 S) (g10 S)) fun t30 =>
 k (z12 t30 <| stN 14 S) H)
 (seqT (condT (fun S => some (g12 S))
 (doneT .normal)
 (doneT (.exit 2)))
 (seqT (blockT 3 (seqT (leafT fun S H k =>
 bindV (idxSlT 1 (g9 S) (g11 S)) fun t31 =>
 sF tlo base H t31 fun t32 H3 =>
 k (z7 t32 <| stN 14 S) H3)
 (seqT (leafT fun S H k =>
 lA tlo base 19 H (g2 S) fun t33 H4 =>
 bindV (b2 evShl (.v (.int .u64 (.ofNat 1))) (lendV (g7 S))) fun t36 =>
 bindV (b2 evAndNot (lendV (g1 S)) t36) fun t37 =>
 bindV (callTree call 95 [setV t33, setV t37] H4) fun t38 =>
 bindV (b2 evSub (lendV (g5 S)) (tN 1)) fun t40 =>
 bindV (eqlT .int t38 t40) fun t41 =>
 k (z1 (keepV (g1 S)) <| z5 (keepV (g5 S)) <| z7 (keepV (g7 S)) <| z13 t41 <| stN 14 S) H4)
 (condT (fun S => some (g13 S))
 (seqT (leafT fun S H k =>
 bindV (b2 evShl (.v (.int .u64 (.ofNat 1))) (lendV (g7 S))) fun t44 =>
 bindV (b2 evAndNot (lendV (g1 S)) t44) fun t45 =>
 k (z1 t45 <| z7 (keepV (g7 S)) <| stN 14 S) H)
 (seqT (leafT fun S H k =>
 bindV (b2 evSub (lendV (g5 S)) (tN 1)) fun t47 =>
 k (z5 t47 <| stN 14 S) H)
 (seqT (leafT fun S H k =>
 bindV (aggT [(0, 1, (setV (g6 S))), (1, 1, (setV (g7 S)))] zc71) fun t51 =>
 bindV (elemsT 2 [0] [setV t51] (repG [.agg zc71] 1)) fun c5 =>
 appendT tlo H 71 2 16 (g4 S) (.row .full (.own 71) 2 c5) fun t53 H6 =>
 k (z4 t53 <| z6 (setV (g6 S)) <| z7 (setV (g7 S)) <| stN 14 S) H6)
 (doneT (.exit 1)))))
 (doneT .normal)))))
 (leafT fun S H k =>
 bindV (b2 evAdd (g11 S) (tN 1)) fun t54 =>
 k (z11 t54 <| stN 14 S) H)))) fuel))))))) fuel))
 (seqT (leafT fun S H k =>
 k (z3 (g4 S) <| z4 (hush (g4 S)) <| stN 14 S) H)
 (doneT .ret)))))))
def F97 : FnT := fun call tlo l H => bindV (C97 call tlo (lenG H) (argT l 0, argT l 1, argT l 2, argT l 4, argT l 5, argT l 6, argT l 7, argT l 9, argT l 14, argT l 27, argT l 28, argT l 29, argT l 30, argT l 41, ()) H) fun p => resE p.1 (need (allG resOk [p.2.1.2.2.2.1]) (some (endT (lenG H) p.2.1.2.2.2.1 p.2.2)))
theorem F97_eq : FEq P TC 97 F97 := fun _ _ _ _ => by kernel_rfl
end
end Go.Proofs.YtgemobbfikjmoaaGreatDoor
namespace Go.Proofs.YtgemobbfikjmoaaGreatDoor
open Go Go.Ev
set_option maxRecDepth 1000000
set_option linter.unusedVariables false
noncomputable section
def C98 (call : CallT) (tlo base : Nat) : PieceT (TV × TV × TV × TV × TV × TV × TV × TV × TV × TV × TV × TV × TV × TV × TV × TV × TV × TV × TV × TV × Unit) :=
 (seqT (leafT fun S H k =>
 need (stor S.1) <|
 let t3 := (.ptr (lenG H) 0)
 let H0 := (pushT H (.cells (cellsT S.1)))
 let t6 := (.ptr (lenG H0) 0)
 let H1 := (pushT H0 (.cells zc111))
 k (z0 (hush S.1) <| z3 t3 <| z4 t6 <| stN 20 S) H1)
 (seqT (seqT (leafT fun S H k =>
 bindV (eqlT .int (lendV (g1 S)) (.v (.int .u64 (.ofNat 0)))) fun t16 =>
 k (z1 (keepV (g1 S)) <| z12 t16 <| stN 20 S) H)
 (condT (fun S => some (g12 S))
 (seqT (leafT fun S H k =>
 bindV (aggT [(0, 1, (tN 0)), (1, 1, (tN 1))] zc111) fun t17 =>
 bindV (storeT tlo base 2 H (g4 S) t17) fun H2 =>
 k (stN 20 S) H2)
 (doneT .ret))
 (doneT .normal)))
 (seqT (seqT (leafT fun S H k =>
 bindV (lookupT H .int (.agg zc111) (lendV (g2 S)) (lendV (g1 S)) true) fun t21 =>
 withX (compT (lendV t21) 0) fun c3 =>
 withX (compT (compGone (lendV t21) 0) 1) fun c4 =>
 let t7 := (.ptr (lenG H) 0)
 let H5 := (pushT H (.cells zc111))
 bindV (storeT tlo base 2 H5 t7 c3) fun H6 =>
 k (z1 (keepV (g1 S)) <| z2 (keepV (g2 S)) <| z5 t7 <| z6 c4 <| stN 20 S) H6)
 (seqT (leafT fun S H k =>
 k (z6 (setV (g6 S)) <| z13 (setV (g6 S)) <| stN 20 S) H)
 (condT (fun S => some (g13 S))
 (seqT (leafT fun S H k =>
 sA tlo base 2 H (g5 S) fun t25 H7 =>
 bindV (storeT tlo base 2 H7 (g4 S) t25) fun H8 =>
 k (stN 20 S) H8)
 (doneT .ret))
 (doneT .normal))))
 (seqT (leafT fun S H k =>
 bindV (callTree call 156 [setV (lendV (g1 S))] H) fun t27 =>
 k (z1 (keepV (g1 S)) <| z7 t27 <| stN 20 S) H)
 (seqT (leafT fun S H k =>
 bindV (b2 evShl (.v (.int .u64 (.ofNat 1))) (lendV (g7 S))) fun t30 =>
 bindV (b2 evAndNot (lendV (g1 S)) t30) fun t31 =>
 k (z1 (keepV (g1 S)) <| z7 (keepV (g7 S)) <| z8 t31 <| stN 20 S) H)
 (seqT (leafT fun S H k =>
 sA tlo base 19 H (g3 S) fun t32 H9 =>
 callIn call tlo 98 [setV t32, setV (setV (g8 S)), setV (setV (g2 S))] H9 fun t35 H10 =>
 let t11 := (.ptr (lenG H10) 0)
 let H11 := (pushT H10 (.cells zc111))
 bindV (storeT tlo base 2 H11 t11 t35) fun H12 =>
 k (z2 (setV (g2 S)) <| z8 (setV (g8 S)) <| z9 t11 <| stN 20 S) H12)
 (seqT (seqT (leafT fun S H k =>
 bindV (shiftT (g3 S) 3) fun t37 =>
 bindV (idxArrT 16 1 t37 (lendV (g7 S))) fun t38 =>
 lF tlo base H t38 fun t39 H13 =>
 bindV (b2 evAnd t39 (lendV (g8 S))) fun t41 =>
 bindV (callTree call 100 [setV t41] H13) fun t42 =>
 bindV (lenT t42) fun t43 =>
 k (z7 (keepV (g7 S)) <| z8 (keepV (g8 S)) <| z14 t42 <| z15 t43 <| z16 (tN 0) <| stN 20 S) H13)
 (blockT 0 (loopT (seqT (leafT fun S H k =>
 bindV (b2 evLss (g16 S) (g15 S)) fun t45 =>
 k (z17 t45 <| stN 20 S) H)
 (seqT (condT (fun S => some (g17 S))
 (doneT .normal)
 (doneT (.exit 0)))
 (seqT (blockT 1 (seqT (leafT fun S H k =>
 bindV (idxSlT 1 (g14 S) (g16 S)) fun t46 =>
 sF tlo base H t46 fun t47 H14 =>
 k (z10 t47 <| stN 20 S) H14)
 (seqT (leafT fun S H k =>
 sA tlo base 19 H (g3 S) fun t48 H15 =>
 bindV (b2 evShl (.v (.int .u64 (.ofNat 1))) (lendV (g10 S))) fun t51 =>
 bindV (b2 evAndNot (lendV (g8 S)) t51) fun t52 =>
 callIn call tlo 98 [setV t48, setV t52, setV (setV (g2 S))] H15 fun t54 H16 =>
 let t14 := (.ptr (lenG H16) 0)
 let H17 := (pushT H16 (.cells zc111))
 bindV (storeT tlo base 2 H17 t14 t54) fun H18 =>
 k (z2 (setV (g2 S)) <| z8 (keepV (g8 S)) <| z10 (keepV (g10 S)) <| z11 t14 <| stN 20 S) H18)
 (seqT (leafT fun S H k =>
 bindV (shiftT (g11 S) 0) fun t55 =>
 lF tlo base H t55 fun t56 H19 =>
 bindV (b2 evAdd t56 (tN 1)) fun t57 =>
 bindV (shiftT (g11 S) 0) fun t58 =>
 bindV (storeT tlo base 1 H19 t58 t57) fun H20 =>
 k (stN 20 S) H20)
 (blockT 2 (seqT (leafT fun S H k =>
 bindV (shiftT (g11 S) 0) fun t60 =>
 lF tlo base H t60 fun t61 H21 =>
 bindV (shiftT (g9 S) 0) fun t62 =>
 lF tlo base H21 t62 fun t63 H22 =>
 bindV (b2 evGtr t61 t63) fun t64 =>
 k (z18 t64 <| stN 20 S) H22)
 (condT (fun S => some (g18 S))
 (leafT fun S H k =>
 sA tlo base 2 H (g11 S) fun t65 H23 =>
 bindV (storeT tlo base 2 H23 (g9 S) t65) fun H24 =>
 k (stN 20 S) H24)
 (seqT (leafT fun S H k =>
 bindV (shiftT (g11 S) 0) fun t67 =>
 lF tlo base H t67 fun t68 H25 =>
 bindV (shiftT (g9 S) 0) fun t69 =>
 lF tlo base H25 t69 fun t70 H26 =>
 bindV (eqlT .int t68 t70) fun t71 =>
 k (z19 t71 <| stN 20 S) H26)
 (condT (fun S => some (g19 S))
 (leafT fun S H k =>
 bindV (shiftT (g9 S) 1) fun t72 =>
 lF tlo base H t72 fun t73 H27 =>
 bindV (shiftT (g11 S) 1) fun t74 =>
 lF tlo base H27 t74 fun t75 H28 =>
 bindV (b2 evAdd t73 t75) fun t76 =>
 bindV (shiftT (g9 S) 1) fun t77 =>
 bindV (storeT tlo base 1 H28 t77 t76) fun H29 =>
 k (stN 20 S) H29)
 (doneT .normal))))))))))
 (leafT fun S H k =>
 bindV (b2 evAdd (g16 S) (tN 1)) fun t78 =>
 k (z16 t78 <| stN 20 S) H)))) fuel)))
 (seqT (leafT fun S H k =>
 sA tlo base 2 H (g9 S) fun t81 H30 =>
 bindV (updateT tlo H30 .int (lendV (g2 S)) (lendV (g1 S)) (setV t81)) fun H31 =>
 k (z1 (keepV (g1 S)) <| z2 (keepV (g2 S)) <| stN 20 S) H31)
 (seqT (leafT fun S H k =>
 sA tlo base 2 H (g9 S) fun t82 H32 =>
 bindV (storeT tlo base 2 H32 (g4 S) t82) fun H33 =>
 k (stN 20 S) H33)
 (doneT .ret))))))))))
def F98 : FnT := fun call tlo l H => bindV (C98 call tlo (lenG H) (argT l 0, argT l 1, argT l 2, argT l 3, argT l 6, argT l 7, argT l 8, argT l 9, argT l 10, argT l 11, argT l 13, argT l 14, argT l 16, argT l 24, argT l 42, argT l 43, argT l 44, argT l 45, argT l 59, argT l 66, ()) H) fun p => resE p.1 (loadT .take tlo (lenG p.2.2) true 2 p.2.2 p.2.1.2.2.2.2.1 fun r0 h0 => need (allG resOk [r0]) (some (endT (lenG H) r0 h0)))
theorem F98_eq : FEq P TC 98 F98 := fun _ _ _ _ => by kernel_rfl
def C99 (call : CallT) (tlo base : Nat) : PieceT (TV × TV × TV × TV × TV × TV × TV × TV × TV × Unit) :=
 (seqT (leafT fun S H k =>
 k (z2 nilT <| stN 9 S) H)
 (seqT (leafT fun S H k =>
 callIn call tlo 138 [setV (setV S.1), setV (setV (g1 S))] H fun t10 H0 =>
 k (z0 (setV S.1) <| z1 (setV (g1 S)) <| z3 t10 <| stN 9 S) H0)
 (seqT (seqT (leafT fun S H k =>
 bindV (eqlT .int (lendV (g3 S)) (.v (.int .i64 (.negSucc 0)))) fun t12 =>
 k (z3 (keepV (g3 S)) <| z6 t12 <| stN 9 S) H)
 (condT (fun S => some (g6 S))
 (seqT (leafT fun S H k =>
 k (z0 (hush S.1) <| z2 S.1 <| stN 9 S) H)
 (doneT .ret))
 (doneT .normal)))
 (seqT (seqT (leafT fun S H k =>
 bindV (b2 evAdd (lendV (g3 S)) (tN 1)) fun t15 =>
 k (z3 (keepV (g3 S)) <| z4 t15 <| stN 9 S) H)
 (blockT 0 (loopT (seqT (seqT (leafT fun S H k =>
 bindV (lenT (lendV S.1)) fun t18 =>
 bindV (b2 evLss (lendV (g4 S)) t18) fun t19 =>
 k (z0 (keepV S.1) <| z4 (keepV (g4 S)) <| z7 t19 <| stN 9 S) H)
 (condT (fun S => some (g7 S))
 (doneT .normal)
 (doneT (.exit 0))))
 (seqT (blockT 1 (seqT (leafT fun S H k =>
 bindV (idxSlT 1 (lendV S.1) (lendV (g4 S))) fun t24 =>
 sF tlo base H t24 fun t25 H1 =>
 k (z0 (keepV S.1) <| z4 (keepV (g4 S)) <| z5 t25 <| stN 9 S) H1)
 (seqT (leafT fun S H k =>
 callFn TC call tlo (lendV (g1 S)) [setV (setV (g5 S))] H fun t28 H2 =>
 bindV (b1 evNot t28) fun t29 =>
 k (z1 (keepV (g1 S)) <| z5 (setV (g5 S)) <| z8 t29 <| stN 9 S) H2)
 (condT (fun S => some (g8 S))
 (seqT (leafT fun S H k =>
 thawB 1 false S.1 H fun c3 H3 =>
 thawB 1 false c3 H3 fun c4 H4 =>
 bindV (idxSlT 1 c4 (lendV (stale (g3 S)))) fun t33 =>
 bindV (storeT tlo base 1 H4 t33 (stale (setV (stale (g5 S))))) fun H5 =>
 k (z0 c3 <| z3 (keepV (stale (g3 S))) <| z5 (setV (stale (g5 S))) <| stN 9 S) H5)
 (leafT fun S H k =>
 bindV (b2 evAdd (lendV (g3 S)) (tN 1)) fun t35 =>
 k (z3 t35 <| stN 9 S) H))
 (doneT .normal)))))
 (leafT fun S H k =>
 bindV (b2 evAdd (lendV (g4 S)) (tN 1)) fun t21 =>
 k (z4 t21 <| stN 9 S) H))) fuel)))
 (seqT (leafT fun S H k =>
 bindV (cutT 1 (lendV S.1) (some (lendV (g3 S))) none none) fun t38 =>
 thawB 1 false t38 H fun c6 H6 =>
 need (vecIs c6 1) <|
 bindV (clearT tlo H6 [tN 0] c6) fun H7 =>
 k (z0 (keepV S.1) <| z3 (keepV (g3 S)) <| stN 9 S) H7)
 (seqT (leafT fun S H k =>
 bindV (cutT 1 (lendV S.1) none (some (lendV (g3 S))) none) fun t41 =>
 k (z0 (keepV S.1) <| z2 t41 <| z3 (keepV (g3 S)) <| stN 9 S) H)
 (doneT .ret)))))))
def F99 : FnT := fun call tlo l H => bindV (C99 call tlo (lenG H) (argT l 0, argT l 1, argT l 4, argT l 5, argT l 6, argT l 7, argT l 12, argT l 19, argT l 29, ()) H) fun p => resE p.1 (need (allG resOk [p.2.1.2.2.1]) (some (endT (lenG H) p.2.1.2.2.1 p.2.2)))
theorem F99_eq : FEq P TC 99 F99 := fun _ _ _ _ => by kernel_rfl
def C100 (call : CallT) (tlo base : Nat) : PieceT (TV × TV × TV × TV × Unit) :=
 (seqT (leafT fun S H k =>
 k (z1 nilT <| stN 4 S) H)
 (seqT (leafT fun S H k =>
 k (z2 nilT <| stN 4 S) H)
 (seqT (blockT 0 (loopT (seqT (seqT (leafT fun S H k =>
 bindV (neqT .int (lendV S.1) (.v (.int .u64 (.ofNat 0)))) fun t5 =>
 k (z0 (keepV S.1) <| z3 t5 <| stN 4 S) H)
 (condT (fun S => some (g3 S))
 (doneT .normal)
 (doneT (.exit 0))))
 (seqT (blockT 1 (leafT fun S H k =>
 bindV (callTree call 156 [setV (lendV S.1)] H) fun t12 =>
 bindV (elemsT 1 [0] [setV t12] (repG [tN 0] 1)) fun c0 =>
 appendT tlo H 3 1 8 (g2 S) (.row .full (.own 3) 1 c0) fun t14 H1 =>
 k (z0 (keepV S.1) <| z2 t14 <| stN 4 S) H1))
 (leafT fun S H k =>
 bindV (b2 evSub (lendV (keepV S.1)) (.v (.int .u64 (.ofNat 1)))) fun t8 =>
 bindV (b2 evAnd (lendV S.1) t8) fun t9 =>
 k (z0 t9 <| stN 4 S) H))) fuel))
 (seqT (leafT fun S H k =>
 k (z1 (g2 S) <| z2 (hush (g2 S)) <| stN 4 S) H)
 (doneT .ret)))))
def F100 : FnT := fun call tlo l H => bindV (C100 call tlo (lenG H) (argT l 0, argT l 2, argT l 3, argT l 5, ()) H) fun p => resE p.1 (need (allG resOk [p.2.1.2.1]) (some (endT (lenG H) p.2.1.2.1 p.2.2)))
theorem F100_eq : FEq P TC 100 F100 := fun _ _ _ _ => by kernel_rfl
def C101 (call : CallT) (tlo base : Nat) : PieceT (TV × TV × TV × TV × Unit) :=
 (seqT (leafT fun S H k =>
 k (z3 (tB false) <| stN 4 S) H)
 (seqT (leafT fun S H k =>
 lA tlo base 19 H (g1 S) fun t5 H0 =>
 bindV (shiftT (g1 S) 2) fun t6 =>
 lF tlo base H0 t6 fun t7 H1 =>
 bindV (b2 evShl (.v (.int .u64 (.ofNat 1))) (lendV S.1)) fun t9 =>
 bindV (b2 evAndNot t7 t9) fun t10 =>
 bindV (callTree call 95 [setV t5, setV t10] H1) fun t11 =>
 lF tlo base H1 (g2 S) fun t12 H2 =>
 bindV (b2 evLss t11 t12) fun t13 =>
 k (z0 (keepV S.1) <| z3 t13 <| stN 4 S) H2)
 (doneT .ret)))
def F101 : FnT := fun call tlo l H => bindV (C101 call tlo (lenG H) (argT l 0, argT l 1, argT l 2, argT l 4, ()) H) fun p => resE p.1 (need (allG resOk [p.2.1.2.2.2.1]) (some (endT (lenG H) p.2.1.2.2.2.1 p.2.2)))
theorem F101_eq : FEq P TC 101 F101 := fun _ _ _ _ => by kernel_rfl
def C104 (call : CallT) (tlo base : Nat) : PieceT (TV × TV × TV × TV × TV × TV × TV × TV × TV × Unit) :=
 (seqT (leafT fun S H k =>
 k (z2 nilT <| stN 9 S) H)
 (seqT (leafT fun S H k =>
 callIn call tlo 134 [setV (setV S.1), setV (setV (g1 S))] H fun t10 H0 =>
 k (z0 (setV S.1) <| z1 (setV (g1 S)) <| z3 t10 <| stN 9 S) H0)
 (seqT (seqT (leafT fun S H k =>
 bindV (eqlT .int (lendV (g3 S)) (.v (.int .i64 (.negSucc 0)))) fun t12 =>
 k (z3 (keepV (g3 S)) <| z6 t12 <| stN 9 S) H)
 (condT (fun S => some (g6 S))
 (seqT (leafT fun S H k =>
 k (z0 (hush S.1) <| z2 S.1 <| stN 9 S) H)
 (doneT .ret))
 (doneT .normal)))
 (seqT (seqT (leafT fun S H k =>
 bindV (b2 evAdd (lendV (g3 S)) (tN 1)) fun t15 =>
 k (z3 (keepV (g3 S)) <| z4 t15 <| stN 9 S) H)
 (blockT 0 (loopT (seqT (seqT (leafT fun S H k =>
 bindV (lenT (lendV S.1)) fun t18 =>
 bindV (b2 evLss (lendV (g4 S)) t18) fun t19 =>
 k (z0 (keepV S.1) <| z4 (keepV (g4 S)) <| z7 t19 <| stN 9 S) H)
 (condT (fun S => some (g7 S))
 (doneT .normal)
 (doneT (.exit 0))))
 (seqT (blockT 1 (seqT (leafT fun S H k =>
 bindV (idxSlT 2 (lendV S.1) (lendV (g4 S))) fun t24 =>
 sA tlo base 2 H t24 fun t25 H1 =>
 let t7 := (.ptr (lenG H1) 0)
 let H2 := (pushT H1 (.cells zc71))
 bindV (storeT tlo base 2 H2 t7 t25) fun H3 =>
 k (z0 (keepV S.1) <| z4 (keepV (g4 S)) <| z5 t7 <| stN 9 S) H3)
 (seqT (leafT fun S H k =>
 sA tlo base 2 H (g5 S) fun t27 H4 =>
 callFn TC call tlo (lendV (g1 S)) [setV t27] H4 fun t28 H5 =>
 bindV (b1 evNot t28) fun t29 =>
 k (z1 (keepV (g1 S)) <| z8 t29 <| stN 9 S) H5)
 (condT (fun S => some (g8 S))
 (seqT (leafT fun S H k =>
 thawB 2 true S.1 H fun c6 H6 =>
 sA tlo base 2 H6 (stale (g5 S)) fun t32 H7 =>
 thawB 2 true c6 H7 fun c8 H8 =>
 bindV (idxSlT 2 c8 (lendV (stale (g3 S)))) fun t33 =>
 bindV (storeT tlo base 2 H8 t33 (stale t32)) fun H9 =>
 k (z0 c6 <| z3 (keepV (stale (g3 S))) <| stN 9 S) H9)
 (leafT fun S H k =>
 bindV (b2 evAdd (lendV (g3 S)) (tN 1)) fun t35 =>
 k (z3 t35 <| stN 9 S) H))
 (doneT .normal)))))
 (leafT fun S H k =>
 bindV (b2 evAdd (lendV (g4 S)) (tN 1)) fun t21 =>
 k (z4 t21 <| stN 9 S) H))) fuel)))
 (seqT (leafT fun S H k =>
 bindV (cutT 2 (lendV S.1) (some (lendV (g3 S))) none none) fun t38 =>
 thawB 2 true t38 H fun c10 H10 =>
 need (vecIs c10 2) <|
 bindV (clearT tlo H10 zc71 c10) fun H11 =>
 k (z0 (keepV S.1) <| z3 (keepV (g3 S)) <| stN 9 S) H11)
 (seqT (leafT fun S H k =>
 bindV (cutT 2 (lendV S.1) none (some (lendV (g3 S))) none) fun t41 =>
 k (z0 (keepV S.1) <| z2 t41 <| z3 (keepV (g3 S)) <| stN 9 S) H)
 (doneT .ret)))))))
def F104 : FnT := fun call tlo l H => bindV (C104 call tlo (lenG H) (argT l 0, argT l 1, argT l 4, argT l 5, argT l 6, argT l 7, argT l 12, argT l 19, argT l 29, ()) H) fun p => resE p.1 (need (allG resOk [p.2.1.2.2.1]) (some (endT (lenG H) p.2.1.2.2.1 p.2.2)))
theorem F104_eq : FEq P TC 104 F104 := fun _ _ _ _ => by kernel_rfl
def C105 (call : CallT) (tlo base : Nat) : PieceT (TV × TV × TV × TV × TV × TV × Unit) :=
 (seqT (leafT fun S H k =>
 need (stor S.1) <|
 let t3 := (.ptr (lenG H) 0)
 let H0 := (pushT H (.cells (cellsT S.1)))
 k (z0 (hush S.1) <| z3 t3 <| z4 (tB false) <| stN 6 S) H0)
 (seqT (leafT fun S H k =>
 sA tlo base 19 H (g1 S) fun t6 H1 =>
 let t5 := (.ptr (lenG H1) 0)
 let H2 := (pushT H1 (.cells zc104))
 bindV (storeT tlo base 19 H2 t5 t6) fun H3 =>
 k (z5 t5 <| stN 6 S) H3)
 (seqT (leafT fun S H k =>
 bindV (idxArrT 2 1 (g3 S) (tN 0)) fun t7 =>
 lF tlo base H t7 fun t8 H4 =>
 bindV (shiftT (g5 S) 3) fun t9 =>
 bindV (idxArrT 16 1 t9 t8) fun t10 =>
 lF tlo base H4 t10 fun t11 H5 =>
 bindV (idxArrT 2 1 (g3 S) (tN 1)) fun t12 =>
 lF tlo base H5 t12 fun t13 H6 =>
 bindV (b2 evShl (.v (.int .u64 (.ofNat 1))) t13) fun t14 =>
 bindV (b2 evAndNot t11 t14) fun t15 =>
 bindV (shiftT (g5 S) 3) fun t16 =>
 thawB 0 false t16 H6 fun c7 H7 =>
 bindV (idxArrT 16 1 c7 t8) fun t17 =>
 bindV (storeT tlo base 1 H7 t17 (stale t15)) fun H8 =>
 k (stN 6 S) H8)
 (seqT (leafT fun S H k =>
 bindV (idxArrT 2 1 (g3 S) (tN 1)) fun t18 =>
 lF tlo base H t18 fun t19 H9 =>
 bindV (shiftT (g5 S) 3) fun t20 =>
 bindV (idxArrT 16 1 t20 t19) fun t21 =>
 lF tlo base H9 t21 fun t22 H10 =>
 bindV (idxArrT 2 1 (g3 S) (tN 0)) fun t23 =>
 lF tlo base H10 t23 fun t24 H11 =>
 bindV (b2 evShl (.v (.int .u64 (.ofNat 1))) t24) fun t25 =>
 bindV (b2 evAndNot t22 t25) fun t26 =>
 bindV (shiftT (g5 S) 3) fun t27 =>
 thawB 0 false t27 H11 fun c12 H12 =>
 bindV (idxArrT 16 1 c12 t19) fun t28 =>
 bindV (storeT tlo base 1 H12 t28 (stale t26)) fun H13 =>
 k (stN 6 S) H13)
 (seqT (leafT fun S H k =>
 lA tlo base 19 H (g5 S) fun t29 H14 =>
 bindV (shiftT (g1 S) 2) fun t30 =>
 lF tlo base H14 t30 fun t31 H15 =>
 bindV (callTree call 95 [setV t29, setV t31] H15) fun t32 =>
 lF tlo base H15 (g2 S) fun t33 H16 =>
 bindV (eqlT .int t32 t33) fun t34 =>
 k (z4 t34 <| stN 6 S) H16)
 (doneT .ret))))))
def F105 : FnT := fun call tlo l H => bindV (C105 call tlo (lenG H) (argT l 0, argT l 1, argT l 2, argT l 3, argT l 4, argT l 5, ()) H) fun p => resE p.1 (need (allG resOk [p.2.1.2.2.2.2.1]) (some (endT (lenG H) p.2.1.2.2.2.2.1 p.2.2)))
theorem F105_eq : FEq P TC 105 F105 := fun _ _ _ _ => by kernel_rfl
def C111 (call : CallT) (tlo base : Nat) : PieceT (TV × TV × TV × TV × TV × TV × TV × TV × TV × TV × TV × TV × TV × TV × TV × TV × TV × TV × TV × TV × TV × TV × TV × TV × Unit) :=
 (seqT (leafT fun S H k =>
 need (stor S.1) <|
 let t2 := (.ptr (lenG H) 0)
 let H0 := (pushT H (.cells (cellsT S.1)))
 let t4 := (.ptr (lenG H0) 0)
 let H1 := (pushT H0 (.cells zc104))
 k (z0 (hush S.1) <| z2 t2 <| z3 t4 <| z4 (.v (.int .u64 (.ofNat 0))) <| z5 (tN 0) <| stN 24 S) H1)
 (seqT (leafT fun S H k =>
 lA tlo base 3 H (g2 S) fun t16 H2 =>
 bindV (callTree call 94 [setV t16] H2) fun t17 =>
 withX (compT (lendV t17) 0) fun c3 =>
 withX (compT (compGone (lendV t17) 0) 1) fun c4 =>
 let t7 := (.ptr (lenG H2) 0)
 let H5 := (pushT H2 (.cells zc104))
 bindV (storeT tlo base 19 H5 t7 c3) fun H6 =>
 k (z6 t7 <| z7 c4 <| stN 24 S) H6)
 (seqT (seqT (leafT fun S H k =>
 bindV (neqT .int (lendV (g7 S)) (tN 0)) fun t21 =>
 k (z7 (keepV (g7 S)) <| z14 t21 <| stN 24 S) H)
 (condT (fun S => some (g14 S))
 (seqT (leafT fun S H k =>
 sA tlo base 19 H (g6 S) fun t22 H7 =>
 bindV (storeT tlo base 19 H7 (g3 S) t22) fun H8 =>
 k (z4 (.v (.int .u64 (.ofNat 0))) <| z5 (g7 S) <| z7 (hush (g7 S)) <| stN 24 S) H8)
 (doneT .ret))
 (doneT .normal)))
 (seqT (leafT fun S H k =>
 bindV (shiftT (g6 S) 0) fun t24 =>
 lF tlo base H t24 fun t25 H9 =>
 bindV (shiftT (g6 S) 1) fun t26 =>
 lF tlo base H9 t26 fun t27 H10 =>
 bindV (b2 evMul t25 t27) fun t28 =>
 k (z8 (.v (.int .u64 (.ofNat 0))) <| z9 t28 <| stN 24 S) H10)
 (seqT (seqT (leafT fun S H k =>
 bindV (lenT (setV (g1 S))) fun t30 =>
 k (z1 (setV (g1 S)) <| z15 (setV (g1 S)) <| z16 t30 <| z17 (tN 0) <| stN 24 S) H)
 (blockT 0 (loopT (seqT (leafT fun S H k =>
 bindV (b2 evLss (g17 S) (g16 S)) fun t32 =>
 k (z18 t32 <| stN 24 S) H)
 (seqT (condT (fun S => some (g18 S))
 (doneT .normal)
 (doneT (.exit 0)))
 (seqT (blockT 1 (seqT (leafT fun S H k =>
 bindV (idxSlT 2 (g15 S) (hush (g17 S))) fun t34 =>
 sA tlo base 2 H t34 fun t35 H11 =>
 let t12 := (.ptr (lenG H11) 0)
 let H12 := (pushT H11 (.cells zc71))
 bindV (storeT tlo base 2 H12 t12 t35) fun H13 =>
 k (z10 (g17 S) <| z11 t12 <| z17 (hush (g17 S)) <| stN 24 S) H13)
 (seqT (leafT fun S H k =>
 bindV (idxArrT 2 1 (g11 S) (tN 1)) fun t36 =>
 lF tlo base H t36 fun t37 H14 =>
 bindV (idxArrT 2 1 (g11 S) (tN 0)) fun t38 =>
 lF tlo base H14 t38 fun t39 H15 =>
 bindV (b2 evSub t37 t39) fun t40 =>
 k (z12 t40 <| stN 24 S) H15)
 (seqT (blockT 2 (seqT (leafT fun S H k =>
 bindV (idxArrT 2 1 (g11 S) (tN 0)) fun t42 =>
 lF tlo base H t42 fun t43 H16 =>
 bindV (idxArrT 2 1 (g11 S) (tN 1)) fun t44 =>
 lF tlo base H16 t44 fun t45 H17 =>
 bindV (b2 (evLesser false) t43 t45) fun c18 =>
 need (isV c18) <|
 bindV (b2 evLss c18 (tN 0)) fun t47 =>
 gB t47 false (idxArrT 2 1 (g11 S) (tN 0)) H17 fun t49 H19 =>
 guardT (lendV t47) false (lF tlo base H19 t49 fun g20 H20 => pairT g20 H20) H19 fun t50 H21 =>
 gB t47 false (idxArrT 2 1 (g11 S) (tN 1)) H21 fun t51 H22 =>
 guardT (lendV t47) false (lF tlo base H22 t51 fun g23 H23 => pairT g23 H23) H22 fun t52 H24 =>
 guardT (lendV t47) false (bindV (b2 (evLesser true) t50 t52) fun c25 => need (isV c25) <| pairT c25 H24) H24 fun t53 H26 =>
 gV t47 false (lendV (g9 S)) H26 fun t54 H27 =>
 gB t47 false (b2 evGeq t53 t54) H27 fun t55 H28 =>
 bindV (pickT (lendV t47) (tB true) (setV t55)) fun t56 =>
 k (z9 (keepV (g9 S)) <| z19 t56 <| stN 24 S) H28)
 (condT (fun S => some (g19 S))
 (seqT (leafT fun S H k =>
 sA tlo base 19 H (g6 S) fun t57 H29 =>
 bindV (storeT tlo base 19 H29 (g3 S) t57) fun H30 =>
 k (z4 (.v (.int .u64 (.ofNat 0))) <| z5 (tN 2) <| stN 24 S) H30)
 (doneT .ret))
 (seqT (leafT fun S H k =>
 bindV (shiftT (g6 S) 0) fun t60 =>
 lF tlo base H t60 fun t61 H31 =>
 bindV (neqT .int (lendV (g12 S)) t61) fun t62 =>
 gV t62 true (lendV (keepV (g12 S))) H31 fun t64 H32 =>
 gB t62 true (neqT .int t64 (tN 1)) H32 fun t65 H33 =>
 gV t62 true (lendV t65) H33 fun t66 H34 =>
 guardT t66 false (bindV (idxArrT 2 1 (g11 S) (tN 1)) fun g35 => pairT g35 H34) H34 fun t67 H35 =>
 guardT t66 false (lF tlo base H35 t67 fun g36 H36 => pairT g36 H36) H35 fun t68 H37 =>
 guardT t66 false (bindV (shiftT (g6 S) 0) fun g38 => pairT g38 H37) H37 fun t69 H38 =>
 guardT t66 false (lF tlo base H38 t69 fun g39 H39 => pairT g39 H39) H38 fun t70 H40 =>
 guardT t66 false (bindV (b2 evRem t68 t70) fun g41 => pairT g41 H40) H40 fun t71 H41 =>
 guardT t66 false (bindV (eqlT .int t71 (tN 0)) fun g42 => pairT g42 H41) H41 fun t72 H42 =>
 gB t62 true (pickT t66 (tB true) (setV t72)) H42 fun t73 H43 =>
 bindV (pickT (lendV t62) (setV t73) (tB false)) fun t74 =>
 k (z12 (keepV (keepV (g12 S))) <| z20 t74 <| stN 24 S) H43)
 (condT (fun S => some (g20 S))
 (seqT (leafT fun S H k =>
 sA tlo base 19 H (g6 S) fun t75 H44 =>
 bindV (storeT tlo base 19 H44 (g3 S) t75) fun H45 =>
 k (z4 (.v (.int .u64 (.ofNat 0))) <| z5 (tN 5) <| stN 24 S) H45)
 (doneT .ret))
 (seqT (leafT fun S H k =>
 bindV (b2 evGtr (lendV (g10 S)) (tN 0)) fun t78 =>
 gV t78 true (lendV (g1 S)) H fun t80 H46 =>
 gV t78 true (lendV (keepV (g10 S))) H46 fun t81 H47 =>
 gB t78 true (b2 evSub t81 (tN 1)) H47 fun t82 H48 =>
 gB t78 true (idxSlT 2 t80 t82) H48 fun t83 H49 =>
 gB t78 true (cutArrT false 1 2 t83 none none none) H49 fun t84 H50 =>
 gB t78 true (cutArrT false 1 2 (g11 S) none none none) H50 fun t85 H51 =>
 gB t78 true (callTree call 78 [setV t84, setV t85] H51) H51 fun t86 H52 =>
 gB t78 true (b2 evGeq t86 (tN 0)) H52 fun t87 H53 =>
 bindV (pickT (lendV t78) (setV t87) (tB false)) fun t88 =>
 k (z1 (keepV (g1 S)) <| z10 (keepV (keepV (g10 S))) <| z21 t88 <| stN 24 S) H53)
 (condT (fun S => some (g21 S))
 (seqT (leafT fun S H k =>
 sA tlo base 19 H (g6 S) fun t89 H54 =>
 bindV (storeT tlo base 19 H54 (g3 S) t89) fun H55 =>
 k (z4 (.v (.int .u64 (.ofNat 0))) <| z5 (tN 7) <| stN 24 S) H55)
 (doneT .ret))
 (doneT .normal))))))))
 (seqT (leafT fun S H k =>
 bindV (idxArrT 2 1 (g11 S) (tN 0)) fun t90 =>
 lF tlo base H t90 fun t91 H56 =>
 bindV (b2 evShl (.v (.int .u64 (.ofNat 1))) t91) fun t92 =>
 bindV (idxArrT 2 1 (g11 S) (tN 1)) fun t93 =>
 lF tlo base H56 t93 fun t94 H57 =>
 bindV (b2 evShl (.v (.int .u64 (.ofNat 1))) t94) fun t95 =>
 bindV (b2 evOr t92 t95) fun t96 =>
 k (z13 t96 <| stN 24 S) H57)
 (seqT (blockT 3 (seqT (leafT fun S H k =>
 bindV (shiftT (g6 S) 2) fun t99 =>
 lF tlo base H t99 fun t100 H58 =>
 bindV (b2 evAndNot (lendV (g13 S)) t100) fun t101 =>
 bindV (neqT .int t101 (.v (.int .u64 (.ofNat 0)))) fun t102 =>
 k (z13 (keepV (g13 S)) <| z22 t102 <| stN 24 S) H58)
 (condT (fun S => some (g22 S))
 (seqT (leafT fun S H k =>
 sA tlo base 19 H (g6 S) fun t103 H59 =>
 bindV (storeT tlo base 19 H59 (g3 S) t103) fun H60 =>
 k (z4 (.v (.int .u64 (.ofNat 0))) <| z5 (tN 13) <| stN 24 S) H60)
 (doneT .ret))
 (seqT (leafT fun S H k =>
 bindV (b2 evAnd (lendV (g13 S)) (lendV (g8 S))) fun t107 =>
 bindV (neqT .int t107 (.v (.int .u64 (.ofNat 0)))) fun t108 =>
 k (z8 (keepV (g8 S)) <| z13 (keepV (g13 S)) <| z23 t108 <| stN 24 S) H)
 (condT (fun S => some (g23 S))
 (seqT (leafT fun S H k =>
 sA tlo base 19 H (g6 S) fun t109 H61 =>
 bindV (storeT tlo base 19 H61 (g3 S) t109) fun H62 =>
 k (z4 (.v (.int .u64 (.ofNat 0))) <| z5 (tN 6) <| stN 24 S) H62)
 (doneT .ret))
 (doneT .normal))))))
 (leafT fun S H k =>
 bindV (b2 evOr (lendV (g8 S)) (lendV (g13 S))) fun t112 =>
 k (z8 t112 <| z13 (keepV (g13 S)) <| stN 24 S) H)))))))
 (leafT fun S H k =>
 bindV (b2 evAdd (g17 S) (tN 1)) fun t113 =>
 k (z17 t113 <| stN 24 S) H)))) fuel)))
 (seqT (leafT fun S H k =>
 sA tlo base 19 H (g6 S) fun t114 H63 =>
 bindV (storeT tlo base 19 H63 (g3 S) t114) fun H64 =>
 k (z4 (g8 S) <| z5 (tN 0) <| z8 (hush (g8 S)) <| stN 24 S) H64)
 (doneT .ret)))))))
def F111 : FnT := fun call tlo l H => bindV (C111 call tlo (lenG H) (argT l 0, argT l 1, argT l 2, argT l 4, argT l 5, argT l 6, argT l 7, argT l 8, argT l 9, argT l 10, argT l 11, argT l 12, argT l 13, argT l 14, argT l 21, argT l 29, argT l 30, argT l 31, argT l 32, argT l 41, argT l 58, argT l 76, argT l 97, argT l 104, ()) H) fun p => resE p.1 (loadT .take tlo (lenG p.2.2) true 19 p.2.2 p.2.1.2.2.2.1 fun r0 h0 => need (allG resOk [r0, p.2.1.2.2.2.2.1, p.2.1.2.2.2.2.2.1]) (some (endT (lenG H) (.tup [r0, p.2.1.2.2.2.2.1, p.2.1.2.2.2.2.2.1]) h0)))
theorem F111_eq : FEq P TC 111 F111 := fun _ _ _ _ => by kernel_rfl
def C112 (call : CallT) (tlo base : Nat) : PieceT (TV × TV × TV × TV × TV × TV × Unit) :=
 (seqT (leafT fun S H k =>
 need (stor S.1) <|
 let t2 := (.ptr (lenG H) 0)
 let H0 := (pushT H (.cells (cellsT S.1)))
 k (z0 (hush S.1) <| z2 t2 <| z3 (tN 0) <| stN 6 S) H0)
 (seqT (blockT 0 (seqT (leafT fun S H k =>
 lA tlo base 19 H (g2 S) fun t6 H1 =>
 bindV (callTree call 128 [setV t6] H1) fun t7 =>
 bindV (b1 evNot t7) fun t8 =>
 k (z4 t8 <| stN 6 S) H1)
 (condT (fun S => some (g4 S))
 (seqT (leafT fun S H k =>
 k (z3 (tN 5) <| stN 6 S) H)
 (doneT .ret))
 (seqT (leafT fun S H k =>
 need (allG pass [setV (g2 S)]) <|
 callIn call tlo 157 [setV (setV (g1 S)), .fn (.func 158) [] [setV (g2 S)]] H fun t12 H2 =>
 k (z1 (setV (g1 S)) <| z2 (setV (g2 S)) <| z5 t12 <| stN 6 S) H2)
 (condT (fun S => some (g5 S))
 (seqT (leafT fun S H k =>
 k (z3 (tN 21) <| stN 6 S) H)
 (doneT .ret))
 (doneT .normal))))))
 (seqT (leafT fun S H k =>
 k (z3 (tN 0) <| stN 6 S) H)
 (doneT .ret))))
def F112 : FnT := fun call tlo l H => bindV (C112 call tlo (lenG H) (argT l 0, argT l 1, argT l 2, argT l 4, argT l 5, argT l 9, ()) H) fun p => resE p.1 (need (allG resOk [p.2.1.2.2.2.1]) (some (endT (lenG H) p.2.1.2.2.2.1 p.2.2)))
theorem F112_eq : FEq P TC 112 F112 := fun _ _ _ _ => by kernel_rfl
def C113 (call : CallT) (tlo base : Nat) : PieceT (TV × TV × TV × TV × TV × TV × TV × TV × TV × TV × Unit) :=
 (seqT (leafT fun S H k =>
 need (stor S.1) <|
 let t2 := (.ptr (lenG H) 0)
 let H0 := (pushT H (.cells (cellsT S.1)))
 need (stor (g1 S)) <|
 let t3 := (.ptr (lenG H0) 0)
 let H1 := (pushT H0 (.cells (cellsT (g1 S))))
 k (z0 (hush S.1) <| z1 (hush (g1 S)) <| z2 t2 <| z3 t3 <| z4 nilT <| stN 10 S) H1)
 (seqT (leafT fun S H k =>
 lA tlo base 19 H (g2 S) fun t10 H2 =>
 bindV (callTree call 116 [setV t10] H2) fun t11 =>
 withX (toV t11) fun l3 => withX (toV t11) fun m3 => bindV (evSizes 8 l3 m3) fun c3 =>
 let t12 := (.vec (lenG H2) 0 c3.1 c3.2 1 false)
 let H4 := (pushT H2 (.cells (repG [tN 0] c3.2)))
 let t5 := (.ptr (lenG H4) 0)
 let H5 := (pushT H4 (.cells [nilT]))
 bindV (storeT tlo base 1 H5 t5 t12) fun H6 =>
 k (z5 t5 <| stN 10 S) H6)
 (seqT (leafT fun S H k =>
 lA tlo base 19 H (g2 S) fun t13 H7 =>
 bindV (callTree call 116 [setV t13] H7) fun t14 =>
 withX (toV t14) fun l8 => withX (toV t14) fun m8 => bindV (evSizes 1 l8 m8) fun c8 =>
 let t15 := (.vec (lenG H7) 0 c8.1 c8.2 1 false)
 let H9 := (pushT H7 (.cells (repG [tB false] c8.2)))
 let t6 := (.ptr (lenG H9) 0)
 let H10 := (pushT H9 (.cells [nilT]))
 bindV (storeT tlo base 1 H10 t6 t15) fun H11 =>
 k (z6 t6 <| stN 10 S) H11)
 (seqT (leafT fun S H k =>
 let t7 := (.ptr (lenG H) 0)
 let H12 := (pushT H (.cells [.v .nilFunc]))
 k (z7 t7 <| stN 10 S) H12)
 (seqT (leafT fun S H k =>
 need (allG pass [setV (g2 S), setV (g6 S), setV (g3 S), setV (g7 S)]) <|
 let t8 := (.ptr (lenG H) 0)
 let H13 := (pushT H (.cells [.v .nilFunc]))
 bindV (storeT tlo base 1 H13 t8 (.fn (.func 159) [] [setV (g2 S), setV (g6 S), setV (g3 S), setV (g7 S)])) fun H14 =>
 k (z2 (setV (g2 S)) <| z3 (setV (g3 S)) <| z6 (setV (g6 S)) <| z7 (setV (g7 S)) <| z8 t8 <| stN 10 S) H14)
 (seqT (leafT fun S H k =>
 need (allG pass [setV (g5 S), setV (g6 S), setV (g2 S), setV (g8 S)]) <|
 bindV (storeT tlo base 1 H (g7 S) (.fn (.func 161) [] [setV (g5 S), setV (g6 S), setV (g2 S), setV (g8 S)])) fun H15 =>
 k (z2 (setV (g2 S)) <| z5 (setV (g5 S)) <| z6 (setV (g6 S)) <| z8 (setV (g8 S)) <| stN 10 S) H15)
 (seqT (leafT fun S H k =>
 bindV (shiftT (g2 S) 2) fun t18 =>
 lF tlo base H t18 fun t19 H16 =>
 bindV (callTree call 156 [setV t19] H16) fun t20 =>
 k (z9 t20 <| stN 10 S) H16)
 (seqT (leafT fun S H k =>
 lF tlo base H (g7 S) fun t21 H17 =>
 bindV (shiftT (g2 S) 0) fun t23 =>
 lF tlo base H17 t23 fun t24 H18 =>
 bindV (b2 evQuo (lendV (g9 S)) t24) fun t25 =>
 bindV (shiftT (g2 S) 0) fun t26 =>
 lF tlo base H18 t26 fun t27 H19 =>
 bindV (b2 evAdd t27 (tN 1)) fun t28 =>
 bindV (b2 evMul t25 t28) fun t29 =>
 bindV (shiftT (g2 S) 0) fun t31 =>
 lF tlo base H19 t31 fun t32 H20 =>
 bindV (b2 evRem (lendV (keepV (g9 S))) t32) fun t33 =>
 bindV (b2 evAdd t29 t33) fun t34 =>
 callFn TC call tlo t21 [setV t34, tN 0] H20 fun t35 H21 =>
 k (z9 (keepV (keepV (g9 S))) <| stN 10 S) H21)
 (seqT (leafT fun S H k =>
 sF tlo base H (g5 S) fun t36 H22 =>
 k (z4 t36 <| stN 10 S) H22)
 (doneT .ret))))))))))
def F113 : FnT := fun call tlo l H => bindV (C113 call tlo (lenG H) (argT l 0, argT l 1, argT l 2, argT l 3, argT l 4, argT l 5, argT l 6, argT l 7, argT l 8, argT l 9, ()) H) fun p => resE p.1 (need (allG resOk [p.2.1.2.2.2.2.1]) (some (endT (lenG H) p.2.1.2.2.2.2.1 p.2.2)))
theorem F113_eq : FEq P TC 113 F113 := fun _ _ _ _ => by kernel_rfl
def C116 (call : CallT) (tlo base : Nat) : PieceT (TV × TV × TV × Unit) :=
 (seqT (leafT fun S H k =>
 need (stor S.1) <|
 let t1 := (.ptr (lenG H) 0)
 let H0 := (pushT H (.cells (cellsT S.1)))
 k (z0 (hush S.1) <| z1 t1 <| z2 (tN 0) <| stN 3 S) H0)
 (seqT (leafT fun S H k =>
 bindV (shiftT (g1 S) 0) fun t3 =>
 lF tlo base H t3 fun t4 H1 =>
 bindV (b2 evAdd t4 (tN 1)) fun t5 =>
 bindV (shiftT (g1 S) 1) fun t6 =>
 lF tlo base H1 t6 fun t7 H2 =>
 bindV (b2 evAdd t7 (tN 1)) fun t8 =>
 bindV (b2 evMul t5 t8) fun t9 =>
 k (z2 t9 <| stN 3 S) H2)
 (doneT .ret)))
def F116 : FnT := fun call tlo l H => bindV (C116 call tlo (lenG H) (argT l 0, argT l 1, argT l 2, ()) H) fun p => resE p.1 (need (allG resOk [p.2.1.2.2.1]) (some (endT (lenG H) p.2.1.2.2.1 p.2.2)))
theorem F116_eq : FEq P TC 116 F116 := fun _ _ _ _ => by kernel_rfl
def C117 (call : CallT) (tlo base : Nat) : PieceT (TV × TV × TV × TV × TV × TV × TV × TV × TV × TV × TV × TV × TV × TV × TV × TV × TV × TV × TV × TV × TV × Unit) :=
 (seqT (leafT fun S H k =>
 need (stor S.1) <|
 let t3 := (.ptr (lenG H) 0)
 let H0 := (pushT H (.cells (cellsT S.1)))
 k (z0 (hush S.1) <| z3 t3 <| z4 nilT <| z5 (tB false) <| stN 21 S) H0)
 (seqT (leafT fun S H k =>
 bindV (shiftT (g3 S) 0) fun t20 =>
 lF tlo base H t20 fun t21 H1 =>
 bindV (b2 evAdd t21 (tN 1)) fun t22 =>
 bindV (b2 evRem (lendV (g2 S)) t22) fun t23 =>
 bindV (shiftT (g3 S) 0) fun t25 =>
 lF tlo base H1 t25 fun t26 H2 =>
 bindV (b2 evAdd t26 (tN 1)) fun t27 =>
 bindV (b2 evQuo (lendV (keepV (g2 S))) t27) fun t28 =>
 k (z2 (keepV (keepV (g2 S))) <| z6 t23 <| z7 t28 <| stN 21 S) H2)
 (seqT (seqT (leafT fun S H k =>
 bindV (b2 (evLesser false) (lendV (g6 S)) (lendV (g7 S))) fun c3 =>
 need (isV c3) <|
 bindV (b2 evLss c3 (tN 1)) fun t32 =>
 gV t32 false (lendV (keepV (g6 S))) H fun t34 H4 =>
 gB t32 false (shiftT (g3 S) 0) H4 fun t35 H5 =>
 guardT (lendV t32) false (lF tlo base H5 t35 fun g6 H6 => pairT g6 H6) H5 fun t36 H7 =>
 gB t32 false (b2 evGeq t34 t36) H7 fun t37 H8 =>
 bindV (pickT (lendV t32) (tB true) (setV t37)) fun t38 =>
 gV t38 false (lendV (keepV (g7 S))) H8 fun t40 H9 =>
 gB t38 false (shiftT (g3 S) 1) H9 fun t41 H10 =>
 guardT (lendV t38) false (lF tlo base H10 t41 fun g11 H11 => pairT g11 H11) H10 fun t42 H12 =>
 gB t38 false (b2 evGeq t40 t42) H12 fun t43 H13 =>
 bindV (pickT (lendV t38) (tB true) (setV t43)) fun t44 =>
 k (z6 (keepV (keepV (g6 S))) <| z7 (keepV (keepV (g7 S))) <| z16 t44 <| stN 21 S) H13)
 (condT (fun S => some (g16 S))
 (seqT (leafT fun S H k =>
 k (z4 nilT <| z5 (tB false) <| stN 21 S) H)
 (doneT .ret))
 (doneT .normal)))
 (seqT (leafT fun S H k =>
 bindV (b2 evSub (lendV (g7 S)) (tN 1)) fun t46 =>
 bindV (shiftT (g3 S) 0) fun t47 =>
 lF tlo base H t47 fun t48 H14 =>
 bindV (b2 evMul t46 t48) fun t49 =>
 bindV (b2 evAdd t49 (lendV (g6 S))) fun t51 =>
 bindV (b2 evSub t51 (tN 1)) fun t52 =>
 k (z6 (keepV (g6 S)) <| z7 (keepV (g7 S)) <| z8 t52 <| stN 21 S) H14)
 (seqT (leafT fun S H k =>
 bindV (b2 evAdd (lendV (g8 S)) (tN 1)) fun t54 =>
 bindV (shiftT (g3 S) 0) fun t56 =>
 lF tlo base H t56 fun t57 H15 =>
 bindV (b2 evAdd (lendV (keepV (g8 S))) t57) fun t58 =>
 bindV (shiftT (g3 S) 0) fun t60 =>
 lF tlo base H15 t60 fun t61 H16 =>
 bindV (b2 evAdd (lendV (keepV (keepV (g8 S)))) t61) fun t62 =>
 bindV (b2 evAdd t62 (tN 1)) fun t63 =>
 k (z8 (keepV (keepV (keepV (g8 S)))) <| z9 t54 <| z10 t58 <| z11 t63 <| stN 21 S) H16)
 (seqT (seqT (leafT fun S H k =>
 bindV (aggT [(0, 1, (setV (g8 S))), (1, 1, (setV (g9 S)))] zc71) fun t66 =>
 bindV (aggT [(0, 1, (setV (g10 S))), (1, 1, (setV (g11 S)))] zc71) fun t69 =>
 bindV (aggT [(0, 2, t66), (2, 2, t69)] zc172) fun t70 =>
 bindV (aggT [(0, 1, (setV (setV (g8 S)))), (1, 1, (setV (setV (g10 S))))] zc71) fun t73 =>
 bindV (aggT [(0, 1, (setV (setV (g9 S)))), (1, 1, (setV (setV (g11 S))))] zc71) fun t76 =>
 bindV (aggT [(0, 2, t73), (2, 2, t76)] zc172) fun t77 =>
 bindV (aggT [(0, 4, t70), (4, 4, t77)] zc173) fun t78 =>
 k (z8 (setV (setV (g8 S))) <| z9 (setV (setV (g9 S))) <| z10 (setV (setV (g10 S))) <| z11 (setV (setV (g11 S))) <| z17 t78 <| z18 (tN 0) <| stN 21 S) H)
 (blockT 0 (loopT (seqT (leafT fun S H k =>
 bindV (b2 evLss (g18 S) (tN 2)) fun t80 =>
 k (z19 t80 <| stN 21 S) H)
 (seqT (condT (fun S => some (g19 S))
 (doneT .normal)
 (doneT (.exit 0)))
 (seqT (blockT 1 (seqT (leafT fun S H k =>
 bindV (idxValT true 2 4 (setV (g17 S)) (g18 S)) fun t81 =>
 let t15 := (.ptr (lenG H) 0)
 let H17 := (pushT H (.cells zc172))
 bindV (storeT tlo base 4 H17 t15 t81) fun H18 =>
 k (z12 t15 <| z17 (setV (g17 S)) <| stN 21 S) H18)
 (seqT (leafT fun S H k =>
 bindV (idxArrT 2 2 (g12 S) (tN 0)) fun t83 =>
 lA tlo base 2 H t83 fun t84 H19 =>
 bindV (callTree call 135 [setV (lendV (g1 S)), setV t84] H19) fun t85 =>
 bindV (idxArrT 2 2 (g12 S) (tN 1)) fun t87 =>
 lA tlo base 2 H19 t87 fun t88 H20 =>
 bindV (callTree call 135 [setV (lendV (keepV (g1 S))), setV t88] H20) fun t89 =>
 k (z1 (keepV (keepV (g1 S))) <| z13 t85 <| z14 t89 <| stN 21 S) H20)
 (seqT (seqT (leafT fun S H k =>
 bindV (b2 evLss (lendV (g13 S)) (tN 0)) fun t91 =>
 gV t91 false (lendV (g14 S)) H fun t93 H21 =>
 gB t91 false (b2 evLss t93 (tN 0)) H21 fun t94 H22 =>
 bindV (pickT (lendV t91) (tB true) (setV t94)) fun t95 =>
 k (z13 (keepV (g13 S)) <| z14 (keepV (g14 S)) <| z20 t95 <| stN 21 S) H22)
 (condT (fun S => some (g20 S))
 (doneT (.exit 1))
 (doneT .normal)))
 (seqT (leafT fun S H k =>
 bindV (callTree call 143 [setV (lendV (g1 S))] H) fun t97 =>
 k (z1 (keepV (g1 S)) <| z15 t97 <| stN 21 S) H)
 (seqT (leafT fun S H k =>
 thawB 2 true (g15 S) H fun c23 H23 =>
 thawB 2 true (stale c23) H23 fun c24 H24 =>
 bindV (b2 evAdd (lendV (stale (g9 S))) (lendV (stale (g10 S)))) fun t105 =>
 bindV (idxArrT 2 2 (stale (g12 S)) (tN 0)) fun t106 =>
 bindV (idxArrT 2 1 t106 (tN 1)) fun t107 =>
 lF tlo base H24 t107 fun t108 H25 =>
 bindV (b2 evSub t105 t108) fun t109 =>
 bindV (aggT [(0, 1, (setV (stale (g8 S)))), (1, 1, t109)] zc71) fun t110 =>
 bindV (b2 evAdd (lendV (keepV (stale (g9 S)))) (lendV (keepV (stale (g10 S))))) fun t113 =>
 bindV (idxArrT 2 2 (stale (g12 S)) (tN 1)) fun t114 =>
 bindV (idxArrT 2 1 t114 (tN 0)) fun t115 =>
 lF tlo base H25 t115 fun t116 H26 =>
 bindV (b2 evSub t113 t116) fun t117 =>
 bindV (aggT [(0, 1, t117), (1, 1, (setV (stale (g11 S))))] zc71) fun t119 =>
 thawB 2 true (stale c23) H26 fun c27 H27 =>
 bindV (idxSlT 2 c27 (stale (lendV (stale (g13 S))))) fun t120 =>
 need (apartT [hdX (stale t115) (hdP H25 t115)] [hdX t120 (hdP H27 t120)]) <|
 bindV (storeT tlo base 2 H27 t120 (stale t110)) fun H28 =>
 thawB 2 true (stale c24) H28 fun c29 H29 =>
 bindV (idxSlT 2 c29 (stale (lendV (stale (g14 S))))) fun t121 =>
 bindV (storeT tlo base 2 H29 t121 (stale t119)) fun H30 =>
 k (z8 (setV (stale (g8 S))) <| z9 (keepV (keepV (stale (g9 S)))) <| z10 (keepV (keepV (stale (g10 S)))) <| z11 (setV (stale (g11 S))) <| z13 (keepV (stale (g13 S))) <| z14 (keepV (stale (g14 S))) <| z15 c24 <| stN 21 S) H30)
 (seqT (leafT fun S H k =>
 thawB 2 true (g15 S) H fun c31 H31 =>
 thawB 2 true c31 H31 fun c32 H32 =>
 callIn call tlo 85 [c32, .fn (.func 164) [] []] H32 fun t123 H33 =>
 k (z15 c31 <| stN 21 S) H33)
 (seqT (leafT fun S H k =>
 k (z4 (g15 S) <| z5 (tB true) <| z15 (hush (g15 S)) <| stN 21 S) H)
 (doneT .ret)))))))))
 (leafT fun S H k =>
 bindV (b2 evAdd (g18 S) (tN 1)) fun t125 =>
 k (z18 t125 <| stN 21 S) H)))) fuel)))
 (seqT (leafT fun S H k =>
 k (z4 nilT <| z5 (tB false) <| stN 21 S) H)
 (doneT .ret))))))))
def F117 : FnT := fun call tlo l H => bindV (C117 call tlo (lenG H) (argT l 0, argT l 1, argT l 2, argT l 3, argT l 6, argT l 7, argT l 8, argT l 9, argT l 10, argT l 11, argT l 12, argT l 13, argT l 15, argT l 16, argT l 17, argT l 18, argT l 44, argT l 78, argT l 79, argT l 80, argT l 95, ()) H) fun p => resE p.1 (need (allG resOk [p.2.1.2.2.2.2.1, p.2.1.2.2.2.2.2.1]) (some (endT (lenG H) (.tup [p.2.1.2.2.2.2.1, p.2.1.2.2.2.2.2.1]) p.2.2)))
theorem F117_eq : FEq P TC 117 F117 := fun _ _ _ _ => by kernel_rfl
def C119 (call : CallT) (tlo base : Nat) : PieceT (TV × TV × TV × TV × TV × TV × TV × TV × TV × TV × TV × TV × TV × TV × TV × TV × TV × TV × TV × TV × TV × Unit) :=
 (seqT (leafT fun S H k =>
 need (stor S.1) <|
 let t2 := (.ptr (lenG H) 0)
 let H0 := (pushT H (.cells (cellsT S.1)))
 k (z0 (hush S.1) <| z2 t2 <| z3 nilT <| z4 (tN 0) <| stN 21 S) H0)
 (seqT (leafT fun S H k =>
 lA tlo base 3 H (g2 S) fun t14 H1 =>
 bindV (callTree call 94 [setV t14] H1) fun t15 =>
 withX (compT (lendV t15) 0) fun c2 =>
 withX (compT (compGone (lendV t15) 0) 1) fun c3 =>
 let t6 := (.ptr (lenG H1) 0)
 let H4 := (pushT H1 (.cells zc104))
 bindV (storeT tlo base 19 H4 t6 c2) fun H5 =>
 k (z5 t6 <| z6 c3 <| stN 21 S) H5)
 (seqT (blockT 0 (seqT (leafT fun S H k =>
 bindV (neqT .int (lendV (g6 S)) (tN 0)) fun t20 =>
 k (z6 (keepV (g6 S)) <| z12 t20 <| stN 21 S) H)
 (condT (fun S => some (g12 S))
 (seqT (leafT fun S H k =>
 k (z3 nilT <| z4 (g6 S) <| z6 (hush (g6 S)) <| stN 21 S) H)
 (doneT .ret))
 (seqT (leafT fun S H k =>
 lA tlo base 19 H (g5 S) fun t23 H6 =>
 bindV (callTree call 128 [setV t23] H6) fun t24 =>
 bindV (b1 evNot t24) fun t25 =>
 k (z13 t25 <| stN 21 S) H6)
 (condT (fun S => some (g13 S))
 (seqT (leafT fun S H k =>
 k (z3 nilT <| z4 (tN 5) <| stN 21 S) H)
 (doneT .ret))
 (doneT .normal))))))
 (seqT (leafT fun S H k =>
 lA tlo base 19 H (g5 S) fun t26 H7 =>
 bindV (shiftT (g5 S) 2) fun t27 =>
 lF tlo base H7 t27 fun t28 H8 =>
 bindV (callTree call 97 [setV t26, setV t28] H8) fun t29 =>
 k (z7 t29 <| stN 21 S) H8)
 (seqT (seqT (leafT fun S H k =>
 bindV (lenT (lendV (g7 S))) fun t31 =>
 bindV (b2 evMul (tN 2) t31) fun t32 =>
 bindV (shiftT (g5 S) 2) fun t33 =>
 lF tlo base H t33 fun t34 H9 =>
 bindV (callTree call 166 [setV t34] H9) fun t35 =>
 bindV (b2 evLss t32 t35) fun t36 =>
 k (z7 (keepV (g7 S)) <| z14 t36 <| stN 21 S) H9)
 (condT (fun S => some (g14 S))
 (seqT (leafT fun S H k =>
 k (z3 nilT <| z4 (tN 12) <| stN 21 S) H)
 (doneT .ret))
 (doneT .normal)))
 (seqT (doneT .normal)
 (seqT (seqT (leafT fun S H k =>
 k (z15 (tN 0) <| stN 21 S) H)
 (blockT 1 (loopT (seqT (leafT fun S H k =>
 bindV (b2 evLss (g15 S) (tN 256)) fun t38 =>
 k (z16 t38 <| stN 21 S) H)
 (seqT (condT (fun S => some (g16 S))
 (doneT .normal)
 (doneT (.exit 1)))
 (seqT (blockT 2 (seqT (leafT fun S H k =>
 sA tlo base 19 H (g5 S) fun t39 H10 =>
 callIn call tlo 113 [setV t39, setV (setV (g7 S))] H10 fun t41 H11 =>
 k (z7 (setV (g7 S)) <| z8 t41 <| stN 21 S) H11)
 (seqT (seqT (leafT fun S H k =>
 bindV (lenT (lendV (g8 S))) fun t43 =>
 k (z8 (keepV (g8 S)) <| z17 t43 <| z18 (tN 0) <| stN 21 S) H)
 (blockT 3 (loopT (seqT (leafT fun S H k =>
 bindV (b2 evLss (g18 S) (g17 S)) fun t45 =>
 k (z19 t45 <| stN 21 S) H)
 (seqT (condT (fun S => some (g19 S))
 (doneT .normal)
 (doneT (.exit 3)))
 (seqT (blockT 4 (seqT (leafT fun S H k =>
 k (z9 (g18 S) <| z18 (hush (g18 S)) <| stN 21 S) H)
 (seqT (leafT fun S H k =>
 lA tlo base 19 H (g5 S) fun t48 H12 =>
 bindV (callTree call 117 [setV t48, setV (lendV (g7 S)), setV (lendV (g9 S))] H12) fun t51 =>
 withX (compT (lendV t51) 0) fun c13 =>
 withX (compT (compGone (lendV t51) 0) 1) fun c14 =>
 k (z7 (keepV (g7 S)) <| z9 (keepV (g9 S)) <| z10 c13 <| z11 c14 <| stN 21 S) H12)
 (seqT (leafT fun S H k =>
 guardT (lendV (lendV (g11 S))) true ( pairT (lendV (g1 S)) H) H fun t56 H15 =>
 guardT (lendV (lendV (g11 S))) true (sA tlo base 19 H15 (g5 S) fun g16 H16 => pairT g16 H16) H15 fun t57 H17 =>
 guardT (lendV (lendV (g11 S))) true ( pairT (setV (g10 S)) H17) H17 fun t58 H18 =>
 need (allG noOwnO H18) <|
 guardT (lendV (lendV (g11 S))) true (callIn call (lenG H18) 113 [setV t57, setV t58] H18 fun g19 H19 => pairT g19 H19) H18 fun t59 H20 =>
 guardT (lendV (lendV (g11 S))) true ( pairT (lendV (stale (g9 S))) H20) H20 fun t60 H21 =>
 guardT (lendV (lendV (g11 S))) true (bindV (idxSlT 1 t59 t60) fun g22 => pairT g22 H21) H21 fun t61 H22 =>
 guardT (lendV (lendV (g11 S))) true (lF tlo base H22 t61 fun g23 H23 => pairT g23 H23) H22 fun t62 H24 =>
 guardT (lendV (lendV (g11 S))) true (bindV (b2 evMul (stale t56) t62) fun g25 => pairT g25 H24) H24 fun t63 H25 =>
 guardT (lendV (lendV (g11 S))) true ( pairT (lendV (stale (keepV (g1 S)))) H25) H25 fun t64 H26 =>
 guardT (lendV (lendV (g11 S))) true ( pairT (lendV (stale (g8 S))) H26) H26 fun t65 H27 =>
 guardT (lendV (lendV (g11 S))) true ( pairT (lendV (keepV (stale (g9 S)))) H27) H27 fun t66 H28 =>
 guardT (lendV (lendV (g11 S))) true (bindV (idxSlT 1 t65 t66) fun g29 => pairT g29 H28) H28 fun t67 H29 =>
 guardT (lendV (lendV (g11 S))) true (lF tlo base H29 t67 fun g30 H30 => pairT g30 H30) H29 fun t68 H31 =>
 guardT (lendV (lendV (g11 S))) true (bindV (b2 evMul t64 t68) fun g32 => pairT g32 H31) H31 fun t69 H32 =>
 guardT (lendV (lendV (g11 S))) true (bindV (b2 evLss t63 t69) fun g33 => pairT g33 H32) H32 fun t70 H33 =>
 bindV (pickT (stale (lendV (lendV (g11 S)))) (setV t70) (tB false)) fun t71 =>
 k (z1 (keepV (stale (keepV (g1 S)))) <| z8 (keepV (stale (g8 S))) <| z9 (keepV (keepV (stale (g9 S)))) <| z10 (setV (g10 S)) <| z11 (keepV (g11 S)) <| z20 t71 <| stN 21 S) H33)
 (condT (fun S => some (g20 S))
 (seqT (leafT fun S H k =>
 k (z7 (g10 S) <| z10 (hush (g10 S)) <| stN 21 S) H)
 (doneT (.exit 2)))
 (doneT .normal))))))
 (leafT fun S H k =>
 bindV (b2 evAdd (g18 S) (tN 1)) fun t73 =>
 k (z18 t73 <| stN 21 S) H)))) fuel)))
 (doneT (.exit 1)))))
 (leafT fun S H k =>
 bindV (b2 evAdd (g15 S) (tN 1)) fun t74 =>
 k (z15 t74 <| stN 21 S) H)))) fuel)))
 (seqT (leafT fun S H k =>
 k (z3 (g7 S) <| z4 (tN 0) <| z7 (hush (g7 S)) <| stN 21 S) H)
 (doneT .ret)))))))))
def F119 : FnT := fun call tlo l H => bindV (C119 call tlo (lenG H) (argT l 0, argT l 1, argT l 2, argT l 4, argT l 5, argT l 6, argT l 7, argT l 8, argT l 9, argT l 10, argT l 11, argT l 12, argT l 18, argT l 22, argT l 36, argT l 37, argT l 38, argT l 43, argT l 44, argT l 45, argT l 71, ()) H) fun p => resE p.1 (need (allG resOk [p.2.1.2.2.2.1, p.2.1.2.2.2.2.1]) (some (endT (lenG H) (.tup [p.2.1.2.2.2.1, p.2.1.2.2.2.2.1]) p.2.2)))
theorem F119_eq : FEq P TC 119 F119 := fun _ _ _ _ => by kernel_rfl
end
end Go.Proofs.YtgemobbfikjmoaaGreatDoor
namespace Go.Proofs.YtgemobbfikjmoaaGreatDoor
open Go Go.Ev
set_option maxRecDepth 1000000
set_option linter.unusedVariables false
noncomputable section
def C121 (call : CallT) (tlo base : Nat) : PieceT (TV × TV × TV × TV × TV × TV × TV × TV × TV × TV × TV × TV × TV × TV × TV × Unit) :=
 (seqT (leafT fun S H k =>
 need (stor S.1) <|
 let t3 := (.ptr (lenG H) 0)
 let H0 := (pushT H (.cells (cellsT S.1)))
 let t6 := (.ptr (lenG H0) 0)
 let H1 := (pushT H0 (.cells zc104))
 k (z0 (hush S.1) <| z3 t3 <| z4 t6 <| z5 nilT <| z6 nilT <| z7 (tN 0) <| stN 15 S) H1)
 (seqT (leafT fun S H k =>
 lA tlo base 3 H (g3 S) fun t16 H2 =>
 bindV (callTree call 111 [setV t16, setV (lendV (g1 S))] H2) fun t18 =>
 withX (compT (lendV t18) 0) fun c3 =>
 withX (compT (compGone (lendV t18) 0) 1) fun c4 =>
 withX (compT (compGone (compGone (lendV t18) 0) 1) 2) fun c5 =>
 let t10 := (.ptr (lenG H2) 0)
 let H6 := (pushT H2 (.cells zc104))
 bindV (storeT tlo base 19 H6 t10 c3) fun H7 =>
 k (z1 (keepV (g1 S)) <| z8 t10 <| z9 c4 <| z10 c5 <| stN 15 S) H7)
 (seqT (seqT (leafT fun S H k =>
 bindV (neqT .int (lendV (g10 S)) (tN 0)) fun t23 =>
 k (z10 (keepV (g10 S)) <| z12 t23 <| stN 15 S) H)
 (condT (fun S => some (g12 S))
 (seqT (leafT fun S H k =>
 sA tlo base 19 H (g8 S) fun t24 H8 =>
 bindV (storeT tlo base 19 H8 (g4 S) t24) fun H9 =>
 k (z5 nilT <| z6 nilT <| z7 (g10 S) <| z10 (hush (g10 S)) <| stN 15 S) H9)
 (doneT .ret))
 (doneT .normal)))
 (seqT (leafT fun S H k =>
 lA tlo base 3 H (g3 S) fun t27 H10 =>
 bindV (callTree call 111 [setV t27, setV (lendV (g2 S))] H10) fun t29 =>
 withX (compT (lendV t29) 0) fun c11 =>
 withX (compT (compGone (lendV t29) 0) 1) fun c12 =>
 withX (compT (compGone (compGone (lendV t29) 0) 1) 2) fun c13 =>
 let t13 := (.ptr (lenG H10) 0)
 let H14 := (pushT H10 (.cells zc104))
 bindV (storeT tlo base 19 H14 t13 c11) fun H15 =>
 k (z2 (keepV (g2 S)) <| z10 c13 <| z11 c12 <| stN 15 S) H15)
 (seqT (seqT (leafT fun S H k =>
 bindV (eqlT .int (lendV (g10 S)) (tN 0)) fun t34 =>
 k (z10 (keepV (g10 S)) <| z13 t34 <| stN 15 S) H)
 (condT (fun S => some (g13 S))
 (leafT fun S H k =>
 lA tlo base 19 H (g8 S) fun t35 H16 =>
 bindV (elemsT 1 [0, 1] [setV (setV (g9 S)), setV (setV (g11 S))] (repG [.v (.int .u64 (.ofNat 0))] 2)) fun c17 =>
 bindV (callTree call 112 [setV t35, setV (.row .full (.own 101) 1 c17)] H16) fun t39 =>
 k (z9 (setV (g9 S)) <| z10 t39 <| z11 (setV (g11 S)) <| stN 15 S) H16)
 (doneT .normal)))
 (seqT (seqT (leafT fun S H k =>
 bindV (neqT .int (lendV (g10 S)) (tN 0)) fun t41 =>
 k (z10 (keepV (g10 S)) <| z14 t41 <| stN 15 S) H)
 (condT (fun S => some (g14 S))
 (seqT (leafT fun S H k =>
 sA tlo base 19 H (g8 S) fun t42 H18 =>
 bindV (storeT tlo base 19 H18 (g4 S) t42) fun H19 =>
 k (z5 nilT <| z6 nilT <| z7 (g10 S) <| z10 (hush (g10 S)) <| stN 15 S) H19)
 (doneT .ret))
 (doneT .normal)))
 (seqT (leafT fun S H k =>
 sA tlo base 19 H (g8 S) fun t44 H20 =>
 sA tlo base 19 H20 (g8 S) fun t45 H21 =>
 need (allG noOwnO H21) <|
 callIn call (lenG H21) 113 [setV t45, setV (setV (g1 S))] H21 fun t47 H22 =>
 sA tlo base 19 H22 (stale (g8 S)) fun t48 H23 =>
 need (allG noOwnO H23) <|
 callIn call (lenG H23) 113 [setV t48, setV (setV (stale (g2 S)))] H23 fun t50 H24 =>
 bindV (storeT tlo base 19 H24 (stale (g4 S)) (stale t44)) fun H25 =>
 k (z1 (setV (g1 S)) <| z2 (setV (stale (g2 S))) <| z5 (stale t47) <| z6 t50 <| z7 (tN 0) <| stN 15 S) H25)
 (doneT .ret))))))))
def F121 : FnT := fun call tlo l H => bindV (C121 call tlo (lenG H) (argT l 0, argT l 1, argT l 2, argT l 3, argT l 6, argT l 7, argT l 8, argT l 9, argT l 10, argT l 11, argT l 12, argT l 14, argT l 23, argT l 34, argT l 41, ()) H) fun p => resE p.1 (loadT .take tlo (lenG p.2.2) true 19 p.2.2 p.2.1.2.2.2.2.1 fun r0 h0 => need (allG resOk [r0, p.2.1.2.2.2.2.2.1, p.2.1.2.2.2.2.2.2.1, p.2.1.2.2.2.2.2.2.2.1]) (some (endT (lenG H) (.tup [r0, p.2.1.2.2.2.2.2.1, p.2.1.2.2.2.2.2.2.1, p.2.1.2.2.2.2.2.2.2.1]) h0)))
theorem F121_eq : FEq P TC 121 F121 := fun _ _ _ _ => by kernel_rfl
def C124 (call : CallT) (tlo base : Nat) : PieceT (TV × TV × TV × TV × TV × TV × TV × TV × TV × TV × TV × TV × TV × TV × TV × TV × Unit) :=
 (seqT (leafT fun S H k =>
 need (stor S.1) <|
 let t4 := (.ptr (lenG H) 0)
 let H0 := (pushT H (.cells (cellsT S.1)))
 k (z0 (hush S.1) <| z4 t4 <| z5 nilT <| z6 (tN 0) <| stN 16 S) H0)
 (seqT (leafT fun S H k =>
 sA tlo base 3 H (g4 S) fun t16 H1 =>
 callIn call tlo 121 [setV t16, setV (setV (g1 S)), setV (setV (g2 S))] H1 fun t19 H2 =>
 withX (compT (lendV t19) 0) fun c3 =>
 withX (compT (compGone (lendV t19) 0) 1) fun c4 =>
 withX (compT (compGone (compGone (lendV t19) 0) 1) 2) fun c5 =>
 withX (compT (compGone (compGone (compGone (lendV t19) 0) 1) 2) 3) fun c6 =>
 let t10 := (.ptr (lenG H2) 0)
 let H7 := (pushT H2 (.cells zc104))
 bindV (storeT tlo base 19 H7 t10 c3) fun H8 =>
 k (z1 (setV (g1 S)) <| z2 (setV (g2 S)) <| z7 t10 <| z8 c4 <| z9 c5 <| z10 c6 <| stN 16 S) H8)
 (seqT (seqT (leafT fun S H k =>
 bindV (neqT .int (lendV (g10 S)) (tN 0)) fun t25 =>
 k (z10 (keepV (g10 S)) <| z12 t25 <| stN 16 S) H)
 (condT (fun S => some (g12 S))
 (seqT (leafT fun S H k =>
 k (z5 nilT <| z6 (g10 S) <| z10 (hush (g10 S)) <| stN 16 S) H)
 (doneT .ret))
 (doneT .normal)))
 (seqT (seqT (leafT fun S H k =>
 bindV (lenT (lendV (g8 S))) fun t28 =>
 k (z8 (keepV (g8 S)) <| z13 t28 <| z14 (tN 0) <| stN 16 S) H)
 (blockT 0 (loopT (seqT (leafT fun S H k =>
 bindV (b2 evLss (g14 S) (g13 S)) fun t30 =>
 k (z15 t30 <| stN 16 S) H)
 (seqT (condT (fun S => some (g15 S))
 (doneT .normal)
 (doneT (.exit 0)))
 (seqT (blockT 1 (seqT (leafT fun S H k =>
 k (z11 (g14 S) <| z14 (hush (g14 S)) <| stN 16 S) H)
 (leafT fun S H k =>
 thawB 1 false (g8 S) H fun c9 H9 =>
 bindV (idxSlT 1 (lendV (stale c9)) (lendV (keepV (stale (g11 S))))) fun t37 =>
 sF tlo base H9 t37 fun t38 H10 =>
 bindV (idxSlT 1 (lendV (stale (g9 S))) (lendV (keepV (keepV (stale (g11 S)))))) fun t41 =>
 sF tlo base H10 t41 fun t42 H11 =>
 callFn TC call tlo (lendV (stale (g3 S))) [setV t38, setV t42] H11 fun t43 H12 =>
 thawB 1 false (stale c9) H12 fun c13 H13 =>
 bindV (idxSlT 1 c13 (stale (lendV (stale (g11 S))))) fun t44 =>
 bindV (storeT tlo base 1 H13 t44 (stale t43)) fun H14 =>
 k (z3 (keepV (stale (g3 S))) <| z8 (keepV (stale c9)) <| z9 (keepV (stale (g9 S))) <| z11 (keepV (keepV (keepV (stale (g11 S))))) <| stN 16 S) H14)))
 (leafT fun S H k =>
 bindV (b2 evAdd (g14 S) (tN 1)) fun t45 =>
 k (z14 t45 <| stN 16 S) H)))) fuel)))
 (seqT (leafT fun S H k =>
 lA tlo base 19 H (g7 S) fun t46 H15 =>
 bindV (callTree call 169 [setV t46, setV (lendV (g8 S))] H15) fun t48 =>
 k (z5 t48 <| z6 (tN 0) <| z8 (keepV (g8 S)) <| stN 16 S) H15)
 (doneT .ret))))))
def F124 : FnT := fun call tlo l H => bindV (C124 call tlo (lenG H) (argT l 0, argT l 1, argT l 2, argT l 3, argT l 4, argT l 8, argT l 9, argT l 10, argT l 11, argT l 12, argT l 13, argT l 14, argT l 25, argT l 28, argT l 29, argT l 30, ()) H) fun p => resE p.1 (need (allG resOk [p.2.1.2.2.2.2.2.1, p.2.1.2.2.2.2.2.2.1]) (some (endT (lenG H) (.tup [p.2.1.2.2.2.2.2.1, p.2.1.2.2.2.2.2.2.1]) p.2.2)))
theorem F124_eq : FEq P TC 124 F124 := fun _ _ _ _ => by kernel_rfl
def C125 (call : CallT) (tlo base : Nat) : PieceT (TV × TV × TV × Unit) :=
 (seqT (leafT fun S H k =>
 k (z2 (tN 0) <| stN 3 S) H)
 (seqT (leafT fun S H k =>
 bindV (b2 (evLesser false) (lendV S.1) (lendV (g1 S))) fun c0 =>
 need (isV c0) <|
 k (z0 (keepV S.1) <| z1 (keepV (g1 S)) <| z2 c0 <| stN 3 S) H)
 (doneT .ret)))
def F125 : FnT := fun call tlo l H => bindV (C125 call tlo (lenG H) (argT l 0, argT l 1, argT l 4, ()) H) fun p => resE p.1 (need (allG resOk [p.2.1.2.2.1]) (some (endT (lenG H) p.2.1.2.2.1 p.2.2)))
theorem F125_eq : FEq P TC 125 F125 := fun _ _ _ _ => by kernel_rfl
def C127 (call : CallT) (tlo base : Nat) : PieceT (TV × TV × TV × Unit) :=
 (seqT (leafT fun S H k =>
 k (z2 (tN 0) <| stN 3 S) H)
 (seqT (leafT fun S H k =>
 bindV (b2 (evLesser true) (lendV S.1) (lendV (g1 S))) fun c0 =>
 need (isV c0) <|
 k (z0 (keepV S.1) <| z1 (keepV (g1 S)) <| z2 c0 <| stN 3 S) H)
 (doneT .ret)))
def F127 : FnT := fun call tlo l H => bindV (C127 call tlo (lenG H) (argT l 0, argT l 1, argT l 4, ()) H) fun p => resE p.1 (need (allG resOk [p.2.1.2.2.1]) (some (endT (lenG H) p.2.1.2.2.1 p.2.2)))
theorem F127_eq : FEq P TC 127 F127 := fun _ _ _ _ => by kernel_rfl
def C128 (call : CallT) (tlo base : Nat) : PieceT (TV × TV × TV × TV × TV × TV × TV × TV × TV × TV × TV × TV × TV × Unit) :=
 (seqT (leafT fun S H k =>
 need (stor S.1) <|
 let t1 := (.ptr (lenG H) 0)
 let H0 := (pushT H (.cells (cellsT S.1)))
 k (z0 (hush S.1) <| z1 t1 <| z2 (tB false) <| stN 13 S) H0)
 (seqT (leafT fun S H k =>
 bindV (shiftT (g1 S) 0) fun t9 =>
 lF tlo base H t9 fun t10 H1 =>
 bindV (shiftT (g1 S) 1) fun t11 =>
 lF tlo base H1 t11 fun t12 H2 =>
 bindV (b2 evMul t10 t12) fun t13 =>
 bindV (b2 evShl (.v (.int .u64 (.ofNat 1))) t13) fun t14 =>
 bindV (b2 evSub t14 (.v (.int .u64 (.ofNat 1)))) fun t15 =>
 bindV (shiftT (g1 S) 2) fun t16 =>
 lF tlo base H2 t16 fun t17 H3 =>
 bindV (b2 evAndNot t15 t17) fun t18 =>
 k (z3 t18 <| z4 (.v (.int .u64 (.ofNat 0))) <| stN 13 S) H3)
 (seqT (seqT (leafT fun S H k =>
 bindV (callTree call 100 [setV (lendV (g3 S))] H) fun t20 =>
 bindV (lenT t20) fun t21 =>
 k (z3 (keepV (g3 S)) <| z8 t20 <| z9 t21 <| z10 (tN 0) <| stN 13 S) H)
 (blockT 0 (loopT (seqT (leafT fun S H k =>
 bindV (b2 evLss (g10 S) (g9 S)) fun t23 =>
 k (z11 t23 <| stN 13 S) H)
 (seqT (condT (fun S => some (g11 S))
 (doneT .normal)
 (doneT (.exit 0)))
 (seqT (blockT 1 (seqT (leafT fun S H k =>
 bindV (idxSlT 1 (g8 S) (g10 S)) fun t24 =>
 sF tlo base H t24 fun t25 H4 =>
 k (z5 t25 <| stN 13 S) H4)
 (seqT (leafT fun S H k =>
 bindV (shiftT (g1 S) 0) fun t27 =>
 lF tlo base H t27 fun t28 H5 =>
 bindV (b2 evRem (lendV (g5 S)) t28) fun t29 =>
 bindV (shiftT (g1 S) 0) fun t31 =>
 lF tlo base H5 t31 fun t32 H6 =>
 bindV (b2 evQuo (lendV (keepV (g5 S))) t32) fun t33 =>
 k (z5 (keepV (keepV (g5 S))) <| z6 t29 <| z7 t33 <| stN 13 S) H6)
 (seqT (leafT fun S H k =>
 bindV (shiftT (g1 S) 0) fun t36 =>
 lF tlo base H t36 fun t37 H7 =>
 bindV (b2 evSub t37 (tN 1)) fun t38 =>
 bindV (b2 evSub t38 (lendV (keepV (g6 S)))) fun t40 =>
 bindV (shiftT (g1 S) 1) fun t41 =>
 lF tlo base H7 t41 fun t42 H8 =>
 bindV (b2 evSub t42 (tN 1)) fun t43 =>
 bindV (b2 evSub t43 (lendV (keepV (g7 S)))) fun t45 =>
 bindV (b2 (evLesser false) (lendV (g6 S)) (lendV (g7 S))) fun c9 =>
 bindV (b2 (evLesser false) c9 t40) fun c10 =>
 bindV (b2 (evLesser false) c10 t45) fun c11 =>
 need (isV c11) <|
 bindV (eqlT .int c11 (tN 0)) fun t47 =>
 k (z6 (keepV (keepV (g6 S))) <| z7 (keepV (keepV (g7 S))) <| z12 t47 <| stN 13 S) H8)
 (condT (fun S => some (g12 S))
 (leafT fun S H k =>
 bindV (b2 evShl (.v (.int .u64 (.ofNat 1))) (lendV (g5 S))) fun t50 =>
 bindV (b2 evOr (lendV (g4 S)) t50) fun t51 =>
 k (z4 t51 <| z5 (keepV (g5 S)) <| stN 13 S) H)
 (doneT .normal))))))
 (leafT fun S H k =>
 bindV (b2 evAdd (g10 S) (tN 1)) fun t52 =>
 k (z10 t52 <| stN 13 S) H)))) fuel)))
 (seqT (leafT fun S H k =>
 bindV (shiftT (g1 S) 2) fun t53 =>
 lF tlo base H t53 fun t54 H12 =>
 bindV (neqT .int t54 (.v (.int .u64 (.ofNat 0)))) fun t55 =>
 gB t55 true (shiftT (g1 S) 2) H12 fun t57 H13 =>
 guardT (lendV t55) true (lF tlo base H13 t57 fun g14 H14 => pairT g14 H14) H13 fun t58 H15 =>
 gB t55 true (shiftT (g1 S) 2) H15 fun t59 H16 =>
 guardT (lendV t55) true (lF tlo base H16 t59 fun g17 H17 => pairT g17 H17) H16 fun t60 H18 =>
 gB t55 true (b1 evNeg t60) H18 fun t61 H19 =>
 gB t55 true (b2 evAnd t58 t61) H19 fun t62 H20 =>
 gB t55 true (shiftT (g1 S) 2) H20 fun t63 H21 =>
 guardT (lendV t55) true (sF tlo base H21 t63 fun g22 H22 => pairT g22 H22) H21 fun t64 H23 =>
 guardT (lendV t55) true (need (allG pass [setV (g1 S)]) <| pairT (.fn (.func 171) [] [setV (g1 S)]) H23) H23 fun t65 H24 =>
 need (allG noOwnO H24) <|
 guardT (lendV t55) true (callIn call (lenG H24) 170 [setV t62, setV t64, setV t65] H24 fun g25 H25 => pairT g25 H25) H24 fun t66 H26 =>
 gB t55 true (shiftT (stale (setV (g1 S))) 2) H26 fun t67 H27 =>
 guardT (lendV t55) true (lF tlo base H27 t67 fun g28 H28 => pairT g28 H28) H27 fun t68 H29 =>
 gB t55 true (eqlT .int t66 t68) H29 fun t69 H30 =>
 bindV (pickT (stale (lendV t55)) (setV t69) (tB false)) fun t70 =>
 gV t70 true (setV (stale (g4 S))) H30 fun t72 H31 =>
 gV t70 true (setV (stale (g3 S))) H31 fun t73 H32 =>
 guardT (lendV t70) true (sA tlo base 19 H32 (stale (setV (g1 S))) fun g33 H33 => pairT g33 H33) H32 fun t74 H34 =>
 guardT (lendV t70) true (need (allG pass [setV t74]) <| pairT (.fn (.func 172) [setV t74] []) H34) H34 fun t75 H35 =>
 guardT (lendV t70) true (callIn call tlo 170 [setV t72, setV t73, setV t75] H35 fun g36 H36 => pairT g36 H36) H35 fun t76 H37 =>
 gV t70 true (lendV (stale (setV (stale (g3 S))))) H37 fun t77 H38 =>
 gB t70 true (eqlT .int t76 t77) H38 fun t78 H39 =>
 bindV (pickT (stale (lendV t70)) (setV t78) (tB false)) fun t79 =>
 k (z1 (setV (g1 S)) <| z2 t79 <| z3 (keepV (stale (setV (stale (g3 S))))) <| z4 (setV (stale (g4 S))) <| stN 13 S) H39)
 (doneT .ret)))))
def F128 : FnT := fun call tlo l H => bindV (C128 call tlo (lenG H) (argT l 0, argT l 1, argT l 2, argT l 3, argT l 4, argT l 6, argT l 7, argT l 8, argT l 20, argT l 21, argT l 22, argT l 23, argT l 47, ()) H) fun p => resE p.1 (need (allG resOk [p.2.1.2.2.1]) (some (endT (lenG H) p.2.1.2.2.1 p.2.2)))
theorem F128_eq : FEq P TC 128 F128 := fun _ _ _ _ => by kernel_rfl
def C134 (call : CallT) (tlo base : Nat) : PieceT (TV × TV × TV × TV × TV × TV × TV × TV × Unit) :=
 (seqT (leafT fun S H k =>
 k (z2 (tN 0) <| stN 8 S) H)
 (seqT (seqT (leafT fun S H k =>
 bindV (lenT (lendV S.1)) fun t7 =>
 k (z0 (keepV S.1) <| z4 t7 <| z5 (tN 0) <| stN 8 S) H)
 (blockT 0 (loopT (seqT (leafT fun S H k =>
 bindV (b2 evLss (g5 S) (g4 S)) fun t9 =>
 k (z6 t9 <| stN 8 S) H)
 (seqT (condT (fun S => some (g6 S))
 (doneT .normal)
 (doneT (.exit 0)))
 (seqT (blockT 1 (seqT (leafT fun S H k =>
 k (z3 (g5 S) <| z5 (hush (g5 S)) <| stN 8 S) H)
 (seqT (leafT fun S H k =>
 bindV (idxSlT 2 (lendV S.1) (lendV (g3 S))) fun t14 =>
 sA tlo base 2 H t14 fun t15 H0 =>
 callFn TC call tlo (lendV (g1 S)) [setV t15] H0 fun t16 H1 =>
 k (z0 (keepV S.1) <| z1 (keepV (g1 S)) <| z3 (keepV (g3 S)) <| z7 t16 <| stN 8 S) H1)
 (condT (fun S => some (g7 S))
 (seqT (leafT fun S H k =>
 k (z2 (g3 S) <| z3 (hush (g3 S)) <| stN 8 S) H)
 (doneT .ret))
 (doneT .normal)))))
 (leafT fun S H k =>
 bindV (b2 evAdd (g5 S) (tN 1)) fun t18 =>
 k (z5 t18 <| stN 8 S) H)))) fuel)))
 (seqT (leafT fun S H k =>
 k (z2 (.v (.int .i64 (.negSucc 0))) <| stN 8 S) H)
 (doneT .ret))))
def F134 : FnT := fun call tlo l H => bindV (C134 call tlo (lenG H) (argT l 0, argT l 1, argT l 4, argT l 5, argT l 7, argT l 8, argT l 9, argT l 16, ()) H) fun p => resE p.1 (need (allG resOk [p.2.1.2.2.1]) (some (endT (lenG H) p.2.1.2.2.1 p.2.2)))
theorem F134_eq : FEq P TC 134 F134 := fun _ _ _ _ => by kernel_rfl
def C135 (call : CallT) (tlo base : Nat) : PieceT (TV × TV × TV × TV × TV × TV × TV × TV × TV × Unit) :=
 (seqT (leafT fun S H k =>
 need (stor (g1 S)) <|
 let t3 := (.ptr (lenG H) 0)
 let H0 := (pushT H (.cells (cellsT (g1 S))))
 k (z1 (hush (g1 S)) <| z2 t3 <| z3 (tN 0) <| stN 9 S) H0)
 (seqT (seqT (leafT fun S H k =>
 bindV (lenT (lendV S.1)) fun t7 =>
 k (z0 (keepV S.1) <| z5 t7 <| z6 (tN 0) <| stN 9 S) H)
 (blockT 0 (loopT (seqT (leafT fun S H k =>
 bindV (b2 evLss (g6 S) (g5 S)) fun t9 =>
 k (z7 t9 <| stN 9 S) H)
 (seqT (condT (fun S => some (g7 S))
 (doneT .normal)
 (doneT (.exit 0)))
 (seqT (blockT 1 (seqT (leafT fun S H k =>
 k (z4 (g6 S) <| z6 (hush (g6 S)) <| stN 9 S) H)
 (seqT (leafT fun S H k =>
 lA tlo base 2 H (g2 S) fun t11 H1 =>
 bindV (idxSlT 2 (lendV S.1) (lendV (g4 S))) fun t14 =>
 lA tlo base 2 H1 t14 fun t15 H2 =>
 bindV (eqlT (.ints 2) t11 t15) fun t16 =>
 k (z0 (keepV S.1) <| z4 (keepV (g4 S)) <| z8 t16 <| stN 9 S) H2)
 (condT (fun S => some (g8 S))
 (seqT (leafT fun S H k =>
 k (z3 (g4 S) <| z4 (hush (g4 S)) <| stN 9 S) H)
 (doneT .ret))
 (doneT .normal)))))
 (leafT fun S H k =>
 bindV (b2 evAdd (g6 S) (tN 1)) fun t18 =>
 k (z6 t18 <| stN 9 S) H)))) fuel)))
 (seqT (leafT fun S H k =>
 k (z3 (.v (.int .i64 (.negSucc 0))) <| stN 9 S) H)
 (doneT .ret))))
def F135 : FnT := fun call tlo l H => bindV (C135 call tlo (lenG H) (argT l 0, argT l 1, argT l 3, argT l 4, argT l 5, argT l 7, argT l 8, argT l 9, argT l 16, ()) H) fun p => resE p.1 (need (allG resOk [p.2.1.2.2.2.1]) (some (endT (lenG H) p.2.1.2.2.2.1 p.2.2)))
theorem F135_eq : FEq P TC 135 F135 := fun _ _ _ _ => by kernel_rfl
def C136 (call : CallT) (tlo base : Nat) : PieceT (TV × TV × TV × TV × TV × TV × TV × TV × TV × TV × Unit) :=
 (seqT (leafT fun S H k =>
 k (z1 nilT <| stN 10 S) H)
 (seqT (seqT (leafT fun S H k =>
 bindV (lenT (lendV S.1)) fun t7 =>
 bindV (b2 evLss t7 (tN 2)) fun t8 =>
 k (z0 (keepV S.1) <| z5 t8 <| stN 10 S) H)
 (condT (fun S => some (g5 S))
 (seqT (leafT fun S H k =>
 k (z0 (hush S.1) <| z1 S.1 <| stN 10 S) H)
 (doneT .ret))
 (doneT .normal)))
 (seqT (seqT (leafT fun S H k =>
 k (z2 (tN 1) <| stN 10 S) H)
 (blockT 0 (loopT (seqT (seqT (leafT fun S H k =>
 bindV (lenT (lendV S.1)) fun t12 =>
 bindV (b2 evLss (lendV (g2 S)) t12) fun t13 =>
 k (z0 (keepV S.1) <| z2 (keepV (g2 S)) <| z6 t13 <| stN 10 S) H)
 (condT (fun S => some (g6 S))
 (doneT .normal)
 (doneT (.exit 0))))
 (seqT (blockT 1 (seqT (leafT fun S H k =>
 bindV (idxSlT 2 (lendV S.1) (lendV (g2 S))) fun t18 =>
 lA tlo base 2 H t18 fun t19 H0 =>
 bindV (b2 evSub (lendV (keepV (g2 S))) (tN 1)) fun t22 =>
 bindV (idxSlT 2 (lendV (keepV S.1)) t22) fun t23 =>
 lA tlo base 2 H0 t23 fun t24 H1 =>
 bindV (eqlT (.ints 2) t19 t24) fun t25 =>
 k (z0 (keepV (keepV S.1)) <| z2 (keepV (keepV (g2 S))) <| z7 t25 <| stN 10 S) H1)
 (condT (fun S => some (g7 S))
 (seqT (leafT fun S H k =>
 bindV (cutT 2 (lendV S.1) (some (lendV (g2 S))) none none) fun t28 =>
 k (z0 (keepV S.1) <| z2 (keepV (g2 S)) <| z3 t28 <| stN 10 S) H)
 (seqT (seqT (leafT fun S H k =>
 k (z4 (tN 1) <| stN 10 S) H)
 (blockT 2 (loopT (seqT (seqT (leafT fun S H k =>
 bindV (lenT (lendV (g3 S))) fun t31 =>
 bindV (b2 evLss (lendV (g4 S)) t31) fun t32 =>
 k (z3 (keepV (g3 S)) <| z4 (keepV (g4 S)) <| z8 t32 <| stN 10 S) H)
 (condT (fun S => some (g8 S))
 (doneT .normal)
 (doneT (.exit 2))))
 (seqT (blockT 3 (seqT (leafT fun S H k =>
 bindV (idxSlT 2 (lendV (g3 S)) (lendV (g4 S))) fun t37 =>
 lA tlo base 2 H t37 fun t38 H2 =>
 bindV (b2 evSub (lendV (keepV (g4 S))) (tN 1)) fun t41 =>
 bindV (idxSlT 2 (lendV (keepV (g3 S))) t41) fun t42 =>
 lA tlo base 2 H2 t42 fun t43 H3 =>
 bindV (neqT (.ints 2) t38 t43) fun t44 =>
 k (z3 (keepV (keepV (g3 S))) <| z4 (keepV (keepV (g4 S))) <| z9 t44 <| stN 10 S) H3)
 (condT (fun S => some (g9 S))
 (seqT (leafT fun S H k =>
 thawB 2 true S.1 H fun c4 H4 =>
 bindV (idxSlT 2 (lendV (stale (g3 S))) (lendV (stale (g4 S)))) fun t49 =>
 sA tlo base 2 H4 t49 fun t50 H5 =>
 thawB 2 true c4 H5 fun c6 H6 =>
 bindV (idxSlT 2 c6 (lendV (stale (g2 S)))) fun t51 =>
 bindV (storeT tlo base 2 H6 t51 (stale t50)) fun H7 =>
 k (z0 c4 <| z2 (keepV (stale (g2 S))) <| z3 (keepV (stale (g3 S))) <| z4 (keepV (stale (g4 S))) <| stN 10 S) H7)
 (leafT fun S H k =>
 bindV (b2 evAdd (lendV (g2 S)) (tN 1)) fun t53 =>
 k (z2 t53 <| stN 10 S) H))
 (doneT .normal))))
 (leafT fun S H k =>
 bindV (b2 evAdd (lendV (g4 S)) (tN 1)) fun t34 =>
 k (z4 t34 <| stN 10 S) H))) fuel)))
 (seqT (leafT fun S H k =>
 bindV (cutT 2 (lendV S.1) (some (lendV (g2 S))) none none) fun t56 =>
 thawB 2 true t56 H fun c8 H8 =>
 need (vecIs c8 2) <|
 bindV (clearT tlo H8 zc71 c8) fun H9 =>
 k (z0 (keepV S.1) <| z2 (keepV (g2 S)) <| stN 10 S) H9)
 (seqT (leafT fun S H k =>
 bindV (cutT 2 (lendV S.1) none (some (lendV (g2 S))) none) fun t59 =>
 k (z0 (keepV S.1) <| z1 t59 <| z2 (keepV (g2 S)) <| stN 10 S) H)
 (doneT .ret)))))
 (doneT .normal))))
 (leafT fun S H k =>
 bindV (b2 evAdd (lendV (g2 S)) (tN 1)) fun t15 =>
 k (z2 t15 <| stN 10 S) H))) fuel)))
 (seqT (leafT fun S H k =>
 k (z0 (hush S.1) <| z1 S.1 <| stN 10 S) H)
 (doneT .ret)))))
def F136 : FnT := fun call tlo l H => bindV (C136 call tlo (lenG H) (argT l 0, argT l 2, argT l 3, argT l 4, argT l 5, argT l 8, argT l 13, argT l 25, argT l 32, argT l 44, ()) H) fun p => resE p.1 (need (allG resOk [p.2.1.2.1]) (some (endT (lenG H) p.2.1.2.1 p.2.2)))
theorem F136_eq : FEq P TC 136 F136 := fun _ _ _ _ => by kernel_rfl
def C137 (call : CallT) (tlo base : Nat) : PieceT (TV × TV × TV × TV × TV × TV × TV × TV × Unit) :=
 (seqT (leafT fun S H k =>
 k (z2 (tN 0) <| stN 8 S) H)
 (seqT (seqT (leafT fun S H k =>
 bindV (lenT (lendV S.1)) fun t7 =>
 k (z0 (keepV S.1) <| z4 t7 <| z5 (tN 0) <| stN 8 S) H)
 (blockT 0 (loopT (seqT (leafT fun S H k =>
 bindV (b2 evLss (g5 S) (g4 S)) fun t9 =>
 k (z6 t9 <| stN 8 S) H)
 (seqT (condT (fun S => some (g6 S))
 (doneT .normal)
 (doneT (.exit 0)))
 (seqT (blockT 1 (seqT (leafT fun S H k =>
 k (z3 (g5 S) <| z5 (hush (g5 S)) <| stN 8 S) H)
 (seqT (leafT fun S H k =>
 bindV (idxSlT 1 (lendV S.1) (lendV (g3 S))) fun t14 =>
 lF tlo base H t14 fun t15 H0 =>
 bindV (eqlT .int (lendV (g1 S)) t15) fun t16 =>
 k (z0 (keepV S.1) <| z1 (keepV (g1 S)) <| z3 (keepV (g3 S)) <| z7 t16 <| stN 8 S) H0)
 (condT (fun S => some (g7 S))
 (seqT (leafT fun S H k =>
 k (z2 (g3 S) <| z3 (hush (g3 S)) <| stN 8 S) H)
 (doneT .ret))
 (doneT .normal)))))
 (leafT fun S H k =>
 bindV (b2 evAdd (g5 S) (tN 1)) fun t18 =>
 k (z5 t18 <| stN 8 S) H)))) fuel)))
 (seqT (leafT fun S H k =>
 k (z2 (.v (.int .i64 (.negSucc 0))) <| stN 8 S) H)
 (doneT .ret))))
def F137 : FnT := fun call tlo l H => bindV (C137 call tlo (lenG H) (argT l 0, argT l 1, argT l 4, argT l 5, argT l 7, argT l 8, argT l 9, argT l 16, ()) H) fun p => resE p.1 (need (allG resOk [p.2.1.2.2.1]) (some (endT (lenG H) p.2.1.2.2.1 p.2.2)))
theorem F137_eq : FEq P TC 137 F137 := fun _ _ _ _ => by kernel_rfl
def C138 (call : CallT) (tlo base : Nat) : PieceT (TV × TV × TV × TV × TV × TV × TV × TV × Unit) :=
 (seqT (leafT fun S H k =>
 k (z2 (tN 0) <| stN 8 S) H)
 (seqT (seqT (leafT fun S H k =>
 bindV (lenT (lendV S.1)) fun t7 =>
 k (z0 (keepV S.1) <| z4 t7 <| z5 (tN 0) <| stN 8 S) H)
 (blockT 0 (loopT (seqT (leafT fun S H k =>
 bindV (b2 evLss (g5 S) (g4 S)) fun t9 =>
 k (z6 t9 <| stN 8 S) H)
 (seqT (condT (fun S => some (g6 S))
 (doneT .normal)
 (doneT (.exit 0)))
 (seqT (blockT 1 (seqT (leafT fun S H k =>
 k (z3 (g5 S) <| z5 (hush (g5 S)) <| stN 8 S) H)
 (seqT (leafT fun S H k =>
 bindV (idxSlT 1 (lendV S.1) (lendV (g3 S))) fun t14 =>
 sF tlo base H t14 fun t15 H0 =>
 callFn TC call tlo (lendV (g1 S)) [setV t15] H0 fun t16 H1 =>
 k (z0 (keepV S.1) <| z1 (keepV (g1 S)) <| z3 (keepV (g3 S)) <| z7 t16 <| stN 8 S) H1)
 (condT (fun S => some (g7 S))
 (seqT (leafT fun S H k =>
 k (z2 (g3 S) <| z3 (hush (g3 S)) <| stN 8 S) H)
 (doneT .ret))
 (doneT .normal)))))
 (leafT fun S H k =>
 bindV (b2 evAdd (g5 S) (tN 1)) fun t18 =>
 k (z5 t18 <| stN 8 S) H)))) fuel)))
 (seqT (leafT fun S H k =>
 k (z2 (.v (.int .i64 (.negSucc 0))) <| stN 8 S) H)
 (doneT .ret))))
def F138 : FnT := fun call tlo l H => bindV (C138 call tlo (lenG H) (argT l 0, argT l 1, argT l 4, argT l 5, argT l 7, argT l 8, argT l 9, argT l 16, ()) H) fun p => resE p.1 (need (allG resOk [p.2.1.2.2.1]) (some (endT (lenG H) p.2.1.2.2.1 p.2.2)))
theorem F138_eq : FEq P TC 138 F138 := fun _ _ _ _ => by kernel_rfl
def C143 (call : CallT) (tlo base : Nat) : PieceT (TV × TV × TV × Unit) :=
 (seqT (leafT fun S H k =>
 k (z1 nilT <| stN 3 S) H)
 (seqT (seqT (leafT fun S H k =>
 bindV (eqlT .slice (lendV S.1) nilT) fun t4 =>
 k (z0 (keepV S.1) <| z2 t4 <| stN 3 S) H)
 (condT (fun S => some (g2 S))
 (seqT (leafT fun S H k =>
 k (z1 nilT <| stN 3 S) H)
 (doneT .ret))
 (doneT .normal)))
 (seqT (leafT fun S H k =>
 bindV (elemsT 2 [] [] (repG [.agg zc71] 0)) fun c0 =>
 appendT tlo H 71 2 16 (.row .full (.own 71) 2 c0) (lendV S.1) fun t7 H1 =>
 k (z0 (keepV S.1) <| z1 t7 <| stN 3 S) H1)
 (doneT .ret))))
def F143 : FnT := fun call tlo l H => bindV (C143 call tlo (lenG H) (argT l 0, argT l 2, argT l 4, ()) H) fun p => resE p.1 (need (allG resOk [p.2.1.2.1]) (some (endT (lenG H) p.2.1.2.1 p.2.2)))
theorem F143_eq : FEq P TC 143 F143 := fun _ _ _ _ => by kernel_rfl
def C147 (call : CallT) (tlo base : Nat) : PieceT (TV × TV × TV × TV × TV × TV × TV × TV × TV × TV × Unit) :=
 (seqT (leafT fun S H k =>
 k (z2 (tN 0) <| stN 10 S) H)
 (seqT (leafT fun S H k =>
 bindV (callTree call 176 [setV (lendV S.1)] H) fun t8 =>
 k (z0 (keepV S.1) <| z3 t8 <| stN 10 S) H)
 (seqT (leafT fun S H k =>
 bindV (callTree call 176 [setV (lendV (g1 S))] H) fun t10 =>
 k (z1 (keepV (g1 S)) <| z4 t10 <| stN 10 S) H)
 (seqT (seqT (leafT fun S H k =>
 k (z3 (setV (g3 S)) <| z5 (setV (g3 S)) <| stN 10 S) H)
 (condT (fun S => some (g5 S))
 (seqT (seqT (leafT fun S H k =>
 k (z4 (setV (g4 S)) <| z6 (setV (g4 S)) <| stN 10 S) H)
 (condT (fun S => some (g6 S))
 (seqT (leafT fun S H k =>
 k (z2 (tN 0) <| stN 10 S) H)
 (doneT .ret))
 (doneT .normal)))
 (seqT (leafT fun S H k =>
 k (z2 (.v (.int .i64 (.negSucc 0))) <| stN 10 S) H)
 (doneT .ret)))
 (doneT .normal)))
 (seqT (seqT (leafT fun S H k =>
 k (z4 (setV (g4 S)) <| z7 (setV (g4 S)) <| stN 10 S) H)
 (condT (fun S => some (g7 S))
 (seqT (leafT fun S H k =>
 k (z2 (tN 1) <| stN 10 S) H)
 (doneT .ret))
 (doneT .normal)))
 (seqT (seqT (leafT fun S H k =>
 bindV (b2 evLss (lendV S.1) (lendV (g1 S))) fun t16 =>
 k (z0 (keepV S.1) <| z1 (keepV (g1 S)) <| z8 t16 <| stN 10 S) H)
 (condT (fun S => some (g8 S))
 (seqT (leafT fun S H k =>
 k (z2 (.v (.int .i64 (.negSucc 0))) <| stN 10 S) H)
 (doneT .ret))
 (doneT .normal)))
 (seqT (seqT (leafT fun S H k =>
 bindV (b2 evGtr (lendV S.1) (lendV (g1 S))) fun t19 =>
 k (z0 (keepV S.1) <| z1 (keepV (g1 S)) <| z9 t19 <| stN 10 S) H)
 (condT (fun S => some (g9 S))
 (seqT (leafT fun S H k =>
 k (z2 (tN 1) <| stN 10 S) H)
 (doneT .ret))
 (doneT .normal)))
 (seqT (leafT fun S H k =>
 k (z2 (tN 0) <| stN 10 S) H)
 (doneT .ret)))))))))
def F147 : FnT := fun call tlo l H => bindV (C147 call tlo (lenG H) (argT l 0, argT l 1, argT l 4, argT l 5, argT l 6, argT l 11, argT l 12, argT l 13, argT l 16, argT l 19, ()) H) fun p => resE p.1 (need (allG resOk [p.2.1.2.2.1]) (some (endT (lenG H) p.2.1.2.2.1 p.2.2)))
theorem F147_eq : FEq P TC 147 F147 := fun _ _ _ _ => by kernel_rfl
def C148 (call : CallT) (tlo base : Nat) : PieceT (TV × TV × TV × TV × Unit) :=
 (seqT (leafT fun S H k =>
 need (stor S.1) <|
 let t2 := (.ptr (lenG H) 0)
 let H0 := (pushT H (.cells (cellsT S.1)))
 k (z0 (hush S.1) <| z2 t2 <| z3 (tB false) <| stN 4 S) H0)
 (seqT (leafT fun S H k =>
 lF tlo base H (g1 S) fun t4 H1 =>
 bindV (idxArrT 2 1 (g2 S) (tN 0)) fun t5 =>
 lF tlo base H1 t5 fun t6 H2 =>
 bindV (callTree call 64 [setV t4, setV t6] H2) fun t7 =>
 bindV (b1 evNot t7) fun t8 =>
 guardT (lendV t8) true (lF tlo base H2 (g1 S) fun g3 H3 => pairT g3 H3) H2 fun t10 H4 =>
 gB t8 true (idxArrT 2 1 (g2 S) (tN 1)) H4 fun t11 H5 =>
 guardT (lendV t8) true (lF tlo base H5 t11 fun g6 H6 => pairT g6 H6) H5 fun t12 H7 =>
 gB t8 true (callTree call 64 [setV t10, setV t12] H7) H7 fun t13 H8 =>
 gB t8 true (b1 evNot t13) H8 fun t14 H9 =>
 bindV (pickT (lendV t8) (setV t14) (tB false)) fun t15 =>
 k (z3 t15 <| stN 4 S) H9)
 (doneT .ret)))
def F148 : FnT := fun call tlo l H => bindV (C148 call tlo (lenG H) (argT l 0, argT l 1, argT l 2, argT l 3, ()) H) fun p => resE p.1 (need (allG resOk [p.2.1.2.2.2.1]) (some (endT (lenG H) p.2.1.2.2.2.1 p.2.2)))
theorem F148_eq : FEq P TC 148 F148 := fun _ _ _ _ => by kernel_rfl
def C150 (call : CallT) (tlo base : Nat) : PieceT (TV × TV × Unit) :=
 (seqT (leafT fun S H k =>
 k (z1 (tN 0) <| stN 2 S) H)
 (seqT (condT (fun S => some (tB false))
 (seqT (leafT fun S H k =>
 bindV (b1 (evConv .u32) (lendV S.1)) fun t4 =>
 bindV (callTree call 186 [setV t4] H) fun t5 =>
 k (z0 (keepV S.1) <| z1 t5 <| stN 2 S) H)
 (doneT .ret))
 (doneT .normal))
 (seqT (leafT fun S H k =>
 bindV (callTree call 187 [setV (lendV S.1)] H) fun t7 =>
 k (z0 (keepV S.1) <| z1 t7 <| stN 2 S) H)
 (doneT .ret))))
def F150 : FnT := fun call tlo l H => bindV (C150 call tlo (lenG H) (argT l 0, argT l 2, ()) H) fun p => resE p.1 (need (allG resOk [p.2.1.2.1]) (some (endT (lenG H) p.2.1.2.1 p.2.2)))
theorem F150_eq : FEq P TC 150 F150 := fun _ _ _ _ => by kernel_rfl
end
end Go.Proofs.YtgemobbfikjmoaaGreatDoor
namespace Go.Proofs.YtgemobbfikjmoaaGreatDoor
open Go Go.Ev
set_option maxRecDepth 1000000
set_option linter.unusedVariables false
noncomputable section
def C151 (call : CallT) (tlo base : Nat) : PieceT (TV × TV × TV × TV × TV × TV × TV × TV × TV × TV × TV × TV × TV × TV × TV × TV × TV × TV × TV × TV × TV × TV × TV × TV × Unit) :=
 (seqT (leafT fun S H k =>
 k (z5 (tB true) <| stN 24 S) H)
 (seqT (leafT fun S H k =>
 k (z6 (tB true) <| stN 24 S) H)
 (blockT 0 (loopT (blockT 1 (seqT (leafT fun S H k =>
 bindV (b2 evSub (lendV (g2 S)) (lendV (g1 S))) fun t23 =>
 k (z1 (keepV (g1 S)) <| z2 (keepV (g2 S)) <| z7 t23 <| stN 24 S) H)
 (seqT (seqT (leafT fun S H k =>
 bindV (b2 evLeq (lendV (g7 S)) (tN 12)) fun t25 =>
 k (z7 (keepV (g7 S)) <| z16 t25 <| stN 24 S) H)
 (condT (fun S => some (g16 S))
 (seqT (leafT fun S H k =>
 thawB 2 true S.1 H fun c0 H0 =>
 thawB 2 true c0 H0 fun c1 H1 =>
 callIn call tlo 188 [c1, setV (setV (stale (g1 S))), setV (setV (stale (g2 S))), setV (setV (stale (g4 S)))] H1 fun t30 H2 =>
 k (z0 c0 <| z1 (setV (stale (g1 S))) <| z2 (setV (stale (g2 S))) <| z4 (setV (stale (g4 S))) <| stN 24 S) H2)
 (doneT .ret))
 (doneT .normal)))
 (seqT (seqT (leafT fun S H k =>
 bindV (eqlT .int (lendV (g3 S)) (tN 0)) fun t32 =>
 k (z3 (keepV (g3 S)) <| z17 t32 <| stN 24 S) H)
 (condT (fun S => some (g17 S))
 (seqT (leafT fun S H k =>
 thawB 2 true S.1 H fun c3 H3 =>
 thawB 2 true c3 H3 fun c4 H4 =>
 callIn call tlo 189 [c4, setV (setV (stale (g1 S))), setV (setV (stale (g2 S))), setV (setV (stale (g4 S)))] H4 fun t37 H5 =>
 k (z0 c3 <| z1 (setV (stale (g1 S))) <| z2 (setV (stale (g2 S))) <| z4 (setV (stale (g4 S))) <| stN 24 S) H5)
 (doneT .ret))
 (doneT .normal)))
 (seqT (seqT (leafT fun S H k =>
 bindV (b1 evNot (lendV (g5 S))) fun t39 =>
 k (z5 (keepV (g5 S)) <| z18 t39 <| stN 24 S) H)
 (condT (fun S => some (g18 S))
 (seqT (leafT fun S H k =>
 thawB 2 true S.1 H fun c6 H6 =>
 thawB 2 true c6 H6 fun c7 H7 =>
 callIn call tlo 190 [c7, setV (setV (stale (g1 S))), setV (setV (stale (g2 S))), setV (setV (stale (g4 S)))] H7 fun t44 H8 =>
 k (z0 c6 <| z1 (setV (stale (g1 S))) <| z2 (setV (stale (g2 S))) <| z4 (setV (stale (g4 S))) <| stN 24 S) H8)
 (leafT fun S H k =>
 bindV (b2 evSub (lendV (g3 S)) (tN 1)) fun t46 =>
 k (z3 t46 <| stN 24 S) H))
 (doneT .normal)))
 (seqT (leafT fun S H k =>
 callIn call tlo 191 [setV (setV S.1), setV (setV (g1 S)), setV (setV (g2 S)), setV (setV (g4 S))] H fun t52 H9 =>
 withX (compT (lendV t52) 0) fun c10 =>
 withX (compT (compGone (lendV t52) 0) 1) fun c11 =>
 k (z0 (setV S.1) <| z1 (setV (g1 S)) <| z2 (setV (g2 S)) <| z4 (setV (g4 S)) <| z8 c10 <| z9 c11 <| stN 24 S) H9)
 (seqT (seqT (leafT fun S H k =>
 bindV (eqlT .int (lendV (g9 S)) (tN 2)) fun t56 =>
 k (z9 (keepV (g9 S)) <| z19 t56 <| stN 24 S) H)
 (condT (fun S => some (g19 S))
 (seqT (leafT fun S H k =>
 thawB 2 true S.1 H fun c12 H12 =>
 thawB 2 true c12 H12 fun c13 H13 =>
 callIn call tlo 192 [c13, setV (setV (stale (g1 S))), setV (setV (stale (g2 S))), setV (setV (stale (g4 S)))] H13 fun t61 H14 =>
 k (z0 c12 <| z1 (setV (stale (g1 S))) <| z2 (setV (stale (g2 S))) <| z4 (setV (stale (g4 S))) <| stN 24 S) H14)
 (seqT (leafT fun S H k =>
 bindV (b2 evSub (lendV (g2 S)) (tN 1)) fun t63 =>
 bindV (b2 evSub (lendV (g8 S)) (lendV (g1 S))) fun t66 =>
 bindV (b2 evSub t63 t66) fun t67 =>
 k (z1 (keepV (g1 S)) <| z2 (keepV (g2 S)) <| z8 t67 <| stN 24 S) H)
 (leafT fun S H k =>
 k (z9 (tN 1) <| stN 24 S) H)))
 (doneT .normal)))
 (seqT (seqT (leafT fun S H k =>
 guardT (lendV (lendV (g5 S))) true ( pairT (setV (g6 S)) H) H fun t70 H15 =>
 bindV (pickT (lendV (lendV (g5 S))) (setV t70) (tB false)) fun t71 =>
 gV t71 true (lendV (g9 S)) H15 fun t73 H16 =>
 gB t71 true (eqlT .int t73 (tN 1)) H16 fun t74 H17 =>
 bindV (pickT (lendV t71) (setV t74) (tB false)) fun t75 =>
 k (z5 (keepV (g5 S)) <| z6 (setV (g6 S)) <| z9 (keepV (g9 S)) <| z20 t75 <| stN 24 S) H17)
 (condT (fun S => some (g20 S))
 (seqT (leafT fun S H k =>
 thawB 2 true S.1 H fun c18 H18 =>
 thawB 2 true c18 H18 fun c19 H19 =>
 callIn call tlo 193 [c19, setV (setV (stale (g1 S))), setV (setV (stale (g2 S))), setV (setV (stale (g4 S)))] H19 fun t80 H20 =>
 k (z0 c18 <| z1 (setV (stale (g1 S))) <| z2 (setV (stale (g2 S))) <| z4 (setV (stale (g4 S))) <| z21 t80 <| stN 24 S) H20)
 (condT (fun S => some (g21 S))
 (doneT .ret)
 (doneT .normal)))
 (doneT .normal)))
 (seqT (seqT (leafT fun S H k =>
 bindV (b2 evGtr (lendV (g1 S)) (tN 0)) fun t82 =>
 gV t82 true (lendV (g4 S)) H fun t84 H21 =>
 gV t82 true (lendV S.1) H21 fun t85 H22 =>
 gV t82 true (lendV (keepV (g1 S))) H22 fun t86 H23 =>
 gB t82 true (b2 evSub t86 (tN 1)) H23 fun t87 H24 =>
 gB t82 true (idxSlT 2 t85 t87) H24 fun t88 H25 =>
 guardT (lendV t82) true (sA tlo base 2 H25 t88 fun g26 H26 => pairT g26 H26) H25 fun t89 H27 =>
 gV t82 true (lendV (keepV S.1)) H27 fun t90 H28 =>
 gV t82 true (lendV (g8 S)) H28 fun t91 H29 =>
 gB t82 true (idxSlT 2 t90 t91) H29 fun t92 H30 =>
 guardT (lendV t82) true (sA tlo base 2 H30 t92 fun g31 H31 => pairT g31 H31) H30 fun t93 H32 =>
 guardT (lendV t82) true (callFn TC call tlo t84 [setV t89, setV t93] H32 fun g33 H33 => pairT g33 H33) H32 fun t94 H34 =>
 gB t82 true (b2 evLss t94 (tN 0)) H34 fun t95 H35 =>
 gB t82 true (b1 evNot t95) H35 fun t96 H36 =>
 bindV (pickT (stale (lendV t82)) (setV t96) (tB false)) fun t97 =>
 k (z0 (keepV (keepV S.1)) <| z1 (keepV (keepV (g1 S))) <| z4 (keepV (g4 S)) <| z8 (keepV (g8 S)) <| z22 t97 <| stN 24 S) H36)
 (condT (fun S => some (g22 S))
 (seqT (leafT fun S H k =>
 thawB 2 true S.1 H fun c37 H37 =>
 thawB 2 true c37 H37 fun c38 H38 =>
 callIn call tlo 194 [c38, setV (setV (stale (g1 S))), setV (setV (stale (g2 S))), setV (setV (stale (g8 S))), setV (setV (stale (g4 S)))] H38 fun t103 H39 =>
 k (z0 c37 <| z1 (setV (stale (g1 S))) <| z2 (setV (stale (g2 S))) <| z4 (setV (stale (g4 S))) <| z8 (setV (stale (g8 S))) <| z10 t103 <| stN 24 S) H39)
 (seqT (leafT fun S H k =>
 k (z1 (g10 S) <| z10 (hush (g10 S)) <| stN 24 S) H)
 (doneT (.exit 1))))
 (doneT .normal)))
 (seqT (leafT fun S H k =>
 thawB 2 true S.1 H fun c40 H40 =>
 thawB 2 true c40 H40 fun c41 H41 =>
 callIn call tlo 195 [c41, setV (setV (stale (g1 S))), setV (setV (stale (g2 S))), setV (setV (stale (g8 S))), setV (setV (stale (g4 S)))] H41 fun t111 H42 =>
 withX (compT (lendV t111) 0) fun c43 =>
 withX (compT (compGone (lendV t111) 0) 1) fun c44 =>
 k (z0 c40 <| z1 (setV (stale (g1 S))) <| z2 (setV (stale (g2 S))) <| z4 (setV (stale (g4 S))) <| z8 (setV (stale (g8 S))) <| z11 c43 <| z12 c44 <| stN 24 S) H42)
 (seqT (leafT fun S H k =>
 k (z6 (g12 S) <| z12 (hush (g12 S)) <| stN 24 S) H)
 (seqT (leafT fun S H k =>
 bindV (b2 evSub (lendV (g11 S)) (lendV (g1 S))) fun t117 =>
 bindV (b2 evSub (lendV (g2 S)) (lendV (keepV (g11 S)))) fun t120 =>
 k (z1 (keepV (g1 S)) <| z2 (keepV (g2 S)) <| z11 (keepV (keepV (g11 S))) <| z13 t117 <| z14 t120 <| stN 24 S) H)
 (seqT (leafT fun S H k =>
 bindV (b2 evQuo (lendV (g7 S)) (tN 8)) fun t122 =>
 k (z7 (keepV (g7 S)) <| z15 t122 <| stN 24 S) H)
 (seqT (leafT fun S H k =>
 bindV (b2 evLss (lendV (g13 S)) (lendV (g14 S))) fun t125 =>
 k (z13 (keepV (g13 S)) <| z14 (keepV (g14 S)) <| z23 t125 <| stN 24 S) H)
 (condT (fun S => some (g23 S))
 (seqT (leafT fun S H k =>
 bindV (b2 evGeq (lendV (g13 S)) (lendV (g15 S))) fun t128 =>
 k (z5 t128 <| z13 (keepV (g13 S)) <| z15 (keepV (g15 S)) <| stN 24 S) H)
 (seqT (leafT fun S H k =>
 thawB 2 true S.1 H fun c45 H45 =>
 thawB 2 true c45 H45 fun c46 H46 =>
 callIn call tlo 151 [c46, setV (setV (stale (g1 S))), setV (setV (stale (g11 S))), setV (setV (stale (g3 S))), setV (setV (stale (g4 S)))] H46 fun t134 H47 =>
 k (z0 c45 <| z1 (setV (stale (g1 S))) <| z3 (setV (stale (g3 S))) <| z4 (setV (stale (g4 S))) <| z11 (setV (stale (g11 S))) <| stN 24 S) H47)
 (leafT fun S H k =>
 bindV (b2 evAdd (lendV (g11 S)) (tN 1)) fun t136 =>
 k (z1 t136 <| z11 (keepV (g11 S)) <| stN 24 S) H)))
 (seqT (leafT fun S H k =>
 bindV (b2 evGeq (lendV (g14 S)) (lendV (g15 S))) fun t139 =>
 k (z5 t139 <| z14 (keepV (g14 S)) <| z15 (keepV (g15 S)) <| stN 24 S) H)
 (seqT (leafT fun S H k =>
 thawB 2 true S.1 H fun c48 H48 =>
 bindV (b2 evAdd (lendV (stale (g11 S))) (tN 1)) fun t142 =>
 thawB 2 true c48 H48 fun c49 H49 =>
 callIn call tlo 151 [c49, setV t142, setV (setV (stale (g2 S))), setV (setV (stale (g3 S))), setV (setV (stale (g4 S)))] H49 fun t146 H50 =>
 k (z0 c48 <| z2 (setV (stale (g2 S))) <| z3 (setV (stale (g3 S))) <| z4 (setV (stale (g4 S))) <| z11 (keepV (stale (g11 S))) <| stN 24 S) H50)
 (leafT fun S H k =>
 k (z2 (g11 S) <| z11 (hush (g11 S)) <| stN 24 S) H)))))))))))))))))) fuel))))
def F151 : FnT := fun call tlo l H => bindV (C151 call tlo (lenG H) (argT l 0, argT l 1, argT l 2, argT l 3, argT l 4, argT l 10, argT l 11, argT l 12, argT l 13, argT l 14, argT l 15, argT l 16, argT l 17, argT l 18, argT l 19, argT l 20, argT l 25, argT l 32, argT l 39, argT l 56, argT l 75, argT l 80, argT l 97, argT l 125, ()) H) fun p => resE p.1 (need (allG resOk []) (some (endT (lenG H) (.tup []) p.2.2)))
theorem F151_eq : FEq P TC 151 F151 := fun _ _ _ _ => by kernel_rfl
def C152 (call : CallT) (tlo base : Nat) : PieceT (TV × TV × TV × TV × Unit) :=
 (seqT (leafT fun S H k =>
 bindV (nilCkT (lendV S.1)) fun t7 =>
 bindV (shiftT t7 2) fun t8 =>
 lF tlo base H t8 fun t9 H0 =>
 bindV (b2 evShr t9 (lendV (g1 S))) fun t11 =>
 bindV (b2 evAnd t11 (.v (.int .u64 (.ofNat 1)))) fun t12 =>
 bindV (eqlT .int t12 (.v (.int .u64 (.ofNat 1)))) fun t13 =>
 gV t13 true (lendV (keepV S.1)) H0 fun t15 H1 =>
 gB t13 true (nilCkT t15) H1 fun t16 H2 =>
 gB t13 true (shiftT t16 2) H2 fun t17 H3 =>
 guardT (lendV t13) true (lF tlo base H3 t17 fun g4 H4 => pairT g4 H4) H3 fun t18 H5 =>
 gV t13 true (lendV (g2 S)) H5 fun t19 H6 =>
 gB t13 true (b2 evShr t18 t19) H6 fun t20 H7 =>
 gB t13 true (b2 evAnd t20 (.v (.int .u64 (.ofNat 1)))) H7 fun t21 H8 =>
 gB t13 true (eqlT .int t21 (.v (.int .u64 (.ofNat 1)))) H8 fun t22 H9 =>
 bindV (pickT (lendV t13) (setV t22) (tB false)) fun t23 =>
 k (z0 (keepV (keepV S.1)) <| z1 (keepV (g1 S)) <| z2 (keepV (g2 S)) <| z3 t23 <| stN 4 S) H9)
 (condT (fun S => some (g3 S))
 (seqT (leafT fun S H k =>
 bindV (nilCkT (lendV S.1)) fun t26 =>
 bindV (shiftT t26 3) fun t27 =>
 bindV (idxArrT 16 1 t27 (lendV (g1 S))) fun t28 =>
 lF tlo base H t28 fun t29 H10 =>
 bindV (b2 evShl (.v (.int .u64 (.ofNat 1))) (lendV (g2 S))) fun t31 =>
 bindV (b2 evOr t29 t31) fun t32 =>
 bindV (nilCkT (lendV S.1)) fun t33 =>
 bindV (shiftT t33 3) fun t34 =>
 thawB 0 false t34 H10 fun c11 H11 =>
 bindV (idxArrT 16 1 c11 (lendV (g1 S))) fun t35 =>
 bindV (storeT tlo base 1 H11 t35 (stale t32)) fun H12 =>
 k (z0 (keepV S.1) <| z1 (keepV (g1 S)) <| z2 (keepV (g2 S)) <| stN 4 S) H12)
 (leafT fun S H k =>
 bindV (nilCkT (lendV S.1)) fun t38 =>
 bindV (shiftT t38 3) fun t39 =>
 bindV (idxArrT 16 1 t39 (lendV (g2 S))) fun t40 =>
 lF tlo base H t40 fun t41 H13 =>
 bindV (b2 evShl (.v (.int .u64 (.ofNat 1))) (lendV (g1 S))) fun t43 =>
 bindV (b2 evOr t41 t43) fun t44 =>
 bindV (nilCkT (lendV S.1)) fun t45 =>
 bindV (shiftT t45 3) fun t46 =>
 thawB 0 false t46 H13 fun c14 H14 =>
 bindV (idxArrT 16 1 c14 (lendV (g2 S))) fun t47 =>
 bindV (storeT tlo base 1 H14 t47 (stale t44)) fun H15 =>
 k (z0 (keepV S.1) <| z1 (keepV (g1 S)) <| z2 (keepV (g2 S)) <| stN 4 S) H15))
 (doneT .normal)))
def F152 : FnT := fun call tlo l H => bindV (C152 call tlo (lenG H) (argT l 0, argT l 1, argT l 2, argT l 23, ()) H) fun p => resE p.1 (need (allG resOk []) (some (endT (lenG H) (.tup []) p.2.2)))
theorem F152_eq : FEq P TC 152 F152 := fun _ _ _ _ => by kernel_rfl
def C153 (call : CallT) (tlo base : Nat) : PieceT (TV × TV × TV × TV × TV × TV × TV × TV × TV × TV × TV × TV × TV × TV × Unit) :=
 (seqT (leafT fun S H k =>
 k (z6 (tB false) <| stN 14 S) H)
 (seqT (doneT .normal)
 (seqT (seqT (leafT fun S H k =>
 bindV (shiftT (g1 S) 3) fun t11 =>
 bindV (idxArrT 16 1 t11 (lendV S.1)) fun t12 =>
 lF tlo base H t12 fun t13 H0 =>
 lF tlo base H0 (g2 S) fun t14 H1 =>
 bindV (b2 evAnd t13 t14) fun t15 =>
 bindV (callTree call 100 [setV t15] H1) fun t16 =>
 bindV (lenT t16) fun t17 =>
 k (z0 (keepV S.1) <| z8 t16 <| z9 t17 <| z10 (tN 0) <| stN 14 S) H1)
 (blockT 0 (loopT (seqT (leafT fun S H k =>
 bindV (b2 evLss (g10 S) (g9 S)) fun t19 =>
 k (z11 t19 <| stN 14 S) H)
 (seqT (condT (fun S => some (g11 S))
 (doneT .normal)
 (doneT (.exit 0)))
 (seqT (blockT 1 (seqT (leafT fun S H k =>
 bindV (idxSlT 1 (g8 S) (g10 S)) fun t20 =>
 sF tlo base H t20 fun t21 H2 =>
 k (z7 t21 <| stN 14 S) H2)
 (seqT (seqT (leafT fun S H k =>
 lF tlo base H (g3 S) fun t22 H3 =>
 bindV (b2 evShr t22 (lendV (g7 S))) fun t24 =>
 bindV (b2 evAnd t24 (.v (.int .u64 (.ofNat 1)))) fun t25 =>
 bindV (eqlT .int t25 (.v (.int .u64 (.ofNat 1)))) fun t26 =>
 k (z7 (keepV (g7 S)) <| z12 t26 <| stN 14 S) H3)
 (condT (fun S => some (g12 S))
 (doneT (.exit 1))
 (doneT .normal)))
 (seqT (leafT fun S H k =>
 lF tlo base H (g3 S) fun t27 H4 =>
 bindV (b2 evShl (.v (.int .u64 (.ofNat 1))) (lendV (g7 S))) fun t29 =>
 bindV (b2 evOr t27 t29) fun t30 =>
 bindV (storeT tlo base 1 H4 (g3 S) t30) fun H5 =>
 k (z7 (keepV (g7 S)) <| stN 14 S) H5)
 (seqT (leafT fun S H k =>
 bindV (idxArrT 16 1 (g4 S) (lendV (g7 S))) fun t32 =>
 lF tlo base H t32 fun t33 H6 =>
 bindV (b2 evLss t33 (tN 0)) fun t34 =>
 guardT (lendV t34) false (lF tlo base H6 (g5 S) fun g7 H7 => pairT g7 H7) H6 fun t36 H8 =>
 gV t34 false (lendV (keepV (g7 S))) H8 fun t37 H9 =>
 gB t34 false (idxArrT 16 1 (g4 S) t37) H9 fun t38 H10 =>
 guardT (lendV t34) false (sF tlo base H10 t38 fun g11 H11 => pairT g11 H11) H10 fun t39 H12 =>
 guardT (lendV t34) false (callFn TC call tlo t36 [setV t39] H12 fun g13 H13 => pairT g13 H13) H12 fun t40 H14 =>
 bindV (pickT (stale (lendV t34)) (tB true) (setV t40)) fun t41 =>
 k (z7 (keepV (keepV (g7 S))) <| z13 t41 <| stN 14 S) H14)
 (condT (fun S => some (g13 S))
 (seqT (leafT fun S H k =>
 thawB 0 false (g4 S) H fun c15 H15 =>
 bindV (idxArrT 16 1 c15 (lendV (g7 S))) fun t44 =>
 bindV (storeT tlo base 1 H15 t44 (stale (setV S.1))) fun H16 =>
 k (z0 (setV S.1) <| z4 c15 <| z7 (keepV (g7 S)) <| stN 14 S) H16)
 (seqT (leafT fun S H k =>
 k (z6 (tB true) <| stN 14 S) H)
 (doneT .ret)))
 (doneT .normal)))))))
 (leafT fun S H k =>
 bindV (b2 evAdd (g10 S) (tN 1)) fun t45 =>
 k (z10 t45 <| stN 14 S) H)))) fuel)))
 (seqT (leafT fun S H k =>
 k (z6 (tB false) <| stN 14 S) H)
 (doneT .ret)))))
def F153 : FnT := fun call tlo l H => bindV (C153 call tlo (lenG H) (argT l 0, argT l 1, argT l 2, argT l 3, argT l 4, argT l 5, argT l 7, argT l 9, argT l 16, argT l 17, argT l 18, argT l 19, argT l 26, argT l 41, ()) H) fun p => resE p.1 (need (allG resOk [p.2.1.2.2.2.2.2.2.1]) (some (endT (lenG H) p.2.1.2.2.2.2.2.2.1 p.2.2)))
theorem F153_eq : FEq P TC 153 F153 := fun _ _ _ _ => by kernel_rfl
def C154 (call : CallT) (tlo base : Nat) : PieceT (TV × TV × TV × TV × Unit) :=
 (seqT (leafT fun S H k =>
 need (stor S.1) <|
 let t2 := (.ptr (lenG H) 0)
 let H0 := (pushT H (.cells (cellsT S.1)))
 k (z0 (hush S.1) <| z2 t2 <| z3 (tB false) <| stN 4 S) H0)
 (seqT (leafT fun S H k =>
 bindV (shiftT (g2 S) 0) fun t6 =>
 lF tlo base H t6 fun t7 H1 =>
 bindV (b2 evRem (lendV (g1 S)) t7) fun t8 =>
 bindV (shiftT (g2 S) 0) fun t10 =>
 lF tlo base H1 t10 fun t11 H2 =>
 bindV (b2 evQuo (lendV (keepV (g1 S))) t11) fun t12 =>
 bindV (b2 evAdd t8 t12) fun t13 =>
 bindV (b2 evRem t13 (tN 2)) fun t14 =>
 bindV (eqlT .int t14 (tN 1)) fun t15 =>
 k (z1 (keepV (keepV (g1 S))) <| z3 t15 <| stN 4 S) H2)
 (doneT .ret)))
def F154 : FnT := fun call tlo l H => bindV (C154 call tlo (lenG H) (argT l 0, argT l 1, argT l 2, argT l 4, ()) H) fun p => resE p.1 (need (allG resOk [p.2.1.2.2.2.1]) (some (endT (lenG H) p.2.1.2.2.2.1 p.2.2)))
theorem F154_eq : FEq P TC 154 F154 := fun _ _ _ _ => by kernel_rfl
def C156 (call : CallT) (tlo base : Nat) : PieceT (TV × TV × Unit) :=
 (seqT (leafT fun S H k =>
 k (z1 (tN 0) <| stN 2 S) H)
 (seqT (condT (fun S => some (tB false))
 (seqT (leafT fun S H k =>
 bindV (b1 (evConv .u32) (lendV S.1)) fun t4 =>
 bindV (callTree call 196 [setV t4] H) fun t5 =>
 k (z0 (keepV S.1) <| z1 t5 <| stN 2 S) H)
 (doneT .ret))
 (doneT .normal))
 (seqT (leafT fun S H k =>
 bindV (callTree call 197 [setV (lendV S.1)] H) fun t7 =>
 k (z0 (keepV S.1) <| z1 t7 <| stN 2 S) H)
 (doneT .ret))))
def F156 : FnT := fun call tlo l H => bindV (C156 call tlo (lenG H) (argT l 0, argT l 2, ()) H) fun p => resE p.1 (need (allG resOk [p.2.1.2.1]) (some (endT (lenG H) p.2.1.2.1 p.2.2)))
theorem F156_eq : FEq P TC 156 F156 := fun _ _ _ _ => by kernel_rfl
def C157 (call : CallT) (tlo base : Nat) : PieceT (TV × TV × TV × Unit) :=
 (seqT (leafT fun S H k =>
 k (z2 (tB false) <| stN 3 S) H)
 (seqT (leafT fun S H k =>
 callIn call tlo 198 [setV (setV S.1), setV (setV (g1 S))] H fun t7 H0 =>
 bindV (b2 evGeq t7 (tN 0)) fun t8 =>
 k (z0 (setV S.1) <| z1 (setV (g1 S)) <| z2 t8 <| stN 3 S) H0)
 (doneT .ret)))
def F157 : FnT := fun call tlo l H => bindV (C157 call tlo (lenG H) (argT l 0, argT l 1, argT l 4, ()) H) fun p => resE p.1 (need (allG resOk [p.2.1.2.2.1]) (some (endT (lenG H) p.2.1.2.2.1 p.2.2)))
theorem F157_eq : FEq P TC 157 F157 := fun _ _ _ _ => by kernel_rfl
def C158 (call : CallT) (tlo base : Nat) : PieceT (TV × TV × TV × Unit) :=
 (seqT (leafT fun S H k =>
 k (z2 (tB false) <| stN 3 S) H)
 (seqT (leafT fun S H k =>
 bindV (shiftT (g1 S) 2) fun t5 =>
 lF tlo base H t5 fun t6 H0 =>
 bindV (neqT .int (lendV S.1) t6) fun t7 =>
 k (z0 (keepV S.1) <| z2 t7 <| stN 3 S) H0)
 (doneT .ret)))
def F158 : FnT := fun call tlo l H => bindV (C158 call tlo (lenG H) (argT l 0, argT l 1, argT l 3, ()) H) fun p => resE p.1 (need (allG resOk [p.2.1.2.2.1]) (some (endT (lenG H) p.2.1.2.2.1 p.2.2)))
theorem F158_eq : FEq P TC 158 F158 := fun _ _ _ _ => by kernel_rfl
def C159 (call : CallT) (tlo base : Nat) : PieceT (TV × TV × TV × TV × TV × TV × TV × TV × TV × TV × TV × Unit) :=
 (seqT (leafT fun S H k =>
 lA tlo base 19 H (g4 S) fun t17 H0 =>
 bindV (callTree call 160 [setV t17, setV (lendV (g1 S)), setV (lendV (g2 S))] H0) fun t20 =>
 withX (compT (lendV t20) 0) fun c1 =>
 withX (compT (compGone (lendV t20) 0) 1) fun c2 =>
 k (z1 (keepV (g1 S)) <| z2 (keepV (g2 S)) <| z8 c1 <| z9 c2 <| stN 11 S) H0)
 (seqT (leafT fun S H k =>
 bindV (b2 (evLesser true) (lendV (g8 S)) (lendV (g9 S))) fun c3 =>
 need (isV c3) <|
 bindV (b2 evGeq c3 (tN 0)) fun t26 =>
 guardT (lendV t26) true (lF tlo base H (g5 S) fun g4 H4 => pairT g4 H4) H fun t28 H5 =>
 gV t26 true (lendV S.1) H5 fun t29 H6 =>
 gB t26 true (idxSlT 1 t28 t29) H6 fun t30 H7 =>
 guardT (lendV t26) true (lF tlo base H7 t30 fun g8 H8 => pairT g8 H8) H7 fun t31 H9 =>
 gB t26 true (b1 evNot t31) H9 fun t32 H10 =>
 bindV (pickT (lendV t26) (setV t32) (tB false)) fun t33 =>
 guardT (lendV t33) true (lF tlo base H10 (g6 S) fun g11 H11 => pairT g11 H11) H10 fun t35 H12 =>
 gV t33 true (setV (keepV (g8 S))) H12 fun t36 H13 =>
 gV t33 true (setV (keepV (g9 S))) H13 fun t37 H14 =>
 gB t33 true (aggT [(0, 1, t36), (1, 1, t37)] zc71) H14 fun t38 H15 =>
 gB t33 true (callTree call 62 [setV t35, setV t38] H15) H15 fun t39 H16 =>
 gB t33 true (b1 evNot t39) H16 fun t40 H17 =>
 bindV (pickT (lendV t33) (setV t40) (tB false)) fun t41 =>
 k (z0 (keepV S.1) <| z8 (setV (keepV (g8 S))) <| z9 (setV (keepV (g9 S))) <| z10 t41 <| stN 11 S) H17)
 (condT (fun S => some (g10 S))
 (leafT fun S H k =>
 lF tlo base H (g7 S) fun t42 H18 =>
 callFn TC call tlo t42 [setV (setV S.1), setV (setV (g3 S))] H18 fun t45 H19 =>
 k (z0 (setV S.1) <| z3 (setV (g3 S)) <| stN 11 S) H19)
 (doneT .normal))))
def F159 : FnT := fun call tlo l H => bindV (C159 call tlo (lenG H) (argT l 1, argT l 2, argT l 3, argT l 4, argT l 5, argT l 6, argT l 7, argT l 8, argT l 14, argT l 15, argT l 41, ()) H) fun p => resE p.1 (need (allG resOk []) (some (endT (lenG H) (.tup []) p.2.2)))
theorem F159_eq : FEq P TC 159 F159 := fun _ _ _ _ => by kernel_rfl
def C160 (call : CallT) (tlo base : Nat) : PieceT (TV × TV × TV × TV × TV × TV × TV × TV × TV × TV × Unit) :=
 (seqT (leafT fun S H k =>
 need (stor S.1) <|
 let t3 := (.ptr (lenG H) 0)
 let H0 := (pushT H (.cells (cellsT S.1)))
 k (z0 (hush S.1) <| z3 t3 <| z4 (tN 0) <| z5 (tN 0) <| stN 10 S) H0)
 (seqT (leafT fun S H k =>
 bindV (shiftT (g3 S) 0) fun t12 =>
 lF tlo base H t12 fun t13 H1 =>
 bindV (b2 evAdd t13 (tN 1)) fun t14 =>
 bindV (b2 evRem (lendV (g1 S)) t14) fun t15 =>
 bindV (shiftT (g3 S) 0) fun t17 =>
 lF tlo base H1 t17 fun t18 H2 =>
 bindV (b2 evAdd t18 (tN 1)) fun t19 =>
 bindV (b2 evQuo (lendV (keepV (g1 S))) t19) fun t20 =>
 k (z1 (keepV (keepV (g1 S))) <| z6 t15 <| z7 t20 <| stN 10 S) H2)
 (seqT (leafT fun S H k =>
 need (allG pass [setV (g3 S)]) <|
 k (z3 (setV (g3 S)) <| z8 (.fn (.func 199) [] [setV (g3 S)]) <| stN 10 S) H)
 (seqT (seqT (leafT fun S H k =>
 k (z2 (setV (g2 S)) <| z9 (setV (g2 S)) <| stN 10 S) H)
 (condT (fun S => some (g9 S))
 (seqT (leafT fun S H k =>
 bindV (b2 evSub (lendV (g6 S)) (tN 1)) fun t25 =>
 callFn TC call tlo (lendV (g8 S)) [setV t25, setV (setV (g7 S))] H fun t27 H3 =>
 callFn TC call tlo (lendV (stale (keepV (g8 S)))) [setV (setV (stale (keepV (g6 S)))), setV (setV (stale (setV (g7 S))))] H3 fun t31 H4 =>
 k (z4 (stale t27) <| z5 t31 <| z6 (setV (stale (keepV (g6 S)))) <| z7 (setV (stale (setV (g7 S)))) <| z8 (keepV (stale (keepV (g8 S)))) <| stN 10 S) H4)
 (doneT .ret))
 (doneT .normal)))
 (seqT (leafT fun S H k =>
 bindV (b2 evSub (lendV (g7 S)) (tN 1)) fun t35 =>
 callFn TC call tlo (lendV (g8 S)) [setV (setV (g6 S)), setV t35] H fun t36 H5 =>
 callFn TC call tlo (lendV (stale (keepV (g8 S)))) [setV (setV (stale (setV (g6 S)))), setV (setV (stale (keepV (g7 S))))] H5 fun t40 H6 =>
 k (z4 (stale t36) <| z5 t40 <| z6 (setV (stale (setV (g6 S)))) <| z7 (setV (stale (keepV (g7 S)))) <| z8 (keepV (stale (keepV (g8 S)))) <| stN 10 S) H6)
 (doneT .ret))))))
def F160 : FnT := fun call tlo l H => bindV (C160 call tlo (lenG H) (argT l 0, argT l 1, argT l 2, argT l 3, argT l 6, argT l 7, argT l 8, argT l 9, argT l 10, argT l 22, ()) H) fun p => resE p.1 (need (allG resOk [p.2.1.2.2.2.2.1, p.2.1.2.2.2.2.2.1]) (some (endT (lenG H) (.tup [p.2.1.2.2.2.2.1, p.2.1.2.2.2.2.2.1]) p.2.2)))
theorem F160_eq : FEq P TC 160 F160 := fun _ _ _ _ => by kernel_rfl
def C161 (call : CallT) (tlo base : Nat) : PieceT (TV × TV × TV × TV × TV × TV × TV × TV × TV × TV × TV × TV × Unit) :=
 (seqT (leafT fun S H k =>
 loadT (.thaw 1 false) tlo base false 1 H (g2 S) fun t10 H0 =>
 loadT (.thaw 1 false) tlo base false 1 H0 (stale (g3 S)) fun t12 H1 =>
 thawB 1 false (stale t10) H1 fun c2 H2 =>
 bindV (idxSlT 1 c2 (stale (lendV (stale S.1)))) fun t15 =>
 need (apartT [hdX (stale (g3 S)) (hdP H (g3 S))] [hdX t15 (hdP H2 t15)]) <|
 bindV (storeT tlo base 1 H2 t15 (stale (setV (stale (g1 S))))) fun H3 =>
 thawB 1 false (stale t12) H3 fun c4 H4 =>
 bindV (idxSlT 1 c4 (stale (lendV (stale (keepV (stale S.1)))))) fun t16 =>
 bindV (storeT tlo base 1 H4 t16 (tB true)) fun H5 =>
 k (z0 (keepV (stale (keepV (stale S.1)))) <| z1 (setV (stale (g1 S))) <| stN 12 S) H5)
 (seqT (leafT fun S H k =>
 bindV (shiftT (g4 S) 0) fun t18 =>
 lF tlo base H t18 fun t19 H6 =>
 bindV (b2 evAdd t19 (tN 1)) fun t20 =>
 bindV (b2 evRem (lendV S.1) t20) fun t21 =>
 bindV (shiftT (g4 S) 0) fun t23 =>
 lF tlo base H6 t23 fun t24 H7 =>
 bindV (b2 evAdd t24 (tN 1)) fun t25 =>
 bindV (b2 evQuo (lendV (keepV S.1)) t25) fun t26 =>
 k (z0 (keepV (keepV S.1)) <| z6 t21 <| z7 t26 <| stN 12 S) H7)
 (seqT (seqT (leafT fun S H k =>
 bindV (shiftT (g4 S) 0) fun t28 =>
 lF tlo base H t28 fun t29 H8 =>
 bindV (b2 evLss (lendV (g6 S)) t29) fun t30 =>
 k (z6 (keepV (g6 S)) <| z8 t30 <| stN 12 S) H8)
 (condT (fun S => some (g8 S))
 (leafT fun S H k =>
 lF tlo base H (g5 S) fun t31 H9 =>
 bindV (b2 evAdd (lendV (setV S.1)) (tN 1)) fun t34 =>
 lA tlo base 19 H9 (g4 S) fun t37 H10 =>
 bindV (callTree call 162 [setV t37, setV (lendV (setV (keepV (setV S.1))))] H10) fun t39 =>
 bindV (b2 evAdd (lendV (g1 S)) t39) fun t40 =>
 callFn TC call tlo t31 [setV (setV S.1), setV t34, setV (setV (keepV (setV S.1))), tB false, setV t40] H10 fun t41 H11 =>
 k (z0 (keepV (setV (keepV (setV S.1)))) <| z1 (keepV (g1 S)) <| stN 12 S) H11)
 (doneT .normal)))
 (seqT (seqT (leafT fun S H k =>
 bindV (shiftT (g4 S) 1) fun t43 =>
 lF tlo base H t43 fun t44 H12 =>
 bindV (b2 evLss (lendV (g7 S)) t44) fun t45 =>
 k (z7 (keepV (g7 S)) <| z9 t45 <| stN 12 S) H12)
 (condT (fun S => some (g9 S))
 (leafT fun S H k =>
 lF tlo base H (g5 S) fun t46 H13 =>
 bindV (shiftT (g4 S) 0) fun t49 =>
 lF tlo base H13 t49 fun t50 H14 =>
 bindV (b2 evAdd (lendV (setV S.1)) t50) fun t51 =>
 bindV (b2 evAdd t51 (tN 1)) fun t52 =>
 lA tlo base 19 H14 (g4 S) fun t55 H15 =>
 bindV (callTree call 162 [setV t55, setV (lendV (setV (keepV (setV S.1))))] H15) fun t57 =>
 bindV (b2 evSub (lendV (g1 S)) t57) fun t58 =>
 callFn TC call tlo t46 [setV (setV S.1), setV t52, setV (setV (keepV (setV S.1))), tB true, setV t58] H15 fun t59 H16 =>
 k (z0 (keepV (setV (keepV (setV S.1)))) <| z1 (keepV (g1 S)) <| stN 12 S) H16)
 (doneT .normal)))
 (seqT (seqT (leafT fun S H k =>
 bindV (b2 evGtr (lendV (g6 S)) (tN 0)) fun t61 =>
 k (z6 (keepV (g6 S)) <| z10 t61 <| stN 12 S) H)
 (condT (fun S => some (g10 S))
 (leafT fun S H k =>
 lF tlo base H (g5 S) fun t62 H17 =>
 bindV (b2 evSub (lendV (setV S.1)) (tN 1)) fun t65 =>
 bindV (b2 evSub (lendV (keepV (setV S.1))) (tN 1)) fun t67 =>
 lA tlo base 19 H17 (g4 S) fun t69 H18 =>
 bindV (b2 evSub (lendV (keepV (keepV (setV S.1)))) (tN 1)) fun t71 =>
 bindV (callTree call 162 [setV t69, setV t71] H18) fun t72 =>
 bindV (b2 evSub (lendV (g1 S)) t72) fun t73 =>
 callFn TC call tlo t62 [setV (setV S.1), setV t65, setV t67, tB false, setV t73] H18 fun t74 H19 =>
 k (z0 (keepV (keepV (keepV (setV S.1)))) <| z1 (keepV (g1 S)) <| stN 12 S) H19)
 (doneT .normal)))
 (seqT (leafT fun S H k =>
 bindV (b2 evGtr (lendV (g7 S)) (tN 0)) fun t76 =>
 k (z7 (keepV (g7 S)) <| z11 t76 <| stN 12 S) H)
 (condT (fun S => some (g11 S))
 (leafT fun S H k =>
 lF tlo base H (g5 S) fun t77 H20 =>
 bindV (shiftT (g4 S) 0) fun t80 =>
 lF tlo base H20 t80 fun t81 H21 =>
 bindV (b2 evSub (lendV (setV S.1)) t81) fun t82 =>
 bindV (b2 evSub t82 (tN 1)) fun t83 =>
 bindV (shiftT (g4 S) 0) fun t85 =>
 lF tlo base H21 t85 fun t86 H22 =>
 bindV (b2 evSub (lendV (keepV (setV S.1))) t86) fun t87 =>
 bindV (b2 evSub t87 (tN 1)) fun t88 =>
 lA tlo base 19 H22 (g4 S) fun t90 H23 =>
 bindV (shiftT (g4 S) 0) fun t92 =>
 lF tlo base H23 t92 fun t93 H24 =>
 bindV (b2 evSub (lendV (keepV (keepV (setV S.1)))) t93) fun t94 =>
 bindV (b2 evSub t94 (tN 1)) fun t95 =>
 bindV (callTree call 162 [setV t90, setV t95] H24) fun t96 =>
 bindV (b2 evAdd (lendV (g1 S)) t96) fun t97 =>
 callFn TC call tlo t77 [setV (setV S.1), setV t83, setV t88, tB true, setV t97] H24 fun t98 H25 =>
 k (z0 (keepV (keepV (keepV (setV S.1)))) <| z1 (keepV (g1 S)) <| stN 12 S) H25)
 (doneT .normal))))))))
def F161 : FnT := fun call tlo l H => bindV (C161 call tlo (lenG H) (argT l 0, argT l 1, argT l 2, argT l 3, argT l 4, argT l 5, argT l 8, argT l 9, argT l 30, argT l 45, argT l 61, argT l 76, ()) H) fun p => resE p.1 (need (allG resOk []) (some (endT (lenG H) (.tup []) p.2.2)))
theorem F161_eq : FEq P TC 161 F161 := fun _ _ _ _ => by kernel_rfl
def C162 (call : CallT) (tlo base : Nat) : PieceT (TV × TV × TV × TV × Unit) :=
 (seqT (leafT fun S H k =>
 need (stor S.1) <|
 let t2 := (.ptr (lenG H) 0)
 let H0 := (pushT H (.cells (cellsT S.1)))
 k (z0 (hush S.1) <| z2 t2 <| z3 (tN 0) <| stN 4 S) H0)
 (seqT (leafT fun S H k =>
 bindV (shiftT (g2 S) 0) fun t6 =>
 lF tlo base H t6 fun t7 H1 =>
 bindV (b2 evAdd t7 (tN 1)) fun t8 =>
 bindV (b2 evRem (lendV (g1 S)) t8) fun t9 =>
 bindV (shiftT (g2 S) 0) fun t11 =>
 lF tlo base H1 t11 fun t12 H2 =>
 bindV (b2 evAdd t12 (tN 1)) fun t13 =>
 bindV (b2 evQuo (lendV (keepV (g1 S))) t13) fun t14 =>
 bindV (b2 evAdd t9 t14) fun t15 =>
 bindV (b2 evRem t15 (tN 2)) fun t16 =>
 bindV (b2 evMul (tN 2) t16) fun t17 =>
 bindV (b2 evSub (tN 1) t17) fun t18 =>
 k (z1 (keepV (keepV (g1 S))) <| z3 t18 <| stN 4 S) H2)
 (doneT .ret)))
def F162 : FnT := fun call tlo l H => bindV (C162 call tlo (lenG H) (argT l 0, argT l 1, argT l 2, argT l 4, ()) H) fun p => resE p.1 (need (allG resOk [p.2.1.2.2.2.1]) (some (endT (lenG H) p.2.1.2.2.2.1 p.2.2)))
theorem F162_eq : FEq P TC 162 F162 := fun _ _ _ _ => by kernel_rfl
def C164 (call : CallT) (tlo base : Nat) : PieceT (TV × TV × TV × TV × TV × Unit) :=
 (seqT (leafT fun S H k =>
 need (stor S.1) <|
 let t2 := (.ptr (lenG H) 0)
 let H0 := (pushT H (.cells (cellsT S.1)))
 need (stor (g1 S)) <|
 let t3 := (.ptr (lenG H0) 0)
 let H1 := (pushT H0 (.cells (cellsT (g1 S))))
 k (z0 (hush S.1) <| z1 (hush (g1 S)) <| z2 t2 <| z3 t3 <| z4 (tN 0) <| stN 5 S) H1)
 (seqT (leafT fun S H k =>
 bindV (cutArrT false 1 2 (g2 S) none none none) fun t5 =>
 bindV (cutArrT false 1 2 (g3 S) none none none) fun t6 =>
 bindV (callTree call 78 [setV t5, setV t6] H) fun t7 =>
 k (z4 t7 <| stN 5 S) H)
 (doneT .ret)))
def F164 : FnT := fun call tlo l H => bindV (C164 call tlo (lenG H) (argT l 0, argT l 1, argT l 2, argT l 3, argT l 4, ()) H) fun p => resE p.1 (need (allG resOk [p.2.1.2.2.2.2.1]) (some (endT (lenG H) p.2.1.2.2.2.2.1 p.2.2)))
theorem F164_eq : FEq P TC 164 F164 := fun _ _ _ _ => by kernel_rfl
def C166 (call : CallT) (tlo base : Nat) : PieceT (TV × TV × Unit) :=
 (seqT (leafT fun S H k =>
 k (z1 (tN 0) <| stN 2 S) H)
 (seqT (condT (fun S => some (tB false))
 (seqT (leafT fun S H k =>
 bindV (b1 (evConv .u32) (lendV S.1)) fun t4 =>
 bindV (callTree call 201 [setV t4] H) fun t5 =>
 k (z0 (keepV S.1) <| z1 t5 <| stN 2 S) H)
 (doneT .ret))
 (doneT .normal))
 (seqT (leafT fun S H k =>
 bindV (callTree call 202 [setV (lendV S.1)] H) fun t7 =>
 k (z0 (keepV S.1) <| z1 t7 <| stN 2 S) H)
 (doneT .ret))))
def F166 : FnT := fun call tlo l H => bindV (C166 call tlo (lenG H) (argT l 0, argT l 2, ()) H) fun p => resE p.1 (need (allG resOk [p.2.1.2.1]) (some (endT (lenG H) p.2.1.2.1 p.2.2)))
theorem F166_eq : FEq P TC 166 F166 := fun _ _ _ _ => by kernel_rfl
def C169 (call : CallT) (tlo base : Nat) : PieceT (TV × TV × TV × TV × TV × TV × TV × TV × TV × TV × TV × TV × TV × TV × TV × Unit) :=
 (seqT (leafT fun S H k =>
 need (stor S.1) <|
 let t2 := (.ptr (lenG H) 0)
 let H0 := (pushT H (.cells (cellsT S.1)))
 k (z0 (hush S.1) <| z2 t2 <| z3 nilT <| stN 15 S) H0)
 (seqT (leafT fun S H k =>
 k (z4 nilT <| stN 15 S) H)
 (seqT (seqT (leafT fun S H k =>
 bindV (shiftT (g2 S) 2) fun t11 =>
 lF tlo base H t11 fun t12 H1 =>
 bindV (callTree call 100 [setV t12] H1) fun t13 =>
 bindV (lenT t13) fun t14 =>
 k (z9 t13 <| z10 t14 <| z11 (tN 0) <| stN 15 S) H1)
 (blockT 0 (loopT (seqT (leafT fun S H k =>
 bindV (b2 evLss (g11 S) (g10 S)) fun t16 =>
 k (z12 t16 <| stN 15 S) H)
 (seqT (condT (fun S => some (g12 S))
 (doneT .normal)
 (doneT (.exit 0)))
 (seqT (blockT 1 (seqT (leafT fun S H k =>
 bindV (idxSlT 1 (g9 S) (g11 S)) fun t17 =>
 sF tlo base H t17 fun t18 H2 =>
 k (z5 t18 <| stN 15 S) H2)
 (seqT (leafT fun S H k =>
 bindV (shiftT (g2 S) 0) fun t20 =>
 lF tlo base H t20 fun t21 H3 =>
 bindV (b2 evQuo (lendV (g5 S)) t21) fun t22 =>
 bindV (b2 evAdd t22 (tN 1)) fun t23 =>
 bindV (shiftT (g2 S) 0) fun t24 =>
 lF tlo base H3 t24 fun t25 H4 =>
 bindV (b2 evAdd t25 (tN 1)) fun t26 =>
 bindV (b2 evMul t23 t26) fun t27 =>
 bindV (shiftT (g2 S) 0) fun t29 =>
 lF tlo base H4 t29 fun t30 H5 =>
 bindV (b2 evRem (lendV (keepV (g5 S))) t30) fun t31 =>
 bindV (b2 evAdd t27 t31) fun t32 =>
 bindV (b2 evAdd t32 (tN 1)) fun t33 =>
 k (z5 (keepV (keepV (g5 S))) <| z6 t33 <| stN 15 S) H5)
 (seqT (leafT fun S H k =>
 bindV (idxSlT 1 (lendV (g1 S)) (lendV (g6 S))) fun t36 =>
 lF tlo base H t36 fun t37 H6 =>
 bindV (shiftT (g2 S) 0) fun t40 =>
 lF tlo base H6 t40 fun t41 H7 =>
 bindV (b2 evSub (lendV (keepV (g6 S))) t41) fun t42 =>
 bindV (b2 evSub t42 (tN 1)) fun t43 =>
 bindV (idxSlT 1 (lendV (keepV (g1 S))) t43) fun t44 =>
 lF tlo base H7 t44 fun t45 H8 =>
 bindV (b2 evSub t37 t45) fun t46 =>
 bindV (idxSlT 1 (lendV (keepV (keepV (g1 S)))) (lendV (keepV (keepV (g6 S))))) fun t49 =>
 lF tlo base H8 t49 fun t50 H9 =>
 bindV (b2 evSub (lendV (keepV (keepV (keepV (g6 S))))) (tN 1)) fun t53 =>
 bindV (idxSlT 1 (lendV (keepV (keepV (keepV (g1 S))))) t53) fun t54 =>
 lF tlo base H9 t54 fun t55 H10 =>
 bindV (b2 evSub t50 t55) fun t56 =>
 k (z1 (keepV (keepV (keepV (keepV (g1 S))))) <| z6 (keepV (keepV (keepV (keepV (g6 S))))) <| z7 t46 <| z8 t56 <| stN 15 S) H10)
 (seqT (seqT (leafT fun S H k =>
 bindV (shiftT (g2 S) 3) fun t58 =>
 bindV (idxArrT 16 1 t58 (lendV (g5 S))) fun t59 =>
 lF tlo base H t59 fun t60 H11 =>
 bindV (b2 evAdd (lendV (keepV (g5 S))) (tN 1)) fun t62 =>
 bindV (b2 evShr t60 t62) fun t63 =>
 bindV (b2 evAnd t63 (.v (.int .u64 (.ofNat 1)))) fun t64 =>
 bindV (eqlT .int t64 (.v (.int .u64 (.ofNat 1)))) fun t65 =>
 gV t65 true (lendV (keepV (keepV (g5 S)))) H11 fun t67 H12 =>
 gB t65 true (shiftT (g2 S) 0) H12 fun t68 H13 =>
 guardT (lendV t65) true (lF tlo base H13 t68 fun g14 H14 => pairT g14 H14) H13 fun t69 H15 =>
 gB t65 true (b2 evRem t67 t69) H15 fun t70 H16 =>
 gB t65 true (shiftT (g2 S) 0) H16 fun t71 H17 =>
 guardT (lendV t65) true (lF tlo base H17 t71 fun g18 H18 => pairT g18 H18) H17 fun t72 H19 =>
 gB t65 true (b2 evSub t72 (tN 1)) H19 fun t73 H20 =>
 gB t65 true (b2 evLss t70 t73) H20 fun t74 H21 =>
 bindV (pickT (lendV t65) (setV t74) (tB false)) fun t75 =>
 gV t75 true (lendV (g7 S)) H21 fun t77 H22 =>
 gV t75 true (lendV (keepV (g7 S))) H22 fun t78 H23 =>
 gB t75 true (b2 evMul t77 t78) H23 fun t79 H24 =>
 gB t75 true (b2 evGtr t79 (tN 1)) H24 fun t80 H25 =>
 bindV (pickT (lendV t75) (setV t80) (tB false)) fun t81 =>
 k (z5 (keepV (keepV (keepV (g5 S)))) <| z7 (keepV (keepV (g7 S))) <| z13 t81 <| stN 15 S) H25)
 (condT (fun S => some (g13 S))
 (leafT fun S H k =>
 bindV (b2 evAdd (lendV (setV (g5 S))) (tN 1)) fun t85 =>
 bindV (aggT [(0, 1, (setV (g5 S))), (1, 1, t85)] zc71) fun t86 =>
 bindV (elemsT 2 [0] [setV t86] (repG [.agg zc71] 1)) fun c26 =>
 appendT tlo H 71 2 16 (g4 S) (.row .full (.own 71) 2 c26) fun t88 H27 =>
 k (z4 t88 <| z5 (keepV (setV (g5 S))) <| stN 15 S) H27)
 (doneT .normal)))
 (seqT (leafT fun S H k =>
 bindV (shiftT (g2 S) 3) fun t90 =>
 bindV (idxArrT 16 1 t90 (lendV (g5 S))) fun t91 =>
 lF tlo base H t91 fun t92 H28 =>
 bindV (shiftT (g2 S) 0) fun t94 =>
 lF tlo base H28 t94 fun t95 H29 =>
 bindV (b2 evAdd (lendV (keepV (g5 S))) t95) fun t96 =>
 bindV (b2 evShr t92 t96) fun t97 =>
 bindV (b2 evAnd t97 (.v (.int .u64 (.ofNat 1)))) fun t98 =>
 bindV (eqlT .int t98 (.v (.int .u64 (.ofNat 1)))) fun t99 =>
 gV t99 true (lendV (g8 S)) H29 fun t101 H30 =>
 gV t99 true (lendV (keepV (g8 S))) H30 fun t102 H31 =>
 gB t99 true (b2 evMul t101 t102) H31 fun t103 H32 =>
 gB t99 true (b2 evGtr t103 (tN 1)) H32 fun t104 H33 =>
 bindV (pickT (lendV t99) (setV t104) (tB false)) fun t105 =>
 k (z5 (keepV (keepV (g5 S))) <| z8 (keepV (keepV (g8 S))) <| z14 t105 <| stN 15 S) H33)
 (condT (fun S => some (g14 S))
 (leafT fun S H k =>
 bindV (shiftT (g2 S) 0) fun t109 =>
 lF tlo base H t109 fun t110 H34 =>
 bindV (b2 evAdd (lendV (setV (g5 S))) t110) fun t111 =>
 bindV (aggT [(0, 1, (setV (g5 S))), (1, 1, t111)] zc71) fun t112 =>
 bindV (elemsT 2 [0] [setV t112] (repG [.agg zc71] 1)) fun c35 =>
 appendT tlo H34 71 2 16 (g4 S) (.row .full (.own 71) 2 c35) fun t114 H36 =>
 k (z4 t114 <| z5 (keepV (setV (g5 S))) <| stN 15 S) H36)
 (doneT .normal))))))))
 (leafT fun S H k =>
 bindV (b2 evAdd (g11 S) (tN 1)) fun t115 =>
 k (z11 t115 <| stN 15 S) H)))) fuel)))
 (seqT (leafT fun S H k =>
 k (z3 (g4 S) <| z4 (hush (g4 S)) <| stN 15 S) H)
 (doneT .ret)))))
def F169 : FnT := fun call tlo l H => bindV (C169 call tlo (lenG H) (argT l 0, argT l 1, argT l 2, argT l 4, argT l 5, argT l 7, argT l 8, argT l 9, argT l 10, argT l 13, argT l 14, argT l 15, argT l 16, argT l 81, argT l 105, ()) H) fun p => resE p.1 (need (allG resOk [p.2.1.2.2.2.1]) (some (endT (lenG H) p.2.1.2.2.2.1 p.2.2)))
theorem F169_eq : FEq P TC 169 F169 := fun _ _ _ _ => by kernel_rfl
def C170 (call : CallT) (tlo base : Nat) : PieceT (TV × TV × TV × TV × TV × TV × TV × TV × TV × TV × TV × Unit) :=
 (seqT (leafT fun S H k =>
 k (z3 (.v (.int .u64 (.ofNat 0))) <| stN 11 S) H)
 (blockT 0 (loopT (blockT 1 (seqT (leafT fun S H k =>
 k (z0 (hush S.1) <| z4 S.1 <| stN 11 S) H)
 (seqT (seqT (leafT fun S H k =>
 bindV (callTree call 100 [setV (lendV S.1)] H) fun t12 =>
 bindV (lenT t12) fun t13 =>
 k (z0 (keepV S.1) <| z6 t12 <| z7 t13 <| z8 (tN 0) <| stN 11 S) H)
 (blockT 2 (loopT (seqT (leafT fun S H k =>
 bindV (b2 evLss (g8 S) (g7 S)) fun t15 =>
 k (z9 t15 <| stN 11 S) H)
 (seqT (condT (fun S => some (g9 S))
 (doneT .normal)
 (doneT (.exit 2)))
 (seqT (blockT 3 (seqT (leafT fun S H k =>
 bindV (idxSlT 1 (g6 S) (g8 S)) fun t16 =>
 sF tlo base H t16 fun t17 H0 =>
 k (z5 t17 <| stN 11 S) H0)
 (leafT fun S H k =>
 callFn TC call tlo (lendV (g2 S)) [setV (setV (g5 S))] H fun t21 H1 =>
 bindV (b2 evAnd t21 (lendV (stale (g1 S)))) fun t23 =>
 bindV (b2 evOr (stale (lendV (g4 S))) t23) fun t24 =>
 k (z1 (keepV (stale (g1 S))) <| z2 (keepV (g2 S)) <| z4 t24 <| z5 (setV (g5 S)) <| stN 11 S) H1)))
 (leafT fun S H k =>
 bindV (b2 evAdd (g8 S) (tN 1)) fun t25 =>
 k (z8 t25 <| stN 11 S) H)))) fuel)))
 (seqT (seqT (leafT fun S H k =>
 bindV (eqlT .int (lendV (g4 S)) (lendV S.1)) fun t28 =>
 k (z0 (keepV S.1) <| z4 (keepV (g4 S)) <| z10 t28 <| stN 11 S) H)
 (condT (fun S => some (g10 S))
 (seqT (leafT fun S H k =>
 k (z3 (g4 S) <| z4 (hush (g4 S)) <| stN 11 S) H)
 (doneT .ret))
 (doneT .normal)))
 (leafT fun S H k =>
 k (z0 (g4 S) <| z4 (hush (g4 S)) <| stN 11 S) H))))) fuel)))
def F170 : FnT := fun call tlo l H => bindV (C170 call tlo (lenG H) (argT l 0, argT l 1, argT l 2, argT l 6, argT l 7, argT l 9, argT l 12, argT l 13, argT l 14, argT l 15, argT l 28, ()) H) fun p => resE p.1 (need (allG resOk [p.2.1.2.2.2.1]) (some (endT (lenG H) p.2.1.2.2.2.1 p.2.2)))
theorem F170_eq : FEq P TC 170 F170 := fun _ _ _ _ => by kernel_rfl
def C171 (call : CallT) (tlo base : Nat) : PieceT (TV × TV × TV × Unit) :=
 (seqT (leafT fun S H k =>
 k (z2 (.v (.int .u64 (.ofNat 0))) <| stN 3 S) H)
 (seqT (leafT fun S H k =>
 bindV (shiftT (g1 S) 3) fun t5 =>
 bindV (idxArrT 16 1 t5 (lendV S.1)) fun t6 =>
 sF tlo base H t6 fun t7 H0 =>
 k (z0 (keepV S.1) <| z2 t7 <| stN 3 S) H0)
 (doneT .ret)))
def F171 : FnT := fun call tlo l H => bindV (C171 call tlo (lenG H) (argT l 0, argT l 1, argT l 3, ()) H) fun p => resE p.1 (need (allG resOk [p.2.1.2.2.1]) (some (endT (lenG H) p.2.1.2.2.1 p.2.2)))
theorem F171_eq : FEq P TC 171 F171 := fun _ _ _ _ => by kernel_rfl
def C172 (call : CallT) (tlo base : Nat) : PieceT (TV × TV × TV × TV × TV × TV × TV × TV × TV × TV × TV × Unit) :=
 (seqT (leafT fun S H k =>
 need (stor S.1) <|
 let t2 := (.ptr (lenG H) 0)
 let H0 := (pushT H (.cells (cellsT S.1)))
 k (z0 (hush S.1) <| z2 t2 <| z3 (.v (.int .u64 (.ofNat 0))) <| stN 11 S) H0)
 (seqT (leafT fun S H k =>
 bindV (shiftT (g2 S) 0) fun t9 =>
 lF tlo base H t9 fun t10 H1 =>
 bindV (b2 evRem (lendV (g1 S)) t10) fun t11 =>
 bindV (shiftT (g2 S) 0) fun t13 =>
 lF tlo base H1 t13 fun t14 H2 =>
 bindV (b2 evQuo (lendV (keepV (g1 S))) t14) fun t15 =>
 k (z1 (keepV (keepV (g1 S))) <| z4 t11 <| z5 t15 <| stN 11 S) H2)
 (seqT (leafT fun S H k =>
 k (z6 (.v (.int .u64 (.ofNat 0))) <| stN 11 S) H)
 (seqT (seqT (leafT fun S H k =>
 bindV (b2 evGtr (lendV (g4 S)) (tN 0)) fun t17 =>
 k (z4 (keepV (g4 S)) <| z7 t17 <| stN 11 S) H)
 (condT (fun S => some (g7 S))
 (leafT fun S H k =>
 bindV (b2 evSub (lendV (g1 S)) (tN 1)) fun t20 =>
 bindV (b2 evShl (.v (.int .u64 (.ofNat 1))) t20) fun t21 =>
 bindV (b2 evOr (lendV (g6 S)) t21) fun t22 =>
 k (z1 (keepV (g1 S)) <| z6 t22 <| stN 11 S) H)
 (doneT .normal)))
 (seqT (seqT (leafT fun S H k =>
 bindV (shiftT (g2 S) 0) fun t24 =>
 lF tlo base H t24 fun t25 H3 =>
 bindV (b2 evSub t25 (tN 1)) fun t26 =>
 bindV (b2 evLss (lendV (g4 S)) t26) fun t27 =>
 k (z4 (keepV (g4 S)) <| z8 t27 <| stN 11 S) H3)
 (condT (fun S => some (g8 S))
 (leafT fun S H k =>
 bindV (b2 evAdd (lendV (g1 S)) (tN 1)) fun t30 =>
 bindV (b2 evShl (.v (.int .u64 (.ofNat 1))) t30) fun t31 =>
 bindV (b2 evOr (lendV (g6 S)) t31) fun t32 =>
 k (z1 (keepV (g1 S)) <| z6 t32 <| stN 11 S) H)
 (doneT .normal)))
 (seqT (seqT (leafT fun S H k =>
 bindV (b2 evGtr (lendV (g5 S)) (tN 0)) fun t34 =>
 k (z5 (keepV (g5 S)) <| z9 t34 <| stN 11 S) H)
 (condT (fun S => some (g9 S))
 (leafT fun S H k =>
 bindV (shiftT (g2 S) 0) fun t37 =>
 lF tlo base H t37 fun t38 H4 =>
 bindV (b2 evSub (lendV (g1 S)) t38) fun t39 =>
 bindV (b2 evShl (.v (.int .u64 (.ofNat 1))) t39) fun t40 =>
 bindV (b2 evOr (lendV (g6 S)) t40) fun t41 =>
 k (z1 (keepV (g1 S)) <| z6 t41 <| stN 11 S) H4)
 (doneT .normal)))
 (seqT (seqT (leafT fun S H k =>
 bindV (shiftT (g2 S) 1) fun t43 =>
 lF tlo base H t43 fun t44 H5 =>
 bindV (b2 evSub t44 (tN 1)) fun t45 =>
 bindV (b2 evLss (lendV (g5 S)) t45) fun t46 =>
 k (z5 (keepV (g5 S)) <| z10 t46 <| stN 11 S) H5)
 (condT (fun S => some (g10 S))
 (leafT fun S H k =>
 bindV (shiftT (g2 S) 0) fun t49 =>
 lF tlo base H t49 fun t50 H6 =>
 bindV (b2 evAdd (lendV (g1 S)) t50) fun t51 =>
 bindV (b2 evShl (.v (.int .u64 (.ofNat 1))) t51) fun t52 =>
 bindV (b2 evOr (lendV (g6 S)) t52) fun t53 =>
 k (z1 (keepV (g1 S)) <| z6 t53 <| stN 11 S) H6)
 (doneT .normal)))
 (seqT (leafT fun S H k =>
 k (z3 (g6 S) <| z6 (hush (g6 S)) <| stN 11 S) H)
 (doneT .ret)))))))))
def F172 : FnT := fun call tlo l H => bindV (C172 call tlo (lenG H) (argT l 0, argT l 1, argT l 2, argT l 4, argT l 5, argT l 6, argT l 7, argT l 17, argT l 27, argT l 34, argT l 46, ()) H) fun p => resE p.1 (need (allG resOk [p.2.1.2.2.2.1]) (some (endT (lenG H) p.2.1.2.2.2.1 p.2.2)))
theorem F172_eq : FEq P TC 172 F172 := fun _ _ _ _ => by kernel_rfl
def C176 (call : CallT) (tlo base : Nat) : PieceT (TV × TV × Unit) :=
 (seqT (leafT fun S H k =>
 k (z1 (tB false) <| stN 2 S) H)
 (seqT (leafT fun S H k =>
 bindV (neqT .int (lendV S.1) (lendV (keepV S.1))) fun t5 =>
 k (z0 (keepV (keepV S.1)) <| z1 t5 <| stN 2 S) H)
 (doneT .ret)))
def F176 : FnT := fun call tlo l H => bindV (C176 call tlo (lenG H) (argT l 0, argT l 2, ()) H) fun p => resE p.1 (need (allG resOk [p.2.1.2.1]) (some (endT (lenG H) p.2.1.2.1 p.2.2)))
theorem F176_eq : FEq P TC 176 F176 := fun _ _ _ _ => by kernel_rfl
end
end Go.Proofs.YtgemobbfikjmoaaGreatDoor
namespace Go.Proofs.YtgemobbfikjmoaaGreatDoor
open Go Go.Ev
set_option maxRecDepth 1000000
set_option linter.unusedVariables false
noncomputable section
def C186 (call : CallT) (tlo base : Nat) : PieceT (TV × TV × TV × TV × Unit) :=
 (seqT (leafT fun S H k =>
 k (z1 (tN 0) <| stN 4 S) H)
 (seqT (seqT (leafT fun S H k =>
 bindV (b2 evGeq (lendV S.1) (.v (.int .u32 (.ofNat 65536)))) fun t4 =>
 k (z0 (keepV S.1) <| z2 t4 <| stN 4 S) H)
 (condT (fun S => some (g2 S))
 (seqT (leafT fun S H k =>
 bindV (b2 evShr (lendV S.1) (.v (.int .u64 (.ofNat 16)))) fun t6 =>
 k (z0 t6 <| stN 4 S) H)
 (leafT fun S H k =>
 k (z1 (tN 16) <| stN 4 S) H))
 (doneT .normal)))
 (seqT (seqT (leafT fun S H k =>
 bindV (b2 evGeq (lendV S.1) (.v (.int .u32 (.ofNat 256)))) fun t8 =>
 k (z0 (keepV S.1) <| z3 t8 <| stN 4 S) H)
 (condT (fun S => some (g3 S))
 (seqT (leafT fun S H k =>
 bindV (b2 evShr (lendV S.1) (.v (.int .u64 (.ofNat 8)))) fun t10 =>
 k (z0 t10 <| stN 4 S) H)
 (leafT fun S H k =>
 bindV (b2 evAdd (lendV (g1 S)) (tN 8)) fun t12 =>
 k (z1 t12 <| stN 4 S) H))
 (doneT .normal)))
 (seqT (leafT fun S H k =>
 bindV (b1 (evConv .u8) (lendV S.1)) fun t15 =>
 bindV (idxStrT (.v str0) t15) fun t16 =>
 bindV (b1 (evConv .i64) t16) fun t17 =>
 bindV (b2 evAdd (lendV (g1 S)) t17) fun t18 =>
 k (z0 (keepV S.1) <| z1 t18 <| stN 4 S) H)
 (doneT .ret)))))
def F186 : FnT := fun call tlo l H => bindV (C186 call tlo (lenG H) (argT l 0, argT l 2, argT l 4, argT l 8, ()) H) fun p => resE p.1 (need (allG resOk [p.2.1.2.1]) (some (endT (lenG H) p.2.1.2.1 p.2.2)))
theorem F186_eq : FEq P TC 186 F186 := fun _ _ _ _ => by kernel_rfl
def C187 (call : CallT) (tlo base : Nat) : PieceT (TV × TV × TV × TV × TV × Unit) :=
 (seqT (leafT fun S H k =>
 k (z1 (tN 0) <| stN 5 S) H)
 (seqT (seqT (leafT fun S H k =>
 bindV (b2 evGeq (lendV S.1) (.v (.int .u64 (.ofNat 4294967296)))) fun t4 =>
 k (z0 (keepV S.1) <| z2 t4 <| stN 5 S) H)
 (condT (fun S => some (g2 S))
 (seqT (leafT fun S H k =>
 bindV (b2 evShr (lendV S.1) (.v (.int .u64 (.ofNat 32)))) fun t6 =>
 k (z0 t6 <| stN 5 S) H)
 (leafT fun S H k =>
 k (z1 (tN 32) <| stN 5 S) H))
 (doneT .normal)))
 (seqT (seqT (leafT fun S H k =>
 bindV (b2 evGeq (lendV S.1) (.v (.int .u64 (.ofNat 65536)))) fun t8 =>
 k (z0 (keepV S.1) <| z3 t8 <| stN 5 S) H)
 (condT (fun S => some (g3 S))
 (seqT (leafT fun S H k =>
 bindV (b2 evShr (lendV S.1) (.v (.int .u64 (.ofNat 16)))) fun t10 =>
 k (z0 t10 <| stN 5 S) H)
 (leafT fun S H k =>
 bindV (b2 evAdd (lendV (g1 S)) (tN 16)) fun t12 =>
 k (z1 t12 <| stN 5 S) H))
 (doneT .normal)))
 (seqT (seqT (leafT fun S H k =>
 bindV (b2 evGeq (lendV S.1) (.v (.int .u64 (.ofNat 256)))) fun t14 =>
 k (z0 (keepV S.1) <| z4 t14 <| stN 5 S) H)
 (condT (fun S => some (g4 S))
 (seqT (leafT fun S H k =>
 bindV (b2 evShr (lendV S.1) (.v (.int .u64 (.ofNat 8)))) fun t16 =>
 k (z0 t16 <| stN 5 S) H)
 (leafT fun S H k =>
 bindV (b2 evAdd (lendV (g1 S)) (tN 8)) fun t18 =>
 k (z1 t18 <| stN 5 S) H))
 (doneT .normal)))
 (seqT (leafT fun S H k =>
 bindV (b1 (evConv .u8) (lendV S.1)) fun t21 =>
 bindV (idxStrT (.v str0) t21) fun t22 =>
 bindV (b1 (evConv .i64) t22) fun t23 =>
 bindV (b2 evAdd (lendV (g1 S)) t23) fun t24 =>
 k (z0 (keepV S.1) <| z1 t24 <| stN 5 S) H)
 (doneT .ret))))))
def F187 : FnT := fun call tlo l H => bindV (C187 call tlo (lenG H) (argT l 0, argT l 2, argT l 4, argT l 8, argT l 14, ()) H) fun p => resE p.1 (need (allG resOk [p.2.1.2.1]) (some (endT (lenG H) p.2.1.2.1 p.2.2)))
theorem F187_eq : FEq P TC 187 F187 := fun _ _ _ _ => by kernel_rfl
def C188 (call : CallT) (tlo base : Nat) : PieceT (TV × TV × TV × TV × TV × TV × TV × TV × Unit) :=
 (seqT (leafT fun S H k =>
 bindV (b2 evAdd (lendV (g1 S)) (tN 1)) fun t11 =>
 k (z1 (keepV (g1 S)) <| z4 t11 <| stN 8 S) H)
 (blockT 0 (loopT (seqT (seqT (leafT fun S H k =>
 bindV (b2 evLss (lendV (g4 S)) (lendV (g2 S))) fun t14 =>
 k (z2 (keepV (g2 S)) <| z4 (keepV (g4 S)) <| z6 t14 <| stN 8 S) H)
 (condT (fun S => some (g6 S))
 (doneT .normal)
 (doneT (.exit 0))))
 (seqT (blockT 1 (seqT (leafT fun S H k =>
 k (z4 (hush (g4 S)) <| z5 (g4 S) <| stN 8 S) H)
 (blockT 2 (loopT (seqT (seqT (leafT fun S H k =>
 bindV (b2 evGtr (lendV (g5 S)) (lendV (g1 S))) fun t20 =>
 gV t20 true (lendV (g3 S)) H fun t22 H0 =>
 gV t20 true (lendV S.1) H0 fun t23 H1 =>
 gV t20 true (lendV (keepV (g5 S))) H1 fun t24 H2 =>
 gB t20 true (idxSlT 2 t23 t24) H2 fun t25 H3 =>
 guardT (lendV t20) true (sA tlo base 2 H3 t25 fun g4 H4 => pairT g4 H4) H3 fun t26 H5 =>
 gV t20 true (lendV (keepV S.1)) H5 fun t27 H6 =>
 gV t20 true (lendV (keepV (keepV (g5 S)))) H6 fun t28 H7 =>
 gB t20 true (b2 evSub t28 (tN 1)) H7 fun t29 H8 =>
 gB t20 true (idxSlT 2 t27 t29) H8 fun t30 H9 =>
 guardT (lendV t20) true (sA tlo base 2 H9 t30 fun g10 H10 => pairT g10 H10) H9 fun t31 H11 =>
 guardT (lendV t20) true (callFn TC call tlo t22 [setV t26, setV t31] H11 fun g12 H12 => pairT g12 H12) H11 fun t32 H13 =>
 gB t20 true (b2 evLss t32 (tN 0)) H13 fun t33 H14 =>
 bindV (pickT (stale (lendV t20)) (setV t33) (tB false)) fun t34 =>
 k (z0 (keepV (keepV S.1)) <| z1 (keepV (g1 S)) <| z3 (keepV (g3 S)) <| z5 (keepV (keepV (keepV (g5 S)))) <| z7 t34 <| stN 8 S) H14)
 (condT (fun S => some (g7 S))
 (doneT .normal)
 (doneT (.exit 2))))
 (seqT (blockT 3 (leafT fun S H k =>
 thawB 2 true S.1 H fun c15 H15 =>
 thawB 2 true (stale c15) H15 fun c16 H16 =>
 bindV (b2 evSub (lendV (stale (keepV (stale (g5 S))))) (tN 1)) fun t41 =>
 bindV (b2 evSub (lendV (keepV (stale (keepV (stale (g5 S)))))) (tN 1)) fun t44 =>
 bindV (idxSlT 2 (lendV (stale c16)) t44) fun t45 =>
 sA tlo base 2 H16 t45 fun t46 H17 =>
 bindV (idxSlT 2 (lendV (keepV (stale c16))) (lendV (keepV (keepV (stale (keepV (stale (g5 S)))))))) fun t49 =>
 sA tlo base 2 H17 t49 fun t50 H18 =>
 thawB 2 true (stale c15) H18 fun c19 H19 =>
 bindV (idxSlT 2 c19 (stale (lendV (stale (g5 S))))) fun t51 =>
 bindV (storeT tlo base 2 H19 t51 (stale t46)) fun H20 =>
 thawB 2 true (stale c16) H20 fun c21 H21 =>
 bindV (idxSlT 2 c21 (stale t41)) fun t52 =>
 bindV (storeT tlo base 2 H21 t52 (stale t50)) fun H22 =>
 k (z0 (keepV (keepV (stale c16))) <| z5 (keepV (keepV (keepV (stale (keepV (stale (g5 S))))))) <| stN 8 S) H22))
 (leafT fun S H k =>
 bindV (b2 evSub (lendV (g5 S)) (tN 1)) fun t36 =>
 k (z5 t36 <| stN 8 S) H))) fuel))))
 (leafT fun S H k =>
 bindV (b2 evAdd (lendV (g4 S)) (tN 1)) fun t16 =>
 k (z4 t16 <| stN 8 S) H))) fuel)))
def F188 : FnT := fun call tlo l H => bindV (C188 call tlo (lenG H) (argT l 0, argT l 1, argT l 2, argT l 3, argT l 8, argT l 9, argT l 14, argT l 34, ()) H) fun p => resE p.1 (need (allG resOk []) (some (endT (lenG H) (.tup []) p.2.2)))
theorem F188_eq : FEq P TC 188 F188 := fun _ _ _ _ => by kernel_rfl
def C196 (call : CallT) (tlo base : Nat) : PieceT (TV × TV × TV × Unit) :=
 (seqT (leafT fun S H k =>
 k (z1 (tN 0) <| stN 3 S) H)
 (seqT (seqT (leafT fun S H k =>
 bindV (eqlT .int (lendV S.1) (.v (.int .u32 (.ofNat 0)))) fun t4 =>
 k (z0 (keepV S.1) <| z2 t4 <| stN 3 S) H)
 (condT (fun S => some (g2 S))
 (seqT (leafT fun S H k =>
 k (z1 (tN 32) <| stN 3 S) H)
 (doneT .ret))
 (doneT .normal)))
 (seqT (leafT fun S H k =>
 bindV (b1 evNeg (lendV (keepV S.1))) fun t7 =>
 bindV (b2 evAnd (lendV S.1) t7) fun t8 =>
 bindV (b2 evMul t8 (.v (.int .u32 (.ofNat 125613361)))) fun t9 =>
 bindV (b2 evShr t9 (.v (.int .u64 (.ofNat 27)))) fun t10 =>
 bindV (idxArrT 32 1 (.el .set tab0 0) t10) fun t11 =>
 lF tlo base H t11 fun t12 H0 =>
 bindV (b1 (evConv .i64) t12) fun t13 =>
 k (z0 (keepV (keepV S.1)) <| z1 t13 <| stN 3 S) H0)
 (doneT .ret))))
def F196 : FnT := fun call tlo l H => bindV (C196 call tlo (lenG H) (argT l 0, argT l 2, argT l 4, ()) H) fun p => resE p.1 (need (allG resOk [p.2.1.2.1]) (some (endT (lenG H) p.2.1.2.1 p.2.2)))
theorem F196_eq : FEq P TC 196 F196 := fun _ _ _ _ => by kernel_rfl
def C197 (call : CallT) (tlo base : Nat) : PieceT (TV × TV × TV × Unit) :=
 (seqT (leafT fun S H k =>
 k (z1 (tN 0) <| stN 3 S) H)
 (seqT (seqT (leafT fun S H k =>
 bindV (eqlT .int (lendV S.1) (.v (.int .u64 (.ofNat 0)))) fun t4 =>
 k (z0 (keepV S.1) <| z2 t4 <| stN 3 S) H)
 (condT (fun S => some (g2 S))
 (seqT (leafT fun S H k =>
 k (z1 (tN 64) <| stN 3 S) H)
 (doneT .ret))
 (doneT .normal)))
 (seqT (leafT fun S H k =>
 bindV (b1 evNeg (lendV (keepV S.1))) fun t7 =>
 bindV (b2 evAnd (lendV S.1) t7) fun t8 =>
 bindV (b2 evMul t8 (.v (.int .u64 (.ofNat 285870213051353865)))) fun t9 =>
 bindV (b2 evShr t9 (.v (.int .u64 (.ofNat 58)))) fun t10 =>
 bindV (idxArrT 64 1 (.el .set tab1 0) t10) fun t11 =>
 lF tlo base H t11 fun t12 H0 =>
 bindV (b1 (evConv .i64) t12) fun t13 =>
 k (z0 (keepV (keepV S.1)) <| z1 t13 <| stN 3 S) H0)
 (doneT .ret))))
def F197 : FnT := fun call tlo l H => bindV (C197 call tlo (lenG H) (argT l 0, argT l 2, argT l 4, ()) H) fun p => resE p.1 (need (allG resOk [p.2.1.2.1]) (some (endT (lenG H) p.2.1.2.1 p.2.2)))
theorem F197_eq : FEq P TC 197 F197 := fun _ _ _ _ => by kernel_rfl
def C198 (call : CallT) (tlo base : Nat) : PieceT (TV × TV × TV × TV × TV × TV × TV × TV × Unit) :=
 (seqT (leafT fun S H k =>
 k (z2 (tN 0) <| stN 8 S) H)
 (seqT (seqT (leafT fun S H k =>
 bindV (lenT (lendV S.1)) fun t7 =>
 k (z0 (keepV S.1) <| z4 t7 <| z5 (tN 0) <| stN 8 S) H)
 (blockT 0 (loopT (seqT (leafT fun S H k =>
 bindV (b2 evLss (g5 S) (g4 S)) fun t9 =>
 k (z6 t9 <| stN 8 S) H)
 (seqT (condT (fun S => some (g6 S))
 (doneT .normal)
 (doneT (.exit 0)))
 (seqT (blockT 1 (seqT (leafT fun S H k =>
 k (z3 (g5 S) <| z5 (hush (g5 S)) <| stN 8 S) H)
 (seqT (leafT fun S H k =>
 bindV (idxSlT 1 (lendV S.1) (lendV (g3 S))) fun t14 =>
 sF tlo base H t14 fun t15 H0 =>
 callFn TC call tlo (lendV (g1 S)) [setV t15] H0 fun t16 H1 =>
 k (z0 (keepV S.1) <| z1 (keepV (g1 S)) <| z3 (keepV (g3 S)) <| z7 t16 <| stN 8 S) H1)
 (condT (fun S => some (g7 S))
 (seqT (leafT fun S H k =>
 k (z2 (g3 S) <| z3 (hush (g3 S)) <| stN 8 S) H)
 (doneT .ret))
 (doneT .normal)))))
 (leafT fun S H k =>
 bindV (b2 evAdd (g5 S) (tN 1)) fun t18 =>
 k (z5 t18 <| stN 8 S) H)))) fuel)))
 (seqT (leafT fun S H k =>
 k (z2 (.v (.int .i64 (.negSucc 0))) <| stN 8 S) H)
 (doneT .ret))))
def F198 : FnT := fun call tlo l H => bindV (C198 call tlo (lenG H) (argT l 0, argT l 1, argT l 4, argT l 5, argT l 7, argT l 8, argT l 9, argT l 16, ()) H) fun p => resE p.1 (need (allG resOk [p.2.1.2.2.1]) (some (endT (lenG H) p.2.1.2.2.1 p.2.2)))
theorem F198_eq : FEq P TC 198 F198 := fun _ _ _ _ => by kernel_rfl
def C199 (call : CallT) (tlo base : Nat) : PieceT (TV × TV × TV × TV × TV × Unit) :=
 (seqT (leafT fun S H k =>
 k (z3 (tN 0) <| stN 5 S) H)
 (seqT (seqT (leafT fun S H k =>
 bindV (b2 (evLesser false) (lendV S.1) (lendV (g1 S))) fun c0 =>
 need (isV c0) <|
 bindV (b2 evLss c0 (tN 0)) fun t9 =>
 gV t9 false (lendV (keepV S.1)) H fun t11 H1 =>
 gB t9 false (shiftT (g2 S) 0) H1 fun t12 H2 =>
 guardT (lendV t9) false (lF tlo base H2 t12 fun g3 H3 => pairT g3 H3) H2 fun t13 H4 =>
 gB t9 false (b2 evGeq t11 t13) H4 fun t14 H5 =>
 bindV (pickT (lendV t9) (tB true) (setV t14)) fun t15 =>
 gV t15 false (lendV (keepV (g1 S))) H5 fun t17 H6 =>
 gB t15 false (shiftT (g2 S) 1) H6 fun t18 H7 =>
 guardT (lendV t15) false (lF tlo base H7 t18 fun g8 H8 => pairT g8 H8) H7 fun t19 H9 =>
 gB t15 false (b2 evGeq t17 t19) H9 fun t20 H10 =>
 bindV (pickT (lendV t15) (tB true) (setV t20)) fun t21 =>
 gB t21 false (shiftT (g2 S) 2) H10 fun t23 H11 =>
 guardT (lendV t21) false (lF tlo base H11 t23 fun g12 H12 => pairT g12 H12) H11 fun t24 H13 =>
 gV t21 false (lendV (keepV (keepV (g1 S)))) H13 fun t25 H14 =>
 gB t21 false (shiftT (g2 S) 0) H14 fun t26 H15 =>
 guardT (lendV t21) false (lF tlo base H15 t26 fun g16 H16 => pairT g16 H16) H15 fun t27 H17 =>
 gB t21 false (b2 evMul t25 t27) H17 fun t28 H18 =>
 gV t21 false (lendV (keepV (keepV S.1))) H18 fun t29 H19 =>
 gB t21 false (b2 evAdd t28 t29) H19 fun t30 H20 =>
 gB t21 false (b2 evShr t24 t30) H20 fun t31 H21 =>
 gB t21 false (b2 evAnd t31 (.v (.int .u64 (.ofNat 1)))) H21 fun t32 H22 =>
 gB t21 false (eqlT .int t32 (.v (.int .u64 (.ofNat 0)))) H22 fun t33 H23 =>
 bindV (pickT (lendV t21) (tB true) (setV t33)) fun t34 =>
 k (z0 (keepV (keepV (keepV S.1))) <| z1 (keepV (keepV (keepV (g1 S)))) <| z4 t34 <| stN 5 S) H23)
 (condT (fun S => some (g4 S))
 (seqT (leafT fun S H k =>
 k (z3 (.v (.int .i64 (.negSucc 0))) <| stN 5 S) H)
 (doneT .ret))
 (doneT .normal)))
 (seqT (leafT fun S H k =>
 bindV (shiftT (g2 S) 0) fun t36 =>
 lF tlo base H t36 fun t37 H24 =>
 bindV (b2 evMul (lendV (g1 S)) t37) fun t38 =>
 bindV (b2 evAdd t38 (lendV S.1)) fun t40 =>
 k (z0 (keepV S.1) <| z1 (keepV (g1 S)) <| z3 t40 <| stN 5 S) H24)
 (doneT .ret))))
def F199 : FnT := fun call tlo l H => bindV (C199 call tlo (lenG H) (argT l 0, argT l 1, argT l 2, argT l 5, argT l 34, ()) H) fun p => resE p.1 (need (allG resOk [p.2.1.2.2.2.1]) (some (endT (lenG H) p.2.1.2.2.2.1 p.2.2)))
theorem F199_eq : FEq P TC 199 F199 := fun _ _ _ _ => by kernel_rfl
def C201 (call : CallT) (tlo base : Nat) : PieceT (TV × TV × Unit) :=
 (seqT (leafT fun S H k =>
 k (z1 (tN 0) <| stN 2 S) H)
 (seqT (leafT fun S H k =>
 bindV (b2 evShr (lendV S.1) (.v (.int .u64 (.ofNat 24)))) fun t4 =>
 bindV (idxStrT (.v str1) t4) fun t5 =>
 bindV (b2 evShr (lendV (keepV S.1)) (.v (.int .u64 (.ofNat 16)))) fun t7 =>
 bindV (b2 evAnd t7 (.v (.int .u32 (.ofNat 255)))) fun t8 =>
 bindV (idxStrT (.v str1) t8) fun t9 =>
 bindV (b2 evAdd t5 t9) fun t10 =>
 bindV (b2 evShr (lendV (keepV (keepV S.1))) (.v (.int .u64 (.ofNat 8)))) fun t12 =>
 bindV (b2 evAnd t12 (.v (.int .u32 (.ofNat 255)))) fun t13 =>
 bindV (idxStrT (.v str1) t13) fun t14 =>
 bindV (b2 evAdd t10 t14) fun t15 =>
 bindV (b2 evAnd (lendV (keepV (keepV (keepV S.1)))) (.v (.int .u32 (.ofNat 255)))) fun t17 =>
 bindV (idxStrT (.v str1) t17) fun t18 =>
 bindV (b2 evAdd t15 t18) fun t19 =>
 bindV (b1 (evConv .i64) t19) fun t20 =>
 k (z0 (keepV (keepV (keepV (keepV S.1)))) <| z1 t20 <| stN 2 S) H)
 (doneT .ret)))
def F201 : FnT := fun call tlo l H => bindV (C201 call tlo (lenG H) (argT l 0, argT l 2, ()) H) fun p => resE p.1 (need (allG resOk [p.2.1.2.1]) (some (endT (lenG H) p.2.1.2.1 p.2.2)))
theorem F201_eq : FEq P TC 201 F201 := fun _ _ _ _ => by kernel_rfl
def C202 (call : CallT) (tlo base : Nat) : PieceT (TV × TV × Unit) :=
 (seqT (leafT fun S H k =>
 k (z1 (tN 0) <| stN 2 S) H)
 (seqT (leafT fun S H k =>
 bindV (b2 evShr (lendV S.1) (.v (.int .u64 (.ofNat 1)))) fun t4 =>
 bindV (b2 evAnd t4 (.v (.int .u64 (.ofNat 6148914691236517205)))) fun t5 =>
 bindV (b2 evAnd (lendV (keepV S.1)) (.v (.int .u64 (.ofNat 6148914691236517205)))) fun t7 =>
 bindV (b2 evAdd t5 t7) fun t8 =>
 k (z0 t8 <| stN 2 S) H)
 (seqT (leafT fun S H k =>
 bindV (b2 evShr (lendV S.1) (.v (.int .u64 (.ofNat 2)))) fun t10 =>
 bindV (b2 evAnd t10 (.v (.int .u64 (.ofNat 3689348814741910323)))) fun t11 =>
 bindV (b2 evAnd (lendV (keepV S.1)) (.v (.int .u64 (.ofNat 3689348814741910323)))) fun t13 =>
 bindV (b2 evAdd t11 t13) fun t14 =>
 k (z0 t14 <| stN 2 S) H)
 (seqT (leafT fun S H k =>
 bindV (b2 evShr (lendV S.1) (.v (.int .u64 (.ofNat 4)))) fun t16 =>
 bindV (b2 evAdd t16 (lendV (keepV S.1))) fun t18 =>
 bindV (b2 evAnd t18 (.v (.int .u64 (.ofNat 1085102592571150095)))) fun t19 =>
 k (z0 t19 <| stN 2 S) H)
 (seqT (leafT fun S H k =>
 bindV (b2 evShr (lendV (keepV S.1)) (.v (.int .u64 (.ofNat 8)))) fun t22 =>
 bindV (b2 evAdd (lendV S.1) t22) fun t23 =>
 k (z0 t23 <| stN 2 S) H)
 (seqT (leafT fun S H k =>
 bindV (b2 evShr (lendV (keepV S.1)) (.v (.int .u64 (.ofNat 16)))) fun t26 =>
 bindV (b2 evAdd (lendV S.1) t26) fun t27 =>
 k (z0 t27 <| stN 2 S) H)
 (seqT (leafT fun S H k =>
 bindV (b2 evShr (lendV (keepV S.1)) (.v (.int .u64 (.ofNat 32)))) fun t30 =>
 bindV (b2 evAdd (lendV S.1) t30) fun t31 =>
 k (z0 t31 <| stN 2 S) H)
 (seqT (leafT fun S H k =>
 bindV (b1 (evConv .i64) (lendV S.1)) fun t33 =>
 bindV (b2 evAnd t33 (tN 127)) fun t34 =>
 k (z0 (keepV S.1) <| z1 t34 <| stN 2 S) H)
 (doneT .ret)))))))))
def F202 : FnT := fun call tlo l H => bindV (C202 call tlo (lenG H) (argT l 0, argT l 2, ()) H) fun p => resE p.1 (need (allG resOk [p.2.1.2.1]) (some (endT (lenG H) p.2.1.2.1 p.2.2)))
theorem F202_eq : FEq P TC 202 F202 := fun _ _ _ _ => by kernel_rfl
end
end Go.Proofs.YtgemobbfikjmoaaGreatDoor
namespace Go.Proofs.YtgemobbfikjmoaaGreatDoor
open Go Go.Ev
set_option maxRecDepth 1000000
set_option linter.unusedVariables false
end Go.Proofs.YtgemobbfikjmoaaGreatDoor
namespace Go.Proofs.YtgemobbfikjmoaaGreatDoor
open Go Go.Ev
set_option maxRecDepth 1000000
noncomputable section
def rows : List (Nat × (CallT → CallT)) := [
 rowF 13 F13, rowF 15 F15, rowF 16 F16, rowF 18 F18, rowF 20 F20, rowF 21 F21, rowF 23 F23, rowF 25 F25, rowF 27 F27, rowF 28 F28, rowF 30 F30, rowF 32 F32, rowF 34 F34, rowF 36 F36, rowF 38 F38, rowF 40 F40, rowF 42 F42, rowF 44 F44, rowF 46 F46, rowF 48 F48, rowF 52 F52, rowF 54 F54, rowF 56 F56, rowF 59 F59, rowF 62 F62, rowF 63 F63, rowF 64 F64, rowF 65 F65, rowF 78 F78, rowF 79 F79, rowF 80 F80, rowF 81 F81, rowF 85 F85, rowF 87 F87, rowF 88 F88, rowF 89 F89, rowF 90 F90, rowF 91 F91, rowF 92 F92, rowF 93 F93, rowF 94 F94, rowF 95 F95, rowF 97 F97, rowF 98 F98, rowF 99 F99, rowF 100 F100, rowF 101 F101, rowF 104 F104, rowF 105 F105, rowF 111 F111, rowF 112 F112, rowF 113 F113, rowF 116 F116, rowF 117 F117, rowF 119 F119, rowF 121 F121, rowF 124 F124, rowF 125 F125, rowF 127 F127, rowF 128 F128, rowF 134 F134, rowF 135 F135, rowF 136 F136, rowF 137 F137, rowF 138 F138, rowF 143 F143, rowF 147 F147, rowF 148 F148, rowF 150 F150, rowF 151 F151, rowF 152 F152, rowF 153 F153, rowF 154 F154, rowF 156 F156, rowF 157 F157, rowF 158 F158, rowF 159 F159, rowF 160 F160, rowF 161 F161, rowF 162 F162, rowF 164 F164, rowF 166 F166, rowF 169 F169, rowF 170 F170, rowF 171 F171, rowF 172 F172, rowF 176 F176, rowF 186 F186, rowF 187 F187, rowF 188 F188, rowF 196 F196, rowF 197 F197, rowF 198 F198, rowF 199 F199, rowF 201 F201, rowF 202 F202]
def table : Tr (CallT → CallT) := tableT rows .leaf
theorem rows_ok : ∀ r ∈ rows, ∀ call tlo args H, r.2 call tlo r.1 args H = fnT P TC call tlo r.1 args H := by
 simp only [rows, List.forall_mem_cons]
 refine ⟨fun c t a H => (F13_eq c t a H).symm, fun c t a H => (F15_eq c t a H).symm, fun c t a H => (F16_eq c t a H).symm, fun c t a H => (F18_eq c t a H).symm, fun c t a H => (F20_eq c t a H).symm, fun c t a H => (F21_eq c t a H).symm, fun c t a H => (F23_eq c t a H).symm, fun c t a H => (F25_eq c t a H).symm, fun c t a H => (F27_eq c t a H).symm, fun c t a H => (F28_eq c t a H).symm, fun c t a H => (F30_eq c t a H).symm, fun c t a H => (F32_eq c t a H).symm, fun c t a H => (F34_eq c t a H).symm, fun c t a H => (F36_eq c t a H).symm, fun c t a H => (F38_eq c t a H).symm, fun c t a H => (F40_eq c t a H).symm, fun c t a H => (F42_eq c t a H).symm, fun c t a H => (F44_eq c t a H).symm, fun c t a H => (F46_eq c t a H).symm, fun c t a H => (F48_eq c t a H).symm, fun c t a H => (F52_eq c t a H).symm, fun c t a H => (F54_eq c t a H).symm, fun c t a H => (F56_eq c t a H).symm, fun c t a H => (F59_eq c t a H).symm, fun c t a H => (F62_eq c t a H).symm, fun c t a H => (F63_eq c t a H).symm, fun c t a H => (F64_eq c t a H).symm, fun c t a H => (F65_eq c t a H).symm, fun c t a H => (F78_eq c t a H).symm, fun c t a H => (F79_eq c t a H).symm, fun c t a H => (F80_eq c t a H).symm, fun c t a H => (F81_eq c t a H).symm, fun c t a H => (F85_eq c t a H).symm, fun c t a H => (F87_eq c t a H).symm, fun c t a H => (F88_eq c t a H).symm, fun c t a H => (F89_eq c t a H).symm, fun c t a H => (F90_eq c t a H).symm, fun c t a H => (F91_eq c t a H).symm, fun c t a H => (F92_eq c t a H).symm, fun c t a H => (F93_eq c t a H).symm, fun c t a H => (F94_eq c t a H).symm, fun c t a H => (F95_eq c t a H).symm, fun c t a H => (F97_eq c t a H).symm, fun c t a H => (F98_eq c t a H).symm, fun c t a H => (F99_eq c t a H).symm, fun c t a H => (F100_eq c t a H).symm, fun c t a H => (F101_eq c t a H).symm, fun c t a H => (F104_eq c t a H).symm, fun c t a H => (F105_eq c t a H).symm, fun c t a H => (F111_eq c t a H).symm, fun c t a H => (F112_eq c t a H).symm, fun c t a H => (F113_eq c t a H).symm, fun c t a H => (F116_eq c t a H).symm, fun c t a H => (F117_eq c t a H).symm, fun c t a H => (F119_eq c t a H).symm, fun c t a H => (F121_eq c t a H).symm, fun c t a H => (F124_eq c t a H).symm, fun c t a H => (F125_eq c t a H).symm, fun c t a H => (F127_eq c t a H).symm, fun c t a H => (F128_eq c t a H).symm, fun c t a H => (F134_eq c t a H).symm, fun c t a H => (F135_eq c t a H).symm, fun c t a H => (F136_eq c t a H).symm, fun c t a H => (F137_eq c t a H).symm, fun c t a H => (F138_eq c t a H).symm, fun c t a H => (F143_eq c t a H).symm, fun c t a H => (F147_eq c t a H).symm, fun c t a H => (F148_eq c t a H).symm, fun c t a H => (F150_eq c t a H).symm, fun c t a H => (F151_eq c t a H).symm, fun c t a H => (F152_eq c t a H).symm, fun c t a H => (F153_eq c t a H).symm, fun c t a H => (F154_eq c t a H).symm, fun c t a H => (F156_eq c t a H).symm, fun c t a H => (F157_eq c t a H).symm, fun c t a H => (F158_eq c t a H).symm, fun c t a H => (F159_eq c t a H).symm, fun c t a H => (F160_eq c t a H).symm, fun c t a H => (F161_eq c t a H).symm, fun c t a H => (F162_eq c t a H).symm, fun c t a H => (F164_eq c t a H).symm, fun c t a H => (F166_eq c t a H).symm, fun c t a H => (F169_eq c t a H).symm, fun c t a H => (F170_eq c t a H).symm, fun c t a H => (F171_eq c t a H).symm, fun c t a H => (F172_eq c t a H).symm, fun c t a H => (F176_eq c t a H).symm, fun c t a H => (F186_eq c t a H).symm, fun c t a H => (F187_eq c t a H).symm, fun c t a H => (F188_eq c t a H).symm, fun c t a H => (F196_eq c t a H).symm, fun c t a H => (F197_eq c t a H).symm, fun c t a H => (F198_eq c t a H).symm, fun c t a H => (F199_eq c t a H).symm, fun c t a H => (F201_eq c t a H).symm, fun c t a H => (F202_eq c t a H).symm, by simp⟩
end
end Go.Proofs.YtgemobbfikjmoaaGreatDoor
