/- The functions' texts for the second evaluator, each with its proof.
   Conditions: none beyond the given statement's own. -/
import Derived.Test.YtgemobbfikjmoaaGreatDoorPaD
import Derived.Test.YtgemobbfikjmoaaGreatDoorProg
import Derived.KernelRfl
set_option linter.unusedVariables false
set_option linter.unusedSimpArgs false
set_option linter.defProp false
namespace Go.Proofs.YtgemobbfikjmoaaGreatDoor
open Go Go.Ev
set_option maxRecDepth 1000000
noncomputable section
noncomputable abbrev P:Program:=Go.Proofs.Tryz.prog
def fuel:Nat:=100000
def keeps:List (List Tmp):=[[],[],[],[],[],[],[],[],[0,1,2,3,4,5,6,7,9,10,12,13,14,15,16,17,18,19,20,22,28,29,30,31,44,51,59,60,61,62,68,138,140,141,142,143,155],[],[],[],[],[],[],[0,1,2,3,4,5,6,7,8,9,10,11,12,13,14,15,16,17,18,19,20,21,22,83,150],[0,1,2,3,4,5,12],[],[0,1,2,3,4,5,12],[],[0,1,4,5,10,14,25],[0,1,2,3,4,5,12],[],[0,1,2,3,4,5,6,13],[],[0,1,2,3,4,5,6,13],[],[0,1,4,5,10,14,25],[0,1,2,3,4,5,6,7,9,16,22,23,24,25,37],[],[0,1,2,3,6,7,8,9,10,12,14,20,24,29,30,31,32,35,47,51,65,66,67,68,77,82],[],[0,1,2,4,5,6,7,8,17,23],[],[0,1,2,3,6,7,8,10,11,12,20,24,41],[],[0,1,2,3],[],[0,1,2,3],[],[0,1,2,3,6,7,9,10,11,12,13,24,25,26],[],[0,1,2,3,6,7],[],[0,1,2,3,6,7],[],[0,1,2,3,4,5,12],[],[0,1,2,3,4,5,12],[],[],[],[0,1,2,4,7],[],[0,1,2,4,5,6,28,29,30,47],[0,1,2,3,4,7],[0,1,2,3,4,9,10,11,17],[0,1,4],[0,1,3],[0,1,4],[0,1,2,3],[0,1,3],[0,1,3,4],[0,1,2,3,4,6,9,10,11,12,28,41],[0,1,4],[0,1,4],[0,1,3],[],[],[0,1,4,5,7,8,9,16],[],[],[],[],[],[],[],[],[0,1,4,5,6,7,8,9,10,11,12,19,28,35],[],[],[],[],[],[],[0,1,4],[],[0],[0],[0],[0],[0,1,2,6],[0,2,3,4,9],[0,2],[0,1,2,3,4,5,6,8,9,10,30,52,53,54,55,58,67,80,81,82,88,96],[0,1,2,3,4,5,6,7,8,9,11,12,13,20,21,22,23,28,31],[],[0,1,2,4,5,6,7,9,14,27,28,29,30,41],[0,1,2,3,6,7,8,9,10,11,13,14,16,24,42,43,44,45,59,66],[0,1,4,5,6,7,12,19,29],[0,2,3,5],[0,1,2,4],[],[],[0,1,4,5,6,7,12,19,29],[0,1,2,3,4,5],[],[],[],[],[],[0,1,2,4,5,6,7,8,9,10,11,12,13,14,21,29,30,31,32,41,58,76,97,104],[0,1,2,4,5,9],[0,1,2,3,4,5,6,7,8,9],[],[],[0,1,2],[0,1,2,3,6,7,8,9,10,11,12,13,15,16,17,18,44,78,79,80,95],[],[0,1,2,4,5,6,7,8,9,10,11,12,18,22,36,37,38,43,44,45,71],[],[0,1,2,3,6,7,8,9,10,11,12,14,23,34,41],[],[],[0,1,2,3,4,8,9,10,11,12,13,14,25,28,29,30],[0,1,4],[],[0,1,4],[0,1,2,3,4,6,7,8,20,21,22,23,47],[],[],[],[0,1,2,3,5,6,7,8],[0,1],[0,1,4,5,7,8,9,16],[0,1,3,4,5,7,8,9,16],[0,2,3,4,5,8,13,25,32,44],[0,1,4,5,7,8,9,16],[0,1,4,5,7,8,9,16],[],[],[],[],[0,2,4],[],[],[],[0,1,4,5,6,11,12,13,16,19],[],[],[0,2],[0,1,2,3,4,10,11,12,13,14,15,16,17,18,19,20,25,32,39,56,75,80,97,125],[0,1,2,23],[0,1,2,3,4,5,7,9,16,17,18,19,26,41],[0,1,2,4],[],[0,2],[0,1,4],[0,1,3],[1,2,3,4,5,6,7,8,14,15,41],[0,1,2,3,6,7,8,9,10,22],[0,1,2,3,4,5,8,9,30,45,61,76],[0,1,2,4],[],[0,1,2,3,4],[],[0,2],[],[],[0,1,2,4,5,7,8,9,10,13,14,15,16,81,105],[0,1,2,6,7,9,12,13,14,15,28],[0,1,3],[0,1,2,4,5,6,7,17,27,34,46],[],[],[0,1,2,3,4,5,6,7,12,14,18,20,32,40,41,42,43,57,82],[0,2],[],[],[],[],[],[],[],[],[],[0,2,4,8],[0,2,4,8,14],[0,1,2,3,8,9,14,34],[],[],[],[],[],[],[],[0,2,4],[0,2,4],[0,1,4,5,7,8,9,16],[0,1,2,5,34],[],[0,2],[0,2],[],[],[],[],[],[],[],[],[],[],[],[],[],[],[],[],[],[],[],[],[],[],[],[],[],[],[],[],[],[],[]]
def trees:List Bool:=[false,false,false,true,true,true,true,true,true,true,true,true,true,true,true,true,true,true,true,true,true,true,true,true,true,true,true,true,true,true,true,true,true,true,true,true,true,true,true,true,true,true,true,true,true,true,true,true,true,true,true,true,true,true,true,true,true,false,false,false,false,false,true,true,true,false,false,true,true,false,false,false,false,true,false,false,false,false,true,true,false,false,false,false,false,false,true,true,true,true,true,true,true,true,true,true,true,true,false,false,true,false,true,true,false,false,true,true,true,true,true,true,true,false,true,false,true,true,true,true,true,false,false,true,true,true,true,true,true,true,true,true,false,false,false,true,false,true,false,false,false,false,false,true,false,true,false,true,false,false,true,false,false,false,true,true,true,false,false,false,true,false,true,true,true,true,true,true,true,true,false,false,true,true,true,false,true,false,false,false,true,false,false,true,false,false,true,true,false,false,false,false,false,false,false,false,true,true,false,false,true,true,true,false,true,false,false,false,false,false,false,false,false,false,false,false,false,false,false,false,false,false,false,false,false,false,false,false,false,false,false,false,false,false]
def thawl:List Bool:=[false,false,false,false,false,false,false,false,false,false,false,false,false,false,false,false,false,false,false,false,false,false,false,false,false,false,false,false,false,false,false,false,false,false,false,false,false,false,false,false,false,false,false,false,false,false,false,false,false,false,false,false,false,false,false,false,false,false,false,false,false,false,false,false,false,false,false,false,false,false,false,false,false,false,false,false,false,false,false,false,false,true,false,true,false,true,false,false,false,false,false,false,false,false,false,false,false,false,false,true,false,false,false,false,true,false,false,false,false,false,false,false,false,false,false,false,false,false,false,false,false,false,false,false,false,false,false,false,false,false,false,false,false,false,false,false,true,false,false,false,false,false,false,false,false,false,false,false,false,true,false,true,false,false,false,false,false,false,false,false,false,false,false,false,false,false,false,false,false,false,false,false,false,false,false,false,false,true,true,true,false,true,true,false,true,true,false,false,true,true,true,false,true,true,true,true,false,false,false,false,false,false,false,true,false,false,false,false,true,false,false,false,false,false,false,false,false,false,false,false,false,false,false,false,false,false,false,false,false,false,false,false,false,false]
def deepl:List Nat:=[55,68,96,107,155]
noncomputable abbrev tab0:List TV:=tabT tb32
noncomputable abbrev tab1:List TV:=tabT tb64
def TC:TC:=⟨fuel,fun f=>(nth keeps f).getD [],fun f=>(nth trees f).getD false,fun f=>(nth thawl f).getD false,twoT,fun f=>anyG (Nat.beq f) deepl⟩
def zc24:List TV:=[(.v (.int .i64 (.ofNat 0))),(.v (.int .i64 (.ofNat 0))),nilT]
def zc71:List TV:=[(.v (.int .i64 (.ofNat 0))),(.v (.int .i64 (.ofNat 0)))]
def Zdb:List TV:=[(.v (.int .i64 (.ofNat 0))),(.v (.int .i64 (.ofNat 0))),(.v (.int .u64 (.ofNat 0))),(.v (.int .u64 (.ofNat 0))),(.v (.int .u64 (.ofNat 0))),(.v (.int .u64 (.ofNat 0))),(.v (.int .u64 (.ofNat 0))),(.v (.int .u64 (.ofNat 0))),(.v (.int .u64 (.ofNat 0))),(.v (.int .u64 (.ofNat 0))),(.v (.int .u64 (.ofNat 0))),(.v (.int .u64 (.ofNat 0))),(.v (.int .u64 (.ofNat 0))),(.v (.int .u64 (.ofNat 0))),(.v (.int .u64 (.ofNat 0))),(.v (.int .u64 (.ofNat 0))),(.v (.int .u64 (.ofNat 0))),(.v (.int .u64 (.ofNat 0))),(.v (.int .u64 (.ofNat 0)))]
def zc158:List TV:=[(.v (.int .i64 (.ofNat 0))),(.v (.int .i64 (.ofNat 0))),(.v (.int .i64 (.ofNat 0))),(.v (.int .i64 (.ofNat 0))),(.v (.int .i64 (.ofNat 0))),(.v (.int .i64 (.ofNat 0))),(.v (.int .i64 (.ofNat 0))),(.v (.int .i64 (.ofNat 0))),(.v (.int .i64 (.ofNat 0))),(.v (.int .i64 (.ofNat 0))),(.v (.int .i64 (.ofNat 0))),(.v (.int .i64 (.ofNat 0))),(.v (.int .i64 (.ofNat 0))),(.v (.int .i64 (.ofNat 0))),(.v (.int .i64 (.ofNat 0))),(.v (.int .i64 (.ofNat 0)))]
def zc111:List TV:=[(.v (.int .i64 (.ofNat 0))),(.v (.int .i64 (.ofNat 0)))]
def zc172:List TV:=[(.v (.int .i64 (.ofNat 0))),(.v (.int .i64 (.ofNat 0))),(.v (.int .i64 (.ofNat 0))),(.v (.int .i64 (.ofNat 0)))]
def zc173:List TV:=[(.v (.int .i64 (.ofNat 0))),(.v (.int .i64 (.ofNat 0))),(.v (.int .i64 (.ofNat 0))),(.v (.int .i64 (.ofNat 0))),(.v (.int .i64 (.ofNat 0))),(.v (.int .i64 (.ofNat 0))),(.v (.int .i64 (.ofNat 0))),(.v (.int .i64 (.ofNat 0)))]
def str0:Value:=(.string ⟨#[0,1,2,2,3,3,3,3,4,4,4,4,4,4,4,4,5,5,5,5,5,5,5,5,5,5,5,5,5,5,5,5,6,6,6,6,6,6,6,6,6,6,6,6,6,6,6,6,6,6,6,6,6,6,6,6,6,6,6,6,6,6,6,6,7,7,7,7,7,7,7,7,7,7,7,7,7,7,7,7,7,7,7,7,7,7,7,7,7,7,7,7,7,7,7,7,7,7,7,7,7,7,7,7,7,7,7,7,7,7,7,7,7,7,7,7,7,7,7,7,7,7,7,7,7,7,7,7,8,8,8,8,8,8,8,8,8,8,8,8,8,8,8,8,8,8,8,8,8,8,8,8,8,8,8,8,8,8,8,8,8,8,8,8,8,8,8,8,8,8,8,8,8,8,8,8,8,8,8,8,8,8,8,8,8,8,8,8,8,8,8,8,8,8,8,8,8,8,8,8,8,8,8,8,8,8,8,8,8,8,8,8,8,8,8,8,8,8,8,8,8,8,8,8,8,8,8,8,8,8,8,8,8,8,8,8,8,8,8,8,8,8,8,8,8,8,8,8,8,8,8,8,8,8,8,8]⟩)
def str1:Value:=(.string ⟨#[0,1,1,2,1,2,2,3,1,2,2,3,2,3,3,4,1,2,2,3,2,3,3,4,2,3,3,4,3,4,4,5,1,2,2,3,2,3,3,4,2,3,3,4,3,4,4,5,2,3,3,4,3,4,4,5,3,4,4,5,4,5,5,6,1,2,2,3,2,3,3,4,2,3,3,4,3,4,4,5,2,3,3,4,3,4,4,5,3,4,4,5,4,5,5,6,2,3,3,4,3,4,4,5,3,4,4,5,4,5,5,6,3,4,4,5,4,5,5,6,4,5,5,6,5,6,6,7,1,2,2,3,2,3,3,4,2,3,3,4,3,4,4,5,2,3,3,4,3,4,4,5,3,4,4,5,4,5,5,6,2,3,3,4,3,4,4,5,3,4,4,5,4,5,5,6,3,4,4,5,4,5,5,6,4,5,5,6,5,6,6,7,2,3,3,4,3,4,4,5,3,4,4,5,4,5,5,6,3,4,4,5,4,5,5,6,4,5,5,6,5,6,6,7,3,4,4,5,4,5,5,6,4,5,5,6,5,6,6,7,4,5,5,6,5,6,6,7,5,6,6,7,6,7,7,8]⟩)
end
end Go.Proofs.YtgemobbfikjmoaaGreatDoor
namespace Go.Proofs.YtgemobbfikjmoaaGreatDoor
open Go Go.Ev
set_option maxRecDepth 1000000
set_option linter.unusedVariables false
noncomputable section
def C8 (call:Zbc) (tlo base:Nat):Zaz (TV×TV×TV×TV×TV×TV×TV×TV×TV×TV×TV×TV×TV×TV×TV×TV×TV×TV×TV×TV×TV×TV×TV×TV×TV×TV×TV×TV×TV×TV×TV×TV×TV×TV×TV×TV×TV×Unit):=
 (Zaj (Zad fun S H k=>
 Zap (stor S.1)<|
 let t1:=(.ptr (Zag H) 0)
 let H0:=(Zaq H (.cells (Zav S.1)))
 k (z0 (hush S.1)<| z1 t1<| z2 (tB false)<| stN 37 S) H0)
 (Zaj (Zad fun S H k=>
 lA tlo base 4 H (g1 S) fun t23 H1=>
 Zaa (Zah call 54 [Zak t23,tN 16] H1) fun t24=>
 let t3:=(.ptr (Zag H1) 0)
 let H2:=(Zaq H1 (.cells zc24))
 Zaa (Zas tlo base 3 H2 t3 t24) fun H3=>
 k (z3 t3<| stN 37 S) H3)
 (Zaj (Zad fun S H k=>
 sA tlo base 3 H (g3 S) fun t25 H4=>
 Zaa (Zah call 55 [Zak t25] H4) fun t26=>
 k (z4 t26<| stN 37 S) H4)
 (Zaj (Zad fun S H k=>
 let t5:=(.ptr (Zag H) 0)
 let H5:=(Zaq H (.cells [nilT]))
 k (z5 t5<| stN 37 S) H5)
 (Zaj (Zad fun S H k=>
 k (z6 (tN 0)<| z7 (tN 0)<| stN 37 S) H)
 (Zaj (Zaj (Zad fun S H k=>
 lA tlo base 3 H (g3 S) fun t27 H6=>
 Zaa (Zah call 56 [Zak t27] H6) fun t28=>
 Zaa (lenT t28) fun t29=>
 k (z20 t28<| z21 t29<| z22 (tN 0)<| stN 37 S) H6)
 (Zbd 0 (Zdn (Zaj (Zad fun S H k=>
 Zaa (b2 Zcj (g22 S) (g21 S)) fun t31=>
 k (z23 t31<| stN 37 S) H)
 (Zaj (Zbb (fun S=>some (g23 S))
 (Zam .normal)
 (Zam (.exit 0)))
 (Zaj (Zbd 1 (Zaj (Zad fun S H k=>
 Zaa (Zbn 1 (g20 S) (g22 S)) fun t32=>
 sF tlo base H t32 fun t33 H7=>
 let t9:=(.ptr (Zag H7) 0)
 let H8:=(Zaq H7 (.cells [tN 0]))
 Zaa (Zas tlo base 1 H8 t9 t33) fun H9=>
 k (z8 t9<| stN 37 S) H9)
 (Zaj (Zaj (Zad fun S H k=>
 lF tlo base H (g8 S) fun t34 H10=>
 Zaa (Zar (g3 S) 0) fun t35=>
 lF tlo base H10 t35 fun t36 H11=>
 Zaa (b2 evRem t34 t36) fun t37=>
 lF tlo base H11 (g8 S) fun t38 H12=>
 Zaa (Zar (g3 S) 0) fun t39=>
 lF tlo base H12 t39 fun t40 H13=>
 Zaa (b2 evQuo t38 t40) fun t41=>
 Zaa (b2 Zbe t37 t41) fun t42=>
 Zaa (b2 evRem t42 (tN 2)) fun t43=>
 Zaa (eqlT .int t43 (tN 0)) fun t44=>
 k (z24 t44<| stN 37 S) H13)
 (Zbb (fun S=>some (g24 S))
 (Zad fun S H k=>
 Zaa (b2 Zbe (Zab (g6 S)) (tN 1)) fun t46=>
 k (z6 t46<| stN 37 S) H)
 (Zad fun S H k=>
 Zaa (b2 Zbe (Zab (g7 S)) (tN 1)) fun t48=>
 k (z7 t48<| stN 37 S) H)))
 (Zaj (Zad fun S H k=>
 Zap (Zbu pass [Zak (g8 S)])<|
 Zbr call tlo 57 [Zak (Zak (g4 S)),.fn (.func 58) [] [Zak (g8 S)]] H fun t51 H14=>
 k (z4 (Zak (g4 S))<| z8 (Zak (g8 S))<| z25 t51<| stN 37 S) H14)
 (Zbb (fun S=>some (g25 S))
 (Zad fun S H k=>
 Zbg .take tlo base false 1 H (g5 S) fun t52 H15=>
 sF tlo base H15 (g8 S) fun t53 H16=>
 Zaa (Zcx 1 [0] [Zak t53] (repG [tN 0] 1)) fun c17=>
 Zcm tlo H16 3 1 8 t52 (.row .full (.own 3) 1 c17) fun t55 H18=>
 Zaa (Zas tlo base 1 H18 (stale (g5 S)) t55) fun H19=>
 k (stN 37 S) H19)
 (Zam .normal))))))
 (Zad fun S H k=>
 Zaa (b2 Zbe (g22 S) (tN 1)) fun t56=>
 k (z22 t56<| stN 37 S) H)))) fuel)))
 (Zaj (Zad fun S H k=>
 k (z9 nilT<| stN 37 S) H)
 (Zaj (Zaj (Zad fun S H k=>
 Zaa (Zbn 1 (Zab (g4 S)) (tN 0)) fun t58=>
 sF tlo base H t58 fun t59 H20=>
 Zaa (lenT t59) fun t60=>
 k (z4 (Zae (g4 S))<| z26 t59<| z27 t60<| z28 (tN 0)<| stN 37 S) H20)
 (Zbd 2 (Zdn (Zaj (Zad fun S H k=>
 Zaa (b2 Zcj (g28 S) (g27 S)) fun t62=>
 k (z29 t62<| stN 37 S) H)
 (Zaj (Zbb (fun S=>some (g29 S))
 (Zam .normal)
 (Zam (.exit 2)))
 (Zaj (Zbd 3 (Zaj (Zad fun S H k=>
 Zaa (Zbn 2 (g26 S) (g28 S)) fun t63=>
 sA tlo base 2 H t63 fun t64 H21=>
 let t12:=(.ptr (Zag H21) 0)
 let H22:=(Zaq H21 (.cells zc71))
 Zaa (Zas tlo base 2 H22 t12 t64) fun H23=>
 k (z10 t12<| stN 37 S) H23)
 (Zaj (Zad fun S H k=>
 Zap (Zbu pass [Zak (g10 S)])<|
 Zbr call tlo 57 [Zak (Zak (g4 S)),.fn (.func 61) [] [Zak (g10 S)]] H fun t67 H24=>
 Zaa (b1 evNot t67) fun t68=>
 k (z4 (Zak (g4 S))<| z10 (Zak (g10 S))<| z30 t68<| stN 37 S) H24)
 (Zbb (fun S=>some (g30 S))
 (Zad fun S H k=>
 sA tlo base 2 H (g10 S) fun t70 H25=>
 Zaa (Zcx 2 [0] [Zak t70] (repG [.agg zc71] 1)) fun c26=>
 Zcm tlo H25 71 2 16 (g9 S) (.row .full (.own 71) 2 c26) fun t72 H27=>
 k (z9 t72<| stN 37 S) H27)
 (Zam .normal)))))
 (Zad fun S H k=>
 Zaa (b2 Zbe (g28 S) (tN 1)) fun t73=>
 k (z28 t73<| stN 37 S) H)))) fuel)))
 (Zaj (Zad fun S H k=>
 lA tlo base 3 H (g3 S) fun t75 H28=>
 Zaa (Zah call 23 [Zak t75] H28) fun t76=>
 Zaf (Zbq (Zab t76) 0) fun c29=>
 Zaf (Zbq (Zba (Zab t76) 0) 1) fun c30=>
 k (z11 c29<| z12 c30<| stN 37 S) H28)
 (Zaj (Zad fun S H k=>
 lA tlo base 3 H (g3 S) fun t80 H31=>
 Zaa (Zah call 25 [Zak t80] H31) fun t81=>
 Zaf (Zbq (Zab t81) 0) fun c32=>
 Zaf (Zbq (Zba (Zab t81) 0) 1) fun c33=>
 k (z13 c32<| z14 c33<| stN 37 S) H31)
 (Zaj (Zad fun S H k=>
 lA tlo base 3 H (g3 S) fun t85 H34=>
 Zaa (Zah call 28 [Zak t85] H34) fun t86=>
 Zaf (Zbq (Zab t86) 0) fun c35=>
 Zaf (Zbq (Zba (Zab t86) 0) 1) fun c36=>
 k (z15 c35<| z16 c36<| stN 37 S) H34)
 (Zaj (Zad fun S H k=>
 lA tlo base 3 H (g3 S) fun t90 H37=>
 Zaa (Zah call 16 [Zak t90] H37) fun t91=>
 Zaf (Zbq (Zab t91) 0) fun c38=>
 Zaf (Zbq (Zba (Zab t91) 0) 1) fun c39=>
 k (z17 c38<| z18 c39<| stN 37 S) H37)
 (Zaj (Zaj (Zad fun S H k=>
 Zaa (neqT .int (Zab (g12 S)) (tN 0)) fun t95=>
 gV t95 false (Zab (g14 S)) H fun t97 H40=>
 gB t95 false (neqT .int t97 (tN 0)) H40 fun t98 H41=>
 Zaa (Zch (Zab t95) (tB true) (Zak t98)) fun t99=>
 gV t99 false (Zab (g16 S)) H41 fun t101 H42=>
 gB t99 false (neqT .int t101 (tN 0)) H42 fun t102 H43=>
 Zaa (Zch (Zab t99) (tB true) (Zak t102)) fun t103=>
 gV t103 false (Zab (g18 S)) H43 fun t105 H44=>
 gB t103 false (neqT .int t105 (tN 0)) H44 fun t106 H45=>
 Zaa (Zch (Zab t103) (tB true) (Zak t106)) fun t107=>
 gV t107 false (Zab (g11 S)) H45 fun t109 H46=>
 Zbk (Zab t107) false (lF tlo base H46 (g5 S) fun g47 H47=>Zbt g47 H47) H46 fun t110 H48=>
 gB t107 false (Zah call 27 [Zak t109,Zak t110] H48) H48 fun t111 H49=>
 gB t107 false (b1 evNot t111) H49 fun t112 H50=>
 Zaa (Zch (Zab t107) (tB true) (Zak t112)) fun t113=>
 gV t113 false (Zab (g13 S)) H50 fun t115 H51=>
 gV t113 false (Zab (g9 S)) H51 fun t116 H52=>
 gB t113 false (Zah call 20 [Zak t115,Zak t116] H52) H52 fun t117 H53=>
 gB t113 false (b1 evNot t117) H53 fun t118 H54=>
 Zaa (Zch (Zab t113) (tB true) (Zak t118)) fun t119=>
 gV t119 false (Zab (g17 S)) H54 fun t121 H55=>
 gV t119 false (Zab (g6 S)) H55 fun t122 H56=>
 gV t119 false (Zab (g7 S)) H56 fun t123 H57=>
 Zbk (Zab t119) false (Zaa (b2 (Zdv false) t122 t123) fun c58=>Zap (isV c58)<| Zbt c58 H57) H57 fun t124 H59=>
 gB t119 false (b2 evGtr t121 t124) H59 fun t125 H60=>
 Zaa (Zch (Zab t119) (tB true) (Zak t125)) fun t126=>
 gV t126 false (Zab (Zae (g11 S))) H60 fun t128 H61=>
 gB t126 false (lenT t128) H61 fun t129 H62=>
 gB t126 false (eqlT .int t129 (tN 0)) H62 fun t130 H63=>
 gV t126 false (Zab (Zae (g17 S))) H63 fun t131 H64=>
 gB t126 false (b2 evMul (tN 2) t131) H64 fun t132 H65=>
 gV t126 false (Zab (Zae (g6 S))) H65 fun t133 H66=>
 gV t126 false (Zab (Zae (g7 S))) H66 fun t134 H67=>
 gB t126 false (b2 Zbe t133 t134) H67 fun t135 H68=>
 gB t126 false (eqlT .int t132 t135) H68 fun t136 H69=>
 gB t126 false (neqT .bool t130 t136) H69 fun t137 H70=>
 Zaa (Zch (Zab t126) (tB true) (Zak t137)) fun t138=>
 k (z6 (Zae (Zae (g6 S)))<| z7 (Zae (Zae (g7 S)))<| z9 (Zae (g9 S))<| z11 (Zae (Zae (g11 S)))<| z12 (Zae (g12 S))<| z13 (Zae (g13 S))<| z14 (Zae (g14 S))<| z16 (Zae (g16 S))<| z17 (Zae (Zae (g17 S)))<| z18 (Zae (g18 S))<| z31 t138<| stN 37 S) H70)
 (Zbb (fun S=>some (g31 S))
 (Zaj (Zad fun S H k=>
 k (z2 (tB false)<| stN 37 S) H)
 (Zam .ret))
 (Zam .normal)))
 (Zaj (Zaj (Zad fun S H k=>
 lA tlo base 3 H (g3 S) fun t139 H71=>
 Zaa (Zah call 63 [Zak t139] H71) fun t140=>
 Zaa (lenT t140) fun t141=>
 k (z32 t140<| z33 t141<| z34 (tN 0)<| stN 37 S) H71)
 (Zbd 4 (Zdn (Zaj (Zad fun S H k=>
 Zaa (b2 Zcj (g34 S) (g33 S)) fun t143=>
 k (z35 t143<| stN 37 S) H)
 (Zaj (Zbb (fun S=>some (g35 S))
 (Zam .normal)
 (Zam (.exit 4)))
 (Zaj (Zbd 5 (Zaj (Zad fun S H k=>
 Zaa (Zbn 2 (g32 S) (g34 S)) fun t144=>
 sA tlo base 2 H t144 fun t145 H72=>
 let t22:=(.ptr (Zag H72) 0)
 let H73:=(Zaq H72 (.cells zc71))
 Zaa (Zas tlo base 2 H73 t22 t145) fun H74=>
 k (z19 t22<| stN 37 S) H74)
 (Zaj (Zad fun S H k=>
 lF tlo base H (g5 S) fun t146 H75=>
 Zaa (Zbj 2 1 (g19 S) (tN 0)) fun t147=>
 lF tlo base H75 t147 fun t148 H76=>
 Zaa (Zah call 64 [Zak t146,Zak t148] H76) fun t149=>
 Zbk (Zab t149) true (lF tlo base H76 (g5 S) fun g77 H77=>Zbt g77 H77) H76 fun t151 H78=>
 gB t149 true (Zbj 2 1 (g19 S) (tN 1)) H78 fun t152 H79=>
 Zbk (Zab t149) true (lF tlo base H79 t152 fun g80 H80=>Zbt g80 H80) H79 fun t153 H81=>
 gB t149 true (Zah call 64 [Zak t151,Zak t153] H81) H81 fun t154 H82=>
 Zaa (Zch (Zab t149) (Zak t154) (tB false)) fun t155=>
 k (z36 t155<| stN 37 S) H82)
 (Zbb (fun S=>some (g36 S))
 (Zaj (Zad fun S H k=>
 k (z2 (tB false)<| stN 37 S) H)
 (Zam .ret))
 (Zam .normal)))))
 (Zad fun S H k=>
 Zaa (b2 Zbe (g34 S) (tN 1)) fun t156=>
 k (z34 t156<| stN 37 S) H)))) fuel)))
 (Zaj (Zad fun S H k=>
 Zap (Zbu pass [Zak (g5 S)])<|
 Zbr call tlo 65 [Zak (Zak (g15 S)),.fn (.func 66) [] [Zak (g5 S)]] H fun t159 H83=>
 Zaa (b1 evNot t159) fun t160=>
 gB t160 true (Zah call 15 [] H83) H83 fun t162 H84=>
 Zaa (Zch (Zab t160) (Zak t162) (tB false)) fun t163=>
 k (z2 t163<| z5 (Zak (g5 S))<| z15 (Zak (g15 S))<| stN 37 S) H84)
 (Zam .ret))))))))))))))))
def F8:FnT:=fun call tlo l H=>Zaa (C8 call tlo (Zag H) (Zal l 0,Zal l 1,Zal l 2,Zal l 3,Zal l 4,Zal l 5,Zal l 6,Zal l 7,Zal l 9,Zal l 10,Zal l 12,Zal l 13,Zal l 14,Zal l 15,Zal l 16,Zal l 17,Zal l 18,Zal l 19,Zal l 20,Zal l 22,Zal l 28,Zal l 29,Zal l 30,Zal l 31,Zal l 44,Zal l 51,Zal l 59,Zal l 60,Zal l 61,Zal l 62,Zal l 68,Zal l 138,Zal l 140,Zal l 141,Zal l 142,Zal l 143,Zal l 155,()) H) fun p=>Zdp p.1 (Zap (Zbu Zbo [p.2.1.2.2.1]) (some (Zdw (Zag H) p.2.1.2.2.1 p.2.2)))
theorem F8_eq:FEq P TC 8 F8:=fun _ _ _ _=>by kernel_rfl
end
end Go.Proofs.YtgemobbfikjmoaaGreatDoor
namespace Go.Proofs.YtgemobbfikjmoaaGreatDoor
open Go Go.Ev
set_option maxRecDepth 1000000
set_option linter.unusedVariables false
end Go.Proofs.YtgemobbfikjmoaaGreatDoor
namespace Go.Proofs.YtgemobbfikjmoaaGreatDoor
open Go Go.Ev
set_option maxRecDepth 1000000
set_option linter.unusedVariables false
end Go.Proofs.YtgemobbfikjmoaaGreatDoor
namespace Go.Proofs.YtgemobbfikjmoaaGreatDoor
open Go Go.Ev
set_option maxRecDepth 1000000
set_option linter.unusedVariables false
noncomputable section
def C15 (call:Zbc) (tlo base:Nat):Zaz (TV×TV×TV×TV×TV×TV×TV×TV×TV×TV×TV×TV×TV×TV×TV×TV×TV×TV×TV×TV×TV×TV×TV×TV×TV×Unit):=
 (Zaj (Zad fun S H k=>
 k (z0 (tB false)<| stN 25 S) H)
 (Zaj (Zad fun S H k=>
 Zaa (Zah call 87 [] H) fun t24=>
 Zaa (Zah call 46 [Zak t24] H) fun t25=>
 Zaf (Zbq (Zab t25) 0) fun c0=>
 Zaf (Zbq (Zba (Zab t25) 0) 1) fun c1=>
 k (z1 c0<| z2 c1<| stN 25 S) H)
 (Zaj (Zad fun S H k=>
 Zaa (Zah call 88 [] H) fun t29=>
 Zaa (Zah call 48 [Zak t29] H) fun t30=>
 Zaf (Zbq (Zab t30) 0) fun c2=>
 Zaf (Zbq (Zba (Zab t30) 0) 1) fun c3=>
 k (z3 c2<| z4 c3<| stN 25 S) H)
 (Zaj (Zad fun S H k=>
 Zaa (Zah call 89 [] H) fun t34=>
 Zaa (Zah call 18 [Zak t34] H) fun t35=>
 Zaf (Zbq (Zab t35) 0) fun c4=>
 Zaf (Zbq (Zba (Zab t35) 0) 1) fun c5=>
 k (z5 c4<| z6 c5<| stN 25 S) H)
 (Zaj (Zad fun S H k=>
 Zaa (Zah call 89 [] H) fun t39=>
 Zaa (Zah call 21 [Zak t39] H) fun t40=>
 Zaf (Zbq (Zab t40) 0) fun c6=>
 Zaf (Zbq (Zba (Zab t40) 0) 1) fun c7=>
 k (z7 c6<| z8 c7<| stN 25 S) H)
 (Zaj (Zad fun S H k=>
 Zaa (Zah call 90 [] H) fun t44=>
 Zaa (Zah call 23 [Zak t44] H) fun t45=>
 Zaf (Zbq (Zab t45) 0) fun c8=>
 Zaf (Zbq (Zba (Zab t45) 0) 1) fun c9=>
 k (z9 c8<| z10 c9<| stN 25 S) H)
 (Zaj (Zad fun S H k=>
 Zaa (Zah call 91 [tN 2,tN 1,nilT] H) fun t49=>
 Zaa (Zah call 25 [Zak t49] H) fun t50=>
 Zaf (Zbq (Zab t50) 0) fun c10=>
 Zaf (Zbq (Zba (Zab t50) 0) 1) fun c11=>
 k (z11 c10<| z12 c11<| stN 25 S) H)
 (Zaj (Zad fun S H k=>
 Zaa (Zah call 89 [] H) fun t54=>
 Zaa (Zah call 28 [Zak t54] H) fun t55=>
 Zaf (Zbq (Zab t55) 0) fun c12=>
 Zaf (Zbq (Zba (Zab t55) 0) 1) fun c13=>
 k (z13 c12<| z14 c13<| stN 25 S) H)
 (Zaj (Zaj (Zad fun S H k=>
 Zaa (neqT .int (Zab (g2 S)) (tN 0)) fun t59=>
 gV t59 false (Zab (g4 S)) H fun t61 H14=>
 gB t59 false (neqT .int t61 (tN 0)) H14 fun t62 H15=>
 Zaa (Zch (Zab t59) (tB true) (Zak t62)) fun t63=>
 gV t63 false (Zab (g6 S)) H15 fun t65 H16=>
 gB t63 false (neqT .int t65 (tN 0)) H16 fun t66 H17=>
 Zaa (Zch (Zab t63) (tB true) (Zak t66)) fun t67=>
 gV t67 false (Zab (g8 S)) H17 fun t69 H18=>
 gB t67 false (neqT .int t69 (tN 0)) H18 fun t70 H19=>
 Zaa (Zch (Zab t67) (tB true) (Zak t70)) fun t71=>
 gV t71 false (Zab (g10 S)) H19 fun t73 H20=>
 gB t71 false (neqT .int t73 (tN 0)) H20 fun t74 H21=>
 Zaa (Zch (Zab t71) (tB true) (Zak t74)) fun t75=>
 gV t75 false (Zab (g12 S)) H21 fun t77 H22=>
 gB t75 false (neqT .int t77 (tN 0)) H22 fun t78 H23=>
 Zaa (Zch (Zab t75) (tB true) (Zak t78)) fun t79=>
 gV t79 false (Zab (g14 S)) H23 fun t81 H24=>
 gB t79 false (neqT .int t81 (tN 0)) H24 fun t82 H25=>
 Zaa (Zch (Zab t79) (tB true) (Zak t82)) fun t83=>
 k (z2 (Zae (g2 S))<| z4 (Zae (g4 S))<| z6 (Zae (g6 S))<| z8 (Zae (g8 S))<| z10 (Zae (g10 S))<| z12 (Zae (g12 S))<| z14 (Zae (g14 S))<| z23 t83<| stN 25 S) H25)
 (Zbb (fun S=>some (g23 S))
 (Zaj (Zad fun S H k=>
 k (z0 (tB false)<| stN 25 S) H)
 (Zam .ret))
 (Zam .normal)))
 (Zaj (Zad fun S H k=>
 Zaa (Zah call 88 [] H) fun t85=>
 Zaa (Zcx 1 [0,1,2,3] [tN 0,tN 1,tN 2,tN 3] (repG [tN 0] 4)) fun c26=>
 Zaa (Zah call 92 [Zak (.row .full (.own 3) 1 c26)] H) fun t87=>
 Zaa (Zah call 32 [Zak t85,Zak t87] H) fun t88=>
 Zaf (Zbq (Zab t88) 0) fun c27=>
 Zaf (Zbq (Zba (Zab t88) 0) 1) fun c28=>
 k (z2 c28<| z15 c27<| stN 25 S) H)
 (Zaj (Zad fun S H k=>
 Zaa (Zah call 88 [] H) fun t92=>
 Zaa (Zcx 1 [0,1,2,3] [tN 0,tN 1,tN 2,tN 3] (repG [tN 0] 4)) fun c29=>
 Zaa (Zah call 92 [Zak (.row .full (.own 3) 1 c29)] H) fun t94=>
 Zaa (Zah call 34 [Zak t92,Zak t94,tN 4] H) fun t95=>
 Zaf (Zbq (Zab t95) 0) fun c30=>
 Zaf (Zbq (Zba (Zab t95) 0) 1) fun c31=>
 k (z4 c31<| z16 c30<| stN 25 S) H)
 (Zaj (Zad fun S H k=>
 Zaa (Zah call 88 [] H) fun t99=>
 Zaa (Zah call 36 [Zak t99] H) fun t100=>
 Zaf (Zbq (Zab t100) 0) fun c32=>
 Zaf (Zbq (Zba (Zab t100) 0) 1) fun c33=>
 k (z6 c33<| z17 c32<| stN 25 S) H)
 (Zaj (Zad fun S H k=>
 Zaa (Zah call 88 [] H) fun t104=>
 Zaa (Zah call 38 [Zak t104] H) fun t105=>
 Zaf (Zbq (Zab t105) 0) fun c34=>
 Zaf (Zbq (Zba (Zab t105) 0) 1) fun c35=>
 k (z8 c35<| z18 c34<| stN 25 S) H)
 (Zaj (Zad fun S H k=>
 Zaa (Zah call 88 [] H) fun t109=>
 Zaa (Zah call 40 [Zak t109,Zak (Zab (g17 S)),Zak (Zab (g18 S))] H) fun t112=>
 Zaf (Zbq (Zab t112) 0) fun c36=>
 Zaf (Zbq (Zba (Zab t112) 0) 1) fun c37=>
 k (z10 c37<| z17 (Zae (g17 S))<| z18 (Zae (g18 S))<| z19 c36<| stN 25 S) H)
 (Zaj (Zad fun S H k=>
 Zaa (Zah call 90 [] H) fun t116=>
 Zaa (Zah call 36 [Zak t116] H) fun t117=>
 Zaf (Zbq (Zab t117) 0) fun c38=>
 Zaf (Zbq (Zba (Zab t117) 0) 1) fun c39=>
 k (z12 c39<| stN 25 S) H)
 (Zaj (Zad fun S H k=>
 Zaa (Zah call 88 [] H) fun t121=>
 Zaa (Zah call 16 [Zak t121] H) fun t122=>
 Zaf (Zbq (Zab t122) 0) fun c40=>
 Zaf (Zbq (Zba (Zab t122) 0) 1) fun c41=>
 k (z14 c41<| z20 c40<| stN 25 S) H)
 (Zaj (Zaj (Zad fun S H k=>
 Zaa (neqT .int (Zab (g2 S)) (tN 0)) fun t126=>
 gV t126 false (Zab (g4 S)) H fun t128 H42=>
 gB t126 false (neqT .int t128 (tN 0)) H42 fun t129 H43=>
 Zaa (Zch (Zab t126) (tB true) (Zak t129)) fun t130=>
 gV t130 false (Zab (g6 S)) H43 fun t132 H44=>
 gB t130 false (neqT .int t132 (tN 0)) H44 fun t133 H45=>
 Zaa (Zch (Zab t130) (tB true) (Zak t133)) fun t134=>
 gV t134 false (Zab (g8 S)) H45 fun t136 H46=>
 gB t134 false (neqT .int t136 (tN 0)) H46 fun t137 H47=>
 Zaa (Zch (Zab t134) (tB true) (Zak t137)) fun t138=>
 gV t138 false (Zab (g10 S)) H47 fun t140 H48=>
 gB t138 false (neqT .int t140 (tN 0)) H48 fun t141 H49=>
 Zaa (Zch (Zab t138) (tB true) (Zak t141)) fun t142=>
 gV t142 false (Zab (g12 S)) H49 fun t144 H50=>
 gB t142 false (neqT .int t144 (tN 12)) H50 fun t145 H51=>
 Zaa (Zch (Zab t142) (tB true) (Zak t145)) fun t146=>
 gV t146 false (Zab (g14 S)) H51 fun t148 H52=>
 gB t146 false (neqT .int t148 (tN 0)) H52 fun t149 H53=>
 Zaa (Zch (Zab t146) (tB true) (Zak t149)) fun t150=>
 k (z2 (Zae (g2 S))<| z4 (Zae (g4 S))<| z6 (Zae (g6 S))<| z8 (Zae (g8 S))<| z10 (Zae (g10 S))<| z12 (Zae (g12 S))<| z14 (Zae (g14 S))<| z24 t150<| stN 25 S) H53)
 (Zbb (fun S=>some (g24 S))
 (Zaj (Zad fun S H k=>
 k (z0 (tB false)<| stN 25 S) H)
 (Zam .ret))
 (Zam .normal)))
 (Zaj (Zad fun S H k=>
 Zaa (Zah call 88 [] H) fun t152=>
 Zaa (Zah call 42 [Zak t152,Zak (Zab (g17 S)),Zak (Zab (g18 S))] H) fun t155=>
 Zaf (Zbq (Zab t155) 0) fun c54=>
 Zaf (Zbq (Zba (Zab t155) 0) 1) fun c55=>
 k (z2 c55<| z17 (Zae (g17 S))<| z18 (Zae (g18 S))<| z21 c54<| stN 25 S) H)
 (Zaj (Zad fun S H k=>
 Zaa (Zah call 88 [] H) fun t159=>
 Zaa (Zah call 44 [Zak t159,Zak (Zab (g17 S)),Zak (Zab (g18 S))] H) fun t162=>
 Zaf (Zbq (Zab t162) 0) fun c56=>
 Zaf (Zbq (Zba (Zab t162) 0) 1) fun c57=>
 k (z4 c57<| z17 (Zae (g17 S))<| z18 (Zae (g18 S))<| z22 c56<| stN 25 S) H)
 (Zaj (Zad fun S H k=>
 Zaa (eqlT .int (Zab (g2 S)) (tN 0)) fun t166=>
 gV t166 true (Zab (g4 S)) H fun t168 H58=>
 gB t166 true (eqlT .int t168 (tN 0)) H58 fun t169 H59=>
 Zaa (Zch (Zab t166) (Zak t169) (tB false)) fun t170=>
 gV t170 true (Zab (g1 S)) H59 fun t172 H60=>
 Zbk (Zab t170) true (Zaa (Zcx 1 [0,1,2] [tN 0,tN 1,tN 2] (repG [tN 0] 3)) fun c61=>Zbt (.row .full (.own 3) 1 c61) H60) H60 fun t173 H62=>
 gB t170 true (Zah call 93 [Zak t173] H62) H62 fun t174 H63=>
 gB t170 true (Zah call 27 [Zak t172,Zak t174] H63) H63 fun t175 H64=>
 Zaa (Zch (Zab t170) (Zak t175) (tB false)) fun t176=>
 gV t176 true (Zak (g3 S)) H64 fun t178 H65=>
 Zaa (Zch (Zab t176) (Zak t178) (tB false)) fun t179=>
 gV t179 true (Zab (g5 S)) H65 fun t181 H66=>
 Zbk (Zab t179) true (Zaa (Zcx 1 [0,1,2,3,4,5,6,7] [tN 0,tN 1,tN 2,tN 5,tN 3,tN 6,tN 7,tN 8] (repG [tN 0] 8)) fun c67=>Zbt (.row .full (.own 3) 1 c67) H66) H66 fun t182 H68=>
 gB t179 true (Zah call 92 [Zak t182] H68) H68 fun t183 H69=>
 gB t179 true (Zah call 20 [Zak t181,Zak t183] H69) H69 fun t184 H70=>
 Zaa (Zch (Zab t179) (Zak t184) (tB false)) fun t185=>
 gV t185 true (Zab (g7 S)) H70 fun t187 H71=>
 gB t185 true (eqlT .int t187 (tN 2)) H71 fun t188 H72=>
 Zaa (Zch (Zab t185) (Zak t188) (tB false)) fun t189=>
 gV t189 true (Zab (g9 S)) H72 fun t191 H73=>
 Zbk (Zab t189) true (Zaa (Zcx 1 [0,1] [tN 0,tN 2] (repG [tN 0] 2)) fun c74=>Zbt (.row .full (.own 3) 1 c74) H73) H73 fun t192 H75=>
 gB t189 true (Zah call 93 [Zak t192] H75) H75 fun t193 H76=>
 gB t189 true (Zah call 27 [Zak t191,Zak t193] H76) H76 fun t194 H77=>
 Zaa (Zch (Zab t189) (Zak t194) (tB false)) fun t195=>
 gV t195 true (Zab (g11 S)) H77 fun t197 H78=>
 Zbk (Zab t195) true (Zaa (Zcx 1 [0,1] [tN 0,tN 1] (repG [tN 0] 2)) fun c79=>Zbt (.row .full (.own 3) 1 c79) H78) H78 fun t198 H80=>
 gB t195 true (Zah call 92 [Zak t198] H80) H80 fun t199 H81=>
 gB t195 true (Zah call 20 [Zak t197,Zak t199] H81) H81 fun t200 H82=>
 Zaa (Zch (Zab t195) (Zak t200) (tB false)) fun t201=>
 gV t201 true (Zab (g13 S)) H82 fun t203 H83=>
 Zbk (Zab t201) true (Zaa (Zcx 1 [0,1,2,3] [tN 0,tN 2,tN 6,tN 8] (repG [tN 0] 4)) fun c84=>Zbt (.row .full (.own 3) 1 c84) H83) H83 fun t204 H85=>
 gB t201 true (Zah call 93 [Zak t204] H85) H85 fun t205 H86=>
 gB t201 true (Zah call 27 [Zak t203,Zak t205] H86) H86 fun t206 H87=>
 Zaa (Zch (Zab t201) (Zak t206) (tB false)) fun t207=>
 gV t207 true (Zab (g15 S)) H87 fun t209 H88=>
 Zbk (Zab t207) true (Zaa (Zcx 1 [0,1,2,3,4,5,6,7,8] [tN 0,tN 1,tN 0,.v (.int .i64 (.negSucc 0)),.v (.int .i64 (.negSucc 1)),.v (.int .i64 (.negSucc 0)),tN 0,tN 1,tN 0] (repG [tN 0] 9)) fun c89=>Zbt (.row .full (.own 3) 1 c89) H88) H88 fun t210 H90=>
 gB t207 true (Zah call 93 [Zak t210] H90) H90 fun t211 H91=>
 gB t207 true (Zah call 27 [Zak t209,Zak t211] H91) H91 fun t212 H92=>
 Zaa (Zch (Zab t207) (Zak t212) (tB false)) fun t213=>
 gV t213 true (Zab (g16 S)) H92 fun t215 H93=>
 Zbk (Zab t213) true (Zaa (Zcx 1 [0,1,2,3] [tN 0,tN 2,tN 1,tN 3] (repG [tN 0] 4)) fun c94=>Zbt (.row .full (.own 3) 1 c94) H93) H93 fun t216 H95=>
 gB t213 true (Zah call 92 [Zak t216] H95) H95 fun t217 H96=>
 gB t213 true (Zah call 20 [Zak t215,Zak t217] H96) H96 fun t218 H97=>
 Zaa (Zch (Zab t213) (Zak t218) (tB false)) fun t219=>
 gV t219 true (Zab (g17 S)) H97 fun t221 H98=>
 Zbk (Zab t219) true (Zaa (Zcx 1 [0,1,2,3] [tN 0,tN 1,tN 2,tN 3] (repG [tN 0] 4)) fun c99=>Zbt (.row .full (.own 3) 1 c99) H98) H98 fun t222 H100=>
 gB t219 true (Zah call 92 [Zak t222] H100) H100 fun t223 H101=>
 gB t219 true (Zah call 20 [Zak t221,Zak t223] H101) H101 fun t224 H102=>
 Zaa (Zch (Zab t219) (Zak t224) (tB false)) fun t225=>
 gV t225 true (Zab (g18 S)) H102 fun t227 H103=>
 gV t225 true (Zab (Zae (g16 S))) H103 fun t228 H104=>
 gB t225 true (Zah call 20 [Zak t227,Zak t228] H104) H104 fun t229 H105=>
 Zaa (Zch (Zab t225) (Zak t229) (tB false)) fun t230=>
 gV t230 true (Zab (g19 S)) H105 fun t232 H106=>
 gB t230 true (eqlT .int t232 (tN 1)) H106 fun t233 H107=>
 Zaa (Zch (Zab t230) (Zak t233) (tB false)) fun t234=>
 gV t234 true (Zab (g20 S)) H107 fun t236 H108=>
 gB t234 true (eqlT .int t236 (tN 2)) H108 fun t237 H109=>
 Zaa (Zch (Zab t234) (Zak t237) (tB false)) fun t238=>
 gV t238 true (Zab (g21 S)) H109 fun t240 H110=>
 gV t238 true (Zab (Zae (g17 S))) H110 fun t241 H111=>
 gB t238 true (Zah call 20 [Zak t240,Zak t241] H111) H111 fun t242 H112=>
 Zaa (Zch (Zab t238) (Zak t242) (tB false)) fun t243=>
 gV t243 true (Zab (g22 S)) H112 fun t245 H113=>
 gV t243 true (Zab (Zae (g18 S))) H113 fun t246 H114=>
 gB t243 true (Zah call 20 [Zak t245,Zak t246] H114) H114 fun t247 H115=>
 Zaa (Zch (Zab t243) (Zak t247) (tB false)) fun t248=>
 gB t248 true (Zah call 88 [] H115) H115 fun t250 H116=>
 gV t248 true (Zab (Zae (Zae (g17 S)))) H116 fun t251 H117=>
 gB t248 true (Zah call 52 [Zak t250,Zak t251] H117) H117 fun t252 H118=>
 gB t248 true (eqlT .int t252 (tN 0)) H118 fun t253 H119=>
 Zaa (Zch (Zab t248) (Zak t253) (tB false)) fun t254=>
 gB t254 true (Zah call 90 [] H119) H119 fun t256 H120=>
 Zbk (Zab t254) true (Zaa (Zcx 1 [0] [tN 1] (repG [tN 0] 1)) fun c121=>Zbt (.row .full (.own 3) 1 c121) H120) H120 fun t257 H122=>
 gB t254 true (Zah call 93 [Zak t257] H122) H122 fun t258 H123=>
 gB t254 true (Zah call 30 [Zak t256,tN 1,Zak t258] H123) H123 fun t259 H124=>
 gB t254 true (eqlT .int t259 (tN 0)) H124 fun t260 H125=>
 Zaa (Zch (Zab t254) (Zak t260) (tB false)) fun t261=>
 gB t261 true (Zah call 90 [] H125) H125 fun t263 H126=>
 Zbk (Zab t261) true (Zaa (Zcx 1 [0] [tN 1] (repG [tN 0] 1)) fun c127=>Zbt (.row .full (.own 3) 1 c127) H126) H126 fun t264 H128=>
 gB t261 true (Zah call 93 [Zak t264] H128) H128 fun t265 H129=>
 gB t261 true (Zah call 30 [Zak t263,tN 0,Zak t265] H129) H129 fun t266 H130=>
 gB t261 true (eqlT .int t266 (tN 14)) H130 fun t267 H131=>
 Zaa (Zch (Zab t261) (Zak t267) (tB false)) fun t268=>
 k (z0 t268<| z1 (Zae (g1 S))<| z2 (Zae (g2 S))<| z3 (Zak (g3 S))<| z4 (Zae (g4 S))<| z5 (Zae (g5 S))<| z7 (Zae (g7 S))<| z9 (Zae (g9 S))<| z11 (Zae (g11 S))<| z13 (Zae (g13 S))<| z15 (Zae (g15 S))<| z16 (Zae (Zae (g16 S)))<| z17 (Zae (Zae (Zae (g17 S))))<| z18 (Zae (Zae (g18 S)))<| z19 (Zae (g19 S))<| z20 (Zae (g20 S))<| z21 (Zae (g21 S))<| z22 (Zae (g22 S))<| stN 25 S) H131)
 (Zam .ret)))))))))))))))))))))
def F15:FnT:=fun call tlo l H=>Zaa (C15 call tlo (Zag H) (Zal l 0,Zal l 1,Zal l 2,Zal l 3,Zal l 4,Zal l 5,Zal l 6,Zal l 7,Zal l 8,Zal l 9,Zal l 10,Zal l 11,Zal l 12,Zal l 13,Zal l 14,Zal l 15,Zal l 16,Zal l 17,Zal l 18,Zal l 19,Zal l 20,Zal l 21,Zal l 22,Zal l 83,Zal l 150,()) H) fun p=>Zdp p.1 (Zap (Zbu Zbo [p.2.1.1]) (some (Zdw (Zag H) p.2.1.1 p.2.2)))
theorem F15_eq:FEq P TC 15 F15:=fun _ _ _ _=>by kernel_rfl
def C16 (call:Zbc) (tlo base:Nat):Zaz (TV×TV×TV×TV×TV×TV×TV×Unit):=
 (Zaj (Zad fun S H k=>
 Zap (stor S.1)<|
 let t1:=(.ptr (Zag H) 0)
 let H0:=(Zaq H (.cells (Zav S.1)))
 k (z0 (hush S.1)<| z1 t1<| z2 (tN 0)<| z3 (tN 0)<| stN 7 S) H0)
 (Zaj (Zad fun S H k=>
 lA tlo base 3 H (g1 S) fun t7 H1=>
 Zaa (Zah call 94 [Zak t7] H1) fun t8=>
 Zaf (Zbq (Zab t8) 0) fun c2=>
 Zaf (Zbq (Zba (Zab t8) 0) 1) fun c3=>
 let t4:=(.ptr (Zag H1) 0)
 let H4:=(Zaq H1 (.cells Zdb))
 Zaa (Zas tlo base 19 H4 t4 c2) fun H5=>
 k (z4 t4<| z5 c3<| stN 7 S) H5)
 (Zaj (Zaj (Zad fun S H k=>
 Zaa (neqT .int (Zab (g5 S)) (tN 0)) fun t12=>
 k (z5 (Zae (g5 S))<| z6 t12<| stN 7 S) H)
 (Zbb (fun S=>some (g6 S))
 (Zaj (Zad fun S H k=>
 k (z2 (tN 0)<| z3 (g5 S)<| z5 (hush (g5 S))<| stN 7 S) H)
 (Zam .ret))
 (Zam .normal)))
 (Zaj (Zad fun S H k=>
 lA tlo base 19 H (g4 S) fun t14 H6=>
 Zaa (Zar (g4 S) 2) fun t15=>
 lF tlo base H6 t15 fun t16 H7=>
 Zaa (Zah call 95 [Zak t14,Zak t16] H7) fun t17=>
 k (z2 t17<| z3 (tN 0)<| stN 7 S) H7)
 (Zam .ret)))))
def F16:FnT:=fun call tlo l H=>Zaa (C16 call tlo (Zag H) (Zal l 0,Zal l 1,Zal l 2,Zal l 3,Zal l 4,Zal l 5,Zal l 12,()) H) fun p=>Zdp p.1 (Zap (Zbu Zbo [p.2.1.2.2.1,p.2.1.2.2.2.1]) (some (Zdw (Zag H) (.tup [p.2.1.2.2.1,p.2.1.2.2.2.1]) p.2.2)))
theorem F16_eq:FEq P TC 16 F16:=fun _ _ _ _=>by kernel_rfl
def C18 (call:Zbc) (tlo base:Nat):Zaz (TV×TV×TV×TV×TV×TV×TV×Unit):=
 (Zaj (Zad fun S H k=>
 Zap (stor S.1)<|
 let t1:=(.ptr (Zag H) 0)
 let H0:=(Zaq H (.cells (Zav S.1)))
 k (z0 (hush S.1)<| z1 t1<| z2 nilT<| z3 (tN 0)<| stN 7 S) H0)
 (Zaj (Zad fun S H k=>
 lA tlo base 3 H (g1 S) fun t7 H1=>
 Zaa (Zah call 94 [Zak t7] H1) fun t8=>
 Zaf (Zbq (Zab t8) 0) fun c2=>
 Zaf (Zbq (Zba (Zab t8) 0) 1) fun c3=>
 let t4:=(.ptr (Zag H1) 0)
 let H4:=(Zaq H1 (.cells Zdb))
 Zaa (Zas tlo base 19 H4 t4 c2) fun H5=>
 k (z4 t4<| z5 c3<| stN 7 S) H5)
 (Zaj (Zaj (Zad fun S H k=>
 Zaa (neqT .int (Zab (g5 S)) (tN 0)) fun t12=>
 k (z5 (Zae (g5 S))<| z6 t12<| stN 7 S) H)
 (Zbb (fun S=>some (g6 S))
 (Zaj (Zad fun S H k=>
 k (z2 nilT<| z3 (g5 S)<| z5 (hush (g5 S))<| stN 7 S) H)
 (Zam .ret))
 (Zam .normal)))
 (Zaj (Zad fun S H k=>
 lA tlo base 19 H (g4 S) fun t14 H6=>
 Zaa (Zar (g4 S) 2) fun t15=>
 lF tlo base H6 t15 fun t16 H7=>
 Zaa (Zah call 97 [Zak t14,Zak t16] H7) fun t17=>
 k (z2 t17<| z3 (tN 0)<| stN 7 S) H7)
 (Zam .ret)))))
def F18:FnT:=fun call tlo l H=>Zaa (C18 call tlo (Zag H) (Zal l 0,Zal l 1,Zal l 2,Zal l 3,Zal l 4,Zal l 5,Zal l 12,()) H) fun p=>Zdp p.1 (Zap (Zbu Zbo [p.2.1.2.2.1,p.2.1.2.2.2.1]) (some (Zdw (Zag H) (.tup [p.2.1.2.2.1,p.2.1.2.2.2.1]) p.2.2)))
theorem F18_eq:FEq P TC 18 F18:=fun _ _ _ _=>by kernel_rfl
def C20 (call:Zbc) (tlo base:Nat):Zaz (TV×TV×TV×TV×TV×TV×TV×Unit):=
 (Zaj (Zad fun S H k=>
 k (z2 (tB false)<| stN 7 S) H)
 (Zaj (Zaj (Zad fun S H k=>
 Zaa (lenT (Zab S.1)) fun t7=>
 Zaa (lenT (Zab (g1 S))) fun t9=>
 Zaa (neqT .int t7 t9) fun t10=>
 k (z0 (Zae S.1)<| z1 (Zae (g1 S))<| z4 t10<| stN 7 S) H)
 (Zbb (fun S=>some (g4 S))
 (Zaj (Zad fun S H k=>
 k (z2 (tB false)<| stN 7 S) H)
 (Zam .ret))
 (Zam .normal)))
 (Zaj (Zaj (Zad fun S H k=>
 k (z3 (tN 0)<| stN 7 S) H)
 (Zbd 0 (Zdn (Zaj (Zaj (Zad fun S H k=>
 Zaa (lenT (Zab S.1)) fun t13=>
 Zaa (b2 Zcj (Zab (g3 S)) t13) fun t14=>
 k (z0 (Zae S.1)<| z3 (Zae (g3 S))<| z5 t14<| stN 7 S) H)
 (Zbb (fun S=>some (g5 S))
 (Zam .normal)
 (Zam (.exit 0))))
 (Zaj (Zbd 1 (Zaj (Zad fun S H k=>
 Zaa (Zbn 2 (Zab S.1) (Zab (g3 S))) fun t19=>
 lA tlo base 2 H t19 fun t20 H0=>
 Zaa (Zbn 2 (Zab (g1 S)) (Zab (Zae (g3 S)))) fun t23=>
 lA tlo base 2 H0 t23 fun t24 H1=>
 Zaa (neqT (.ints 2) t20 t24) fun t25=>
 k (z0 (Zae S.1)<| z1 (Zae (g1 S))<| z3 (Zae (Zae (g3 S)))<| z6 t25<| stN 7 S) H1)
 (Zbb (fun S=>some (g6 S))
 (Zaj (Zad fun S H k=>
 k (z2 (tB false)<| stN 7 S) H)
 (Zam .ret))
 (Zam .normal))))
 (Zad fun S H k=>
 Zaa (b2 Zbe (Zab (g3 S)) (tN 1)) fun t16=>
 k (z3 t16<| stN 7 S) H))) fuel)))
 (Zaj (Zad fun S H k=>
 k (z2 (tB true)<| stN 7 S) H)
 (Zam .ret)))))
def F20:FnT:=fun call tlo l H=>Zaa (C20 call tlo (Zag H) (Zal l 0,Zal l 1,Zal l 4,Zal l 5,Zal l 10,Zal l 14,Zal l 25,()) H) fun p=>Zdp p.1 (Zap (Zbu Zbo [p.2.1.2.2.1]) (some (Zdw (Zag H) p.2.1.2.2.1 p.2.2)))
theorem F20_eq:FEq P TC 20 F20:=fun _ _ _ _=>by kernel_rfl
def C21 (call:Zbc) (tlo base:Nat):Zaz (TV×TV×TV×TV×TV×TV×TV×Unit):=
 (Zaj (Zad fun S H k=>
 Zap (stor S.1)<|
 let t1:=(.ptr (Zag H) 0)
 let H0:=(Zaq H (.cells (Zav S.1)))
 k (z0 (hush S.1)<| z1 t1<| z2 (tN 0)<| z3 (tN 0)<| stN 7 S) H0)
 (Zaj (Zad fun S H k=>
 lA tlo base 3 H (g1 S) fun t7 H1=>
 Zaa (Zah call 94 [Zak t7] H1) fun t8=>
 Zaf (Zbq (Zab t8) 0) fun c2=>
 Zaf (Zbq (Zba (Zab t8) 0) 1) fun c3=>
 let t4:=(.ptr (Zag H1) 0)
 let H4:=(Zaq H1 (.cells Zdb))
 Zaa (Zas tlo base 19 H4 t4 c2) fun H5=>
 k (z4 t4<| z5 c3<| stN 7 S) H5)
 (Zaj (Zaj (Zad fun S H k=>
 Zaa (neqT .int (Zab (g5 S)) (tN 0)) fun t12=>
 k (z5 (Zae (g5 S))<| z6 t12<| stN 7 S) H)
 (Zbb (fun S=>some (g6 S))
 (Zaj (Zad fun S H k=>
 k (z2 (tN 0)<| z3 (g5 S)<| z5 (hush (g5 S))<| stN 7 S) H)
 (Zam .ret))
 (Zam .normal)))
 (Zaj (Zad fun S H k=>
 sA tlo base 19 H (g4 S) fun t14 H6=>
 Zaa (Zar (g4 S) 2) fun t15=>
 sF tlo base H6 t15 fun t16 H7=>
 let t17:=(.map (Zag H7))
 let H8:=(Zaq H7 (.map []))
 Zbr call tlo 98 [Zak t14,Zak t16,Zak t17] H8 fun t18 H9=>
 Zaa (partT false 1 (Zak t18) 1) fun t19=>
 k (z2 t19<| z3 (tN 0)<| stN 7 S) H9)
 (Zam .ret)))))
def F21:FnT:=fun call tlo l H=>Zaa (C21 call tlo (Zag H) (Zal l 0,Zal l 1,Zal l 2,Zal l 3,Zal l 4,Zal l 5,Zal l 12,()) H) fun p=>Zdp p.1 (Zap (Zbu Zbo [p.2.1.2.2.1,p.2.1.2.2.2.1]) (some (Zdw (Zag H) (.tup [p.2.1.2.2.1,p.2.1.2.2.2.1]) p.2.2)))
theorem F21_eq:FEq P TC 21 F21:=fun _ _ _ _=>by kernel_rfl
def C23 (call:Zbc) (tlo base:Nat):Zaz (TV×TV×TV×TV×TV×TV×TV×TV×Unit):=
 (Zaj (Zad fun S H k=>
 Zap (stor S.1)<|
 let t1:=(.ptr (Zag H) 0)
 let H0:=(Zaq H (.cells (Zav S.1)))
 k (z0 (hush S.1)<| z1 t1<| z2 nilT<| z3 (tN 0)<| stN 8 S) H0)
 (Zaj (Zad fun S H k=>
 lA tlo base 3 H (g1 S) fun t8 H1=>
 Zaa (Zah call 94 [Zak t8] H1) fun t9=>
 Zaf (Zbq (Zab t9) 0) fun c2=>
 Zaf (Zbq (Zba (Zab t9) 0) 1) fun c3=>
 let t4:=(.ptr (Zag H1) 0)
 let H4:=(Zaq H1 (.cells Zdb))
 Zaa (Zas tlo base 19 H4 t4 c2) fun H5=>
 k (z4 t4<| z5 c3<| stN 8 S) H5)
 (Zaj (Zaj (Zad fun S H k=>
 Zaa (neqT .int (Zab (g5 S)) (tN 0)) fun t13=>
 k (z5 (Zae (g5 S))<| z7 t13<| stN 8 S) H)
 (Zbb (fun S=>some (g7 S))
 (Zaj (Zad fun S H k=>
 k (z2 nilT<| z3 (g5 S)<| z5 (hush (g5 S))<| stN 8 S) H)
 (Zam .ret))
 (Zam .normal)))
 (Zaj (Zad fun S H k=>
 lA tlo base 19 H (g4 S) fun t15 H6=>
 Zaa (Zar (g4 S) 2) fun t16=>
 lF tlo base H6 t16 fun t17 H7=>
 Zaa (Zah call 95 [Zak t15,Zak t17] H7) fun t18=>
 let t6:=(.ptr (Zag H7) 0)
 let H8:=(Zaq H7 (.cells [tN 0]))
 Zaa (Zas tlo base 1 H8 t6 t18) fun H9=>
 k (z6 t6<| stN 8 S) H9)
 (Zaj (Zad fun S H k=>
 Zaa (Zar (g4 S) 2) fun t19=>
 lF tlo base H t19 fun t20 H10=>
 Zaa (Zah call 100 [Zak t20] H10) fun t21=>
 Zap (Zbu pass [Zak (g4 S),Zak (g6 S)])<|
 Zdf 1 false t21 H10 fun c11 H11=>
 Zbr call tlo 99 [c11,.fn (.func 101) [] [Zak (g4 S),Zak (g6 S)]] H11 fun t23 H12=>
 k (z2 t23<| z3 (tN 0)<| z4 (Zak (g4 S))<| z6 (Zak (g6 S))<| stN 8 S) H12)
 (Zam .ret))))))
def F23:FnT:=fun call tlo l H=>Zaa (C23 call tlo (Zag H) (Zal l 0,Zal l 1,Zal l 2,Zal l 3,Zal l 4,Zal l 5,Zal l 6,Zal l 13,()) H) fun p=>Zdp p.1 (Zap (Zbu Zbo [p.2.1.2.2.1,p.2.1.2.2.2.1]) (some (Zdw (Zag H) (.tup [p.2.1.2.2.1,p.2.1.2.2.2.1]) p.2.2)))
theorem F23_eq:FEq P TC 23 F23:=fun _ _ _ _=>by kernel_rfl
def C25 (call:Zbc) (tlo base:Nat):Zaz (TV×TV×TV×TV×TV×TV×TV×TV×Unit):=
 (Zaj (Zad fun S H k=>
 Zap (stor S.1)<|
 let t1:=(.ptr (Zag H) 0)
 let H0:=(Zaq H (.cells (Zav S.1)))
 k (z0 (hush S.1)<| z1 t1<| z2 nilT<| z3 (tN 0)<| stN 8 S) H0)
 (Zaj (Zad fun S H k=>
 lA tlo base 3 H (g1 S) fun t8 H1=>
 Zaa (Zah call 94 [Zak t8] H1) fun t9=>
 Zaf (Zbq (Zab t9) 0) fun c2=>
 Zaf (Zbq (Zba (Zab t9) 0) 1) fun c3=>
 let t4:=(.ptr (Zag H1) 0)
 let H4:=(Zaq H1 (.cells Zdb))
 Zaa (Zas tlo base 19 H4 t4 c2) fun H5=>
 k (z4 t4<| z5 c3<| stN 8 S) H5)
 (Zaj (Zaj (Zad fun S H k=>
 Zaa (neqT .int (Zab (g5 S)) (tN 0)) fun t13=>
 k (z5 (Zae (g5 S))<| z7 t13<| stN 8 S) H)
 (Zbb (fun S=>some (g7 S))
 (Zaj (Zad fun S H k=>
 k (z2 nilT<| z3 (g5 S)<| z5 (hush (g5 S))<| stN 8 S) H)
 (Zam .ret))
 (Zam .normal)))
 (Zaj (Zad fun S H k=>
 lA tlo base 19 H (g4 S) fun t15 H6=>
 Zaa (Zar (g4 S) 2) fun t16=>
 lF tlo base H6 t16 fun t17 H7=>
 Zaa (Zah call 95 [Zak t15,Zak t17] H7) fun t18=>
 let t6:=(.ptr (Zag H7) 0)
 let H8:=(Zaq H7 (.cells [tN 0]))
 Zaa (Zas tlo base 1 H8 t6 t18) fun H9=>
 k (z6 t6<| stN 8 S) H9)
 (Zaj (Zad fun S H k=>
 lA tlo base 19 H (g4 S) fun t19 H10=>
 Zaa (Zar (g4 S) 2) fun t20=>
 lF tlo base H10 t20 fun t21 H11=>
 Zaa (Zah call 97 [Zak t19,Zak t21] H11) fun t22=>
 Zap (Zbu pass [Zak (g4 S),Zak (g6 S)])<|
 Zdf 2 true t22 H11 fun c12 H12=>
 Zbr call tlo 104 [c12,.fn (.func 105) [] [Zak (g4 S),Zak (g6 S)]] H12 fun t24 H13=>
 k (z2 t24<| z3 (tN 0)<| z4 (Zak (g4 S))<| z6 (Zak (g6 S))<| stN 8 S) H13)
 (Zam .ret))))))
def F25:FnT:=fun call tlo l H=>Zaa (C25 call tlo (Zag H) (Zal l 0,Zal l 1,Zal l 2,Zal l 3,Zal l 4,Zal l 5,Zal l 6,Zal l 13,()) H) fun p=>Zdp p.1 (Zap (Zbu Zbo [p.2.1.2.2.1,p.2.1.2.2.2.1]) (some (Zdw (Zag H) (.tup [p.2.1.2.2.1,p.2.1.2.2.2.1]) p.2.2)))
theorem F25_eq:FEq P TC 25 F25:=fun _ _ _ _=>by kernel_rfl
end
end Go.Proofs.YtgemobbfikjmoaaGreatDoor
namespace Go.Proofs.YtgemobbfikjmoaaGreatDoor
open Go Go.Ev
set_option maxRecDepth 1000000
set_option linter.unusedVariables false
noncomputable section
def C27 (call:Zbc) (tlo base:Nat):Zaz (TV×TV×TV×TV×TV×TV×TV×Unit):=
 (Zaj (Zad fun S H k=>
 k (z2 (tB false)<| stN 7 S) H)
 (Zaj (Zaj (Zad fun S H k=>
 Zaa (lenT (Zab S.1)) fun t7=>
 Zaa (lenT (Zab (g1 S))) fun t9=>
 Zaa (neqT .int t7 t9) fun t10=>
 k (z0 (Zae S.1)<| z1 (Zae (g1 S))<| z4 t10<| stN 7 S) H)
 (Zbb (fun S=>some (g4 S))
 (Zaj (Zad fun S H k=>
 k (z2 (tB false)<| stN 7 S) H)
 (Zam .ret))
 (Zam .normal)))
 (Zaj (Zaj (Zad fun S H k=>
 k (z3 (tN 0)<| stN 7 S) H)
 (Zbd 0 (Zdn (Zaj (Zaj (Zad fun S H k=>
 Zaa (lenT (Zab S.1)) fun t13=>
 Zaa (b2 Zcj (Zab (g3 S)) t13) fun t14=>
 k (z0 (Zae S.1)<| z3 (Zae (g3 S))<| z5 t14<| stN 7 S) H)
 (Zbb (fun S=>some (g5 S))
 (Zam .normal)
 (Zam (.exit 0))))
 (Zaj (Zbd 1 (Zaj (Zad fun S H k=>
 Zaa (Zbn 1 (Zab S.1) (Zab (g3 S))) fun t19=>
 lF tlo base H t19 fun t20 H0=>
 Zaa (Zbn 1 (Zab (g1 S)) (Zab (Zae (g3 S)))) fun t23=>
 lF tlo base H0 t23 fun t24 H1=>
 Zaa (neqT .int t20 t24) fun t25=>
 k (z0 (Zae S.1)<| z1 (Zae (g1 S))<| z3 (Zae (Zae (g3 S)))<| z6 t25<| stN 7 S) H1)
 (Zbb (fun S=>some (g6 S))
 (Zaj (Zad fun S H k=>
 k (z2 (tB false)<| stN 7 S) H)
 (Zam .ret))
 (Zam .normal))))
 (Zad fun S H k=>
 Zaa (b2 Zbe (Zab (g3 S)) (tN 1)) fun t16=>
 k (z3 t16<| stN 7 S) H))) fuel)))
 (Zaj (Zad fun S H k=>
 k (z2 (tB true)<| stN 7 S) H)
 (Zam .ret)))))
def F27:FnT:=fun call tlo l H=>Zaa (C27 call tlo (Zag H) (Zal l 0,Zal l 1,Zal l 4,Zal l 5,Zal l 10,Zal l 14,Zal l 25,()) H) fun p=>Zdp p.1 (Zap (Zbu Zbo [p.2.1.2.2.1]) (some (Zdw (Zag H) p.2.1.2.2.1 p.2.2)))
theorem F27_eq:FEq P TC 27 F27:=fun _ _ _ _=>by kernel_rfl
def C28 (call:Zbc) (tlo base:Nat):Zaz (TV×TV×TV×TV×TV×TV×TV×TV×TV×TV×TV×TV×TV×TV×TV×Unit):=
 (Zaj (Zad fun S H k=>
 Zap (stor S.1)<|
 let t1:=(.ptr (Zag H) 0)
 let H0:=(Zaq H (.cells (Zav S.1)))
 k (z0 (hush S.1)<| z1 t1<| z2 nilT<| z3 (tN 0)<| stN 15 S) H0)
 (Zaj (Zad fun S H k=>
 lA tlo base 3 H (g1 S) fun t11 H1=>
 Zaa (Zah call 94 [Zak t11] H1) fun t12=>
 Zaf (Zbq (Zab t12) 0) fun c2=>
 Zaf (Zbq (Zba (Zab t12) 0) 1) fun c3=>
 let t4:=(.ptr (Zag H1) 0)
 let H4:=(Zaq H1 (.cells Zdb))
 Zaa (Zas tlo base 19 H4 t4 c2) fun H5=>
 k (z4 t4<| z5 c3<| stN 15 S) H5)
 (Zaj (Zaj (Zad fun S H k=>
 Zaa (neqT .int (Zab (g5 S)) (tN 0)) fun t16=>
 k (z5 (Zae (g5 S))<| z9 t16<| stN 15 S) H)
 (Zbb (fun S=>some (g9 S))
 (Zaj (Zad fun S H k=>
 k (z2 nilT<| z3 (g5 S)<| z5 (hush (g5 S))<| stN 15 S) H)
 (Zam .ret))
 (Zam .normal)))
 (Zaj (Zad fun S H k=>
 k (z6 nilT<| stN 15 S) H)
 (Zaj (Zad fun S H k=>
 Zaa (Zar (g4 S) 2) fun t18=>
 sF tlo base H t18 fun t19 H6=>
 k (z7 t19<| stN 15 S) H6)
 (Zaj (Zaj (Zad fun S H k=>
 Zaa (Zar (g4 S) 2) fun t20=>
 lF tlo base H t20 fun t21 H7=>
 Zaa (Zah call 100 [Zak t21] H7) fun t22=>
 Zaa (lenT t22) fun t23=>
 k (z10 t22<| z11 t23<| z12 (tN 0)<| stN 15 S) H7)
 (Zbd 0 (Zdn (Zaj (Zad fun S H k=>
 Zaa (b2 Zcj (g12 S) (g11 S)) fun t25=>
 k (z13 t25<| stN 15 S) H)
 (Zaj (Zbb (fun S=>some (g13 S))
 (Zam .normal)
 (Zam (.exit 0)))
 (Zaj (Zbd 1 (Zaj (Zad fun S H k=>
 Zaa (Zbn 1 (g10 S) (g12 S)) fun t26=>
 sF tlo base H t26 fun t27 H8=>
 k (z8 t27<| stN 15 S) H8)
 (Zaj (Zad fun S H k=>
 lA tlo base 19 H (g4 S) fun t28 H9=>
 Zaa (b2 evShl (.v (.int .u64 (.ofNat 1))) (Zab (g8 S))) fun t31=>
 Zaa (b2 Zdd (Zab (g7 S)) t31) fun t32=>
 Zaa (Zah call 95 [Zak t28,Zak t32] H9) fun t33=>
 lA tlo base 19 H9 (g4 S) fun t34 H10=>
 Zaa (Zah call 95 [Zak t34,Zak (Zab (Zae (g7 S)))] H10) fun t36=>
 Zaa (b2 Zcj t33 t36) fun t37=>
 k (z7 (Zae (Zae (g7 S)))<| z8 (Zae (g8 S))<| z14 t37<| stN 15 S) H10)
 (Zbb (fun S=>some (g14 S))
 (Zaj (Zad fun S H k=>
 Zaa (b2 evShl (.v (.int .u64 (.ofNat 1))) (Zab (g8 S))) fun t40=>
 Zaa (b2 Zdd (Zab (g7 S)) t40) fun t41=>
 k (z7 t41<| z8 (Zae (g8 S))<| stN 15 S) H)
 (Zad fun S H k=>
 Zaa (Zcx 1 [0] [Zak (Zak (g8 S))] (repG [tN 0] 1)) fun c11=>
 Zcm tlo H 3 1 8 (g6 S) (.row .full (.own 3) 1 c11) fun t45 H12=>
 k (z6 t45<| z8 (Zak (g8 S))<| stN 15 S) H12))
 (Zam .normal)))))
 (Zad fun S H k=>
 Zaa (b2 Zbe (g12 S) (tN 1)) fun t46=>
 k (z12 t46<| stN 15 S) H)))) fuel)))
 (Zaj (Zad fun S H k=>
 k (z2 (g6 S)<| z3 (tN 0)<| z6 (hush (g6 S))<| stN 15 S) H)
 (Zam .ret))))))))
def F28:FnT:=fun call tlo l H=>Zaa (C28 call tlo (Zag H) (Zal l 0,Zal l 1,Zal l 2,Zal l 3,Zal l 4,Zal l 5,Zal l 6,Zal l 7,Zal l 9,Zal l 16,Zal l 22,Zal l 23,Zal l 24,Zal l 25,Zal l 37,()) H) fun p=>Zdp p.1 (Zap (Zbu Zbo [p.2.1.2.2.1,p.2.1.2.2.2.1]) (some (Zdw (Zag H) (.tup [p.2.1.2.2.1,p.2.1.2.2.2.1]) p.2.2)))
theorem F28_eq:FEq P TC 28 F28:=fun _ _ _ _=>by kernel_rfl
def C30 (call:Zbc) (tlo base:Nat):Zaz (TV×TV×TV×TV×TV×TV×TV×TV×TV×TV×TV×TV×TV×TV×TV×TV×TV×TV×TV×TV×TV×TV×TV×TV×TV×TV×Unit):=
 (Zaj (Zad fun S H k=>
 Zap (stor S.1)<|
 let t3:=(.ptr (Zag H) 0)
 let H0:=(Zaq H (.cells (Zav S.1)))
 k (z0 (hush S.1)<| z3 t3<| z4 (tN 0)<| stN 26 S) H0)
 (Zaj (Zad fun S H k=>
 lA tlo base 3 H (g3 S) fun t16 H1=>
 Zaa (Zah call 94 [Zak t16] H1) fun t17=>
 Zaf (Zbq (Zab t17) 0) fun c2=>
 Zaf (Zbq (Zba (Zab t17) 0) 1) fun c3=>
 let t7:=(.ptr (Zag H1) 0)
 let H4:=(Zaq H1 (.cells Zdb))
 Zaa (Zas tlo base 19 H4 t7 c2) fun H5=>
 k (z5 t7<| z6 c3<| stN 26 S) H5)
 (Zaj (Zbd 0 (Zaj (Zad fun S H k=>
 Zaa (neqT .int (Zab (g6 S)) (tN 0)) fun t22=>
 k (z6 (Zae (g6 S))<| z11 t22<| stN 26 S) H)
 (Zbb (fun S=>some (g11 S))
 (Zaj (Zad fun S H k=>
 k (z4 (g6 S)<| z6 (hush (g6 S))<| stN 26 S) H)
 (Zam .ret))
 (Zaj (Zad fun S H k=>
 Zaa (b2 Zcj (Zab (g1 S)) (tN 0)) fun t26=>
 k (z1 (Zae (g1 S))<| z12 t26<| stN 26 S) H)
 (Zbb (fun S=>some (g12 S))
 (Zaj (Zad fun S H k=>
 k (z4 (tN 1)<| stN 26 S) H)
 (Zam .ret))
 (Zam .normal))))))
 (Zaj (Zad fun S H k=>
 Zaa (Zar (g5 S) 2) fun t27=>
 sF tlo base H t27 fun t28 H6=>
 k (z7 t28<| z8 (.v (.int .i64 (.negSucc 0)))<| stN 26 S) H6)
 (Zaj (Zaj (Zad fun S H k=>
 Zaa (lenT (Zak (g2 S))) fun t30=>
 k (z2 (Zak (g2 S))<| z13 (Zak (g2 S))<| z14 t30<| z15 (tN 0)<| stN 26 S) H)
 (Zbd 1 (Zdn (Zaj (Zad fun S H k=>
 Zaa (b2 Zcj (g15 S) (g14 S)) fun t32=>
 k (z16 t32<| stN 26 S) H)
 (Zaj (Zbb (fun S=>some (g16 S))
 (Zam .normal)
 (Zam (.exit 1)))
 (Zaj (Zbd 2 (Zaj (Zad fun S H k=>
 Zaa (Zbn 1 (g13 S) (g15 S)) fun t33=>
 sF tlo base H t33 fun t34 H7=>
 k (z9 t34<| stN 26 S) H7)
 (Zaj (Zbd 3 (Zaj (Zad fun S H k=>
 Zaa (b2 Zcj (Zab (g9 S)) (tN 0)) fun t37=>
 gV t37 false (Zab (Zae (g9 S))) H fun t39 H8=>
 gB t37 false (Zar (g5 S) 0) H8 fun t40 H9=>
 Zbk (Zab t37) false (lF tlo base H9 t40 fun g10 H10=>Zbt g10 H10) H9 fun t41 H11=>
 gB t37 false (Zar (g5 S) 1) H11 fun t42 H12=>
 Zbk (Zab t37) false (lF tlo base H12 t42 fun g13 H13=>Zbt g13 H13) H12 fun t43 H14=>
 gB t37 false (b2 evMul t41 t43) H14 fun t44 H15=>
 gB t37 false (b2 evGeq t39 t44) H15 fun t45 H16=>
 Zaa (Zch (Zab t37) (tB true) (Zak t45)) fun t46=>
 k (z9 (Zae (Zae (g9 S)))<| z17 t46<| stN 26 S) H16)
 (Zbb (fun S=>some (g17 S))
 (Zaj (Zad fun S H k=>
 k (z4 (tN 2)<| stN 26 S) H)
 (Zam .ret))
 (Zaj (Zad fun S H k=>
 Zaa (b2 evLeq (Zab (g9 S)) (Zab (g8 S))) fun t50=>
 k (z8 (Zae (g8 S))<| z9 (Zae (g9 S))<| z18 t50<| stN 26 S) H)
 (Zbb (fun S=>some (g18 S))
 (Zaj (Zad fun S H k=>
 k (z4 (tN 7)<| stN 26 S) H)
 (Zam .ret))
 (Zaj (Zad fun S H k=>
 Zaa (Zar (g5 S) 2) fun t52=>
 lF tlo base H t52 fun t53 H17=>
 Zaa (b2 evShr t53 (Zab (g9 S))) fun t55=>
 Zaa (b2 evAnd t55 (.v (.int .u64 (.ofNat 1)))) fun t56=>
 Zaa (eqlT .int t56 (.v (.int .u64 (.ofNat 0)))) fun t57=>
 k (z9 (Zae (g9 S))<| z19 t57<| stN 26 S) H17)
 (Zbb (fun S=>some (g19 S))
 (Zaj (Zad fun S H k=>
 k (z4 (tN 13)<| stN 26 S) H)
 (Zam .ret))
 (Zam .normal))))))))
 (Zaj (Zad fun S H k=>
 Zaa (b2 evShl (.v (.int .u64 (.ofNat 1))) (Zab (g9 S))) fun t60=>
 Zaa (b2 Zdd (Zab (g7 S)) t60) fun t61=>
 k (z7 t61<| z9 (Zae (g9 S))<| stN 26 S) H)
 (Zad fun S H k=>
 k (z8 (g9 S)<| z9 (hush (g9 S))<| stN 26 S) H)))))
 (Zad fun S H k=>
 Zaa (b2 Zbe (g15 S) (tN 1)) fun t63=>
 k (z15 t63<| stN 26 S) H)))) fuel)))
 (Zaj (Zaj (Zad fun S H k=>
 Zaa (Zah call 100 [Zak (Zab (g7 S))] H) fun t65=>
 Zaa (lenT t65) fun t66=>
 k (z7 (Zae (g7 S))<| z20 t65<| z21 t66<| z22 (tN 0)<| stN 26 S) H)
 (Zbd 4 (Zdn (Zaj (Zad fun S H k=>
 Zaa (b2 Zcj (g22 S) (g21 S)) fun t68=>
 k (z23 t68<| stN 26 S) H)
 (Zaj (Zbb (fun S=>some (g23 S))
 (Zam .normal)
 (Zam (.exit 4)))
 (Zaj (Zbd 5 (Zaj (Zad fun S H k=>
 Zaa (Zbn 1 (g20 S) (g22 S)) fun t69=>
 sF tlo base H t69 fun t70 H18=>
 k (z10 t70<| stN 26 S) H18)
 (Zaj (Zad fun S H k=>
 Zaa (Zar (g5 S) 3) fun t72=>
 Zaa (Zbj 16 1 t72 (Zab (g10 S))) fun t73=>
 lF tlo base H t73 fun t74 H19=>
 Zaa (b2 evAnd t74 (Zab (g7 S))) fun t76=>
 Zaa (neqT .int t76 (.v (.int .u64 (.ofNat 0)))) fun t77=>
 k (z7 (Zae (g7 S))<| z10 (Zae (g10 S))<| z24 t77<| stN 26 S) H19)
 (Zbb (fun S=>some (g24 S))
 (Zaj (Zad fun S H k=>
 k (z4 (tN 21)<| stN 26 S) H)
 (Zam .ret))
 (Zam .normal)))))
 (Zad fun S H k=>
 Zaa (b2 Zbe (g22 S) (tN 1)) fun t78=>
 k (z22 t78<| stN 26 S) H)))) fuel)))
 (Zaj (Zaj (Zad fun S H k=>
 Zaa (lenT (Zab (g2 S))) fun t80=>
 Zaa (b2 evGtr t80 (Zab (g1 S))) fun t82=>
 k (z1 (Zae (g1 S))<| z2 (Zae (g2 S))<| z25 t82<| stN 26 S) H)
 (Zbb (fun S=>some (g25 S))
 (Zaj (Zad fun S H k=>
 k (z4 (tN 14)<| stN 26 S) H)
 (Zam .ret))
 (Zam .normal)))
 (Zaj (Zad fun S H k=>
 k (z4 (tN 0)<| stN 26 S) H)
 (Zam .ret)))))))))
def F30:FnT:=fun call tlo l H=>Zaa (C30 call tlo (Zag H) (Zal l 0,Zal l 1,Zal l 2,Zal l 3,Zal l 6,Zal l 7,Zal l 8,Zal l 9,Zal l 10,Zal l 12,Zal l 14,Zal l 20,Zal l 24,Zal l 29,Zal l 30,Zal l 31,Zal l 32,Zal l 35,Zal l 47,Zal l 51,Zal l 65,Zal l 66,Zal l 67,Zal l 68,Zal l 77,Zal l 82,()) H) fun p=>Zdp p.1 (Zap (Zbu Zbo [p.2.1.2.2.2.2.1]) (some (Zdw (Zag H) p.2.1.2.2.2.2.1 p.2.2)))
theorem F30_eq:FEq P TC 30 F30:=fun _ _ _ _=>by kernel_rfl
def C32 (call:Zbc) (tlo base:Nat):Zaz (TV×TV×TV×TV×TV×TV×TV×TV×TV×TV×Unit):=
 (Zaj (Zad fun S H k=>
 Zap (stor S.1)<|
 let t2:=(.ptr (Zag H) 0)
 let H0:=(Zaq H (.cells (Zav S.1)))
 k (z0 (hush S.1)<| z2 t2<| z3 nilT<| z4 (tN 0)<| stN 10 S) H0)
 (Zaj (Zad fun S H k=>
 lA tlo base 3 H (g2 S) fun t10 H1=>
 Zaa (Zah call 111 [Zak t10,Zak (Zab (g1 S))] H1) fun t12=>
 Zaf (Zbq (Zab t12) 0) fun c2=>
 Zaf (Zbq (Zba (Zab t12) 0) 1) fun c3=>
 Zaf (Zbq (Zba (Zba (Zab t12) 0) 1) 2) fun c4=>
 let t6:=(.ptr (Zag H1) 0)
 let H5:=(Zaq H1 (.cells Zdb))
 Zaa (Zas tlo base 19 H5 t6 c2) fun H6=>
 k (z1 (Zae (g1 S))<| z5 t6<| z6 c3<| z7 c4<| stN 10 S) H6)
 (Zaj (Zaj (Zad fun S H k=>
 Zaa (eqlT .int (Zab (g7 S)) (tN 0)) fun t17=>
 k (z7 (Zae (g7 S))<| z8 t17<| stN 10 S) H)
 (Zbb (fun S=>some (g8 S))
 (Zad fun S H k=>
 lA tlo base 19 H (g5 S) fun t18 H7=>
 Zaa (Zcx 1 [0] [Zak (Zak (g6 S))] (repG [.v (.int .u64 (.ofNat 0))] 1)) fun c8=>
 Zaa (Zah call 112 [Zak t18,Zak (.row .full (.own 101) 1 c8)] H7) fun t21=>
 k (z6 (Zak (g6 S))<| z7 t21<| stN 10 S) H7)
 (Zam .normal)))
 (Zaj (Zaj (Zad fun S H k=>
 Zaa (neqT .int (Zab (g7 S)) (tN 0)) fun t23=>
 k (z7 (Zae (g7 S))<| z9 t23<| stN 10 S) H)
 (Zbb (fun S=>some (g9 S))
 (Zaj (Zad fun S H k=>
 k (z3 nilT<| z4 (g7 S)<| z7 (hush (g7 S))<| stN 10 S) H)
 (Zam .ret))
 (Zam .normal)))
 (Zaj (Zad fun S H k=>
 sA tlo base 19 H (g5 S) fun t25 H9=>
 Zbr call tlo 113 [Zak t25,Zak (Zak (g1 S))] H9 fun t27 H10=>
 k (z1 (Zak (g1 S))<| z3 t27<| z4 (tN 0)<| stN 10 S) H10)
 (Zam .ret))))))
def F32:FnT:=fun call tlo l H=>Zaa (C32 call tlo (Zag H) (Zal l 0,Zal l 1,Zal l 2,Zal l 4,Zal l 5,Zal l 6,Zal l 7,Zal l 8,Zal l 17,Zal l 23,()) H) fun p=>Zdp p.1 (Zap (Zbu Zbo [p.2.1.2.2.2.1,p.2.1.2.2.2.2.1]) (some (Zdw (Zag H) (.tup [p.2.1.2.2.2.1,p.2.1.2.2.2.2.1]) p.2.2)))
theorem F32_eq:FEq P TC 32 F32:=fun _ _ _ _=>by kernel_rfl
def C34 (call:Zbc) (tlo base:Nat):Zaz (TV×TV×TV×TV×TV×TV×TV×TV×TV×TV×TV×TV×TV×Unit):=
 (Zaj (Zad fun S H k=>
 Zap (stor S.1)<|
 let t3:=(.ptr (Zag H) 0)
 let H0:=(Zaq H (.cells (Zav S.1)))
 k (z0 (hush S.1)<| z3 t3<| z4 nilT<| z5 (tN 0)<| stN 13 S) H0)
 (Zaj (Zad fun S H k=>
 lA tlo base 3 H (g3 S) fun t14 H1=>
 Zaa (Zah call 111 [Zak t14,Zak (Zab (g1 S))] H1) fun t16=>
 Zaf (Zbq (Zab t16) 0) fun c2=>
 Zaf (Zbq (Zba (Zab t16) 0) 1) fun c3=>
 Zaf (Zbq (Zba (Zba (Zab t16) 0) 1) 2) fun c4=>
 let t8:=(.ptr (Zag H1) 0)
 let H5:=(Zaq H1 (.cells Zdb))
 Zaa (Zas tlo base 19 H5 t8 c2) fun H6=>
 k (z1 (Zae (g1 S))<| z6 t8<| z7 c4<| stN 13 S) H6)
 (Zaj (Zbd 0 (Zaj (Zad fun S H k=>
 Zaa (neqT .int (Zab (g7 S)) (tN 0)) fun t22=>
 k (z7 (Zae (g7 S))<| z10 t22<| stN 13 S) H)
 (Zbb (fun S=>some (g10 S))
 (Zaj (Zad fun S H k=>
 k (z4 nilT<| z5 (g7 S)<| z7 (hush (g7 S))<| stN 13 S) H)
 (Zam .ret))
 (Zaj (Zad fun S H k=>
 Zaa (b2 Zcj (Zab (g2 S)) (tN 0)) fun t26=>
 gV t26 false (Zab (Zae (g2 S))) H fun t28 H7=>
 Zbk (Zab t26) false (lA tlo base 19 H7 (g6 S) fun g8 H8=>Zbt g8 H8) H7 fun t29 H9=>
 gB t26 false (Zah call 116 [Zak t29] H9) H9 fun t30 H10=>
 gB t26 false (b2 evGeq t28 t30) H10 fun t31 H11=>
 Zaa (Zch (Zab t26) (tB true) (Zak t31)) fun t32=>
 k (z2 (Zae (Zae (g2 S)))<| z11 t32<| stN 13 S) H11)
 (Zbb (fun S=>some (g11 S))
 (Zaj (Zad fun S H k=>
 k (z4 nilT<| z5 (tN 2)<| stN 13 S) H)
 (Zam .ret))
 (Zam .normal))))))
 (Zaj (Zad fun S H k=>
 lA tlo base 19 H (g6 S) fun t34 H12=>
 Zaa (Zah call 117 [Zak t34,Zak (Zab (g1 S)),Zak (Zab (g2 S))] H12) fun t37=>
 Zaf (Zbq (Zab t37) 0) fun c13=>
 Zaf (Zbq (Zba (Zab t37) 0) 1) fun c14=>
 k (z1 (Zae (g1 S))<| z2 (Zae (g2 S))<| z8 c13<| z9 c14<| stN 13 S) H12)
 (Zaj (Zaj (Zad fun S H k=>
 Zaa (b1 evNot (Zab (g9 S))) fun t41=>
 k (z9 (Zae (g9 S))<| z12 t41<| stN 13 S) H)
 (Zbb (fun S=>some (g12 S))
 (Zaj (Zad fun S H k=>
 k (z4 nilT<| z5 (tN 13)<| stN 13 S) H)
 (Zam .ret))
 (Zam .normal)))
 (Zaj (Zad fun S H k=>
 k (z4 (g8 S)<| z5 (tN 0)<| z8 (hush (g8 S))<| stN 13 S) H)
 (Zam .ret)))))))
def F34:FnT:=fun call tlo l H=>Zaa (C34 call tlo (Zag H) (Zal l 0,Zal l 1,Zal l 2,Zal l 3,Zal l 6,Zal l 7,Zal l 8,Zal l 10,Zal l 11,Zal l 12,Zal l 20,Zal l 24,Zal l 41,()) H) fun p=>Zdp p.1 (Zap (Zbu Zbo [p.2.1.2.2.2.2.1,p.2.1.2.2.2.2.2.1]) (some (Zdw (Zag H) (.tup [p.2.1.2.2.2.2.1,p.2.1.2.2.2.2.2.1]) p.2.2)))
theorem F34_eq:FEq P TC 34 F34:=fun _ _ _ _=>by kernel_rfl
def C36 (call:Zbc) (tlo base:Nat):Zaz (TV×TV×TV×TV×Unit):=
 (Zaj (Zad fun S H k=>
 Zap (stor S.1)<|
 let t1:=(.ptr (Zag H) 0)
 let H0:=(Zaq H (.cells (Zav S.1)))
 k (z0 (hush S.1)<| z1 t1<| z2 nilT<| z3 (tN 0)<| stN 4 S) H0)
 (Zaj (Zad fun S H k=>
 lA tlo base 3 H (g1 S) fun t4 H1=>
 Zaa (Zah call 119 [Zak t4,tN 1] H1) fun t5=>
 Zaf (Zbq t5 0) fun c2=>
 Zaf (Zbq (Zba t5 0) 1) fun c3=>
 k (z2 c2<| z3 c3<| stN 4 S) H1)
 (Zam .ret)))
def F36:FnT:=fun call tlo l H=>Zaa (C36 call tlo (Zag H) (Zal l 0,Zal l 1,Zal l 2,Zal l 3,()) H) fun p=>Zdp p.1 (Zap (Zbu Zbo [p.2.1.2.2.1,p.2.1.2.2.2.1]) (some (Zdw (Zag H) (.tup [p.2.1.2.2.1,p.2.1.2.2.2.1]) p.2.2)))
theorem F36_eq:FEq P TC 36 F36:=fun _ _ _ _=>by kernel_rfl
def C38 (call:Zbc) (tlo base:Nat):Zaz (TV×TV×TV×TV×Unit):=
 (Zaj (Zad fun S H k=>
 Zap (stor S.1)<|
 let t1:=(.ptr (Zag H) 0)
 let H0:=(Zaq H (.cells (Zav S.1)))
 k (z0 (hush S.1)<| z1 t1<| z2 nilT<| z3 (tN 0)<| stN 4 S) H0)
 (Zaj (Zad fun S H k=>
 lA tlo base 3 H (g1 S) fun t4 H1=>
 Zaa (Zah call 119 [Zak t4,.v (.int .i64 (.negSucc 0))] H1) fun t5=>
 Zaf (Zbq t5 0) fun c2=>
 Zaf (Zbq (Zba t5 0) 1) fun c3=>
 k (z2 c2<| z3 c3<| stN 4 S) H1)
 (Zam .ret)))
def F38:FnT:=fun call tlo l H=>Zaa (C38 call tlo (Zag H) (Zal l 0,Zal l 1,Zal l 2,Zal l 3,()) H) fun p=>Zdp p.1 (Zap (Zbu Zbo [p.2.1.2.2.1,p.2.1.2.2.2.1]) (some (Zdw (Zag H) (.tup [p.2.1.2.2.1,p.2.1.2.2.2.1]) p.2.2)))
theorem F38_eq:FEq P TC 38 F38:=fun _ _ _ _=>by kernel_rfl
def C40 (call:Zbc) (tlo base:Nat):Zaz (TV×TV×TV×TV×TV×TV×TV×TV×TV×TV×TV×TV×TV×TV×Unit):=
 (Zaj (Zad fun S H k=>
 Zap (stor S.1)<|
 let t3:=(.ptr (Zag H) 0)
 let H0:=(Zaq H (.cells (Zav S.1)))
 k (z0 (hush S.1)<| z3 t3<| z4 (tN 0)<| z5 (tN 0)<| stN 14 S) H0)
 (Zaj (Zad fun S H k=>
 sA tlo base 3 H (g3 S) fun t15 H1=>
 Zbr call tlo 121 [Zak t15,Zak (Zak (g1 S)),Zak (Zak (g2 S))] H1 fun t18 H2=>
 Zaf (Zbq (Zab t18) 0) fun c3=>
 Zaf (Zbq (Zba (Zab t18) 0) 1) fun c4=>
 Zaf (Zbq (Zba (Zba (Zab t18) 0) 1) 2) fun c5=>
 Zaf (Zbq (Zba (Zba (Zba (Zab t18) 0) 1) 2) 3) fun c6=>
 let t8:=(.ptr (Zag H2) 0)
 let H7:=(Zaq H2 (.cells Zdb))
 Zaa (Zas tlo base 19 H7 t8 c3) fun H8=>
 k (z1 (Zak (g1 S))<| z2 (Zak (g2 S))<| z6 c4<| z7 c5<| z8 c6<| stN 14 S) H8)
 (Zaj (Zad fun S H k=>
 k (z9 (tN 0)<| stN 14 S) H)
 (Zaj (Zaj (Zad fun S H k=>
 Zaa (lenT (Zab (g6 S))) fun t24=>
 k (z6 (Zae (g6 S))<| z11 t24<| z12 (tN 0)<| stN 14 S) H)
 (Zbd 0 (Zdn (Zaj (Zad fun S H k=>
 Zaa (b2 Zcj (g12 S) (g11 S)) fun t26=>
 k (z13 t26<| stN 14 S) H)
 (Zaj (Zbb (fun S=>some (g13 S))
 (Zam .normal)
 (Zam (.exit 0)))
 (Zaj (Zbd 1 (Zaj (Zad fun S H k=>
 k (z10 (g12 S)<| z12 (hush (g12 S))<| stN 14 S) H)
 (Zad fun S H k=>
 Zaa (Zbn 1 (Zab (g6 S)) (Zab (g10 S))) fun t31=>
 lF tlo base H t31 fun t32 H9=>
 Zaa (Zbn 1 (Zab (g7 S)) (Zab (Zae (g10 S)))) fun t35=>
 lF tlo base H9 t35 fun t36 H10=>
 Zaa (b2 Zcl t32 t36) fun t37=>
 Zaa (Zbn 1 (Zab (Zae (g7 S))) (Zab (Zae (Zae (g10 S))))) fun t40=>
 lF tlo base H10 t40 fun t41 H11=>
 Zaa (Zbn 1 (Zab (Zae (g6 S))) (Zab (Zae (Zae (Zae (g10 S)))))) fun t44=>
 lF tlo base H11 t44 fun t45 H12=>
 Zaa (b2 Zcl t41 t45) fun t46=>
 Zaa (b2 (Zdv true) t37 t46) fun c13=>
 Zap (isV c13)<|
 Zaa (b2 Zbe (Zab (g9 S)) c13) fun t48=>
 k (z6 (Zae (Zae (g6 S)))<| z7 (Zae (Zae (g7 S)))<| z9 t48<| z10 (Zae (Zae (Zae (Zae (g10 S)))))<| stN 14 S) H12)))
 (Zad fun S H k=>
 Zaa (b2 Zbe (g12 S) (tN 1)) fun t49=>
 k (z12 t49<| stN 14 S) H)))) fuel)))
 (Zaj (Zad fun S H k=>
 Zaa (b2 evQuo (Zab (g9 S)) (tN 4)) fun t51=>
 k (z4 t51<| z5 (g8 S)<| z8 (hush (g8 S))<| z9 (Zae (g9 S))<| stN 14 S) H)
 (Zam .ret))))))
def F40:FnT:=fun call tlo l H=>Zaa (C40 call tlo (Zag H) (Zal l 0,Zal l 1,Zal l 2,Zal l 3,Zal l 6,Zal l 7,Zal l 9,Zal l 10,Zal l 11,Zal l 12,Zal l 13,Zal l 24,Zal l 25,Zal l 26,()) H) fun p=>Zdp p.1 (Zap (Zbu Zbo [p.2.1.2.2.2.2.1,p.2.1.2.2.2.2.2.1]) (some (Zdw (Zag H) (.tup [p.2.1.2.2.2.2.1,p.2.1.2.2.2.2.2.1]) p.2.2)))
theorem F40_eq:FEq P TC 40 F40:=fun _ _ _ _=>by kernel_rfl
def C42 (call:Zbc) (tlo base:Nat):Zaz (TV×TV×TV×TV×TV×TV×Unit):=
 (Zaj (Zad fun S H k=>
 Zap (stor S.1)<|
 let t3:=(.ptr (Zag H) 0)
 let H0:=(Zaq H (.cells (Zav S.1)))
 k (z0 (hush S.1)<| z3 t3<| z4 nilT<| z5 (tN 0)<| stN 6 S) H0)
 (Zaj (Zad fun S H k=>
 lA tlo base 3 H (g3 S) fun t8 H1=>
 Zaa (Zah call 124 [Zak t8,Zak (Zab (g1 S)),Zak (Zab (g2 S)),.fn (.func 125) [] []] H1) fun t11=>
 Zaf (Zbq t11 0) fun c2=>
 Zaf (Zbq (Zba t11 0) 1) fun c3=>
 k (z1 (Zae (g1 S))<| z2 (Zae (g2 S))<| z4 c2<| z5 c3<| stN 6 S) H1)
 (Zam .ret)))
def F42:FnT:=fun call tlo l H=>Zaa (C42 call tlo (Zag H) (Zal l 0,Zal l 1,Zal l 2,Zal l 3,Zal l 6,Zal l 7,()) H) fun p=>Zdp p.1 (Zap (Zbu Zbo [p.2.1.2.2.2.2.1,p.2.1.2.2.2.2.2.1]) (some (Zdw (Zag H) (.tup [p.2.1.2.2.2.2.1,p.2.1.2.2.2.2.2.1]) p.2.2)))
theorem F42_eq:FEq P TC 42 F42:=fun _ _ _ _=>by kernel_rfl
def C44 (call:Zbc) (tlo base:Nat):Zaz (TV×TV×TV×TV×TV×TV×Unit):=
 (Zaj (Zad fun S H k=>
 Zap (stor S.1)<|
 let t3:=(.ptr (Zag H) 0)
 let H0:=(Zaq H (.cells (Zav S.1)))
 k (z0 (hush S.1)<| z3 t3<| z4 nilT<| z5 (tN 0)<| stN 6 S) H0)
 (Zaj (Zad fun S H k=>
 lA tlo base 3 H (g3 S) fun t8 H1=>
 Zaa (Zah call 124 [Zak t8,Zak (Zab (g1 S)),Zak (Zab (g2 S)),.fn (.func 127) [] []] H1) fun t11=>
 Zaf (Zbq t11 0) fun c2=>
 Zaf (Zbq (Zba t11 0) 1) fun c3=>
 k (z1 (Zae (g1 S))<| z2 (Zae (g2 S))<| z4 c2<| z5 c3<| stN 6 S) H1)
 (Zam .ret)))
def F44:FnT:=fun call tlo l H=>Zaa (C44 call tlo (Zag H) (Zal l 0,Zal l 1,Zal l 2,Zal l 3,Zal l 6,Zal l 7,()) H) fun p=>Zdp p.1 (Zap (Zbu Zbo [p.2.1.2.2.2.2.1,p.2.1.2.2.2.2.2.1]) (some (Zdw (Zag H) (.tup [p.2.1.2.2.2.2.1,p.2.1.2.2.2.2.2.1]) p.2.2)))
theorem F44_eq:FEq P TC 44 F44:=fun _ _ _ _=>by kernel_rfl
def C46 (call:Zbc) (tlo base:Nat):Zaz (TV×TV×TV×TV×TV×TV×TV×Unit):=
 (Zaj (Zad fun S H k=>
 Zap (stor S.1)<|
 let t1:=(.ptr (Zag H) 0)
 let H0:=(Zaq H (.cells (Zav S.1)))
 k (z0 (hush S.1)<| z1 t1<| z2 nilT<| z3 (tN 0)<| stN 7 S) H0)
 (Zaj (Zad fun S H k=>
 lA tlo base 3 H (g1 S) fun t7 H1=>
 Zaa (Zah call 94 [Zak t7] H1) fun t8=>
 Zaf (Zbq (Zab t8) 0) fun c2=>
 Zaf (Zbq (Zba (Zab t8) 0) 1) fun c3=>
 let t4:=(.ptr (Zag H1) 0)
 let H4:=(Zaq H1 (.cells Zdb))
 Zaa (Zas tlo base 19 H4 t4 c2) fun H5=>
 k (z4 t4<| z5 c3<| stN 7 S) H5)
 (Zaj (Zaj (Zad fun S H k=>
 Zaa (neqT .int (Zab (g5 S)) (tN 0)) fun t12=>
 k (z5 (Zae (g5 S))<| z6 t12<| stN 7 S) H)
 (Zbb (fun S=>some (g6 S))
 (Zaj (Zad fun S H k=>
 k (z2 nilT<| z3 (g5 S)<| z5 (hush (g5 S))<| stN 7 S) H)
 (Zam .ret))
 (Zam .normal)))
 (Zaj (Zad fun S H k=>
 Zaa (Zar (g4 S) 2) fun t14=>
 lF tlo base H t14 fun t15 H6=>
 Zaa (Zah call 100 [Zak t15] H6) fun t16=>
 k (z2 t16<| z3 (tN 0)<| stN 7 S) H6)
 (Zam .ret)))))
def F46:FnT:=fun call tlo l H=>Zaa (C46 call tlo (Zag H) (Zal l 0,Zal l 1,Zal l 2,Zal l 3,Zal l 4,Zal l 5,Zal l 12,()) H) fun p=>Zdp p.1 (Zap (Zbu Zbo [p.2.1.2.2.1,p.2.1.2.2.2.1]) (some (Zdw (Zag H) (.tup [p.2.1.2.2.1,p.2.1.2.2.2.1]) p.2.2)))
theorem F46_eq:FEq P TC 46 F46:=fun _ _ _ _=>by kernel_rfl
def C48 (call:Zbc) (tlo base:Nat):Zaz (TV×TV×TV×TV×TV×TV×TV×Unit):=
 (Zaj (Zad fun S H k=>
 Zap (stor S.1)<|
 let t1:=(.ptr (Zag H) 0)
 let H0:=(Zaq H (.cells (Zav S.1)))
 k (z0 (hush S.1)<| z1 t1<| z2 (tB false)<| z3 (tN 0)<| stN 7 S) H0)
 (Zaj (Zad fun S H k=>
 lA tlo base 3 H (g1 S) fun t7 H1=>
 Zaa (Zah call 94 [Zak t7] H1) fun t8=>
 Zaf (Zbq (Zab t8) 0) fun c2=>
 Zaf (Zbq (Zba (Zab t8) 0) 1) fun c3=>
 let t4:=(.ptr (Zag H1) 0)
 let H4:=(Zaq H1 (.cells Zdb))
 Zaa (Zas tlo base 19 H4 t4 c2) fun H5=>
 k (z4 t4<| z5 c3<| stN 7 S) H5)
 (Zaj (Zaj (Zad fun S H k=>
 Zaa (neqT .int (Zab (g5 S)) (tN 0)) fun t12=>
 k (z5 (Zae (g5 S))<| z6 t12<| stN 7 S) H)
 (Zbb (fun S=>some (g6 S))
 (Zaj (Zad fun S H k=>
 k (z2 (tB false)<| z3 (g5 S)<| z5 (hush (g5 S))<| stN 7 S) H)
 (Zam .ret))
 (Zam .normal)))
 (Zaj (Zad fun S H k=>
 lA tlo base 19 H (g4 S) fun t14 H6=>
 Zaa (Zah call 128 [Zak t14] H6) fun t15=>
 k (z2 t15<| z3 (tN 0)<| stN 7 S) H6)
 (Zam .ret)))))
def F48:FnT:=fun call tlo l H=>Zaa (C48 call tlo (Zag H) (Zal l 0,Zal l 1,Zal l 2,Zal l 3,Zal l 4,Zal l 5,Zal l 12,()) H) fun p=>Zdp p.1 (Zap (Zbu Zbo [p.2.1.2.2.1,p.2.1.2.2.2.1]) (some (Zdw (Zag H) (.tup [p.2.1.2.2.1,p.2.1.2.2.2.1]) p.2.2)))
theorem F48_eq:FEq P TC 48 F48:=fun _ _ _ _=>by kernel_rfl
def C52 (call:Zbc) (tlo base:Nat):Zaz (TV×TV×TV×TV×TV×Unit):=
 (Zaj (Zad fun S H k=>
 Zap (stor S.1)<|
 let t2:=(.ptr (Zag H) 0)
 let H0:=(Zaq H (.cells (Zav S.1)))
 k (z0 (hush S.1)<| z2 t2<| z3 (tN 0)<| stN 5 S) H0)
 (Zaj (Zad fun S H k=>
 lA tlo base 3 H (g2 S) fun t9 H1=>
 Zaa (Zah call 111 [Zak t9,Zak (Zab (g1 S))] H1) fun t11=>
 Zaf (Zbq (Zab t11) 0) fun c2=>
 Zaf (Zbq (Zba (Zab t11) 0) 1) fun c3=>
 Zaf (Zbq (Zba (Zba (Zab t11) 0) 1) 2) fun c4=>
 let t5:=(.ptr (Zag H1) 0)
 let H5:=(Zaq H1 (.cells Zdb))
 Zaa (Zas tlo base 19 H5 t5 c2) fun H6=>
 k (z1 (Zae (g1 S))<| z4 c4<| stN 5 S) H6)
 (Zaj (Zad fun S H k=>
 k (z3 (g4 S)<| z4 (hush (g4 S))<| stN 5 S) H)
 (Zam .ret))))
def F52:FnT:=fun call tlo l H=>Zaa (C52 call tlo (Zag H) (Zal l 0,Zal l 1,Zal l 2,Zal l 4,Zal l 7,()) H) fun p=>Zdp p.1 (Zap (Zbu Zbo [p.2.1.2.2.2.1]) (some (Zdw (Zag H) p.2.1.2.2.2.1 p.2.2)))
theorem F52_eq:FEq P TC 52 F52:=fun _ _ _ _=>by kernel_rfl
def C54 (call:Zbc) (tlo base:Nat):Zaz (TV×TV×TV×TV×TV×TV×TV×TV×TV×TV×Unit):=
 (Zaj (Zad fun S H k=>
 Zap (stor S.1)<|
 let t2:=(.ptr (Zag H) 0)
 let H0:=(Zaq H (.cells (Zav S.1)))
 let t4:=(.ptr (Zag H0) 0)
 let H1:=(Zaq H0 (.cells zc24))
 k (z0 (hush S.1)<| z2 t2<| z3 t4<| stN 10 S) H1)
 (Zaj (Zad fun S H k=>
 Zaa (Zar (g2 S) 0) fun t7=>
 lF tlo base H t7 fun t8 H2=>
 Zaa (b1 (evConv .i64) t8) fun t9=>
 Zaa (b2 evRem t9 (tN 8)) fun t10=>
 Zaa (b2 Zbe (tN 1) t10) fun t11=>
 Zaa (aggT [(0,1,t11)] zc24) fun t12=>
 let t5:=(.ptr (Zag H2) 0)
 let H3:=(Zaq H2 (.cells zc24))
 Zaa (Zas tlo base 3 H3 t5 t12) fun H4=>
 k (z4 t5<| stN 10 S) H4)
 (Zaj (Zad fun S H k=>
 Zaa (Zar (g2 S) 1) fun t13=>
 lF tlo base H t13 fun t14 H5=>
 Zaa (b1 (evConv .i64) t14) fun t15=>
 Zaa (Zar (g4 S) 0) fun t17=>
 lF tlo base H5 t17 fun t18 H6=>
 Zaa (b2 evQuo (Zab (g1 S)) t18) fun t19=>
 Zaa (b2 (Zdv false) (tN 8) t19) fun c7=>
 Zap (isV c7)<|
 Zaa (b2 evRem t15 c7) fun t21=>
 Zaa (b2 Zbe (tN 1) t21) fun t22=>
 Zaa (Zar (g4 S) 1) fun t23=>
 Zaa (Zas tlo base 1 H6 t23 t22) fun H8=>
 k (z1 (Zae (g1 S))<| stN 10 S) H8)
 (Zaj (Zaj (Zad fun S H k=>
 Zaa (Zar (g4 S) 0) fun t24=>
 lF tlo base H t24 fun t25 H9=>
 Zaa (Zar (g4 S) 1) fun t26=>
 lF tlo base H9 t26 fun t27 H10=>
 Zaa (b2 evMul t25 t27) fun t28=>
 k (z6 t28<| z7 (tN 0)<| stN 10 S) H10)
 (Zbd 0 (Zdn (Zaj (Zad fun S H k=>
 Zaa (b2 Zcj (g7 S) (g6 S)) fun t30=>
 k (z8 t30<| stN 10 S) H)
 (Zaj (Zbb (fun S=>some (g8 S))
 (Zam .normal)
 (Zam (.exit 0)))
 (Zaj (Zbd 1 (Zaj (Zad fun S H k=>
 k (z5 (g7 S)<| z7 (hush (g7 S))<| stN 10 S) H)
 (Zaj (Zad fun S H k=>
 Zaa (Zar (g2 S) 3) fun t32=>
 lF tlo base H t32 fun t33 H11=>
 Zaa (b2 evShr t33 (Zab (g5 S))) fun t35=>
 Zaa (b2 evAnd t35 (.v (.int .u16 (.ofNat 1)))) fun t36=>
 Zaa (eqlT .int t36 (.v (.int .u16 (.ofNat 1)))) fun t37=>
 gB t37 true (Zar (g2 S) 2) H11 fun t39 H12=>
 Zbk (Zab t37) true (lF tlo base H12 t39 fun g13 H13=>Zbt g13 H13) H12 fun t40 H14=>
 gB t37 true (b1 (evConv .i64) t40) H14 fun t41 H15=>
 gV t37 true (Zab (Zae (g5 S))) H15 fun t42 H16=>
 gB t37 true (b2 evMul (tN 5) t42) H16 fun t43 H17=>
 gB t37 true (b2 Zbe t41 t43) H17 fun t44 H18=>
 gB t37 true (b2 evRem t44 (tN 4)) H18 fun t45 H19=>
 gB t37 true (eqlT .int t45 (tN 0)) H19 fun t46 H20=>
 Zaa (Zch (Zab t37) (Zak t46) (tB false)) fun t47=>
 k (z5 (Zae (Zae (g5 S)))<| z9 t47<| stN 10 S) H20)
 (Zbb (fun S=>some (g9 S))
 (Zad fun S H k=>
 Zaa (Zar (g4 S) 2) fun t48=>
 Zbg .take tlo base false 1 H t48 fun t49 H21=>
 Zaa (Zcx 1 [0] [Zak (Zak (g5 S))] (repG [tN 0] 1)) fun c22=>
 Zcm tlo H21 3 1 8 t49 (.row .full (.own 3) 1 c22) fun t52 H23=>
 Zaa (Zar (stale (g4 S)) 2) fun t53=>
 Zaa (Zas tlo base 1 H23 t53 t52) fun H24=>
 k (z5 (Zak (g5 S))<| stN 10 S) H24)
 (Zam .normal)))))
 (Zad fun S H k=>
 Zaa (b2 Zbe (g7 S) (tN 1)) fun t54=>
 k (z7 t54<| stN 10 S) H)))) fuel)))
 (Zaj (Zad fun S H k=>
 sA tlo base 3 H (g4 S) fun t55 H25=>
 Zaa (Zas tlo base 3 H25 (g3 S) t55) fun H26=>
 k (stN 10 S) H26)
 (Zam .ret))))))
def F54:FnT:=fun call tlo l H=>Zaa (C54 call tlo (Zag H) (Zal l 0,Zal l 1,Zal l 2,Zal l 4,Zal l 5,Zal l 6,Zal l 28,Zal l 29,Zal l 30,Zal l 47,()) H) fun p=>Zdp p.1 (Zbg .take tlo (Zag p.2.2) true 3 p.2.2 p.2.1.2.2.2.1 fun r0 h0=>Zap (Zbu Zbo [r0]) (some (Zdw (Zag H) r0 h0)))
theorem F54_eq:FEq P TC 54 F54:=fun _ _ _ _=>by kernel_rfl
def C55 (call:Zbc) (tlo base:Nat):Zaz (TV×TV×TV×TV×TV×TV×Unit):=
 (Zaj (Zad fun S H k=>
 Zap (stor S.1)<|
 let t1:=(.ptr (Zag H) 0)
 let H0:=(Zaq H (.cells (Zav S.1)))
 k (z0 (hush S.1)<| z1 t1<| z2 nilT<| stN 6 S) H0)
 (Zaj (Zad fun S H k=>
 let t3:=(.ptr (Zag H) 0)
 let H1:=(Zaq H (.cells [nilT]))
 k (z3 t3<| stN 6 S) H1)
 (Zaj (Zaj (Zad fun S H k=>
 k (z4 (tN 0)<| stN 6 S) H)
 (Zbd 0 (Zdn (Zaj (Zaj (Zad fun S H k=>
 lF tlo base H (g3 S) fun t5 H2=>
 Zaa (lenT t5) fun t6=>
 Zaa (eqlT .int t6 (tN 0)) fun t7=>
 k (z5 t7<| stN 6 S) H2)
 (Zbb (fun S=>some (g5 S))
 (Zam .normal)
 (Zam (.exit 0))))
 (Zaj (Zbd 1 (Zad fun S H k=>
 sA tlo base 3 H (g1 S) fun t10 H3=>
 Zap (Zbu pass [Zak (g3 S)])<|
 Zbr call tlo 132 [Zak t10,Zak (Zak (g4 S)),.fn (.func 133) [] [Zak (g3 S)]] H3 fun t13 H4=>
 k (z3 (Zak (g3 S))<| z4 (Zak (g4 S))<| stN 6 S) H4))
 (Zad fun S H k=>
 Zaa (b2 Zbe (Zab (g4 S)) (tN 1)) fun t9=>
 k (z4 t9<| stN 6 S) H))) fuel)))
 (Zaj (Zad fun S H k=>
 sF tlo base H (g3 S) fun t14 H5=>
 k (z2 t14<| stN 6 S) H5)
 (Zam .ret)))))
def F55:FnT:=fun call tlo l H=>Zaa (C55 call tlo (Zag H) (Zal l 0,Zal l 1,Zal l 2,Zal l 3,Zal l 4,Zal l 7,()) H) fun p=>Zdp p.1 (Zap (Zbu Zbo [p.2.1.2.2.1]) (some (Zdw (Zag H) p.2.1.2.2.1 p.2.2)))
theorem F55_eq:FEq P TC 55 F55:=fun _ _ _ _=>by kernel_rfl
def C56 (call:Zbc) (tlo base:Nat):Zaz (TV×TV×TV×TV×TV×TV×TV×TV×TV×Unit):=
 (Zaj (Zad fun S H k=>
 Zap (stor S.1)<|
 let t1:=(.ptr (Zag H) 0)
 let H0:=(Zaq H (.cells (Zav S.1)))
 k (z0 (hush S.1)<| z1 t1<| z2 nilT<| stN 9 S) H0)
 (Zaj (Zad fun S H k=>
 k (z3 nilT<| stN 9 S) H)
 (Zaj (Zaj (Zad fun S H k=>
 Zaa (Zar (g1 S) 0) fun t5=>
 lF tlo base H t5 fun t6 H1=>
 Zaa (Zar (g1 S) 1) fun t7=>
 lF tlo base H1 t7 fun t8 H2=>
 Zaa (b2 evMul t6 t8) fun t9=>
 k (z5 t9<| z6 (tN 0)<| stN 9 S) H2)
 (Zbd 0 (Zdn (Zaj (Zad fun S H k=>
 Zaa (b2 Zcj (g6 S) (g5 S)) fun t11=>
 k (z7 t11<| stN 9 S) H)
 (Zaj (Zbb (fun S=>some (g7 S))
 (Zam .normal)
 (Zam (.exit 0)))
 (Zaj (Zbd 1 (Zaj (Zad fun S H k=>
 k (z4 (g6 S)<| z6 (hush (g6 S))<| stN 9 S) H)
 (Zaj (Zad fun S H k=>
 Zaa (Zar (g1 S) 2) fun t13=>
 lF tlo base H t13 fun t14 H3=>
 Zaa (Zah call 64 [Zak t14,Zak (Zab (g4 S))] H3) fun t16=>
 Zaa (b1 evNot t16) fun t17=>
 k (z4 (Zae (g4 S))<| z8 t17<| stN 9 S) H3)
 (Zbb (fun S=>some (g8 S))
 (Zad fun S H k=>
 Zaa (Zcx 1 [0] [Zak (Zak (g4 S))] (repG [tN 0] 1)) fun c4=>
 Zcm tlo H 3 1 8 (g3 S) (.row .full (.own 3) 1 c4) fun t21 H5=>
 k (z3 t21<| z4 (Zak (g4 S))<| stN 9 S) H5)
 (Zam .normal)))))
 (Zad fun S H k=>
 Zaa (b2 Zbe (g6 S) (tN 1)) fun t22=>
 k (z6 t22<| stN 9 S) H)))) fuel)))
 (Zaj (Zad fun S H k=>
 k (z2 (g3 S)<| z3 (hush (g3 S))<| stN 9 S) H)
 (Zam .ret)))))
def F56:FnT:=fun call tlo l H=>Zaa (C56 call tlo (Zag H) (Zal l 0,Zal l 1,Zal l 2,Zal l 3,Zal l 4,Zal l 9,Zal l 10,Zal l 11,Zal l 17,()) H) fun p=>Zdp p.1 (Zap (Zbu Zbo [p.2.1.2.2.1]) (some (Zdw (Zag H) p.2.1.2.2.1 p.2.2)))
theorem F56_eq:FEq P TC 56 F56:=fun _ _ _ _=>by kernel_rfl
def C57 (call:Zbc) (tlo base:Nat):Zaz (TV×TV×TV×Unit):=
 (Zaj (Zad fun S H k=>
 k (z2 (tB false)<| stN 3 S) H)
 (Zaj (Zad fun S H k=>
 Zbr call tlo 69 [Zak (Zak S.1),Zak (Zak (g1 S))] H fun t7 H0=>
 Zaa (b2 evGeq t7 (tN 0)) fun t8=>
 k (z0 (Zak S.1)<| z1 (Zak (g1 S))<| z2 t8<| stN 3 S) H0)
 (Zam .ret)))
def F57:FnT:=fun call tlo l H=>Zaa (C57 call tlo (Zag H) (Zal l 0,Zal l 1,Zal l 4,()) H) fun p=>Zdp p.1 (Zap (Zbu Zbo [p.2.1.2.2.1]) (some (Zdw (Zag H) p.2.1.2.2.1 p.2.2)))
theorem F57_eq:FEq P TC 57 F57:=fun _ _ _ _=>by kernel_rfl
def C58 (call:Zbc) (tlo base:Nat):Zaz (TV×TV×TV×Unit):=
 (Zaj (Zad fun S H k=>
 k (z2 (tB false)<| stN 3 S) H)
 (Zaj (Zad fun S H k=>
 Zap (Zbu pass [Zak (g1 S)])<|
 Zbr call tlo 59 [Zak (Zak S.1),.fn (.func 60) [] [Zak (g1 S)]] H fun t6 H0=>
 Zaa (b1 evNot t6) fun t7=>
 k (z0 (Zak S.1)<| z1 (Zak (g1 S))<| z2 t7<| stN 3 S) H0)
 (Zam .ret)))
def F58:FnT:=fun call tlo l H=>Zaa (C58 call tlo (Zag H) (Zal l 0,Zal l 1,Zal l 3,()) H) fun p=>Zdp p.1 (Zap (Zbu Zbo [p.2.1.2.2.1]) (some (Zdw (Zag H) p.2.1.2.2.1 p.2.2)))
theorem F58_eq:FEq P TC 58 F58:=fun _ _ _ _=>by kernel_rfl
def C59 (call:Zbc) (tlo base:Nat):Zaz (TV×TV×TV×Unit):=
 (Zaj (Zad fun S H k=>
 k (z2 (tB false)<| stN 3 S) H)
 (Zaj (Zad fun S H k=>
 Zbr call tlo 134 [Zak (Zak S.1),Zak (Zak (g1 S))] H fun t7 H0=>
 Zaa (b2 evGeq t7 (tN 0)) fun t8=>
 k (z0 (Zak S.1)<| z1 (Zak (g1 S))<| z2 t8<| stN 3 S) H0)
 (Zam .ret)))
def F59:FnT:=fun call tlo l H=>Zaa (C59 call tlo (Zag H) (Zal l 0,Zal l 1,Zal l 4,()) H) fun p=>Zdp p.1 (Zap (Zbu Zbo [p.2.1.2.2.1]) (some (Zdw (Zag H) p.2.1.2.2.1 p.2.2)))
theorem F59_eq:FEq P TC 59 F59:=fun _ _ _ _=>by kernel_rfl
def C60 (call:Zbc) (tlo base:Nat):Zaz (TV×TV×TV×TV×Unit):=
 (Zaj (Zad fun S H k=>
 Zap (stor S.1)<|
 let t2:=(.ptr (Zag H) 0)
 let H0:=(Zaq H (.cells (Zav S.1)))
 k (z0 (hush S.1)<| z2 t2<| z3 (tB false)<| stN 4 S) H0)
 (Zaj (Zad fun S H k=>
 Zaa (Zbj 2 1 (g2 S) (tN 0)) fun t4=>
 lF tlo base H t4 fun t5 H1=>
 lF tlo base H1 (g1 S) fun t6 H2=>
 Zaa (eqlT .int t5 t6) fun t7=>
 gB t7 false (Zbj 2 1 (g2 S) (tN 1)) H2 fun t9 H3=>
 Zbk (Zab t7) false (lF tlo base H3 t9 fun g4 H4=>Zbt g4 H4) H3 fun t10 H5=>
 Zbk (Zab t7) false (lF tlo base H5 (g1 S) fun g6 H6=>Zbt g6 H6) H5 fun t11 H7=>
 gB t7 false (eqlT .int t10 t11) H7 fun t12 H8=>
 Zaa (Zch (Zab t7) (tB true) (Zak t12)) fun t13=>
 k (z3 t13<| stN 4 S) H8)
 (Zam .ret)))
def F60:FnT:=fun call tlo l H=>Zaa (C60 call tlo (Zag H) (Zal l 0,Zal l 1,Zal l 2,Zal l 3,()) H) fun p=>Zdp p.1 (Zap (Zbu Zbo [p.2.1.2.2.2.1]) (some (Zdw (Zag H) p.2.1.2.2.2.1 p.2.2)))
theorem F60_eq:FEq P TC 60 F60:=fun _ _ _ _=>by kernel_rfl
def C61 (call:Zbc) (tlo base:Nat):Zaz (TV×TV×TV×Unit):=
 (Zaj (Zad fun S H k=>
 k (z2 (tB false)<| stN 3 S) H)
 (Zaj (Zad fun S H k=>
 lA tlo base 2 H (g1 S) fun t5 H0=>
 Zaa (Zah call 62 [Zak (Zab S.1),Zak t5] H0) fun t6=>
 Zaa (b1 evNot t6) fun t7=>
 k (z0 (Zae S.1)<| z2 t7<| stN 3 S) H0)
 (Zam .ret)))
def F61:FnT:=fun call tlo l H=>Zaa (C61 call tlo (Zag H) (Zal l 0,Zal l 1,Zal l 3,()) H) fun p=>Zdp p.1 (Zap (Zbu Zbo [p.2.1.2.2.1]) (some (Zdw (Zag H) p.2.1.2.2.1 p.2.2)))
theorem F61_eq:FEq P TC 61 F61:=fun _ _ _ _=>by kernel_rfl
def C62 (call:Zbc) (tlo base:Nat):Zaz (TV×TV×TV×TV×Unit):=
 (Zaj (Zad fun S H k=>
 Zap (stor (g1 S))<|
 let t3:=(.ptr (Zag H) 0)
 let H0:=(Zaq H (.cells (Zav (g1 S))))
 k (z1 (hush (g1 S))<| z2 t3<| z3 (tB false)<| stN 4 S) H0)
 (Zaj (Zad fun S H k=>
 lA tlo base 2 H (g2 S) fun t6 H1=>
 Zaa (Zah call 135 [Zak (Zab S.1),Zak t6] H1) fun t7=>
 Zaa (b2 evGeq t7 (tN 0)) fun t8=>
 k (z0 (Zae S.1)<| z3 t8<| stN 4 S) H1)
 (Zam .ret)))
def F62:FnT:=fun call tlo l H=>Zaa (C62 call tlo (Zag H) (Zal l 0,Zal l 1,Zal l 3,Zal l 4,()) H) fun p=>Zdp p.1 (Zap (Zbu Zbo [p.2.1.2.2.2.1]) (some (Zdw (Zag H) p.2.1.2.2.2.1 p.2.2)))
theorem F62_eq:FEq P TC 62 F62:=fun _ _ _ _=>by kernel_rfl
end
end Go.Proofs.YtgemobbfikjmoaaGreatDoor
namespace Go.Proofs.YtgemobbfikjmoaaGreatDoor
open Go Go.Ev
set_option maxRecDepth 1000000
set_option linter.unusedVariables false
noncomputable section
def C63 (call:Zbc) (tlo base:Nat):Zaz (TV×TV×TV×TV×TV×TV×TV×TV×TV×TV×TV×TV×Unit):=
 (Zaj (Zad fun S H k=>
 Zap (stor S.1)<|
 let t1:=(.ptr (Zag H) 0)
 let H0:=(Zaq H (.cells (Zav S.1)))
 k (z0 (hush S.1)<| z1 t1<| z2 nilT<| stN 12 S) H0)
 (Zaj (Zad fun S H k=>
 k (z3 nilT<| stN 12 S) H)
 (Zaj (Zad fun S H k=>
 lA tlo base 3 H (g1 S) fun t7 H1=>
 Zaa (Zah call 56 [Zak t7] H1) fun t8=>
 k (z4 t8<| stN 12 S) H1)
 (Zaj (Zaj (Zad fun S H k=>
 Zaa (lenT (Zak (g4 S))) fun t10=>
 k (z4 (Zak (g4 S))<| z6 (Zak (g4 S))<| z7 t10<| z8 (tN 0)<| stN 12 S) H)
 (Zbd 0 (Zdn (Zaj (Zad fun S H k=>
 Zaa (b2 Zcj (g8 S) (g7 S)) fun t12=>
 k (z9 t12<| stN 12 S) H)
 (Zaj (Zbb (fun S=>some (g9 S))
 (Zam .normal)
 (Zam (.exit 0)))
 (Zaj (Zbd 1 (Zaj (Zad fun S H k=>
 Zaa (Zbn 1 (g6 S) (g8 S)) fun t13=>
 sF tlo base H t13 fun t14 H2=>
 k (z5 t14<| stN 12 S) H2)
 (Zaj (Zaj (Zad fun S H k=>
 Zaa (Zar (g1 S) 0) fun t16=>
 lF tlo base H t16 fun t17 H3=>
 Zaa (b2 evRem (Zab (g5 S)) t17) fun t18=>
 Zaa (Zar (g1 S) 0) fun t19=>
 lF tlo base H3 t19 fun t20 H4=>
 Zaa (b2 Zcl t20 (tN 1)) fun t21=>
 Zaa (b2 Zcj t18 t21) fun t22=>
 gV t22 true (Zab (g4 S)) H4 fun t24 H5=>
 gV t22 true (Zab (Zae (g5 S))) H5 fun t25 H6=>
 gB t22 true (b2 Zbe t25 (tN 1)) H6 fun t26 H7=>
 gB t22 true (Zah call 64 [Zak t24,Zak t26] H7) H7 fun t27 H8=>
 Zaa (Zch (Zab t22) (Zak t27) (tB false)) fun t28=>
 k (z4 (Zae (g4 S))<| z5 (Zae (Zae (g5 S)))<| z10 t28<| stN 12 S) H8)
 (Zbb (fun S=>some (g10 S))
 (Zad fun S H k=>
 Zaa (b2 Zbe (Zab (Zak (g5 S))) (tN 1)) fun t32=>
 Zaa (aggT [(0,1,(Zak (g5 S))),(1,1,t32)] zc71) fun t33=>
 Zaa (Zcx 2 [0] [Zak t33] (repG [.agg zc71] 1)) fun c9=>
 Zcm tlo H 71 2 16 (g3 S) (.row .full (.own 71) 2 c9) fun t35 H10=>
 k (z3 t35<| z5 (Zae (Zak (g5 S)))<| stN 12 S) H10)
 (Zam .normal)))
 (Zaj (Zad fun S H k=>
 Zaa (Zar (g1 S) 0) fun t38=>
 lF tlo base H t38 fun t39 H11=>
 Zaa (b2 Zbe (Zab (g5 S)) t39) fun t40=>
 Zaa (Zah call 64 [Zak (Zab (g4 S)),Zak t40] H11) fun t41=>
 k (z4 (Zae (g4 S))<| z5 (Zae (g5 S))<| z11 t41<| stN 12 S) H11)
 (Zbb (fun S=>some (g11 S))
 (Zad fun S H k=>
 Zaa (Zar (g1 S) 0) fun t45=>
 lF tlo base H t45 fun t46 H12=>
 Zaa (b2 Zbe (Zab (Zak (g5 S))) t46) fun t47=>
 Zaa (aggT [(0,1,(Zak (g5 S))),(1,1,t47)] zc71) fun t48=>
 Zaa (Zcx 2 [0] [Zak t48] (repG [.agg zc71] 1)) fun c13=>
 Zcm tlo H12 71 2 16 (g3 S) (.row .full (.own 71) 2 c13) fun t50 H14=>
 k (z3 t50<| z5 (Zae (Zak (g5 S)))<| stN 12 S) H14)
 (Zam .normal))))))
 (Zad fun S H k=>
 Zaa (b2 Zbe (g8 S) (tN 1)) fun t51=>
 k (z8 t51<| stN 12 S) H)))) fuel)))
 (Zaj (Zad fun S H k=>
 Zdf 2 true (g3 S) H fun c15 H15=>
 Zdf 2 true c15 H15 fun c16 H16=>
 Zbr call tlo 136 [c16] H16 fun t53 H17=>
 k (z2 t53<| z3 c15<| stN 12 S) H17)
 (Zam .ret))))))
def F63:FnT:=fun call tlo l H=>Zaa (C63 call tlo (Zag H) (Zal l 0,Zal l 1,Zal l 2,Zal l 3,Zal l 4,Zal l 6,Zal l 9,Zal l 10,Zal l 11,Zal l 12,Zal l 28,Zal l 41,()) H) fun p=>Zdp p.1 (Zap (Zbu Zbo [p.2.1.2.2.1]) (some (Zdw (Zag H) p.2.1.2.2.1 p.2.2)))
theorem F63_eq:FEq P TC 63 F63:=fun _ _ _ _=>by kernel_rfl
def C64 (call:Zbc) (tlo base:Nat):Zaz (TV×TV×TV×Unit):=
 (Zaj (Zad fun S H k=>
 k (z2 (tB false)<| stN 3 S) H)
 (Zaj (Zad fun S H k=>
 Zaa (Zah call 137 [Zak (Zab S.1),Zak (Zab (g1 S))] H) fun t7=>
 Zaa (b2 evGeq t7 (tN 0)) fun t8=>
 k (z0 (Zae S.1)<| z1 (Zae (g1 S))<| z2 t8<| stN 3 S) H)
 (Zam .ret)))
def F64:FnT:=fun call tlo l H=>Zaa (C64 call tlo (Zag H) (Zal l 0,Zal l 1,Zal l 4,()) H) fun p=>Zdp p.1 (Zap (Zbu Zbo [p.2.1.2.2.1]) (some (Zdw (Zag H) p.2.1.2.2.1 p.2.2)))
theorem F64_eq:FEq P TC 64 F64:=fun _ _ _ _=>by kernel_rfl
def C65 (call:Zbc) (tlo base:Nat):Zaz (TV×TV×TV×Unit):=
 (Zaj (Zad fun S H k=>
 k (z2 (tB false)<| stN 3 S) H)
 (Zaj (Zad fun S H k=>
 Zbr call tlo 138 [Zak (Zak S.1),Zak (Zak (g1 S))] H fun t7 H0=>
 Zaa (b2 evGeq t7 (tN 0)) fun t8=>
 k (z0 (Zak S.1)<| z1 (Zak (g1 S))<| z2 t8<| stN 3 S) H0)
 (Zam .ret)))
def F65:FnT:=fun call tlo l H=>Zaa (C65 call tlo (Zag H) (Zal l 0,Zal l 1,Zal l 4,()) H) fun p=>Zdp p.1 (Zap (Zbu Zbo [p.2.1.2.2.1]) (some (Zdw (Zag H) p.2.1.2.2.1 p.2.2)))
theorem F65_eq:FEq P TC 65 F65:=fun _ _ _ _=>by kernel_rfl
def C66 (call:Zbc) (tlo base:Nat):Zaz (TV×TV×TV×Unit):=
 (Zaj (Zad fun S H k=>
 k (z2 (tB false)<| stN 3 S) H)
 (Zaj (Zad fun S H k=>
 lF tlo base H (g1 S) fun t4 H0=>
 Zaa (Zah call 64 [Zak t4,Zak (Zab S.1)] H0) fun t6=>
 k (z0 (Zae S.1)<| z2 t6<| stN 3 S) H0)
 (Zam .ret)))
def F66:FnT:=fun call tlo l H=>Zaa (C66 call tlo (Zag H) (Zal l 0,Zal l 1,Zal l 3,()) H) fun p=>Zdp p.1 (Zap (Zbu Zbo [p.2.1.2.2.1]) (some (Zdw (Zag H) p.2.1.2.2.1 p.2.2)))
theorem F66_eq:FEq P TC 66 F66:=fun _ _ _ _=>by kernel_rfl
def C69 (call:Zbc) (tlo base:Nat):Zaz (TV×TV×TV×TV×TV×TV×TV×TV×Unit):=
 (Zaj (Zad fun S H k=>
 k (z2 (tN 0)<| stN 8 S) H)
 (Zaj (Zaj (Zad fun S H k=>
 Zaa (lenT (Zab S.1)) fun t7=>
 k (z0 (Zae S.1)<| z4 t7<| z5 (tN 0)<| stN 8 S) H)
 (Zbd 0 (Zdn (Zaj (Zad fun S H k=>
 Zaa (b2 Zcj (g5 S) (g4 S)) fun t9=>
 k (z6 t9<| stN 8 S) H)
 (Zaj (Zbb (fun S=>some (g6 S))
 (Zam .normal)
 (Zam (.exit 0)))
 (Zaj (Zbd 1 (Zaj (Zad fun S H k=>
 k (z3 (g5 S)<| z5 (hush (g5 S))<| stN 8 S) H)
 (Zaj (Zad fun S H k=>
 Zaa (Zbn 1 (Zab S.1) (Zab (g3 S))) fun t14=>
 sF tlo base H t14 fun t15 H0=>
 Zdc TC call tlo (Zab (g1 S)) [Zak t15] H0 fun t16 H1=>
 k (z0 (Zae S.1)<| z1 (Zae (g1 S))<| z3 (Zae (g3 S))<| z7 t16<| stN 8 S) H1)
 (Zbb (fun S=>some (g7 S))
 (Zaj (Zad fun S H k=>
 k (z2 (g3 S)<| z3 (hush (g3 S))<| stN 8 S) H)
 (Zam .ret))
 (Zam .normal)))))
 (Zad fun S H k=>
 Zaa (b2 Zbe (g5 S) (tN 1)) fun t18=>
 k (z5 t18<| stN 8 S) H)))) fuel)))
 (Zaj (Zad fun S H k=>
 k (z2 (.v (.int .i64 (.negSucc 0)))<| stN 8 S) H)
 (Zam .ret))))
def F69:FnT:=fun call tlo l H=>Zaa (C69 call tlo (Zag H) (Zal l 0,Zal l 1,Zal l 4,Zal l 5,Zal l 7,Zal l 8,Zal l 9,Zal l 16,()) H) fun p=>Zdp p.1 (Zap (Zbu Zbo [p.2.1.2.2.1]) (some (Zdw (Zag H) p.2.1.2.2.1 p.2.2)))
theorem F69_eq:FEq P TC 69 F69:=fun _ _ _ _=>by kernel_rfl
def C78 (call:Zbc) (tlo base:Nat):Zaz (TV×TV×TV×TV×TV×TV×TV×TV×TV×TV×TV×TV×TV×TV×Unit):=
 (Zaj (Zad fun S H k=>
 k (z2 (tN 0)<| stN 14 S) H)
 (Zaj (Zaj (Zad fun S H k=>
 Zaa (lenT (Zak S.1)) fun t10=>
 k (z0 (Zak S.1)<| z7 (Zak S.1)<| z8 t10<| z9 (tN 0)<| stN 14 S) H)
 (Zbd 0 (Zdn (Zaj (Zad fun S H k=>
 Zaa (b2 Zcj (g9 S) (g8 S)) fun t12=>
 k (z10 t12<| stN 14 S) H)
 (Zaj (Zbb (fun S=>some (g10 S))
 (Zam .normal)
 (Zam (.exit 0)))
 (Zaj (Zbd 1 (Zaj (Zad fun S H k=>
 Zaa (Zbn 1 (g7 S) (hush (g9 S))) fun t14=>
 sF tlo base H t14 fun t15 H0=>
 k (z3 (g9 S)<| z4 t15<| z9 (hush (g9 S))<| stN 14 S) H0)
 (Zaj (Zaj (Zad fun S H k=>
 Zaa (lenT (Zab (g1 S))) fun t18=>
 Zaa (b2 evGeq (Zab (g3 S)) t18) fun t19=>
 k (z1 (Zae (g1 S))<| z3 (Zae (g3 S))<| z11 t19<| stN 14 S) H)
 (Zbb (fun S=>some (g11 S))
 (Zaj (Zad fun S H k=>
 k (z2 (tN 1)<| stN 14 S) H)
 (Zam .ret))
 (Zam .normal)))
 (Zaj (Zad fun S H k=>
 Zaa (Zbn 1 (Zab (g1 S)) (Zab (g3 S))) fun t22=>
 sF tlo base H t22 fun t23 H1=>
 k (z1 (Zae (g1 S))<| z3 (Zae (g3 S))<| z5 t23<| stN 14 S) H1)
 (Zaj (Zad fun S H k=>
 Zaa (Zah call 147 [Zak (Zab (g4 S)),Zak (Zab (g5 S))] H) fun t26=>
 k (z4 (Zae (g4 S))<| z5 (Zae (g5 S))<| z6 t26<| stN 14 S) H)
 (Zaj (Zad fun S H k=>
 Zaa (neqT .int (Zab (g6 S)) (tN 0)) fun t28=>
 k (z6 (Zae (g6 S))<| z12 t28<| stN 14 S) H)
 (Zbb (fun S=>some (g12 S))
 (Zaj (Zad fun S H k=>
 k (z2 (g6 S)<| z6 (hush (g6 S))<| stN 14 S) H)
 (Zam .ret))
 (Zam .normal))))))))
 (Zad fun S H k=>
 Zaa (b2 Zbe (g9 S) (tN 1)) fun t30=>
 k (z9 t30<| stN 14 S) H)))) fuel)))
 (Zaj (Zaj (Zad fun S H k=>
 Zaa (lenT (Zab S.1)) fun t32=>
 Zaa (lenT (Zab (g1 S))) fun t34=>
 Zaa (b2 Zcj t32 t34) fun t35=>
 k (z0 (Zae S.1)<| z1 (Zae (g1 S))<| z13 t35<| stN 14 S) H)
 (Zbb (fun S=>some (g13 S))
 (Zaj (Zad fun S H k=>
 k (z2 (.v (.int .i64 (.negSucc 0)))<| stN 14 S) H)
 (Zam .ret))
 (Zam .normal)))
 (Zaj (Zad fun S H k=>
 k (z2 (tN 0)<| stN 14 S) H)
 (Zam .ret)))))
def F78:FnT:=fun call tlo l H=>Zaa (C78 call tlo (Zag H) (Zal l 0,Zal l 1,Zal l 4,Zal l 5,Zal l 6,Zal l 7,Zal l 8,Zal l 9,Zal l 10,Zal l 11,Zal l 12,Zal l 19,Zal l 28,Zal l 35,()) H) fun p=>Zdp p.1 (Zap (Zbu Zbo [p.2.1.2.2.1]) (some (Zdw (Zag H) p.2.1.2.2.1 p.2.2)))
theorem F78_eq:FEq P TC 78 F78:=fun _ _ _ _=>by kernel_rfl
def C85 (call:Zbc) (tlo base:Nat):Zaz (TV×TV×TV×Unit):=
 (Zaj (Zad fun S H k=>
 Zaa (lenT (Zab S.1)) fun t6=>
 k (z0 (Zae S.1)<| z2 t6<| stN 3 S) H)
 (Zad fun S H k=>
 Zdf 2 true S.1 H fun c0 H0=>
 Zaa (b1 (evConv .u64) (Zab (Zak (stale (g2 S))))) fun t10=>
 Zaa (Zah call 150 [Zak t10] H0) fun t11=>
 Zdf 2 true c0 H0 fun c1 H1=>
 Zbr call tlo 151 [c1,tN 0,Zak (Zak (stale (g2 S))),Zak t11,Zak (Zak (stale (g1 S)))] H1 fun t13 H2=>
 k (z0 c0<| z1 (Zak (stale (g1 S)))<| z2 (Zae (Zak (stale (g2 S))))<| stN 3 S) H2))
def F85:FnT:=fun call tlo l H=>Zaa (C85 call tlo (Zag H) (Zal l 0,Zal l 1,Zal l 4,()) H) fun p=>Zdp p.1 (Zap (Zbu Zbo []) (some (Zdw (Zag H) (.tup []) p.2.2)))
theorem F85_eq:FEq P TC 85 F85:=fun _ _ _ _=>by kernel_rfl
def C87 (call:Zbc) (tlo base:Nat):Zaz (TV×Unit):=
 (Zaj (Zad fun S H k=>
 let t0:=(.ptr (Zag H) 0)
 let H0:=(Zaq H (.cells zc24))
 k (z0 t0<| stN 1 S) H0)
 (Zaj (Zad fun S H k=>
 Zaa (Zcx 1 [0] [tN 3] (repG [tN 0] 1)) fun c1=>
 Zaa (Zah call 91 [tN 2,tN 2,Zak (.row .full (.own 3) 1 c1)] H) fun t2=>
 Zaa (Zas tlo base 3 H S.1 t2) fun H2=>
 k (stN 1 S) H2)
 (Zam .ret)))
def F87:FnT:=fun call tlo l H=>Zaa (C87 call tlo (Zag H) (Zal l 0,()) H) fun p=>Zdp p.1 (Zbg .take tlo (Zag p.2.2) true 3 p.2.2 p.2.1.1 fun r0 h0=>Zap (Zbu Zbo [r0]) (some (Zdw (Zag H) r0 h0)))
theorem F87_eq:FEq P TC 87 F87:=fun _ _ _ _=>by kernel_rfl
def C88 (call:Zbc) (tlo base:Nat):Zaz (TV×Unit):=
 (Zaj (Zad fun S H k=>
 let t0:=(.ptr (Zag H) 0)
 let H0:=(Zaq H (.cells zc24))
 k (z0 t0<| stN 1 S) H0)
 (Zaj (Zad fun S H k=>
 Zaa (Zah call 91 [tN 2,tN 2,nilT] H) fun t1=>
 Zaa (Zas tlo base 3 H S.1 t1) fun H1=>
 k (stN 1 S) H1)
 (Zam .ret)))
def F88:FnT:=fun call tlo l H=>Zaa (C88 call tlo (Zag H) (Zal l 0,()) H) fun p=>Zdp p.1 (Zbg .take tlo (Zag p.2.2) true 3 p.2.2 p.2.1.1 fun r0 h0=>Zap (Zbu Zbo [r0]) (some (Zdw (Zag H) r0 h0)))
theorem F88_eq:FEq P TC 88 F88:=fun _ _ _ _=>by kernel_rfl
def C89 (call:Zbc) (tlo base:Nat):Zaz (TV×Unit):=
 (Zaj (Zad fun S H k=>
 let t0:=(.ptr (Zag H) 0)
 let H0:=(Zaq H (.cells zc24))
 k (z0 t0<| stN 1 S) H0)
 (Zaj (Zad fun S H k=>
 Zaa (Zcx 1 [0] [tN 4] (repG [tN 0] 1)) fun c1=>
 Zaa (Zah call 91 [tN 3,tN 3,Zak (.row .full (.own 3) 1 c1)] H) fun t2=>
 Zaa (Zas tlo base 3 H S.1 t2) fun H2=>
 k (stN 1 S) H2)
 (Zam .ret)))
def F89:FnT:=fun call tlo l H=>Zaa (C89 call tlo (Zag H) (Zal l 0,()) H) fun p=>Zdp p.1 (Zbg .take tlo (Zag p.2.2) true 3 p.2.2 p.2.1.1 fun r0 h0=>Zap (Zbu Zbo [r0]) (some (Zdw (Zag H) r0 h0)))
theorem F89_eq:FEq P TC 89 F89:=fun _ _ _ _=>by kernel_rfl
def C90 (call:Zbc) (tlo base:Nat):Zaz (TV×Unit):=
 (Zaj (Zad fun S H k=>
 let t0:=(.ptr (Zag H) 0)
 let H0:=(Zaq H (.cells zc24))
 k (z0 t0<| stN 1 S) H0)
 (Zaj (Zad fun S H k=>
 Zaa (Zah call 91 [tN 3,tN 1,nilT] H) fun t1=>
 Zaa (Zas tlo base 3 H S.1 t1) fun H1=>
 k (stN 1 S) H1)
 (Zam .ret)))
def F90:FnT:=fun call tlo l H=>Zaa (C90 call tlo (Zag H) (Zal l 0,()) H) fun p=>Zdp p.1 (Zbg .take tlo (Zag p.2.2) true 3 p.2.2 p.2.1.1 fun r0 h0=>Zap (Zbu Zbo [r0]) (some (Zdw (Zag H) r0 h0)))
theorem F90_eq:FEq P TC 90 F90:=fun _ _ _ _=>by kernel_rfl
def C91 (call:Zbc) (tlo base:Nat):Zaz (TV×TV×TV×TV×Unit):=
 (Zaj (Zad fun S H k=>
 let t6:=(.ptr (Zag H) 0)
 let H0:=(Zaq H (.cells zc24))
 k (z3 t6<| stN 4 S) H0)
 (Zaj (Zad fun S H k=>
 Zaa (aggT [(0,1,(Zak S.1)),(1,1,(Zak (g1 S))),(2,1,(Zak (g2 S)))] zc24) fun t10=>
 Zaa (Zas tlo base 3 H (g3 S) t10) fun H1=>
 k (z0 (Zak S.1)<| z1 (Zak (g1 S))<| z2 (Zak (g2 S))<| stN 4 S) H1)
 (Zam .ret)))
def F91:FnT:=fun call tlo l H=>Zaa (C91 call tlo (Zag H) (Zal l 0,Zal l 1,Zal l 2,Zal l 6,()) H) fun p=>Zdp p.1 (Zbg .take tlo (Zag p.2.2) true 3 p.2.2 p.2.1.2.2.2.1 fun r0 h0=>Zap (Zbu Zbo [r0]) (some (Zdw (Zag H) r0 h0)))
theorem F91_eq:FEq P TC 91 F91:=fun _ _ _ _=>by kernel_rfl
def C92 (call:Zbc) (tlo base:Nat):Zaz (TV×TV×TV×TV×TV×Unit):=
 (Zaj (Zad fun S H k=>
 k (z1 nilT<| stN 5 S) H)
 (Zaj (Zad fun S H k=>
 k (z2 nilT<| stN 5 S) H)
 (Zaj (Zaj (Zad fun S H k=>
 k (z3 (tN 0)<| stN 5 S) H)
 (Zbd 0 (Zdn (Zaj (Zaj (Zad fun S H k=>
 Zaa (b2 Zbe (Zab (g3 S)) (tN 1)) fun t6=>
 Zaa (lenT (Zab S.1)) fun t8=>
 Zaa (b2 Zcj t6 t8) fun t9=>
 k (z0 (Zae S.1)<| z3 (Zae (g3 S))<| z4 t9<| stN 5 S) H)
 (Zbb (fun S=>some (g4 S))
 (Zam .normal)
 (Zam (.exit 0))))
 (Zaj (Zbd 1 (Zad fun S H k=>
 Zaa (Zbn 1 (Zab S.1) (Zab (g3 S))) fun t15=>
 sF tlo base H t15 fun t16 H0=>
 Zaa (b2 Zbe (Zab (Zae (g3 S))) (tN 1)) fun t19=>
 Zaa (Zbn 1 (Zab (Zae S.1)) t19) fun t20=>
 sF tlo base H0 t20 fun t21 H1=>
 Zaa (aggT [(0,1,t16),(1,1,t21)] zc71) fun t22=>
 Zaa (Zcx 2 [0] [Zak t22] (repG [.agg zc71] 1)) fun c2=>
 Zcm tlo H1 71 2 16 (g2 S) (.row .full (.own 71) 2 c2) fun t24 H3=>
 k (z0 (Zae (Zae S.1))<| z2 t24<| z3 (Zae (Zae (g3 S)))<| stN 5 S) H3))
 (Zad fun S H k=>
 Zaa (b2 Zbe (Zab (g3 S)) (tN 2)) fun t11=>
 k (z3 t11<| stN 5 S) H))) fuel)))
 (Zaj (Zad fun S H k=>
 k (z1 (g2 S)<| z2 (hush (g2 S))<| stN 5 S) H)
 (Zam .ret)))))
def F92:FnT:=fun call tlo l H=>Zaa (C92 call tlo (Zag H) (Zal l 0,Zal l 2,Zal l 3,Zal l 4,Zal l 9,()) H) fun p=>Zdp p.1 (Zap (Zbu Zbo [p.2.1.2.1]) (some (Zdw (Zag H) p.2.1.2.1 p.2.2)))
theorem F92_eq:FEq P TC 92 F92:=fun _ _ _ _=>by kernel_rfl
def C93 (call:Zbc) (tlo base:Nat):Zaz (TV×TV×Unit):=
 (Zaj (Zad fun S H k=>
 k (z1 nilT<| stN 2 S) H)
 (Zaj (Zad fun S H k=>
 k (z0 (hush S.1)<| z1 S.1<| stN 2 S) H)
 (Zam .ret)))
def F93:FnT:=fun call tlo l H=>Zaa (C93 call tlo (Zag H) (Zal l 0,Zal l 2,()) H) fun p=>Zdp p.1 (Zap (Zbu Zbo [p.2.1.2.1]) (some (Zdw (Zag H) p.2.1.2.1 p.2.2)))
theorem F93_eq:FEq P TC 93 F93:=fun _ _ _ _=>by kernel_rfl
def C94 (call:Zbc) (tlo base:Nat):Zaz (TV×TV×TV×TV×TV×TV×TV×TV×TV×TV×TV×TV×TV×TV×TV×TV×TV×TV×TV×TV×TV×TV×Unit):=
 (Zaj (Zad fun S H k=>
 Zap (stor S.1)<|
 let t1:=(.ptr (Zag H) 0)
 let H0:=(Zaq H (.cells (Zav S.1)))
 let t2:=(.ptr (Zag H0) 0)
 let H1:=(Zaq H0 (.cells Zdb))
 k (z0 (hush S.1)<| z1 t1<| z2 t2<| z3 (tN 0)<| stN 22 S) H1)
 (Zaj (Zbd 0 (Zaj (Zad fun S H k=>
 Zaa (Zar (g1 S) 0) fun t11=>
 lF tlo base H t11 fun t12 H2=>
 Zaa (b2 Zcj t12 (tN 1)) fun t13=>
 gB t13 false (Zar (g1 S) 0) H2 fun t15 H3=>
 Zbk (Zab t13) false (lF tlo base H3 t15 fun g4 H4=>Zbt g4 H4) H3 fun t16 H5=>
 gB t13 false (b2 evGtr t16 (tN 8)) H5 fun t17 H6=>
 Zaa (Zch (Zab t13) (tB true) (Zak t17)) fun t18=>
 gB t18 false (Zar (g1 S) 1) H6 fun t20 H7=>
 Zbk (Zab t18) false (lF tlo base H7 t20 fun g8 H8=>Zbt g8 H8) H7 fun t21 H9=>
 gB t18 false (b2 Zcj t21 (tN 1)) H9 fun t22 H10=>
 Zaa (Zch (Zab t18) (tB true) (Zak t22)) fun t23=>
 gB t23 false (Zar (g1 S) 1) H10 fun t25 H11=>
 Zbk (Zab t23) false (lF tlo base H11 t25 fun g12 H12=>Zbt g12 H12) H11 fun t26 H13=>
 gB t23 false (b2 evGtr t26 (tN 8)) H13 fun t27 H14=>
 Zaa (Zch (Zab t23) (tB true) (Zak t27)) fun t28=>
 k (z9 t28<| stN 22 S) H14)
 (Zbb (fun S=>some (g9 S))
 (Zaj (Zad fun S H k=>
 Zaa (aggT [] Zdb) fun t29=>
 Zaa (Zas tlo base 19 H (g2 S) t29) fun H15=>
 k (z3 (tN 1)<| stN 22 S) H15)
 (Zam .ret))
 (Zaj (Zad fun S H k=>
 Zaa (Zar (g1 S) 0) fun t31=>
 lF tlo base H t31 fun t32 H16=>
 Zaa (Zar (g1 S) 1) fun t33=>
 lF tlo base H16 t33 fun t34 H17=>
 Zaa (b2 evMul t32 t34) fun t35=>
 Zaa (b2 evGtr t35 (tN 16)) fun t36=>
 k (z10 t36<| stN 22 S) H17)
 (Zbb (fun S=>some (g10 S))
 (Zaj (Zad fun S H k=>
 Zaa (aggT [] Zdb) fun t37=>
 Zaa (Zas tlo base 19 H (g2 S) t37) fun H18=>
 k (z3 (tN 3)<| stN 22 S) H18)
 (Zam .ret))
 (Zam .normal))))))
 (Zaj (Zad fun S H k=>
 Zaa (Zar (g1 S) 0) fun t38=>
 lF tlo base H t38 fun t39 H19=>
 Zaa (Zar (g1 S) 1) fun t40=>
 lF tlo base H19 t40 fun t41 H20=>
 Zaa (b2 evMul t39 t41) fun t42=>
 k (z4 t42<| stN 22 S) H20)
 (Zaj (Zad fun S H k=>
 Zaa (Zar (g1 S) 0) fun t43=>
 sF tlo base H t43 fun t44 H21=>
 Zaa (Zar (g1 S) 1) fun t45=>
 sF tlo base H21 t45 fun t46 H22=>
 Zaa (b2 evShl (.v (.int .u64 (.ofNat 1))) (Zab (g4 S))) fun t48=>
 Zaa (b2 Zcl t48 (.v (.int .u64 (.ofNat 1)))) fun t49=>
 Zaa (aggT [(0,1,t44),(1,1,t46),(2,1,t49)] Zdb) fun t50=>
 let t5:=(.ptr (Zag H22) 0)
 let H23:=(Zaq H22 (.cells Zdb))
 Zaa (Zas tlo base 19 H23 t5 t50) fun H24=>
 k (z4 (Zae (g4 S))<| z5 t5<| stN 22 S) H24)
 (Zaj (Zad fun S H k=>
 k (z6 (.v (.int .i64 (.negSucc 0)))<| stN 22 S) H)
 (Zaj (Zaj (Zad fun S H k=>
 Zaa (Zar (g1 S) 2) fun t51=>
 sF tlo base H t51 fun t52 H25=>
 Zaa (lenT t52) fun t53=>
 k (z11 t52<| z12 t53<| z13 (tN 0)<| stN 22 S) H25)
 (Zbd 1 (Zdn (Zaj (Zad fun S H k=>
 Zaa (b2 Zcj (g13 S) (g12 S)) fun t55=>
 k (z14 t55<| stN 22 S) H)
 (Zaj (Zbb (fun S=>some (g14 S))
 (Zam .normal)
 (Zam (.exit 1)))
 (Zaj (Zbd 2 (Zaj (Zad fun S H k=>
 Zaa (Zbn 1 (g11 S) (g13 S)) fun t56=>
 sF tlo base H t56 fun t57 H26=>
 k (z7 t57<| stN 22 S) H26)
 (Zaj (Zbd 3 (Zaj (Zad fun S H k=>
 Zaa (b2 Zcj (Zab (g7 S)) (tN 0)) fun t60=>
 gV t60 false (Zab (Zae (g7 S))) H fun t62 H27=>
 gV t60 false (Zab (g4 S)) H27 fun t63 H28=>
 gB t60 false (b2 evGeq t62 t63) H28 fun t64 H29=>
 Zaa (Zch (Zab t60) (tB true) (Zak t64)) fun t65=>
 k (z4 (Zae (g4 S))<| z7 (Zae (Zae (g7 S)))<| z15 t65<| stN 22 S) H29)
 (Zbb (fun S=>some (g15 S))
 (Zaj (Zad fun S H k=>
 Zaa (aggT [] Zdb) fun t66=>
 Zaa (Zas tlo base 19 H (g2 S) t66) fun H30=>
 k (z3 (tN 2)<| stN 22 S) H30)
 (Zam .ret))
 (Zaj (Zad fun S H k=>
 Zaa (b2 evLeq (Zab (g7 S)) (Zab (g6 S))) fun t70=>
 k (z6 (Zae (g6 S))<| z7 (Zae (g7 S))<| z16 t70<| stN 22 S) H)
 (Zbb (fun S=>some (g16 S))
 (Zaj (Zad fun S H k=>
 Zaa (aggT [] Zdb) fun t71=>
 Zaa (Zas tlo base 19 H (g2 S) t71) fun H31=>
 k (z3 (tN 7)<| stN 22 S) H31)
 (Zam .ret))
 (Zam .normal))))))
 (Zaj (Zad fun S H k=>
 Zaa (Zar (g5 S) 2) fun t72=>
 lF tlo base H t72 fun t73 H32=>
 Zaa (b2 evShl (.v (.int .u64 (.ofNat 1))) (Zab (g7 S))) fun t75=>
 Zaa (b2 Zdd t73 t75) fun t76=>
 Zaa (Zar (g5 S) 2) fun t77=>
 Zaa (Zas tlo base 1 H32 t77 t76) fun H33=>
 k (z7 (Zae (g7 S))<| stN 22 S) H33)
 (Zad fun S H k=>
 k (z6 (g7 S)<| z7 (hush (g7 S))<| stN 22 S) H)))))
 (Zad fun S H k=>
 Zaa (b2 Zbe (g13 S) (tN 1)) fun t79=>
 k (z13 t79<| stN 22 S) H)))) fuel)))
 (Zaj (Zaj (Zad fun S H k=>
 k (z4 (Zak (g4 S))<| z17 (Zak (g4 S))<| z18 (tN 0)<| stN 22 S) H)
 (Zbd 4 (Zdn (Zaj (Zad fun S H k=>
 Zaa (b2 Zcj (g18 S) (g17 S)) fun t82=>
 k (z19 t82<| stN 22 S) H)
 (Zaj (Zbb (fun S=>some (g19 S))
 (Zam .normal)
 (Zam (.exit 4)))
 (Zaj (Zbd 5 (Zaj (Zad fun S H k=>
 k (z8 (g18 S)<| z18 (hush (g18 S))<| stN 22 S) H)
 (Zaj (Zaj (Zad fun S H k=>
 Zaa (Zar (g1 S) 0) fun t85=>
 lF tlo base H t85 fun t86 H34=>
 Zaa (b2 evRem (Zab (g8 S)) t86) fun t87=>
 Zaa (b2 evGtr t87 (tN 0)) fun t88=>
 k (z8 (Zae (g8 S))<| z20 t88<| stN 22 S) H34)
 (Zbb (fun S=>some (g20 S))
 (Zad fun S H k=>
 Zaa (b2 Zcl (Zab (g8 S)) (tN 1)) fun t90=>
 Zbr call tlo 152 [Zak (g5 S),Zak t90,Zak (Zak (Zae (g8 S)))] H fun t92 H35=>
 k (z5 (Zak (g5 S))<| z8 (Zak (Zae (g8 S)))<| stN 22 S) H35)
 (Zam .normal)))
 (Zaj (Zad fun S H k=>
 Zaa (Zar (g1 S) 0) fun t94=>
 lF tlo base H t94 fun t95 H36=>
 Zaa (b2 evGeq (Zab (g8 S)) t95) fun t96=>
 k (z8 (Zae (g8 S))<| z21 t96<| stN 22 S) H36)
 (Zbb (fun S=>some (g21 S))
 (Zad fun S H k=>
 Zaa (Zar (g1 S) 0) fun t98=>
 lF tlo base H t98 fun t99 H37=>
 Zaa (b2 Zcl (Zab (g8 S)) t99) fun t100=>
 Zbr call tlo 152 [Zak (g5 S),Zak t100,Zak (Zak (Zae (g8 S)))] H37 fun t102 H38=>
 k (z5 (Zak (g5 S))<| z8 (Zak (Zae (g8 S)))<| stN 22 S) H38)
 (Zam .normal))))))
 (Zad fun S H k=>
 Zaa (b2 Zbe (g18 S) (tN 1)) fun t103=>
 k (z18 t103<| stN 22 S) H)))) fuel)))
 (Zaj (Zad fun S H k=>
 sA tlo base 19 H (g5 S) fun t104 H39=>
 Zaa (Zas tlo base 19 H39 (g2 S) t104) fun H40=>
 k (z3 (tN 0)<| stN 22 S) H40)
 (Zam .ret)))))))))
def F94:FnT:=fun call tlo l H=>Zaa (C94 call tlo (Zag H) (Zal l 0,Zal l 1,Zal l 2,Zal l 3,Zal l 4,Zal l 5,Zal l 6,Zal l 8,Zal l 9,Zal l 10,Zal l 30,Zal l 52,Zal l 53,Zal l 54,Zal l 55,Zal l 58,Zal l 67,Zal l 80,Zal l 81,Zal l 82,Zal l 88,Zal l 96,()) H) fun p=>Zdp p.1 (Zbg .take tlo (Zag p.2.2) true 19 p.2.2 p.2.1.2.2.1 fun r0 h0=>Zap (Zbu Zbo [r0,p.2.1.2.2.2.1]) (some (Zdw (Zag H) (.tup [r0,p.2.1.2.2.2.1]) h0)))
theorem F94_eq:FEq P TC 94 F94:=fun _ _ _ _=>by kernel_rfl
def C95 (call:Zbc) (tlo base:Nat):Zaz (TV×TV×TV×TV×TV×TV×TV×TV×TV×TV×TV×TV×TV×TV×TV×TV×TV×TV×TV×Unit):=
 (Zaj (Zad fun S H k=>
 Zap (stor S.1)<|
 let t2:=(.ptr (Zag H) 0)
 let H0:=(Zaq H (.cells (Zav S.1)))
 Zap (stor (g1 S))<|
 let t3:=(.ptr (Zag H0) 0)
 let H1:=(Zaq H0 (.cells (Zav (g1 S))))
 k (z0 (hush S.1)<| z1 (hush (g1 S))<| z2 t2<| z3 t3<| z4 (tN 0)<| stN 19 S) H1)
 (Zaj (Zad fun S H k=>
 let t5:=(.ptr (Zag H) 0)
 let H2:=(Zaq H (.cells zc158))
 k (z5 t5<| stN 19 S) H2)
 (Zaj (Zaj (Zad fun S H k=>
 k (z11 (tN 0)<| stN 19 S) H)
 (Zbd 0 (Zdn (Zaj (Zad fun S H k=>
 Zaa (b2 Zcj (g11 S) (tN 16)) fun t13=>
 k (z12 t13<| stN 19 S) H)
 (Zaj (Zbb (fun S=>some (g12 S))
 (Zam .normal)
 (Zam (.exit 0)))
 (Zaj (Zbd 1 (Zaj (Zad fun S H k=>
 k (z6 (g11 S)<| z11 (hush (g11 S))<| stN 19 S) H)
 (Zad fun S H k=>
 Zdf 0 false (g5 S) H fun c3 H3=>
 Zaa (Zbj 16 1 c3 (Zab (g6 S))) fun t16=>
 Zaa (Zas tlo base 1 H3 t16 (.v (.int .i64 (.negSucc 0)))) fun H4=>
 k (z5 c3<| z6 (Zae (g6 S))<| stN 19 S) H4)))
 (Zad fun S H k=>
 Zaa (b2 Zbe (g11 S) (tN 1)) fun t17=>
 k (z11 t17<| stN 19 S) H)))) fuel)))
 (Zaj (Zad fun S H k=>
 k (z7 (tN 0)<| stN 19 S) H)
 (Zaj (Zad fun S H k=>
 let t8:=(.ptr (Zag H) 0)
 let H5:=(Zaq H (.cells [.v (.int .u64 (.ofNat 0))]))
 Zaa (Zas tlo base 1 H5 t8 (.v (.int .u64 (.ofNat 0)))) fun H6=>
 k (z8 t8<| stN 19 S) H6)
 (Zaj (Zad fun S H k=>
 let t9:=(.ptr (Zag H) 0)
 let H7:=(Zaq H (.cells [.v .nilFunc]))
 k (z9 t9<| stN 19 S) H7)
 (Zaj (Zad fun S H k=>
 Zap (Zbu pass [Zak (g2 S),Zak (g3 S),Zak (g8 S),Zak (g5 S),Zak (g9 S)])<|
 Zaa (Zas tlo base 1 H (Zak (g9 S)) (.fn (.func 153) [] [Zak (g2 S),Zak (g3 S),Zak (g8 S),Zak (g5 S),Zak (g9 S)])) fun H8=>
 k (z2 (Zak (g2 S))<| z3 (Zak (g3 S))<| z5 (Zak (g5 S))<| z8 (Zak (g8 S))<| z9 (Zak (g9 S))<| stN 19 S) H8)
 (Zaj (Zaj (Zad fun S H k=>
 lF tlo base H (g3 S) fun t19 H9=>
 Zaa (Zah call 100 [Zak t19] H9) fun t20=>
 Zaa (lenT t20) fun t21=>
 k (z13 t20<| z14 t21<| z15 (tN 0)<| stN 19 S) H9)
 (Zbd 2 (Zdn (Zaj (Zad fun S H k=>
 Zaa (b2 Zcj (g15 S) (g14 S)) fun t23=>
 k (z16 t23<| stN 19 S) H)
 (Zaj (Zbb (fun S=>some (g16 S))
 (Zam .normal)
 (Zam (.exit 2)))
 (Zaj (Zbd 3 (Zaj (Zad fun S H k=>
 Zaa (Zbn 1 (g13 S) (g15 S)) fun t24=>
 sF tlo base H t24 fun t25 H10=>
 k (z10 t25<| stN 19 S) H10)
 (Zaj (Zaj (Zad fun S H k=>
 lA tlo base 19 H (g2 S) fun t26 H11=>
 Zaa (Zah call 154 [Zak t26,Zak (Zab (g10 S))] H11) fun t28=>
 k (z10 (Zae (g10 S))<| z17 t28<| stN 19 S) H11)
 (Zbb (fun S=>some (g17 S))
 (Zam (.exit 3))
 (Zam .normal)))
 (Zaj (Zad fun S H k=>
 Zaa (Zas tlo base 1 H (g8 S) (.v (.int .u64 (.ofNat 0)))) fun H12=>
 k (stN 19 S) H12)
 (Zaj (Zad fun S H k=>
 lF tlo base H (g9 S) fun t29 H13=>
 Zdc TC call tlo t29 [Zak (Zak (g10 S))] H13 fun t31 H14=>
 k (z10 (Zak (g10 S))<| z18 t31<| stN 19 S) H14)
 (Zbb (fun S=>some (g18 S))
 (Zad fun S H k=>
 Zaa (b2 Zbe (Zab (g7 S)) (tN 1)) fun t33=>
 k (z7 t33<| stN 19 S) H)
 (Zam .normal)))))))
 (Zad fun S H k=>
 Zaa (b2 Zbe (g15 S) (tN 1)) fun t34=>
 k (z15 t34<| stN 19 S) H)))) fuel)))
 (Zaj (Zad fun S H k=>
 k (z4 (g7 S)<| z7 (hush (g7 S))<| stN 19 S) H)
 (Zam .ret))))))))))
def F95:FnT:=fun call tlo l H=>Zaa (C95 call tlo (Zag H) (Zal l 0,Zal l 1,Zal l 2,Zal l 3,Zal l 4,Zal l 5,Zal l 6,Zal l 7,Zal l 8,Zal l 9,Zal l 11,Zal l 12,Zal l 13,Zal l 20,Zal l 21,Zal l 22,Zal l 23,Zal l 28,Zal l 31,()) H) fun p=>Zdp p.1 (Zap (Zbu Zbo [p.2.1.2.2.2.2.1]) (some (Zdw (Zag H) p.2.1.2.2.2.2.1 p.2.2)))
theorem F95_eq:FEq P TC 95 F95:=fun _ _ _ _=>by kernel_rfl
def C97 (call:Zbc) (tlo base:Nat):Zaz (TV×TV×TV×TV×TV×TV×TV×TV×TV×TV×TV×TV×TV×TV×Unit):=
 (Zaj (Zad fun S H k=>
 Zap (stor S.1)<|
 let t2:=(.ptr (Zag H) 0)
 let H0:=(Zaq H (.cells (Zav S.1)))
 k (z0 (hush S.1)<| z2 t2<| z3 nilT<| stN 14 S) H0)
 (Zaj (Zad fun S H k=>
 k (z4 nilT<| stN 14 S) H)
 (Zaj (Zad fun S H k=>
 lA tlo base 19 H (g2 S) fun t10 H1=>
 Zaa (Zah call 95 [Zak t10,Zak (Zab (g1 S))] H1) fun t12=>
 k (z1 (Zae (g1 S))<| z5 t12<| stN 14 S) H1)
 (Zaj (Zam .normal)
 (Zaj (Zbd 0 (Zdn (Zaj (Zaj (Zad fun S H k=>
 Zaa (neqT .int (Zab (g1 S)) (.v (.int .u64 (.ofNat 0)))) fun t14=>
 k (z1 (Zae (g1 S))<| z8 t14<| stN 14 S) H)
 (Zbb (fun S=>some (g8 S))
 (Zam .normal)
 (Zam (.exit 0))))
 (Zbd 1 (Zaj (Zad fun S H k=>
 Zaa (Zah call 156 [Zak (Zab (g1 S))] H) fun t16=>
 k (z1 (Zae (g1 S))<| z6 t16<| stN 14 S) H)
 (Zaj (Zad fun S H k=>
 Zaa (b2 evShl (.v (.int .u64 (.ofNat 1))) (Zab (g6 S))) fun t19=>
 Zaa (b2 Zdd (Zab (g1 S)) t19) fun t20=>
 k (z1 t20<| z6 (Zae (g6 S))<| stN 14 S) H)
 (Zaj (Zad fun S H k=>
 Zaa (Zar (g2 S) 3) fun t22=>
 Zaa (Zbj 16 1 t22 (Zab (g6 S))) fun t23=>
 lF tlo base H t23 fun t24 H2=>
 Zaa (b2 evAnd t24 (Zab (g1 S))) fun t26=>
 Zaa (Zah call 100 [Zak t26] H2) fun t27=>
 Zaa (lenT t27) fun t28=>
 k (z1 (Zae (g1 S))<| z6 (Zae (g6 S))<| z9 t27<| z10 t28<| z11 (tN 0)<| stN 14 S) H2)
 (Zbd 2 (Zdn (Zaj (Zad fun S H k=>
 Zaa (b2 Zcj (g11 S) (g10 S)) fun t30=>
 k (z12 t30<| stN 14 S) H)
 (Zaj (Zbb (fun S=>some (g12 S))
 (Zam .normal)
 (Zam (.exit 2)))
 (Zaj (Zbd 3 (Zaj (Zad fun S H k=>
 Zaa (Zbn 1 (g9 S) (g11 S)) fun t31=>
 sF tlo base H t31 fun t32 H3=>
 k (z7 t32<| stN 14 S) H3)
 (Zaj (Zad fun S H k=>
 lA tlo base 19 H (g2 S) fun t33 H4=>
 Zaa (b2 evShl (.v (.int .u64 (.ofNat 1))) (Zab (g7 S))) fun t36=>
 Zaa (b2 Zdd (Zab (g1 S)) t36) fun t37=>
 Zaa (Zah call 95 [Zak t33,Zak t37] H4) fun t38=>
 Zaa (b2 Zcl (Zab (g5 S)) (tN 1)) fun t40=>
 Zaa (eqlT .int t38 t40) fun t41=>
 k (z1 (Zae (g1 S))<| z5 (Zae (g5 S))<| z7 (Zae (g7 S))<| z13 t41<| stN 14 S) H4)
 (Zbb (fun S=>some (g13 S))
 (Zaj (Zad fun S H k=>
 Zaa (b2 evShl (.v (.int .u64 (.ofNat 1))) (Zab (g7 S))) fun t44=>
 Zaa (b2 Zdd (Zab (g1 S)) t44) fun t45=>
 k (z1 t45<| z7 (Zae (g7 S))<| stN 14 S) H)
 (Zaj (Zad fun S H k=>
 Zaa (b2 Zcl (Zab (g5 S)) (tN 1)) fun t47=>
 k (z5 t47<| stN 14 S) H)
 (Zaj (Zad fun S H k=>
 Zaa (aggT [(0,1,(Zak (g6 S))),(1,1,(Zak (g7 S)))] zc71) fun t51=>
 Zaa (Zcx 2 [0] [Zak t51] (repG [.agg zc71] 1)) fun c5=>
 Zcm tlo H 71 2 16 (g4 S) (.row .full (.own 71) 2 c5) fun t53 H6=>
 k (z4 t53<| z6 (Zak (g6 S))<| z7 (Zak (g7 S))<| stN 14 S) H6)
 (Zam (.exit 1)))))
 (Zam .normal)))))
 (Zad fun S H k=>
 Zaa (b2 Zbe (g11 S) (tN 1)) fun t54=>
 k (z11 t54<| stN 14 S) H)))) fuel))))))) fuel))
 (Zaj (Zad fun S H k=>
 k (z3 (g4 S)<| z4 (hush (g4 S))<| stN 14 S) H)
 (Zam .ret)))))))
def F97:FnT:=fun call tlo l H=>Zaa (C97 call tlo (Zag H) (Zal l 0,Zal l 1,Zal l 2,Zal l 4,Zal l 5,Zal l 6,Zal l 7,Zal l 9,Zal l 14,Zal l 27,Zal l 28,Zal l 29,Zal l 30,Zal l 41,()) H) fun p=>Zdp p.1 (Zap (Zbu Zbo [p.2.1.2.2.2.1]) (some (Zdw (Zag H) p.2.1.2.2.2.1 p.2.2)))
theorem F97_eq:FEq P TC 97 F97:=fun _ _ _ _=>by kernel_rfl
end
end Go.Proofs.YtgemobbfikjmoaaGreatDoor
namespace Go.Proofs.YtgemobbfikjmoaaGreatDoor
open Go Go.Ev
set_option maxRecDepth 1000000
set_option linter.unusedVariables false
noncomputable section
def C98 (call:Zbc) (tlo base:Nat):Zaz (TV×TV×TV×TV×TV×TV×TV×TV×TV×TV×TV×TV×TV×TV×TV×TV×TV×TV×TV×TV×Unit):=
 (Zaj (Zad fun S H k=>
 Zap (stor S.1)<|
 let t3:=(.ptr (Zag H) 0)
 let H0:=(Zaq H (.cells (Zav S.1)))
 let t6:=(.ptr (Zag H0) 0)
 let H1:=(Zaq H0 (.cells zc111))
 k (z0 (hush S.1)<| z3 t3<| z4 t6<| stN 20 S) H1)
 (Zaj (Zaj (Zad fun S H k=>
 Zaa (eqlT .int (Zab (g1 S)) (.v (.int .u64 (.ofNat 0)))) fun t16=>
 k (z1 (Zae (g1 S))<| z12 t16<| stN 20 S) H)
 (Zbb (fun S=>some (g12 S))
 (Zaj (Zad fun S H k=>
 Zaa (aggT [(0,1,(tN 0)),(1,1,(tN 1))] zc111) fun t17=>
 Zaa (Zas tlo base 2 H (g4 S) t17) fun H2=>
 k (stN 20 S) H2)
 (Zam .ret))
 (Zam .normal)))
 (Zaj (Zaj (Zad fun S H k=>
 Zaa (lookupT H .int (.agg zc111) (Zab (g2 S)) (Zab (g1 S)) true) fun t21=>
 Zaf (Zbq (Zab t21) 0) fun c3=>
 Zaf (Zbq (Zba (Zab t21) 0) 1) fun c4=>
 let t7:=(.ptr (Zag H) 0)
 let H5:=(Zaq H (.cells zc111))
 Zaa (Zas tlo base 2 H5 t7 c3) fun H6=>
 k (z1 (Zae (g1 S))<| z2 (Zae (g2 S))<| z5 t7<| z6 c4<| stN 20 S) H6)
 (Zaj (Zad fun S H k=>
 k (z6 (Zak (g6 S))<| z13 (Zak (g6 S))<| stN 20 S) H)
 (Zbb (fun S=>some (g13 S))
 (Zaj (Zad fun S H k=>
 sA tlo base 2 H (g5 S) fun t25 H7=>
 Zaa (Zas tlo base 2 H7 (g4 S) t25) fun H8=>
 k (stN 20 S) H8)
 (Zam .ret))
 (Zam .normal))))
 (Zaj (Zad fun S H k=>
 Zaa (Zah call 156 [Zak (Zab (g1 S))] H) fun t27=>
 k (z1 (Zae (g1 S))<| z7 t27<| stN 20 S) H)
 (Zaj (Zad fun S H k=>
 Zaa (b2 evShl (.v (.int .u64 (.ofNat 1))) (Zab (g7 S))) fun t30=>
 Zaa (b2 Zdd (Zab (g1 S)) t30) fun t31=>
 k (z1 (Zae (g1 S))<| z7 (Zae (g7 S))<| z8 t31<| stN 20 S) H)
 (Zaj (Zad fun S H k=>
 sA tlo base 19 H (g3 S) fun t32 H9=>
 Zbr call tlo 98 [Zak t32,Zak (Zak (g8 S)),Zak (Zak (g2 S))] H9 fun t35 H10=>
 let t11:=(.ptr (Zag H10) 0)
 let H11:=(Zaq H10 (.cells zc111))
 Zaa (Zas tlo base 2 H11 t11 t35) fun H12=>
 k (z2 (Zak (g2 S))<| z8 (Zak (g8 S))<| z9 t11<| stN 20 S) H12)
 (Zaj (Zaj (Zad fun S H k=>
 Zaa (Zar (g3 S) 3) fun t37=>
 Zaa (Zbj 16 1 t37 (Zab (g7 S))) fun t38=>
 lF tlo base H t38 fun t39 H13=>
 Zaa (b2 evAnd t39 (Zab (g8 S))) fun t41=>
 Zaa (Zah call 100 [Zak t41] H13) fun t42=>
 Zaa (lenT t42) fun t43=>
 k (z7 (Zae (g7 S))<| z8 (Zae (g8 S))<| z14 t42<| z15 t43<| z16 (tN 0)<| stN 20 S) H13)
 (Zbd 0 (Zdn (Zaj (Zad fun S H k=>
 Zaa (b2 Zcj (g16 S) (g15 S)) fun t45=>
 k (z17 t45<| stN 20 S) H)
 (Zaj (Zbb (fun S=>some (g17 S))
 (Zam .normal)
 (Zam (.exit 0)))
 (Zaj (Zbd 1 (Zaj (Zad fun S H k=>
 Zaa (Zbn 1 (g14 S) (g16 S)) fun t46=>
 sF tlo base H t46 fun t47 H14=>
 k (z10 t47<| stN 20 S) H14)
 (Zaj (Zad fun S H k=>
 sA tlo base 19 H (g3 S) fun t48 H15=>
 Zaa (b2 evShl (.v (.int .u64 (.ofNat 1))) (Zab (g10 S))) fun t51=>
 Zaa (b2 Zdd (Zab (g8 S)) t51) fun t52=>
 Zbr call tlo 98 [Zak t48,Zak t52,Zak (Zak (g2 S))] H15 fun t54 H16=>
 let t14:=(.ptr (Zag H16) 0)
 let H17:=(Zaq H16 (.cells zc111))
 Zaa (Zas tlo base 2 H17 t14 t54) fun H18=>
 k (z2 (Zak (g2 S))<| z8 (Zae (g8 S))<| z10 (Zae (g10 S))<| z11 t14<| stN 20 S) H18)
 (Zaj (Zad fun S H k=>
 Zaa (Zar (g11 S) 0) fun t55=>
 lF tlo base H t55 fun t56 H19=>
 Zaa (b2 Zbe t56 (tN 1)) fun t57=>
 Zaa (Zar (g11 S) 0) fun t58=>
 Zaa (Zas tlo base 1 H19 t58 t57) fun H20=>
 k (stN 20 S) H20)
 (Zbd 2 (Zaj (Zad fun S H k=>
 Zaa (Zar (g11 S) 0) fun t60=>
 lF tlo base H t60 fun t61 H21=>
 Zaa (Zar (g9 S) 0) fun t62=>
 lF tlo base H21 t62 fun t63 H22=>
 Zaa (b2 evGtr t61 t63) fun t64=>
 k (z18 t64<| stN 20 S) H22)
 (Zbb (fun S=>some (g18 S))
 (Zad fun S H k=>
 sA tlo base 2 H (g11 S) fun t65 H23=>
 Zaa (Zas tlo base 2 H23 (g9 S) t65) fun H24=>
 k (stN 20 S) H24)
 (Zaj (Zad fun S H k=>
 Zaa (Zar (g11 S) 0) fun t67=>
 lF tlo base H t67 fun t68 H25=>
 Zaa (Zar (g9 S) 0) fun t69=>
 lF tlo base H25 t69 fun t70 H26=>
 Zaa (eqlT .int t68 t70) fun t71=>
 k (z19 t71<| stN 20 S) H26)
 (Zbb (fun S=>some (g19 S))
 (Zad fun S H k=>
 Zaa (Zar (g9 S) 1) fun t72=>
 lF tlo base H t72 fun t73 H27=>
 Zaa (Zar (g11 S) 1) fun t74=>
 lF tlo base H27 t74 fun t75 H28=>
 Zaa (b2 Zbe t73 t75) fun t76=>
 Zaa (Zar (g9 S) 1) fun t77=>
 Zaa (Zas tlo base 1 H28 t77 t76) fun H29=>
 k (stN 20 S) H29)
 (Zam .normal))))))))))
 (Zad fun S H k=>
 Zaa (b2 Zbe (g16 S) (tN 1)) fun t78=>
 k (z16 t78<| stN 20 S) H)))) fuel)))
 (Zaj (Zad fun S H k=>
 sA tlo base 2 H (g9 S) fun t81 H30=>
 Zaa (updateT tlo H30 .int (Zab (g2 S)) (Zab (g1 S)) (Zak t81)) fun H31=>
 k (z1 (Zae (g1 S))<| z2 (Zae (g2 S))<| stN 20 S) H31)
 (Zaj (Zad fun S H k=>
 sA tlo base 2 H (g9 S) fun t82 H32=>
 Zaa (Zas tlo base 2 H32 (g4 S) t82) fun H33=>
 k (stN 20 S) H33)
 (Zam .ret))))))))))
def F98:FnT:=fun call tlo l H=>Zaa (C98 call tlo (Zag H) (Zal l 0,Zal l 1,Zal l 2,Zal l 3,Zal l 6,Zal l 7,Zal l 8,Zal l 9,Zal l 10,Zal l 11,Zal l 13,Zal l 14,Zal l 16,Zal l 24,Zal l 42,Zal l 43,Zal l 44,Zal l 45,Zal l 59,Zal l 66,()) H) fun p=>Zdp p.1 (Zbg .take tlo (Zag p.2.2) true 2 p.2.2 p.2.1.2.2.2.2.1 fun r0 h0=>Zap (Zbu Zbo [r0]) (some (Zdw (Zag H) r0 h0)))
theorem F98_eq:FEq P TC 98 F98:=fun _ _ _ _=>by kernel_rfl
def C99 (call:Zbc) (tlo base:Nat):Zaz (TV×TV×TV×TV×TV×TV×TV×TV×TV×Unit):=
 (Zaj (Zad fun S H k=>
 k (z2 nilT<| stN 9 S) H)
 (Zaj (Zad fun S H k=>
 Zbr call tlo 138 [Zak (Zak S.1),Zak (Zak (g1 S))] H fun t10 H0=>
 k (z0 (Zak S.1)<| z1 (Zak (g1 S))<| z3 t10<| stN 9 S) H0)
 (Zaj (Zaj (Zad fun S H k=>
 Zaa (eqlT .int (Zab (g3 S)) (.v (.int .i64 (.negSucc 0)))) fun t12=>
 k (z3 (Zae (g3 S))<| z6 t12<| stN 9 S) H)
 (Zbb (fun S=>some (g6 S))
 (Zaj (Zad fun S H k=>
 k (z0 (hush S.1)<| z2 S.1<| stN 9 S) H)
 (Zam .ret))
 (Zam .normal)))
 (Zaj (Zaj (Zad fun S H k=>
 Zaa (b2 Zbe (Zab (g3 S)) (tN 1)) fun t15=>
 k (z3 (Zae (g3 S))<| z4 t15<| stN 9 S) H)
 (Zbd 0 (Zdn (Zaj (Zaj (Zad fun S H k=>
 Zaa (lenT (Zab S.1)) fun t18=>
 Zaa (b2 Zcj (Zab (g4 S)) t18) fun t19=>
 k (z0 (Zae S.1)<| z4 (Zae (g4 S))<| z7 t19<| stN 9 S) H)
 (Zbb (fun S=>some (g7 S))
 (Zam .normal)
 (Zam (.exit 0))))
 (Zaj (Zbd 1 (Zaj (Zad fun S H k=>
 Zaa (Zbn 1 (Zab S.1) (Zab (g4 S))) fun t24=>
 sF tlo base H t24 fun t25 H1=>
 k (z0 (Zae S.1)<| z4 (Zae (g4 S))<| z5 t25<| stN 9 S) H1)
 (Zaj (Zad fun S H k=>
 Zdc TC call tlo (Zab (g1 S)) [Zak (Zak (g5 S))] H fun t28 H2=>
 Zaa (b1 evNot t28) fun t29=>
 k (z1 (Zae (g1 S))<| z5 (Zak (g5 S))<| z8 t29<| stN 9 S) H2)
 (Zbb (fun S=>some (g8 S))
 (Zaj (Zad fun S H k=>
 Zdf 1 false S.1 H fun c3 H3=>
 Zdf 1 false c3 H3 fun c4 H4=>
 Zaa (Zbn 1 c4 (Zab (stale (g3 S)))) fun t33=>
 Zaa (Zas tlo base 1 H4 t33 (stale (Zak (stale (g5 S))))) fun H5=>
 k (z0 c3<| z3 (Zae (stale (g3 S)))<| z5 (Zak (stale (g5 S)))<| stN 9 S) H5)
 (Zad fun S H k=>
 Zaa (b2 Zbe (Zab (g3 S)) (tN 1)) fun t35=>
 k (z3 t35<| stN 9 S) H))
 (Zam .normal)))))
 (Zad fun S H k=>
 Zaa (b2 Zbe (Zab (g4 S)) (tN 1)) fun t21=>
 k (z4 t21<| stN 9 S) H))) fuel)))
 (Zaj (Zad fun S H k=>
 Zaa (cutT 1 (Zab S.1) (some (Zab (g3 S))) none none) fun t38=>
 Zdf 1 false t38 H fun c6 H6=>
 Zap (vecIs c6 1)<|
 Zaa (clearT tlo H6 [tN 0] c6) fun H7=>
 k (z0 (Zae S.1)<| z3 (Zae (g3 S))<| stN 9 S) H7)
 (Zaj (Zad fun S H k=>
 Zaa (cutT 1 (Zab S.1) none (some (Zab (g3 S))) none) fun t41=>
 k (z0 (Zae S.1)<| z2 t41<| z3 (Zae (g3 S))<| stN 9 S) H)
 (Zam .ret)))))))
def F99:FnT:=fun call tlo l H=>Zaa (C99 call tlo (Zag H) (Zal l 0,Zal l 1,Zal l 4,Zal l 5,Zal l 6,Zal l 7,Zal l 12,Zal l 19,Zal l 29,()) H) fun p=>Zdp p.1 (Zap (Zbu Zbo [p.2.1.2.2.1]) (some (Zdw (Zag H) p.2.1.2.2.1 p.2.2)))
theorem F99_eq:FEq P TC 99 F99:=fun _ _ _ _=>by kernel_rfl
def C100 (call:Zbc) (tlo base:Nat):Zaz (TV×TV×TV×TV×Unit):=
 (Zaj (Zad fun S H k=>
 k (z1 nilT<| stN 4 S) H)
 (Zaj (Zad fun S H k=>
 k (z2 nilT<| stN 4 S) H)
 (Zaj (Zbd 0 (Zdn (Zaj (Zaj (Zad fun S H k=>
 Zaa (neqT .int (Zab S.1) (.v (.int .u64 (.ofNat 0)))) fun t5=>
 k (z0 (Zae S.1)<| z3 t5<| stN 4 S) H)
 (Zbb (fun S=>some (g3 S))
 (Zam .normal)
 (Zam (.exit 0))))
 (Zaj (Zbd 1 (Zad fun S H k=>
 Zaa (Zah call 156 [Zak (Zab S.1)] H) fun t12=>
 Zaa (Zcx 1 [0] [Zak t12] (repG [tN 0] 1)) fun c0=>
 Zcm tlo H 3 1 8 (g2 S) (.row .full (.own 3) 1 c0) fun t14 H1=>
 k (z0 (Zae S.1)<| z2 t14<| stN 4 S) H1))
 (Zad fun S H k=>
 Zaa (b2 Zcl (Zab (Zae S.1)) (.v (.int .u64 (.ofNat 1)))) fun t8=>
 Zaa (b2 evAnd (Zab S.1) t8) fun t9=>
 k (z0 t9<| stN 4 S) H))) fuel))
 (Zaj (Zad fun S H k=>
 k (z1 (g2 S)<| z2 (hush (g2 S))<| stN 4 S) H)
 (Zam .ret)))))
def F100:FnT:=fun call tlo l H=>Zaa (C100 call tlo (Zag H) (Zal l 0,Zal l 2,Zal l 3,Zal l 5,()) H) fun p=>Zdp p.1 (Zap (Zbu Zbo [p.2.1.2.1]) (some (Zdw (Zag H) p.2.1.2.1 p.2.2)))
theorem F100_eq:FEq P TC 100 F100:=fun _ _ _ _=>by kernel_rfl
def C101 (call:Zbc) (tlo base:Nat):Zaz (TV×TV×TV×TV×Unit):=
 (Zaj (Zad fun S H k=>
 k (z3 (tB false)<| stN 4 S) H)
 (Zaj (Zad fun S H k=>
 lA tlo base 19 H (g1 S) fun t5 H0=>
 Zaa (Zar (g1 S) 2) fun t6=>
 lF tlo base H0 t6 fun t7 H1=>
 Zaa (b2 evShl (.v (.int .u64 (.ofNat 1))) (Zab S.1)) fun t9=>
 Zaa (b2 Zdd t7 t9) fun t10=>
 Zaa (Zah call 95 [Zak t5,Zak t10] H1) fun t11=>
 lF tlo base H1 (g2 S) fun t12 H2=>
 Zaa (b2 Zcj t11 t12) fun t13=>
 k (z0 (Zae S.1)<| z3 t13<| stN 4 S) H2)
 (Zam .ret)))
def F101:FnT:=fun call tlo l H=>Zaa (C101 call tlo (Zag H) (Zal l 0,Zal l 1,Zal l 2,Zal l 4,()) H) fun p=>Zdp p.1 (Zap (Zbu Zbo [p.2.1.2.2.2.1]) (some (Zdw (Zag H) p.2.1.2.2.2.1 p.2.2)))
theorem F101_eq:FEq P TC 101 F101:=fun _ _ _ _=>by kernel_rfl
def C104 (call:Zbc) (tlo base:Nat):Zaz (TV×TV×TV×TV×TV×TV×TV×TV×TV×Unit):=
 (Zaj (Zad fun S H k=>
 k (z2 nilT<| stN 9 S) H)
 (Zaj (Zad fun S H k=>
 Zbr call tlo 134 [Zak (Zak S.1),Zak (Zak (g1 S))] H fun t10 H0=>
 k (z0 (Zak S.1)<| z1 (Zak (g1 S))<| z3 t10<| stN 9 S) H0)
 (Zaj (Zaj (Zad fun S H k=>
 Zaa (eqlT .int (Zab (g3 S)) (.v (.int .i64 (.negSucc 0)))) fun t12=>
 k (z3 (Zae (g3 S))<| z6 t12<| stN 9 S) H)
 (Zbb (fun S=>some (g6 S))
 (Zaj (Zad fun S H k=>
 k (z0 (hush S.1)<| z2 S.1<| stN 9 S) H)
 (Zam .ret))
 (Zam .normal)))
 (Zaj (Zaj (Zad fun S H k=>
 Zaa (b2 Zbe (Zab (g3 S)) (tN 1)) fun t15=>
 k (z3 (Zae (g3 S))<| z4 t15<| stN 9 S) H)
 (Zbd 0 (Zdn (Zaj (Zaj (Zad fun S H k=>
 Zaa (lenT (Zab S.1)) fun t18=>
 Zaa (b2 Zcj (Zab (g4 S)) t18) fun t19=>
 k (z0 (Zae S.1)<| z4 (Zae (g4 S))<| z7 t19<| stN 9 S) H)
 (Zbb (fun S=>some (g7 S))
 (Zam .normal)
 (Zam (.exit 0))))
 (Zaj (Zbd 1 (Zaj (Zad fun S H k=>
 Zaa (Zbn 2 (Zab S.1) (Zab (g4 S))) fun t24=>
 sA tlo base 2 H t24 fun t25 H1=>
 let t7:=(.ptr (Zag H1) 0)
 let H2:=(Zaq H1 (.cells zc71))
 Zaa (Zas tlo base 2 H2 t7 t25) fun H3=>
 k (z0 (Zae S.1)<| z4 (Zae (g4 S))<| z5 t7<| stN 9 S) H3)
 (Zaj (Zad fun S H k=>
 sA tlo base 2 H (g5 S) fun t27 H4=>
 Zdc TC call tlo (Zab (g1 S)) [Zak t27] H4 fun t28 H5=>
 Zaa (b1 evNot t28) fun t29=>
 k (z1 (Zae (g1 S))<| z8 t29<| stN 9 S) H5)
 (Zbb (fun S=>some (g8 S))
 (Zaj (Zad fun S H k=>
 Zdf 2 true S.1 H fun c6 H6=>
 sA tlo base 2 H6 (stale (g5 S)) fun t32 H7=>
 Zdf 2 true c6 H7 fun c8 H8=>
 Zaa (Zbn 2 c8 (Zab (stale (g3 S)))) fun t33=>
 Zaa (Zas tlo base 2 H8 t33 (stale t32)) fun H9=>
 k (z0 c6<| z3 (Zae (stale (g3 S)))<| stN 9 S) H9)
 (Zad fun S H k=>
 Zaa (b2 Zbe (Zab (g3 S)) (tN 1)) fun t35=>
 k (z3 t35<| stN 9 S) H))
 (Zam .normal)))))
 (Zad fun S H k=>
 Zaa (b2 Zbe (Zab (g4 S)) (tN 1)) fun t21=>
 k (z4 t21<| stN 9 S) H))) fuel)))
 (Zaj (Zad fun S H k=>
 Zaa (cutT 2 (Zab S.1) (some (Zab (g3 S))) none none) fun t38=>
 Zdf 2 true t38 H fun c10 H10=>
 Zap (vecIs c10 2)<|
 Zaa (clearT tlo H10 zc71 c10) fun H11=>
 k (z0 (Zae S.1)<| z3 (Zae (g3 S))<| stN 9 S) H11)
 (Zaj (Zad fun S H k=>
 Zaa (cutT 2 (Zab S.1) none (some (Zab (g3 S))) none) fun t41=>
 k (z0 (Zae S.1)<| z2 t41<| z3 (Zae (g3 S))<| stN 9 S) H)
 (Zam .ret)))))))
def F104:FnT:=fun call tlo l H=>Zaa (C104 call tlo (Zag H) (Zal l 0,Zal l 1,Zal l 4,Zal l 5,Zal l 6,Zal l 7,Zal l 12,Zal l 19,Zal l 29,()) H) fun p=>Zdp p.1 (Zap (Zbu Zbo [p.2.1.2.2.1]) (some (Zdw (Zag H) p.2.1.2.2.1 p.2.2)))
theorem F104_eq:FEq P TC 104 F104:=fun _ _ _ _=>by kernel_rfl
def C105 (call:Zbc) (tlo base:Nat):Zaz (TV×TV×TV×TV×TV×TV×Unit):=
 (Zaj (Zad fun S H k=>
 Zap (stor S.1)<|
 let t3:=(.ptr (Zag H) 0)
 let H0:=(Zaq H (.cells (Zav S.1)))
 k (z0 (hush S.1)<| z3 t3<| z4 (tB false)<| stN 6 S) H0)
 (Zaj (Zad fun S H k=>
 sA tlo base 19 H (g1 S) fun t6 H1=>
 let t5:=(.ptr (Zag H1) 0)
 let H2:=(Zaq H1 (.cells Zdb))
 Zaa (Zas tlo base 19 H2 t5 t6) fun H3=>
 k (z5 t5<| stN 6 S) H3)
 (Zaj (Zad fun S H k=>
 Zaa (Zbj 2 1 (g3 S) (tN 0)) fun t7=>
 lF tlo base H t7 fun t8 H4=>
 Zaa (Zar (g5 S) 3) fun t9=>
 Zaa (Zbj 16 1 t9 t8) fun t10=>
 lF tlo base H4 t10 fun t11 H5=>
 Zaa (Zbj 2 1 (g3 S) (tN 1)) fun t12=>
 lF tlo base H5 t12 fun t13 H6=>
 Zaa (b2 evShl (.v (.int .u64 (.ofNat 1))) t13) fun t14=>
 Zaa (b2 Zdd t11 t14) fun t15=>
 Zaa (Zar (g5 S) 3) fun t16=>
 Zdf 0 false t16 H6 fun c7 H7=>
 Zaa (Zbj 16 1 c7 t8) fun t17=>
 Zaa (Zas tlo base 1 H7 t17 (stale t15)) fun H8=>
 k (stN 6 S) H8)
 (Zaj (Zad fun S H k=>
 Zaa (Zbj 2 1 (g3 S) (tN 1)) fun t18=>
 lF tlo base H t18 fun t19 H9=>
 Zaa (Zar (g5 S) 3) fun t20=>
 Zaa (Zbj 16 1 t20 t19) fun t21=>
 lF tlo base H9 t21 fun t22 H10=>
 Zaa (Zbj 2 1 (g3 S) (tN 0)) fun t23=>
 lF tlo base H10 t23 fun t24 H11=>
 Zaa (b2 evShl (.v (.int .u64 (.ofNat 1))) t24) fun t25=>
 Zaa (b2 Zdd t22 t25) fun t26=>
 Zaa (Zar (g5 S) 3) fun t27=>
 Zdf 0 false t27 H11 fun c12 H12=>
 Zaa (Zbj 16 1 c12 t19) fun t28=>
 Zaa (Zas tlo base 1 H12 t28 (stale t26)) fun H13=>
 k (stN 6 S) H13)
 (Zaj (Zad fun S H k=>
 lA tlo base 19 H (g5 S) fun t29 H14=>
 Zaa (Zar (g1 S) 2) fun t30=>
 lF tlo base H14 t30 fun t31 H15=>
 Zaa (Zah call 95 [Zak t29,Zak t31] H15) fun t32=>
 lF tlo base H15 (g2 S) fun t33 H16=>
 Zaa (eqlT .int t32 t33) fun t34=>
 k (z4 t34<| stN 6 S) H16)
 (Zam .ret))))))
def F105:FnT:=fun call tlo l H=>Zaa (C105 call tlo (Zag H) (Zal l 0,Zal l 1,Zal l 2,Zal l 3,Zal l 4,Zal l 5,()) H) fun p=>Zdp p.1 (Zap (Zbu Zbo [p.2.1.2.2.2.2.1]) (some (Zdw (Zag H) p.2.1.2.2.2.2.1 p.2.2)))
theorem F105_eq:FEq P TC 105 F105:=fun _ _ _ _=>by kernel_rfl
def C111 (call:Zbc) (tlo base:Nat):Zaz (TV×TV×TV×TV×TV×TV×TV×TV×TV×TV×TV×TV×TV×TV×TV×TV×TV×TV×TV×TV×TV×TV×TV×TV×Unit):=
 (Zaj (Zad fun S H k=>
 Zap (stor S.1)<|
 let t2:=(.ptr (Zag H) 0)
 let H0:=(Zaq H (.cells (Zav S.1)))
 let t4:=(.ptr (Zag H0) 0)
 let H1:=(Zaq H0 (.cells Zdb))
 k (z0 (hush S.1)<| z2 t2<| z3 t4<| z4 (.v (.int .u64 (.ofNat 0)))<| z5 (tN 0)<| stN 24 S) H1)
 (Zaj (Zad fun S H k=>
 lA tlo base 3 H (g2 S) fun t16 H2=>
 Zaa (Zah call 94 [Zak t16] H2) fun t17=>
 Zaf (Zbq (Zab t17) 0) fun c3=>
 Zaf (Zbq (Zba (Zab t17) 0) 1) fun c4=>
 let t7:=(.ptr (Zag H2) 0)
 let H5:=(Zaq H2 (.cells Zdb))
 Zaa (Zas tlo base 19 H5 t7 c3) fun H6=>
 k (z6 t7<| z7 c4<| stN 24 S) H6)
 (Zaj (Zaj (Zad fun S H k=>
 Zaa (neqT .int (Zab (g7 S)) (tN 0)) fun t21=>
 k (z7 (Zae (g7 S))<| z14 t21<| stN 24 S) H)
 (Zbb (fun S=>some (g14 S))
 (Zaj (Zad fun S H k=>
 sA tlo base 19 H (g6 S) fun t22 H7=>
 Zaa (Zas tlo base 19 H7 (g3 S) t22) fun H8=>
 k (z4 (.v (.int .u64 (.ofNat 0)))<| z5 (g7 S)<| z7 (hush (g7 S))<| stN 24 S) H8)
 (Zam .ret))
 (Zam .normal)))
 (Zaj (Zad fun S H k=>
 Zaa (Zar (g6 S) 0) fun t24=>
 lF tlo base H t24 fun t25 H9=>
 Zaa (Zar (g6 S) 1) fun t26=>
 lF tlo base H9 t26 fun t27 H10=>
 Zaa (b2 evMul t25 t27) fun t28=>
 k (z8 (.v (.int .u64 (.ofNat 0)))<| z9 t28<| stN 24 S) H10)
 (Zaj (Zaj (Zad fun S H k=>
 Zaa (lenT (Zak (g1 S))) fun t30=>
 k (z1 (Zak (g1 S))<| z15 (Zak (g1 S))<| z16 t30<| z17 (tN 0)<| stN 24 S) H)
 (Zbd 0 (Zdn (Zaj (Zad fun S H k=>
 Zaa (b2 Zcj (g17 S) (g16 S)) fun t32=>
 k (z18 t32<| stN 24 S) H)
 (Zaj (Zbb (fun S=>some (g18 S))
 (Zam .normal)
 (Zam (.exit 0)))
 (Zaj (Zbd 1 (Zaj (Zad fun S H k=>
 Zaa (Zbn 2 (g15 S) (hush (g17 S))) fun t34=>
 sA tlo base 2 H t34 fun t35 H11=>
 let t12:=(.ptr (Zag H11) 0)
 let H12:=(Zaq H11 (.cells zc71))
 Zaa (Zas tlo base 2 H12 t12 t35) fun H13=>
 k (z10 (g17 S)<| z11 t12<| z17 (hush (g17 S))<| stN 24 S) H13)
 (Zaj (Zad fun S H k=>
 Zaa (Zbj 2 1 (g11 S) (tN 1)) fun t36=>
 lF tlo base H t36 fun t37 H14=>
 Zaa (Zbj 2 1 (g11 S) (tN 0)) fun t38=>
 lF tlo base H14 t38 fun t39 H15=>
 Zaa (b2 Zcl t37 t39) fun t40=>
 k (z12 t40<| stN 24 S) H15)
 (Zaj (Zbd 2 (Zaj (Zad fun S H k=>
 Zaa (Zbj 2 1 (g11 S) (tN 0)) fun t42=>
 lF tlo base H t42 fun t43 H16=>
 Zaa (Zbj 2 1 (g11 S) (tN 1)) fun t44=>
 lF tlo base H16 t44 fun t45 H17=>
 Zaa (b2 (Zdv false) t43 t45) fun c18=>
 Zap (isV c18)<|
 Zaa (b2 Zcj c18 (tN 0)) fun t47=>
 gB t47 false (Zbj 2 1 (g11 S) (tN 0)) H17 fun t49 H19=>
 Zbk (Zab t47) false (lF tlo base H19 t49 fun g20 H20=>Zbt g20 H20) H19 fun t50 H21=>
 gB t47 false (Zbj 2 1 (g11 S) (tN 1)) H21 fun t51 H22=>
 Zbk (Zab t47) false (lF tlo base H22 t51 fun g23 H23=>Zbt g23 H23) H22 fun t52 H24=>
 Zbk (Zab t47) false (Zaa (b2 (Zdv true) t50 t52) fun c25=>Zap (isV c25)<| Zbt c25 H24) H24 fun t53 H26=>
 gV t47 false (Zab (g9 S)) H26 fun t54 H27=>
 gB t47 false (b2 evGeq t53 t54) H27 fun t55 H28=>
 Zaa (Zch (Zab t47) (tB true) (Zak t55)) fun t56=>
 k (z9 (Zae (g9 S))<| z19 t56<| stN 24 S) H28)
 (Zbb (fun S=>some (g19 S))
 (Zaj (Zad fun S H k=>
 sA tlo base 19 H (g6 S) fun t57 H29=>
 Zaa (Zas tlo base 19 H29 (g3 S) t57) fun H30=>
 k (z4 (.v (.int .u64 (.ofNat 0)))<| z5 (tN 2)<| stN 24 S) H30)
 (Zam .ret))
 (Zaj (Zad fun S H k=>
 Zaa (Zar (g6 S) 0) fun t60=>
 lF tlo base H t60 fun t61 H31=>
 Zaa (neqT .int (Zab (g12 S)) t61) fun t62=>
 gV t62 true (Zab (Zae (g12 S))) H31 fun t64 H32=>
 gB t62 true (neqT .int t64 (tN 1)) H32 fun t65 H33=>
 gV t62 true (Zab t65) H33 fun t66 H34=>
 Zbk t66 false (Zaa (Zbj 2 1 (g11 S) (tN 1)) fun g35=>Zbt g35 H34) H34 fun t67 H35=>
 Zbk t66 false (lF tlo base H35 t67 fun g36 H36=>Zbt g36 H36) H35 fun t68 H37=>
 Zbk t66 false (Zaa (Zar (g6 S) 0) fun g38=>Zbt g38 H37) H37 fun t69 H38=>
 Zbk t66 false (lF tlo base H38 t69 fun g39 H39=>Zbt g39 H39) H38 fun t70 H40=>
 Zbk t66 false (Zaa (b2 evRem t68 t70) fun g41=>Zbt g41 H40) H40 fun t71 H41=>
 Zbk t66 false (Zaa (eqlT .int t71 (tN 0)) fun g42=>Zbt g42 H41) H41 fun t72 H42=>
 gB t62 true (Zch t66 (tB true) (Zak t72)) H42 fun t73 H43=>
 Zaa (Zch (Zab t62) (Zak t73) (tB false)) fun t74=>
 k (z12 (Zae (Zae (g12 S)))<| z20 t74<| stN 24 S) H43)
 (Zbb (fun S=>some (g20 S))
 (Zaj (Zad fun S H k=>
 sA tlo base 19 H (g6 S) fun t75 H44=>
 Zaa (Zas tlo base 19 H44 (g3 S) t75) fun H45=>
 k (z4 (.v (.int .u64 (.ofNat 0)))<| z5 (tN 5)<| stN 24 S) H45)
 (Zam .ret))
 (Zaj (Zad fun S H k=>
 Zaa (b2 evGtr (Zab (g10 S)) (tN 0)) fun t78=>
 gV t78 true (Zab (g1 S)) H fun t80 H46=>
 gV t78 true (Zab (Zae (g10 S))) H46 fun t81 H47=>
 gB t78 true (b2 Zcl t81 (tN 1)) H47 fun t82 H48=>
 gB t78 true (Zbn 2 t80 t82) H48 fun t83 H49=>
 gB t78 true (cutArrT false 1 2 t83 none none none) H49 fun t84 H50=>
 gB t78 true (cutArrT false 1 2 (g11 S) none none none) H50 fun t85 H51=>
 gB t78 true (Zah call 78 [Zak t84,Zak t85] H51) H51 fun t86 H52=>
 gB t78 true (b2 evGeq t86 (tN 0)) H52 fun t87 H53=>
 Zaa (Zch (Zab t78) (Zak t87) (tB false)) fun t88=>
 k (z1 (Zae (g1 S))<| z10 (Zae (Zae (g10 S)))<| z21 t88<| stN 24 S) H53)
 (Zbb (fun S=>some (g21 S))
 (Zaj (Zad fun S H k=>
 sA tlo base 19 H (g6 S) fun t89 H54=>
 Zaa (Zas tlo base 19 H54 (g3 S) t89) fun H55=>
 k (z4 (.v (.int .u64 (.ofNat 0)))<| z5 (tN 7)<| stN 24 S) H55)
 (Zam .ret))
 (Zam .normal))))))))
 (Zaj (Zad fun S H k=>
 Zaa (Zbj 2 1 (g11 S) (tN 0)) fun t90=>
 lF tlo base H t90 fun t91 H56=>
 Zaa (b2 evShl (.v (.int .u64 (.ofNat 1))) t91) fun t92=>
 Zaa (Zbj 2 1 (g11 S) (tN 1)) fun t93=>
 lF tlo base H56 t93 fun t94 H57=>
 Zaa (b2 evShl (.v (.int .u64 (.ofNat 1))) t94) fun t95=>
 Zaa (b2 evOr t92 t95) fun t96=>
 k (z13 t96<| stN 24 S) H57)
 (Zaj (Zbd 3 (Zaj (Zad fun S H k=>
 Zaa (Zar (g6 S) 2) fun t99=>
 lF tlo base H t99 fun t100 H58=>
 Zaa (b2 Zdd (Zab (g13 S)) t100) fun t101=>
 Zaa (neqT .int t101 (.v (.int .u64 (.ofNat 0)))) fun t102=>
 k (z13 (Zae (g13 S))<| z22 t102<| stN 24 S) H58)
 (Zbb (fun S=>some (g22 S))
 (Zaj (Zad fun S H k=>
 sA tlo base 19 H (g6 S) fun t103 H59=>
 Zaa (Zas tlo base 19 H59 (g3 S) t103) fun H60=>
 k (z4 (.v (.int .u64 (.ofNat 0)))<| z5 (tN 13)<| stN 24 S) H60)
 (Zam .ret))
 (Zaj (Zad fun S H k=>
 Zaa (b2 evAnd (Zab (g13 S)) (Zab (g8 S))) fun t107=>
 Zaa (neqT .int t107 (.v (.int .u64 (.ofNat 0)))) fun t108=>
 k (z8 (Zae (g8 S))<| z13 (Zae (g13 S))<| z23 t108<| stN 24 S) H)
 (Zbb (fun S=>some (g23 S))
 (Zaj (Zad fun S H k=>
 sA tlo base 19 H (g6 S) fun t109 H61=>
 Zaa (Zas tlo base 19 H61 (g3 S) t109) fun H62=>
 k (z4 (.v (.int .u64 (.ofNat 0)))<| z5 (tN 6)<| stN 24 S) H62)
 (Zam .ret))
 (Zam .normal))))))
 (Zad fun S H k=>
 Zaa (b2 evOr (Zab (g8 S)) (Zab (g13 S))) fun t112=>
 k (z8 t112<| z13 (Zae (g13 S))<| stN 24 S) H)))))))
 (Zad fun S H k=>
 Zaa (b2 Zbe (g17 S) (tN 1)) fun t113=>
 k (z17 t113<| stN 24 S) H)))) fuel)))
 (Zaj (Zad fun S H k=>
 sA tlo base 19 H (g6 S) fun t114 H63=>
 Zaa (Zas tlo base 19 H63 (g3 S) t114) fun H64=>
 k (z4 (g8 S)<| z5 (tN 0)<| z8 (hush (g8 S))<| stN 24 S) H64)
 (Zam .ret)))))))
def F111:FnT:=fun call tlo l H=>Zaa (C111 call tlo (Zag H) (Zal l 0,Zal l 1,Zal l 2,Zal l 4,Zal l 5,Zal l 6,Zal l 7,Zal l 8,Zal l 9,Zal l 10,Zal l 11,Zal l 12,Zal l 13,Zal l 14,Zal l 21,Zal l 29,Zal l 30,Zal l 31,Zal l 32,Zal l 41,Zal l 58,Zal l 76,Zal l 97,Zal l 104,()) H) fun p=>Zdp p.1 (Zbg .take tlo (Zag p.2.2) true 19 p.2.2 p.2.1.2.2.2.1 fun r0 h0=>Zap (Zbu Zbo [r0,p.2.1.2.2.2.2.1,p.2.1.2.2.2.2.2.1]) (some (Zdw (Zag H) (.tup [r0,p.2.1.2.2.2.2.1,p.2.1.2.2.2.2.2.1]) h0)))
theorem F111_eq:FEq P TC 111 F111:=fun _ _ _ _=>by kernel_rfl
def C112 (call:Zbc) (tlo base:Nat):Zaz (TV×TV×TV×TV×TV×TV×Unit):=
 (Zaj (Zad fun S H k=>
 Zap (stor S.1)<|
 let t2:=(.ptr (Zag H) 0)
 let H0:=(Zaq H (.cells (Zav S.1)))
 k (z0 (hush S.1)<| z2 t2<| z3 (tN 0)<| stN 6 S) H0)
 (Zaj (Zbd 0 (Zaj (Zad fun S H k=>
 lA tlo base 19 H (g2 S) fun t6 H1=>
 Zaa (Zah call 128 [Zak t6] H1) fun t7=>
 Zaa (b1 evNot t7) fun t8=>
 k (z4 t8<| stN 6 S) H1)
 (Zbb (fun S=>some (g4 S))
 (Zaj (Zad fun S H k=>
 k (z3 (tN 5)<| stN 6 S) H)
 (Zam .ret))
 (Zaj (Zad fun S H k=>
 Zap (Zbu pass [Zak (g2 S)])<|
 Zbr call tlo 157 [Zak (Zak (g1 S)),.fn (.func 158) [] [Zak (g2 S)]] H fun t12 H2=>
 k (z1 (Zak (g1 S))<| z2 (Zak (g2 S))<| z5 t12<| stN 6 S) H2)
 (Zbb (fun S=>some (g5 S))
 (Zaj (Zad fun S H k=>
 k (z3 (tN 21)<| stN 6 S) H)
 (Zam .ret))
 (Zam .normal))))))
 (Zaj (Zad fun S H k=>
 k (z3 (tN 0)<| stN 6 S) H)
 (Zam .ret))))
def F112:FnT:=fun call tlo l H=>Zaa (C112 call tlo (Zag H) (Zal l 0,Zal l 1,Zal l 2,Zal l 4,Zal l 5,Zal l 9,()) H) fun p=>Zdp p.1 (Zap (Zbu Zbo [p.2.1.2.2.2.1]) (some (Zdw (Zag H) p.2.1.2.2.2.1 p.2.2)))
theorem F112_eq:FEq P TC 112 F112:=fun _ _ _ _=>by kernel_rfl
def C113 (call:Zbc) (tlo base:Nat):Zaz (TV×TV×TV×TV×TV×TV×TV×TV×TV×TV×Unit):=
 (Zaj (Zad fun S H k=>
 Zap (stor S.1)<|
 let t2:=(.ptr (Zag H) 0)
 let H0:=(Zaq H (.cells (Zav S.1)))
 Zap (stor (g1 S))<|
 let t3:=(.ptr (Zag H0) 0)
 let H1:=(Zaq H0 (.cells (Zav (g1 S))))
 k (z0 (hush S.1)<| z1 (hush (g1 S))<| z2 t2<| z3 t3<| z4 nilT<| stN 10 S) H1)
 (Zaj (Zad fun S H k=>
 lA tlo base 19 H (g2 S) fun t10 H2=>
 Zaa (Zah call 116 [Zak t10] H2) fun t11=>
 Zaf (toV t11) fun l3=>Zaf (toV t11) fun m3=>Zaa (evSizes 8 l3 m3) fun c3=>
 let t12:=(.vec (Zag H2) 0 c3.1 c3.2 1 false)
 let H4:=(Zaq H2 (.cells (repG [tN 0] c3.2)))
 let t5:=(.ptr (Zag H4) 0)
 let H5:=(Zaq H4 (.cells [nilT]))
 Zaa (Zas tlo base 1 H5 t5 t12) fun H6=>
 k (z5 t5<| stN 10 S) H6)
 (Zaj (Zad fun S H k=>
 lA tlo base 19 H (g2 S) fun t13 H7=>
 Zaa (Zah call 116 [Zak t13] H7) fun t14=>
 Zaf (toV t14) fun l8=>Zaf (toV t14) fun m8=>Zaa (evSizes 1 l8 m8) fun c8=>
 let t15:=(.vec (Zag H7) 0 c8.1 c8.2 1 false)
 let H9:=(Zaq H7 (.cells (repG [tB false] c8.2)))
 let t6:=(.ptr (Zag H9) 0)
 let H10:=(Zaq H9 (.cells [nilT]))
 Zaa (Zas tlo base 1 H10 t6 t15) fun H11=>
 k (z6 t6<| stN 10 S) H11)
 (Zaj (Zad fun S H k=>
 let t7:=(.ptr (Zag H) 0)
 let H12:=(Zaq H (.cells [.v .nilFunc]))
 k (z7 t7<| stN 10 S) H12)
 (Zaj (Zad fun S H k=>
 Zap (Zbu pass [Zak (g2 S),Zak (g6 S),Zak (g3 S),Zak (g7 S)])<|
 let t8:=(.ptr (Zag H) 0)
 let H13:=(Zaq H (.cells [.v .nilFunc]))
 Zaa (Zas tlo base 1 H13 t8 (.fn (.func 159) [] [Zak (g2 S),Zak (g6 S),Zak (g3 S),Zak (g7 S)])) fun H14=>
 k (z2 (Zak (g2 S))<| z3 (Zak (g3 S))<| z6 (Zak (g6 S))<| z7 (Zak (g7 S))<| z8 t8<| stN 10 S) H14)
 (Zaj (Zad fun S H k=>
 Zap (Zbu pass [Zak (g5 S),Zak (g6 S),Zak (g2 S),Zak (g8 S)])<|
 Zaa (Zas tlo base 1 H (g7 S) (.fn (.func 161) [] [Zak (g5 S),Zak (g6 S),Zak (g2 S),Zak (g8 S)])) fun H15=>
 k (z2 (Zak (g2 S))<| z5 (Zak (g5 S))<| z6 (Zak (g6 S))<| z8 (Zak (g8 S))<| stN 10 S) H15)
 (Zaj (Zad fun S H k=>
 Zaa (Zar (g2 S) 2) fun t18=>
 lF tlo base H t18 fun t19 H16=>
 Zaa (Zah call 156 [Zak t19] H16) fun t20=>
 k (z9 t20<| stN 10 S) H16)
 (Zaj (Zad fun S H k=>
 lF tlo base H (g7 S) fun t21 H17=>
 Zaa (Zar (g2 S) 0) fun t23=>
 lF tlo base H17 t23 fun t24 H18=>
 Zaa (b2 evQuo (Zab (g9 S)) t24) fun t25=>
 Zaa (Zar (g2 S) 0) fun t26=>
 lF tlo base H18 t26 fun t27 H19=>
 Zaa (b2 Zbe t27 (tN 1)) fun t28=>
 Zaa (b2 evMul t25 t28) fun t29=>
 Zaa (Zar (g2 S) 0) fun t31=>
 lF tlo base H19 t31 fun t32 H20=>
 Zaa (b2 evRem (Zab (Zae (g9 S))) t32) fun t33=>
 Zaa (b2 Zbe t29 t33) fun t34=>
 Zdc TC call tlo t21 [Zak t34,tN 0] H20 fun t35 H21=>
 k (z9 (Zae (Zae (g9 S)))<| stN 10 S) H21)
 (Zaj (Zad fun S H k=>
 sF tlo base H (g5 S) fun t36 H22=>
 k (z4 t36<| stN 10 S) H22)
 (Zam .ret))))))))))
def F113:FnT:=fun call tlo l H=>Zaa (C113 call tlo (Zag H) (Zal l 0,Zal l 1,Zal l 2,Zal l 3,Zal l 4,Zal l 5,Zal l 6,Zal l 7,Zal l 8,Zal l 9,()) H) fun p=>Zdp p.1 (Zap (Zbu Zbo [p.2.1.2.2.2.2.1]) (some (Zdw (Zag H) p.2.1.2.2.2.2.1 p.2.2)))
theorem F113_eq:FEq P TC 113 F113:=fun _ _ _ _=>by kernel_rfl
def C116 (call:Zbc) (tlo base:Nat):Zaz (TV×TV×TV×Unit):=
 (Zaj (Zad fun S H k=>
 Zap (stor S.1)<|
 let t1:=(.ptr (Zag H) 0)
 let H0:=(Zaq H (.cells (Zav S.1)))
 k (z0 (hush S.1)<| z1 t1<| z2 (tN 0)<| stN 3 S) H0)
 (Zaj (Zad fun S H k=>
 Zaa (Zar (g1 S) 0) fun t3=>
 lF tlo base H t3 fun t4 H1=>
 Zaa (b2 Zbe t4 (tN 1)) fun t5=>
 Zaa (Zar (g1 S) 1) fun t6=>
 lF tlo base H1 t6 fun t7 H2=>
 Zaa (b2 Zbe t7 (tN 1)) fun t8=>
 Zaa (b2 evMul t5 t8) fun t9=>
 k (z2 t9<| stN 3 S) H2)
 (Zam .ret)))
def F116:FnT:=fun call tlo l H=>Zaa (C116 call tlo (Zag H) (Zal l 0,Zal l 1,Zal l 2,()) H) fun p=>Zdp p.1 (Zap (Zbu Zbo [p.2.1.2.2.1]) (some (Zdw (Zag H) p.2.1.2.2.1 p.2.2)))
theorem F116_eq:FEq P TC 116 F116:=fun _ _ _ _=>by kernel_rfl
def C117 (call:Zbc) (tlo base:Nat):Zaz (TV×TV×TV×TV×TV×TV×TV×TV×TV×TV×TV×TV×TV×TV×TV×TV×TV×TV×TV×TV×TV×Unit):=
 (Zaj (Zad fun S H k=>
 Zap (stor S.1)<|
 let t3:=(.ptr (Zag H) 0)
 let H0:=(Zaq H (.cells (Zav S.1)))
 k (z0 (hush S.1)<| z3 t3<| z4 nilT<| z5 (tB false)<| stN 21 S) H0)
 (Zaj (Zad fun S H k=>
 Zaa (Zar (g3 S) 0) fun t20=>
 lF tlo base H t20 fun t21 H1=>
 Zaa (b2 Zbe t21 (tN 1)) fun t22=>
 Zaa (b2 evRem (Zab (g2 S)) t22) fun t23=>
 Zaa (Zar (g3 S) 0) fun t25=>
 lF tlo base H1 t25 fun t26 H2=>
 Zaa (b2 Zbe t26 (tN 1)) fun t27=>
 Zaa (b2 evQuo (Zab (Zae (g2 S))) t27) fun t28=>
 k (z2 (Zae (Zae (g2 S)))<| z6 t23<| z7 t28<| stN 21 S) H2)
 (Zaj (Zaj (Zad fun S H k=>
 Zaa (b2 (Zdv false) (Zab (g6 S)) (Zab (g7 S))) fun c3=>
 Zap (isV c3)<|
 Zaa (b2 Zcj c3 (tN 1)) fun t32=>
 gV t32 false (Zab (Zae (g6 S))) H fun t34 H4=>
 gB t32 false (Zar (g3 S) 0) H4 fun t35 H5=>
 Zbk (Zab t32) false (lF tlo base H5 t35 fun g6 H6=>Zbt g6 H6) H5 fun t36 H7=>
 gB t32 false (b2 evGeq t34 t36) H7 fun t37 H8=>
 Zaa (Zch (Zab t32) (tB true) (Zak t37)) fun t38=>
 gV t38 false (Zab (Zae (g7 S))) H8 fun t40 H9=>
 gB t38 false (Zar (g3 S) 1) H9 fun t41 H10=>
 Zbk (Zab t38) false (lF tlo base H10 t41 fun g11 H11=>Zbt g11 H11) H10 fun t42 H12=>
 gB t38 false (b2 evGeq t40 t42) H12 fun t43 H13=>
 Zaa (Zch (Zab t38) (tB true) (Zak t43)) fun t44=>
 k (z6 (Zae (Zae (g6 S)))<| z7 (Zae (Zae (g7 S)))<| z16 t44<| stN 21 S) H13)
 (Zbb (fun S=>some (g16 S))
 (Zaj (Zad fun S H k=>
 k (z4 nilT<| z5 (tB false)<| stN 21 S) H)
 (Zam .ret))
 (Zam .normal)))
 (Zaj (Zad fun S H k=>
 Zaa (b2 Zcl (Zab (g7 S)) (tN 1)) fun t46=>
 Zaa (Zar (g3 S) 0) fun t47=>
 lF tlo base H t47 fun t48 H14=>
 Zaa (b2 evMul t46 t48) fun t49=>
 Zaa (b2 Zbe t49 (Zab (g6 S))) fun t51=>
 Zaa (b2 Zcl t51 (tN 1)) fun t52=>
 k (z6 (Zae (g6 S))<| z7 (Zae (g7 S))<| z8 t52<| stN 21 S) H14)
 (Zaj (Zad fun S H k=>
 Zaa (b2 Zbe (Zab (g8 S)) (tN 1)) fun t54=>
 Zaa (Zar (g3 S) 0) fun t56=>
 lF tlo base H t56 fun t57 H15=>
 Zaa (b2 Zbe (Zab (Zae (g8 S))) t57) fun t58=>
 Zaa (Zar (g3 S) 0) fun t60=>
 lF tlo base H15 t60 fun t61 H16=>
 Zaa (b2 Zbe (Zab (Zae (Zae (g8 S)))) t61) fun t62=>
 Zaa (b2 Zbe t62 (tN 1)) fun t63=>
 k (z8 (Zae (Zae (Zae (g8 S))))<| z9 t54<| z10 t58<| z11 t63<| stN 21 S) H16)
 (Zaj (Zaj (Zad fun S H k=>
 Zaa (aggT [(0,1,(Zak (g8 S))),(1,1,(Zak (g9 S)))] zc71) fun t66=>
 Zaa (aggT [(0,1,(Zak (g10 S))),(1,1,(Zak (g11 S)))] zc71) fun t69=>
 Zaa (aggT [(0,2,t66),(2,2,t69)] zc172) fun t70=>
 Zaa (aggT [(0,1,(Zak (Zak (g8 S)))),(1,1,(Zak (Zak (g10 S))))] zc71) fun t73=>
 Zaa (aggT [(0,1,(Zak (Zak (g9 S)))),(1,1,(Zak (Zak (g11 S))))] zc71) fun t76=>
 Zaa (aggT [(0,2,t73),(2,2,t76)] zc172) fun t77=>
 Zaa (aggT [(0,4,t70),(4,4,t77)] zc173) fun t78=>
 k (z8 (Zak (Zak (g8 S)))<| z9 (Zak (Zak (g9 S)))<| z10 (Zak (Zak (g10 S)))<| z11 (Zak (Zak (g11 S)))<| z17 t78<| z18 (tN 0)<| stN 21 S) H)
 (Zbd 0 (Zdn (Zaj (Zad fun S H k=>
 Zaa (b2 Zcj (g18 S) (tN 2)) fun t80=>
 k (z19 t80<| stN 21 S) H)
 (Zaj (Zbb (fun S=>some (g19 S))
 (Zam .normal)
 (Zam (.exit 0)))
 (Zaj (Zbd 1 (Zaj (Zad fun S H k=>
 Zaa (idxValT true 2 4 (Zak (g17 S)) (g18 S)) fun t81=>
 let t15:=(.ptr (Zag H) 0)
 let H17:=(Zaq H (.cells zc172))
 Zaa (Zas tlo base 4 H17 t15 t81) fun H18=>
 k (z12 t15<| z17 (Zak (g17 S))<| stN 21 S) H18)
 (Zaj (Zad fun S H k=>
 Zaa (Zbj 2 2 (g12 S) (tN 0)) fun t83=>
 lA tlo base 2 H t83 fun t84 H19=>
 Zaa (Zah call 135 [Zak (Zab (g1 S)),Zak t84] H19) fun t85=>
 Zaa (Zbj 2 2 (g12 S) (tN 1)) fun t87=>
 lA tlo base 2 H19 t87 fun t88 H20=>
 Zaa (Zah call 135 [Zak (Zab (Zae (g1 S))),Zak t88] H20) fun t89=>
 k (z1 (Zae (Zae (g1 S)))<| z13 t85<| z14 t89<| stN 21 S) H20)
 (Zaj (Zaj (Zad fun S H k=>
 Zaa (b2 Zcj (Zab (g13 S)) (tN 0)) fun t91=>
 gV t91 false (Zab (g14 S)) H fun t93 H21=>
 gB t91 false (b2 Zcj t93 (tN 0)) H21 fun t94 H22=>
 Zaa (Zch (Zab t91) (tB true) (Zak t94)) fun t95=>
 k (z13 (Zae (g13 S))<| z14 (Zae (g14 S))<| z20 t95<| stN 21 S) H22)
 (Zbb (fun S=>some (g20 S))
 (Zam (.exit 1))
 (Zam .normal)))
 (Zaj (Zad fun S H k=>
 Zaa (Zah call 143 [Zak (Zab (g1 S))] H) fun t97=>
 k (z1 (Zae (g1 S))<| z15 t97<| stN 21 S) H)
 (Zaj (Zad fun S H k=>
 Zdf 2 true (g15 S) H fun c23 H23=>
 Zdf 2 true (stale c23) H23 fun c24 H24=>
 Zaa (b2 Zbe (Zab (stale (g9 S))) (Zab (stale (g10 S)))) fun t105=>
 Zaa (Zbj 2 2 (stale (g12 S)) (tN 0)) fun t106=>
 Zaa (Zbj 2 1 t106 (tN 1)) fun t107=>
 lF tlo base H24 t107 fun t108 H25=>
 Zaa (b2 Zcl t105 t108) fun t109=>
 Zaa (aggT [(0,1,(Zak (stale (g8 S)))),(1,1,t109)] zc71) fun t110=>
 Zaa (b2 Zbe (Zab (Zae (stale (g9 S)))) (Zab (Zae (stale (g10 S))))) fun t113=>
 Zaa (Zbj 2 2 (stale (g12 S)) (tN 1)) fun t114=>
 Zaa (Zbj 2 1 t114 (tN 0)) fun t115=>
 lF tlo base H25 t115 fun t116 H26=>
 Zaa (b2 Zcl t113 t116) fun t117=>
 Zaa (aggT [(0,1,t117),(1,1,(Zak (stale (g11 S))))] zc71) fun t119=>
 Zdf 2 true (stale c23) H26 fun c27 H27=>
 Zaa (Zbn 2 c27 (stale (Zab (stale (g13 S))))) fun t120=>
 Zap (apartT [hdX (stale t115) (hdP H25 t115)] [hdX t120 (hdP H27 t120)])<|
 Zaa (Zas tlo base 2 H27 t120 (stale t110)) fun H28=>
 Zdf 2 true (stale c24) H28 fun c29 H29=>
 Zaa (Zbn 2 c29 (stale (Zab (stale (g14 S))))) fun t121=>
 Zaa (Zas tlo base 2 H29 t121 (stale t119)) fun H30=>
 k (z8 (Zak (stale (g8 S)))<| z9 (Zae (Zae (stale (g9 S))))<| z10 (Zae (Zae (stale (g10 S))))<| z11 (Zak (stale (g11 S)))<| z13 (Zae (stale (g13 S)))<| z14 (Zae (stale (g14 S)))<| z15 c24<| stN 21 S) H30)
 (Zaj (Zad fun S H k=>
 Zdf 2 true (g15 S) H fun c31 H31=>
 Zdf 2 true c31 H31 fun c32 H32=>
 Zbr call tlo 85 [c32,.fn (.func 164) [] []] H32 fun t123 H33=>
 k (z15 c31<| stN 21 S) H33)
 (Zaj (Zad fun S H k=>
 k (z4 (g15 S)<| z5 (tB true)<| z15 (hush (g15 S))<| stN 21 S) H)
 (Zam .ret)))))))))
 (Zad fun S H k=>
 Zaa (b2 Zbe (g18 S) (tN 1)) fun t125=>
 k (z18 t125<| stN 21 S) H)))) fuel)))
 (Zaj (Zad fun S H k=>
 k (z4 nilT<| z5 (tB false)<| stN 21 S) H)
 (Zam .ret))))))))
def F117:FnT:=fun call tlo l H=>Zaa (C117 call tlo (Zag H) (Zal l 0,Zal l 1,Zal l 2,Zal l 3,Zal l 6,Zal l 7,Zal l 8,Zal l 9,Zal l 10,Zal l 11,Zal l 12,Zal l 13,Zal l 15,Zal l 16,Zal l 17,Zal l 18,Zal l 44,Zal l 78,Zal l 79,Zal l 80,Zal l 95,()) H) fun p=>Zdp p.1 (Zap (Zbu Zbo [p.2.1.2.2.2.2.1,p.2.1.2.2.2.2.2.1]) (some (Zdw (Zag H) (.tup [p.2.1.2.2.2.2.1,p.2.1.2.2.2.2.2.1]) p.2.2)))
theorem F117_eq:FEq P TC 117 F117:=fun _ _ _ _=>by kernel_rfl
def C119 (call:Zbc) (tlo base:Nat):Zaz (TV×TV×TV×TV×TV×TV×TV×TV×TV×TV×TV×TV×TV×TV×TV×TV×TV×TV×TV×TV×TV×Unit):=
 (Zaj (Zad fun S H k=>
 Zap (stor S.1)<|
 let t2:=(.ptr (Zag H) 0)
 let H0:=(Zaq H (.cells (Zav S.1)))
 k (z0 (hush S.1)<| z2 t2<| z3 nilT<| z4 (tN 0)<| stN 21 S) H0)
 (Zaj (Zad fun S H k=>
 lA tlo base 3 H (g2 S) fun t14 H1=>
 Zaa (Zah call 94 [Zak t14] H1) fun t15=>
 Zaf (Zbq (Zab t15) 0) fun c2=>
 Zaf (Zbq (Zba (Zab t15) 0) 1) fun c3=>
 let t6:=(.ptr (Zag H1) 0)
 let H4:=(Zaq H1 (.cells Zdb))
 Zaa (Zas tlo base 19 H4 t6 c2) fun H5=>
 k (z5 t6<| z6 c3<| stN 21 S) H5)
 (Zaj (Zbd 0 (Zaj (Zad fun S H k=>
 Zaa (neqT .int (Zab (g6 S)) (tN 0)) fun t20=>
 k (z6 (Zae (g6 S))<| z12 t20<| stN 21 S) H)
 (Zbb (fun S=>some (g12 S))
 (Zaj (Zad fun S H k=>
 k (z3 nilT<| z4 (g6 S)<| z6 (hush (g6 S))<| stN 21 S) H)
 (Zam .ret))
 (Zaj (Zad fun S H k=>
 lA tlo base 19 H (g5 S) fun t23 H6=>
 Zaa (Zah call 128 [Zak t23] H6) fun t24=>
 Zaa (b1 evNot t24) fun t25=>
 k (z13 t25<| stN 21 S) H6)
 (Zbb (fun S=>some (g13 S))
 (Zaj (Zad fun S H k=>
 k (z3 nilT<| z4 (tN 5)<| stN 21 S) H)
 (Zam .ret))
 (Zam .normal))))))
 (Zaj (Zad fun S H k=>
 lA tlo base 19 H (g5 S) fun t26 H7=>
 Zaa (Zar (g5 S) 2) fun t27=>
 lF tlo base H7 t27 fun t28 H8=>
 Zaa (Zah call 97 [Zak t26,Zak t28] H8) fun t29=>
 k (z7 t29<| stN 21 S) H8)
 (Zaj (Zaj (Zad fun S H k=>
 Zaa (lenT (Zab (g7 S))) fun t31=>
 Zaa (b2 evMul (tN 2) t31) fun t32=>
 Zaa (Zar (g5 S) 2) fun t33=>
 lF tlo base H t33 fun t34 H9=>
 Zaa (Zah call 166 [Zak t34] H9) fun t35=>
 Zaa (b2 Zcj t32 t35) fun t36=>
 k (z7 (Zae (g7 S))<| z14 t36<| stN 21 S) H9)
 (Zbb (fun S=>some (g14 S))
 (Zaj (Zad fun S H k=>
 k (z3 nilT<| z4 (tN 12)<| stN 21 S) H)
 (Zam .ret))
 (Zam .normal)))
 (Zaj (Zam .normal)
 (Zaj (Zaj (Zad fun S H k=>
 k (z15 (tN 0)<| stN 21 S) H)
 (Zbd 1 (Zdn (Zaj (Zad fun S H k=>
 Zaa (b2 Zcj (g15 S) (tN 256)) fun t38=>
 k (z16 t38<| stN 21 S) H)
 (Zaj (Zbb (fun S=>some (g16 S))
 (Zam .normal)
 (Zam (.exit 1)))
 (Zaj (Zbd 2 (Zaj (Zad fun S H k=>
 sA tlo base 19 H (g5 S) fun t39 H10=>
 Zbr call tlo 113 [Zak t39,Zak (Zak (g7 S))] H10 fun t41 H11=>
 k (z7 (Zak (g7 S))<| z8 t41<| stN 21 S) H11)
 (Zaj (Zaj (Zad fun S H k=>
 Zaa (lenT (Zab (g8 S))) fun t43=>
 k (z8 (Zae (g8 S))<| z17 t43<| z18 (tN 0)<| stN 21 S) H)
 (Zbd 3 (Zdn (Zaj (Zad fun S H k=>
 Zaa (b2 Zcj (g18 S) (g17 S)) fun t45=>
 k (z19 t45<| stN 21 S) H)
 (Zaj (Zbb (fun S=>some (g19 S))
 (Zam .normal)
 (Zam (.exit 3)))
 (Zaj (Zbd 4 (Zaj (Zad fun S H k=>
 k (z9 (g18 S)<| z18 (hush (g18 S))<| stN 21 S) H)
 (Zaj (Zad fun S H k=>
 lA tlo base 19 H (g5 S) fun t48 H12=>
 Zaa (Zah call 117 [Zak t48,Zak (Zab (g7 S)),Zak (Zab (g9 S))] H12) fun t51=>
 Zaf (Zbq (Zab t51) 0) fun c13=>
 Zaf (Zbq (Zba (Zab t51) 0) 1) fun c14=>
 k (z7 (Zae (g7 S))<| z9 (Zae (g9 S))<| z10 c13<| z11 c14<| stN 21 S) H12)
 (Zaj (Zad fun S H k=>
 Zbk (Zab (Zab (g11 S))) true ( Zbt (Zab (g1 S)) H) H fun t56 H15=>
 Zbk (Zab (Zab (g11 S))) true (sA tlo base 19 H15 (g5 S) fun g16 H16=>Zbt g16 H16) H15 fun t57 H17=>
 Zbk (Zab (Zab (g11 S))) true ( Zbt (Zak (g10 S)) H17) H17 fun t58 H18=>
 Zap (Zbu noOwnO H18)<|
 Zbk (Zab (Zab (g11 S))) true (Zbr call (Zag H18) 113 [Zak t57,Zak t58] H18 fun g19 H19=>Zbt g19 H19) H18 fun t59 H20=>
 Zbk (Zab (Zab (g11 S))) true ( Zbt (Zab (stale (g9 S))) H20) H20 fun t60 H21=>
 Zbk (Zab (Zab (g11 S))) true (Zaa (Zbn 1 t59 t60) fun g22=>Zbt g22 H21) H21 fun t61 H22=>
 Zbk (Zab (Zab (g11 S))) true (lF tlo base H22 t61 fun g23 H23=>Zbt g23 H23) H22 fun t62 H24=>
 Zbk (Zab (Zab (g11 S))) true (Zaa (b2 evMul (stale t56) t62) fun g25=>Zbt g25 H24) H24 fun t63 H25=>
 Zbk (Zab (Zab (g11 S))) true ( Zbt (Zab (stale (Zae (g1 S)))) H25) H25 fun t64 H26=>
 Zbk (Zab (Zab (g11 S))) true ( Zbt (Zab (stale (g8 S))) H26) H26 fun t65 H27=>
 Zbk (Zab (Zab (g11 S))) true ( Zbt (Zab (Zae (stale (g9 S)))) H27) H27 fun t66 H28=>
 Zbk (Zab (Zab (g11 S))) true (Zaa (Zbn 1 t65 t66) fun g29=>Zbt g29 H28) H28 fun t67 H29=>
 Zbk (Zab (Zab (g11 S))) true (lF tlo base H29 t67 fun g30 H30=>Zbt g30 H30) H29 fun t68 H31=>
 Zbk (Zab (Zab (g11 S))) true (Zaa (b2 evMul t64 t68) fun g32=>Zbt g32 H31) H31 fun t69 H32=>
 Zbk (Zab (Zab (g11 S))) true (Zaa (b2 Zcj t63 t69) fun g33=>Zbt g33 H32) H32 fun t70 H33=>
 Zaa (Zch (stale (Zab (Zab (g11 S)))) (Zak t70) (tB false)) fun t71=>
 k (z1 (Zae (stale (Zae (g1 S))))<| z8 (Zae (stale (g8 S)))<| z9 (Zae (Zae (stale (g9 S))))<| z10 (Zak (g10 S))<| z11 (Zae (g11 S))<| z20 t71<| stN 21 S) H33)
 (Zbb (fun S=>some (g20 S))
 (Zaj (Zad fun S H k=>
 k (z7 (g10 S)<| z10 (hush (g10 S))<| stN 21 S) H)
 (Zam (.exit 2)))
 (Zam .normal))))))
 (Zad fun S H k=>
 Zaa (b2 Zbe (g18 S) (tN 1)) fun t73=>
 k (z18 t73<| stN 21 S) H)))) fuel)))
 (Zam (.exit 1)))))
 (Zad fun S H k=>
 Zaa (b2 Zbe (g15 S) (tN 1)) fun t74=>
 k (z15 t74<| stN 21 S) H)))) fuel)))
 (Zaj (Zad fun S H k=>
 k (z3 (g7 S)<| z4 (tN 0)<| z7 (hush (g7 S))<| stN 21 S) H)
 (Zam .ret)))))))))
def F119:FnT:=fun call tlo l H=>Zaa (C119 call tlo (Zag H) (Zal l 0,Zal l 1,Zal l 2,Zal l 4,Zal l 5,Zal l 6,Zal l 7,Zal l 8,Zal l 9,Zal l 10,Zal l 11,Zal l 12,Zal l 18,Zal l 22,Zal l 36,Zal l 37,Zal l 38,Zal l 43,Zal l 44,Zal l 45,Zal l 71,()) H) fun p=>Zdp p.1 (Zap (Zbu Zbo [p.2.1.2.2.2.1,p.2.1.2.2.2.2.1]) (some (Zdw (Zag H) (.tup [p.2.1.2.2.2.1,p.2.1.2.2.2.2.1]) p.2.2)))
theorem F119_eq:FEq P TC 119 F119:=fun _ _ _ _=>by kernel_rfl
end
end Go.Proofs.YtgemobbfikjmoaaGreatDoor
namespace Go.Proofs.YtgemobbfikjmoaaGreatDoor
open Go Go.Ev
set_option maxRecDepth 1000000
set_option linter.unusedVariables false
noncomputable section
def C121 (call:Zbc) (tlo base:Nat):Zaz (TV×TV×TV×TV×TV×TV×TV×TV×TV×TV×TV×TV×TV×TV×TV×Unit):=
 (Zaj (Zad fun S H k=>
 Zap (stor S.1)<|
 let t3:=(.ptr (Zag H) 0)
 let H0:=(Zaq H (.cells (Zav S.1)))
 let t6:=(.ptr (Zag H0) 0)
 let H1:=(Zaq H0 (.cells Zdb))
 k (z0 (hush S.1)<| z3 t3<| z4 t6<| z5 nilT<| z6 nilT<| z7 (tN 0)<| stN 15 S) H1)
 (Zaj (Zad fun S H k=>
 lA tlo base 3 H (g3 S) fun t16 H2=>
 Zaa (Zah call 111 [Zak t16,Zak (Zab (g1 S))] H2) fun t18=>
 Zaf (Zbq (Zab t18) 0) fun c3=>
 Zaf (Zbq (Zba (Zab t18) 0) 1) fun c4=>
 Zaf (Zbq (Zba (Zba (Zab t18) 0) 1) 2) fun c5=>
 let t10:=(.ptr (Zag H2) 0)
 let H6:=(Zaq H2 (.cells Zdb))
 Zaa (Zas tlo base 19 H6 t10 c3) fun H7=>
 k (z1 (Zae (g1 S))<| z8 t10<| z9 c4<| z10 c5<| stN 15 S) H7)
 (Zaj (Zaj (Zad fun S H k=>
 Zaa (neqT .int (Zab (g10 S)) (tN 0)) fun t23=>
 k (z10 (Zae (g10 S))<| z12 t23<| stN 15 S) H)
 (Zbb (fun S=>some (g12 S))
 (Zaj (Zad fun S H k=>
 sA tlo base 19 H (g8 S) fun t24 H8=>
 Zaa (Zas tlo base 19 H8 (g4 S) t24) fun H9=>
 k (z5 nilT<| z6 nilT<| z7 (g10 S)<| z10 (hush (g10 S))<| stN 15 S) H9)
 (Zam .ret))
 (Zam .normal)))
 (Zaj (Zad fun S H k=>
 lA tlo base 3 H (g3 S) fun t27 H10=>
 Zaa (Zah call 111 [Zak t27,Zak (Zab (g2 S))] H10) fun t29=>
 Zaf (Zbq (Zab t29) 0) fun c11=>
 Zaf (Zbq (Zba (Zab t29) 0) 1) fun c12=>
 Zaf (Zbq (Zba (Zba (Zab t29) 0) 1) 2) fun c13=>
 let t13:=(.ptr (Zag H10) 0)
 let H14:=(Zaq H10 (.cells Zdb))
 Zaa (Zas tlo base 19 H14 t13 c11) fun H15=>
 k (z2 (Zae (g2 S))<| z10 c13<| z11 c12<| stN 15 S) H15)
 (Zaj (Zaj (Zad fun S H k=>
 Zaa (eqlT .int (Zab (g10 S)) (tN 0)) fun t34=>
 k (z10 (Zae (g10 S))<| z13 t34<| stN 15 S) H)
 (Zbb (fun S=>some (g13 S))
 (Zad fun S H k=>
 lA tlo base 19 H (g8 S) fun t35 H16=>
 Zaa (Zcx 1 [0,1] [Zak (Zak (g9 S)),Zak (Zak (g11 S))] (repG [.v (.int .u64 (.ofNat 0))] 2)) fun c17=>
 Zaa (Zah call 112 [Zak t35,Zak (.row .full (.own 101) 1 c17)] H16) fun t39=>
 k (z9 (Zak (g9 S))<| z10 t39<| z11 (Zak (g11 S))<| stN 15 S) H16)
 (Zam .normal)))
 (Zaj (Zaj (Zad fun S H k=>
 Zaa (neqT .int (Zab (g10 S)) (tN 0)) fun t41=>
 k (z10 (Zae (g10 S))<| z14 t41<| stN 15 S) H)
 (Zbb (fun S=>some (g14 S))
 (Zaj (Zad fun S H k=>
 sA tlo base 19 H (g8 S) fun t42 H18=>
 Zaa (Zas tlo base 19 H18 (g4 S) t42) fun H19=>
 k (z5 nilT<| z6 nilT<| z7 (g10 S)<| z10 (hush (g10 S))<| stN 15 S) H19)
 (Zam .ret))
 (Zam .normal)))
 (Zaj (Zad fun S H k=>
 sA tlo base 19 H (g8 S) fun t44 H20=>
 sA tlo base 19 H20 (g8 S) fun t45 H21=>
 Zap (Zbu noOwnO H21)<|
 Zbr call (Zag H21) 113 [Zak t45,Zak (Zak (g1 S))] H21 fun t47 H22=>
 sA tlo base 19 H22 (stale (g8 S)) fun t48 H23=>
 Zap (Zbu noOwnO H23)<|
 Zbr call (Zag H23) 113 [Zak t48,Zak (Zak (stale (g2 S)))] H23 fun t50 H24=>
 Zaa (Zas tlo base 19 H24 (stale (g4 S)) (stale t44)) fun H25=>
 k (z1 (Zak (g1 S))<| z2 (Zak (stale (g2 S)))<| z5 (stale t47)<| z6 t50<| z7 (tN 0)<| stN 15 S) H25)
 (Zam .ret))))))))
def F121:FnT:=fun call tlo l H=>Zaa (C121 call tlo (Zag H) (Zal l 0,Zal l 1,Zal l 2,Zal l 3,Zal l 6,Zal l 7,Zal l 8,Zal l 9,Zal l 10,Zal l 11,Zal l 12,Zal l 14,Zal l 23,Zal l 34,Zal l 41,()) H) fun p=>Zdp p.1 (Zbg .take tlo (Zag p.2.2) true 19 p.2.2 p.2.1.2.2.2.2.1 fun r0 h0=>Zap (Zbu Zbo [r0,p.2.1.2.2.2.2.2.1,p.2.1.2.2.2.2.2.2.1,p.2.1.2.2.2.2.2.2.2.1]) (some (Zdw (Zag H) (.tup [r0,p.2.1.2.2.2.2.2.1,p.2.1.2.2.2.2.2.2.1,p.2.1.2.2.2.2.2.2.2.1]) h0)))
theorem F121_eq:FEq P TC 121 F121:=fun _ _ _ _=>by kernel_rfl
def C124 (call:Zbc) (tlo base:Nat):Zaz (TV×TV×TV×TV×TV×TV×TV×TV×TV×TV×TV×TV×TV×TV×TV×TV×Unit):=
 (Zaj (Zad fun S H k=>
 Zap (stor S.1)<|
 let t4:=(.ptr (Zag H) 0)
 let H0:=(Zaq H (.cells (Zav S.1)))
 k (z0 (hush S.1)<| z4 t4<| z5 nilT<| z6 (tN 0)<| stN 16 S) H0)
 (Zaj (Zad fun S H k=>
 sA tlo base 3 H (g4 S) fun t16 H1=>
 Zbr call tlo 121 [Zak t16,Zak (Zak (g1 S)),Zak (Zak (g2 S))] H1 fun t19 H2=>
 Zaf (Zbq (Zab t19) 0) fun c3=>
 Zaf (Zbq (Zba (Zab t19) 0) 1) fun c4=>
 Zaf (Zbq (Zba (Zba (Zab t19) 0) 1) 2) fun c5=>
 Zaf (Zbq (Zba (Zba (Zba (Zab t19) 0) 1) 2) 3) fun c6=>
 let t10:=(.ptr (Zag H2) 0)
 let H7:=(Zaq H2 (.cells Zdb))
 Zaa (Zas tlo base 19 H7 t10 c3) fun H8=>
 k (z1 (Zak (g1 S))<| z2 (Zak (g2 S))<| z7 t10<| z8 c4<| z9 c5<| z10 c6<| stN 16 S) H8)
 (Zaj (Zaj (Zad fun S H k=>
 Zaa (neqT .int (Zab (g10 S)) (tN 0)) fun t25=>
 k (z10 (Zae (g10 S))<| z12 t25<| stN 16 S) H)
 (Zbb (fun S=>some (g12 S))
 (Zaj (Zad fun S H k=>
 k (z5 nilT<| z6 (g10 S)<| z10 (hush (g10 S))<| stN 16 S) H)
 (Zam .ret))
 (Zam .normal)))
 (Zaj (Zaj (Zad fun S H k=>
 Zaa (lenT (Zab (g8 S))) fun t28=>
 k (z8 (Zae (g8 S))<| z13 t28<| z14 (tN 0)<| stN 16 S) H)
 (Zbd 0 (Zdn (Zaj (Zad fun S H k=>
 Zaa (b2 Zcj (g14 S) (g13 S)) fun t30=>
 k (z15 t30<| stN 16 S) H)
 (Zaj (Zbb (fun S=>some (g15 S))
 (Zam .normal)
 (Zam (.exit 0)))
 (Zaj (Zbd 1 (Zaj (Zad fun S H k=>
 k (z11 (g14 S)<| z14 (hush (g14 S))<| stN 16 S) H)
 (Zad fun S H k=>
 Zdf 1 false (g8 S) H fun c9 H9=>
 Zaa (Zbn 1 (Zab (stale c9)) (Zab (Zae (stale (g11 S))))) fun t37=>
 sF tlo base H9 t37 fun t38 H10=>
 Zaa (Zbn 1 (Zab (stale (g9 S))) (Zab (Zae (Zae (stale (g11 S)))))) fun t41=>
 sF tlo base H10 t41 fun t42 H11=>
 Zdc TC call tlo (Zab (stale (g3 S))) [Zak t38,Zak t42] H11 fun t43 H12=>
 Zdf 1 false (stale c9) H12 fun c13 H13=>
 Zaa (Zbn 1 c13 (stale (Zab (stale (g11 S))))) fun t44=>
 Zaa (Zas tlo base 1 H13 t44 (stale t43)) fun H14=>
 k (z3 (Zae (stale (g3 S)))<| z8 (Zae (stale c9))<| z9 (Zae (stale (g9 S)))<| z11 (Zae (Zae (Zae (stale (g11 S)))))<| stN 16 S) H14)))
 (Zad fun S H k=>
 Zaa (b2 Zbe (g14 S) (tN 1)) fun t45=>
 k (z14 t45<| stN 16 S) H)))) fuel)))
 (Zaj (Zad fun S H k=>
 lA tlo base 19 H (g7 S) fun t46 H15=>
 Zaa (Zah call 169 [Zak t46,Zak (Zab (g8 S))] H15) fun t48=>
 k (z5 t48<| z6 (tN 0)<| z8 (Zae (g8 S))<| stN 16 S) H15)
 (Zam .ret))))))
def F124:FnT:=fun call tlo l H=>Zaa (C124 call tlo (Zag H) (Zal l 0,Zal l 1,Zal l 2,Zal l 3,Zal l 4,Zal l 8,Zal l 9,Zal l 10,Zal l 11,Zal l 12,Zal l 13,Zal l 14,Zal l 25,Zal l 28,Zal l 29,Zal l 30,()) H) fun p=>Zdp p.1 (Zap (Zbu Zbo [p.2.1.2.2.2.2.2.1,p.2.1.2.2.2.2.2.2.1]) (some (Zdw (Zag H) (.tup [p.2.1.2.2.2.2.2.1,p.2.1.2.2.2.2.2.2.1]) p.2.2)))
theorem F124_eq:FEq P TC 124 F124:=fun _ _ _ _=>by kernel_rfl
def C125 (call:Zbc) (tlo base:Nat):Zaz (TV×TV×TV×Unit):=
 (Zaj (Zad fun S H k=>
 k (z2 (tN 0)<| stN 3 S) H)
 (Zaj (Zad fun S H k=>
 Zaa (b2 (Zdv false) (Zab S.1) (Zab (g1 S))) fun c0=>
 Zap (isV c0)<|
 k (z0 (Zae S.1)<| z1 (Zae (g1 S))<| z2 c0<| stN 3 S) H)
 (Zam .ret)))
def F125:FnT:=fun call tlo l H=>Zaa (C125 call tlo (Zag H) (Zal l 0,Zal l 1,Zal l 4,()) H) fun p=>Zdp p.1 (Zap (Zbu Zbo [p.2.1.2.2.1]) (some (Zdw (Zag H) p.2.1.2.2.1 p.2.2)))
theorem F125_eq:FEq P TC 125 F125:=fun _ _ _ _=>by kernel_rfl
def C127 (call:Zbc) (tlo base:Nat):Zaz (TV×TV×TV×Unit):=
 (Zaj (Zad fun S H k=>
 k (z2 (tN 0)<| stN 3 S) H)
 (Zaj (Zad fun S H k=>
 Zaa (b2 (Zdv true) (Zab S.1) (Zab (g1 S))) fun c0=>
 Zap (isV c0)<|
 k (z0 (Zae S.1)<| z1 (Zae (g1 S))<| z2 c0<| stN 3 S) H)
 (Zam .ret)))
def F127:FnT:=fun call tlo l H=>Zaa (C127 call tlo (Zag H) (Zal l 0,Zal l 1,Zal l 4,()) H) fun p=>Zdp p.1 (Zap (Zbu Zbo [p.2.1.2.2.1]) (some (Zdw (Zag H) p.2.1.2.2.1 p.2.2)))
theorem F127_eq:FEq P TC 127 F127:=fun _ _ _ _=>by kernel_rfl
def C128 (call:Zbc) (tlo base:Nat):Zaz (TV×TV×TV×TV×TV×TV×TV×TV×TV×TV×TV×TV×TV×Unit):=
 (Zaj (Zad fun S H k=>
 Zap (stor S.1)<|
 let t1:=(.ptr (Zag H) 0)
 let H0:=(Zaq H (.cells (Zav S.1)))
 k (z0 (hush S.1)<| z1 t1<| z2 (tB false)<| stN 13 S) H0)
 (Zaj (Zad fun S H k=>
 Zaa (Zar (g1 S) 0) fun t9=>
 lF tlo base H t9 fun t10 H1=>
 Zaa (Zar (g1 S) 1) fun t11=>
 lF tlo base H1 t11 fun t12 H2=>
 Zaa (b2 evMul t10 t12) fun t13=>
 Zaa (b2 evShl (.v (.int .u64 (.ofNat 1))) t13) fun t14=>
 Zaa (b2 Zcl t14 (.v (.int .u64 (.ofNat 1)))) fun t15=>
 Zaa (Zar (g1 S) 2) fun t16=>
 lF tlo base H2 t16 fun t17 H3=>
 Zaa (b2 Zdd t15 t17) fun t18=>
 k (z3 t18<| z4 (.v (.int .u64 (.ofNat 0)))<| stN 13 S) H3)
 (Zaj (Zaj (Zad fun S H k=>
 Zaa (Zah call 100 [Zak (Zab (g3 S))] H) fun t20=>
 Zaa (lenT t20) fun t21=>
 k (z3 (Zae (g3 S))<| z8 t20<| z9 t21<| z10 (tN 0)<| stN 13 S) H)
 (Zbd 0 (Zdn (Zaj (Zad fun S H k=>
 Zaa (b2 Zcj (g10 S) (g9 S)) fun t23=>
 k (z11 t23<| stN 13 S) H)
 (Zaj (Zbb (fun S=>some (g11 S))
 (Zam .normal)
 (Zam (.exit 0)))
 (Zaj (Zbd 1 (Zaj (Zad fun S H k=>
 Zaa (Zbn 1 (g8 S) (g10 S)) fun t24=>
 sF tlo base H t24 fun t25 H4=>
 k (z5 t25<| stN 13 S) H4)
 (Zaj (Zad fun S H k=>
 Zaa (Zar (g1 S) 0) fun t27=>
 lF tlo base H t27 fun t28 H5=>
 Zaa (b2 evRem (Zab (g5 S)) t28) fun t29=>
 Zaa (Zar (g1 S) 0) fun t31=>
 lF tlo base H5 t31 fun t32 H6=>
 Zaa (b2 evQuo (Zab (Zae (g5 S))) t32) fun t33=>
 k (z5 (Zae (Zae (g5 S)))<| z6 t29<| z7 t33<| stN 13 S) H6)
 (Zaj (Zad fun S H k=>
 Zaa (Zar (g1 S) 0) fun t36=>
 lF tlo base H t36 fun t37 H7=>
 Zaa (b2 Zcl t37 (tN 1)) fun t38=>
 Zaa (b2 Zcl t38 (Zab (Zae (g6 S)))) fun t40=>
 Zaa (Zar (g1 S) 1) fun t41=>
 lF tlo base H7 t41 fun t42 H8=>
 Zaa (b2 Zcl t42 (tN 1)) fun t43=>
 Zaa (b2 Zcl t43 (Zab (Zae (g7 S)))) fun t45=>
 Zaa (b2 (Zdv false) (Zab (g6 S)) (Zab (g7 S))) fun c9=>
 Zaa (b2 (Zdv false) c9 t40) fun c10=>
 Zaa (b2 (Zdv false) c10 t45) fun c11=>
 Zap (isV c11)<|
 Zaa (eqlT .int c11 (tN 0)) fun t47=>
 k (z6 (Zae (Zae (g6 S)))<| z7 (Zae (Zae (g7 S)))<| z12 t47<| stN 13 S) H8)
 (Zbb (fun S=>some (g12 S))
 (Zad fun S H k=>
 Zaa (b2 evShl (.v (.int .u64 (.ofNat 1))) (Zab (g5 S))) fun t50=>
 Zaa (b2 evOr (Zab (g4 S)) t50) fun t51=>
 k (z4 t51<| z5 (Zae (g5 S))<| stN 13 S) H)
 (Zam .normal))))))
 (Zad fun S H k=>
 Zaa (b2 Zbe (g10 S) (tN 1)) fun t52=>
 k (z10 t52<| stN 13 S) H)))) fuel)))
 (Zaj (Zad fun S H k=>
 Zaa (Zar (g1 S) 2) fun t53=>
 lF tlo base H t53 fun t54 H12=>
 Zaa (neqT .int t54 (.v (.int .u64 (.ofNat 0)))) fun t55=>
 gB t55 true (Zar (g1 S) 2) H12 fun t57 H13=>
 Zbk (Zab t55) true (lF tlo base H13 t57 fun g14 H14=>Zbt g14 H14) H13 fun t58 H15=>
 gB t55 true (Zar (g1 S) 2) H15 fun t59 H16=>
 Zbk (Zab t55) true (lF tlo base H16 t59 fun g17 H17=>Zbt g17 H17) H16 fun t60 H18=>
 gB t55 true (b1 evNeg t60) H18 fun t61 H19=>
 gB t55 true (b2 evAnd t58 t61) H19 fun t62 H20=>
 gB t55 true (Zar (g1 S) 2) H20 fun t63 H21=>
 Zbk (Zab t55) true (sF tlo base H21 t63 fun g22 H22=>Zbt g22 H22) H21 fun t64 H23=>
 Zbk (Zab t55) true (Zap (Zbu pass [Zak (g1 S)])<| Zbt (.fn (.func 171) [] [Zak (g1 S)]) H23) H23 fun t65 H24=>
 Zap (Zbu noOwnO H24)<|
 Zbk (Zab t55) true (Zbr call (Zag H24) 170 [Zak t62,Zak t64,Zak t65] H24 fun g25 H25=>Zbt g25 H25) H24 fun t66 H26=>
 gB t55 true (Zar (stale (Zak (g1 S))) 2) H26 fun t67 H27=>
 Zbk (Zab t55) true (lF tlo base H27 t67 fun g28 H28=>Zbt g28 H28) H27 fun t68 H29=>
 gB t55 true (eqlT .int t66 t68) H29 fun t69 H30=>
 Zaa (Zch (stale (Zab t55)) (Zak t69) (tB false)) fun t70=>
 gV t70 true (Zak (stale (g4 S))) H30 fun t72 H31=>
 gV t70 true (Zak (stale (g3 S))) H31 fun t73 H32=>
 Zbk (Zab t70) true (sA tlo base 19 H32 (stale (Zak (g1 S))) fun g33 H33=>Zbt g33 H33) H32 fun t74 H34=>
 Zbk (Zab t70) true (Zap (Zbu pass [Zak t74])<| Zbt (.fn (.func 172) [Zak t74] []) H34) H34 fun t75 H35=>
 Zbk (Zab t70) true (Zbr call tlo 170 [Zak t72,Zak t73,Zak t75] H35 fun g36 H36=>Zbt g36 H36) H35 fun t76 H37=>
 gV t70 true (Zab (stale (Zak (stale (g3 S))))) H37 fun t77 H38=>
 gB t70 true (eqlT .int t76 t77) H38 fun t78 H39=>
 Zaa (Zch (stale (Zab t70)) (Zak t78) (tB false)) fun t79=>
 k (z1 (Zak (g1 S))<| z2 t79<| z3 (Zae (stale (Zak (stale (g3 S)))))<| z4 (Zak (stale (g4 S)))<| stN 13 S) H39)
 (Zam .ret)))))
def F128:FnT:=fun call tlo l H=>Zaa (C128 call tlo (Zag H) (Zal l 0,Zal l 1,Zal l 2,Zal l 3,Zal l 4,Zal l 6,Zal l 7,Zal l 8,Zal l 20,Zal l 21,Zal l 22,Zal l 23,Zal l 47,()) H) fun p=>Zdp p.1 (Zap (Zbu Zbo [p.2.1.2.2.1]) (some (Zdw (Zag H) p.2.1.2.2.1 p.2.2)))
theorem F128_eq:FEq P TC 128 F128:=fun _ _ _ _=>by kernel_rfl
def C132 (call:Zbc) (tlo base:Nat):Zaz (TV×TV×TV×TV×TV×TV×TV×TV×Unit):=
 (Zaj (Zad fun S H k=>
 Zap (stor S.1)<|
 let t3:=(.ptr (Zag H) 0)
 let H0:=(Zaq H (.cells (Zav S.1)))
 Zap (stor (g2 S))<|
 let t5:=(.ptr (Zag H0) 0)
 let H1:=(Zaq H0 (.cells (Zav (g2 S))))
 k (z0 (hush S.1)<| z2 (hush (g2 S))<| z3 t3<| z4 t5<| stN 8 S) H1)
 (Zaj (Zad fun S H k=>
 lA tlo base 3 H (g3 S) fun t9 H2=>
 Zaa (Zah call 63 [Zak t9] H2) fun t10=>
 let t6:=(.ptr (Zag H2) 0)
 let H3:=(Zaq H2 (.cells [nilT]))
 Zaa (Zas tlo base 1 H3 t6 t10) fun H4=>
 k (z5 t6<| stN 8 S) H4)
 (Zaj (Zad fun S H k=>
 lA tlo base 3 H (g3 S) fun t11 H5=>
 Zaa (Zah call 56 [Zak t11] H5) fun t12=>
 let t7:=(.ptr (Zag H5) 0)
 let H6:=(Zaq H5 (.cells [nilT]))
 Zaa (Zas tlo base 1 H6 t7 t12) fun H7=>
 k (z6 t7<| stN 8 S) H7)
 (Zaj (Zad fun S H k=>
 let t8:=(.ptr (Zag H) 0)
 let H8:=(Zaq H (.cells [.v .nilFunc]))
 k (z7 t8<| stN 8 S) H8)
 (Zaj (Zad fun S H k=>
 Zap (Zbu pass [Zak (g6 S),Zak (g4 S),Zak (g7 S),Zak (g5 S)])<|
 Zaa (Zas tlo base 1 H (Zak (g7 S)) (.fn (.func 175) [] [Zak (g6 S),Zak (g4 S),Zak (g7 S),Zak (g5 S)])) fun H9=>
 k (z4 (Zak (g4 S))<| z5 (Zak (g5 S))<| z6 (Zak (g6 S))<| z7 (Zak (g7 S))<| stN 8 S) H9)
 (Zad fun S H k=>
 lF tlo base H (g7 S) fun t14 H10=>
 Zdc TC call tlo t14 [tN 0,Zak (Zak (g1 S)),.v (.int .u64 (.ofNat 0)),nilT] H10 fun t16 H11=>
 k (z1 (Zak (g1 S))<| stN 8 S) H11))))))
def F132:FnT:=fun call tlo l H=>Zaa (C132 call tlo (Zag H) (Zal l 0,Zal l 1,Zal l 2,Zal l 3,Zal l 5,Zal l 6,Zal l 7,Zal l 8,()) H) fun p=>Zdp p.1 (Zap (Zbu Zbo []) (some (Zdw (Zag H) (.tup []) p.2.2)))
theorem F132_eq:FEq P TC 132 F132:=fun _ _ _ _=>by kernel_rfl
def C133 (call:Zbc) (tlo base:Nat):Zaz (TV×TV×Unit):=
 (Zad fun S H k=>
 Zbg .take tlo base false 1 H (g1 S) fun t3 H0=>
 Zaa (Zcx 1 [0] [Zak (Zak S.1)] (repG [nilT] 1)) fun c1=>
 Zcm tlo H0 31 1 24 t3 (.row .full (.own 31) 1 c1) fun t6 H2=>
 Zaa (Zas tlo base 1 H2 (stale (g1 S)) t6) fun H3=>
 k (z0 (Zak S.1)<| stN 2 S) H3)
def F133:FnT:=fun call tlo l H=>Zaa (C133 call tlo (Zag H) (Zal l 0,Zal l 1,()) H) fun p=>Zdp p.1 (Zap (Zbu Zbo []) (some (Zdw (Zag H) (.tup []) p.2.2)))
theorem F133_eq:FEq P TC 133 F133:=fun _ _ _ _=>by kernel_rfl
def C134 (call:Zbc) (tlo base:Nat):Zaz (TV×TV×TV×TV×TV×TV×TV×TV×Unit):=
 (Zaj (Zad fun S H k=>
 k (z2 (tN 0)<| stN 8 S) H)
 (Zaj (Zaj (Zad fun S H k=>
 Zaa (lenT (Zab S.1)) fun t7=>
 k (z0 (Zae S.1)<| z4 t7<| z5 (tN 0)<| stN 8 S) H)
 (Zbd 0 (Zdn (Zaj (Zad fun S H k=>
 Zaa (b2 Zcj (g5 S) (g4 S)) fun t9=>
 k (z6 t9<| stN 8 S) H)
 (Zaj (Zbb (fun S=>some (g6 S))
 (Zam .normal)
 (Zam (.exit 0)))
 (Zaj (Zbd 1 (Zaj (Zad fun S H k=>
 k (z3 (g5 S)<| z5 (hush (g5 S))<| stN 8 S) H)
 (Zaj (Zad fun S H k=>
 Zaa (Zbn 2 (Zab S.1) (Zab (g3 S))) fun t14=>
 sA tlo base 2 H t14 fun t15 H0=>
 Zdc TC call tlo (Zab (g1 S)) [Zak t15] H0 fun t16 H1=>
 k (z0 (Zae S.1)<| z1 (Zae (g1 S))<| z3 (Zae (g3 S))<| z7 t16<| stN 8 S) H1)
 (Zbb (fun S=>some (g7 S))
 (Zaj (Zad fun S H k=>
 k (z2 (g3 S)<| z3 (hush (g3 S))<| stN 8 S) H)
 (Zam .ret))
 (Zam .normal)))))
 (Zad fun S H k=>
 Zaa (b2 Zbe (g5 S) (tN 1)) fun t18=>
 k (z5 t18<| stN 8 S) H)))) fuel)))
 (Zaj (Zad fun S H k=>
 k (z2 (.v (.int .i64 (.negSucc 0)))<| stN 8 S) H)
 (Zam .ret))))
def F134:FnT:=fun call tlo l H=>Zaa (C134 call tlo (Zag H) (Zal l 0,Zal l 1,Zal l 4,Zal l 5,Zal l 7,Zal l 8,Zal l 9,Zal l 16,()) H) fun p=>Zdp p.1 (Zap (Zbu Zbo [p.2.1.2.2.1]) (some (Zdw (Zag H) p.2.1.2.2.1 p.2.2)))
theorem F134_eq:FEq P TC 134 F134:=fun _ _ _ _=>by kernel_rfl
def C135 (call:Zbc) (tlo base:Nat):Zaz (TV×TV×TV×TV×TV×TV×TV×TV×TV×Unit):=
 (Zaj (Zad fun S H k=>
 Zap (stor (g1 S))<|
 let t3:=(.ptr (Zag H) 0)
 let H0:=(Zaq H (.cells (Zav (g1 S))))
 k (z1 (hush (g1 S))<| z2 t3<| z3 (tN 0)<| stN 9 S) H0)
 (Zaj (Zaj (Zad fun S H k=>
 Zaa (lenT (Zab S.1)) fun t7=>
 k (z0 (Zae S.1)<| z5 t7<| z6 (tN 0)<| stN 9 S) H)
 (Zbd 0 (Zdn (Zaj (Zad fun S H k=>
 Zaa (b2 Zcj (g6 S) (g5 S)) fun t9=>
 k (z7 t9<| stN 9 S) H)
 (Zaj (Zbb (fun S=>some (g7 S))
 (Zam .normal)
 (Zam (.exit 0)))
 (Zaj (Zbd 1 (Zaj (Zad fun S H k=>
 k (z4 (g6 S)<| z6 (hush (g6 S))<| stN 9 S) H)
 (Zaj (Zad fun S H k=>
 lA tlo base 2 H (g2 S) fun t11 H1=>
 Zaa (Zbn 2 (Zab S.1) (Zab (g4 S))) fun t14=>
 lA tlo base 2 H1 t14 fun t15 H2=>
 Zaa (eqlT (.ints 2) t11 t15) fun t16=>
 k (z0 (Zae S.1)<| z4 (Zae (g4 S))<| z8 t16<| stN 9 S) H2)
 (Zbb (fun S=>some (g8 S))
 (Zaj (Zad fun S H k=>
 k (z3 (g4 S)<| z4 (hush (g4 S))<| stN 9 S) H)
 (Zam .ret))
 (Zam .normal)))))
 (Zad fun S H k=>
 Zaa (b2 Zbe (g6 S) (tN 1)) fun t18=>
 k (z6 t18<| stN 9 S) H)))) fuel)))
 (Zaj (Zad fun S H k=>
 k (z3 (.v (.int .i64 (.negSucc 0)))<| stN 9 S) H)
 (Zam .ret))))
def F135:FnT:=fun call tlo l H=>Zaa (C135 call tlo (Zag H) (Zal l 0,Zal l 1,Zal l 3,Zal l 4,Zal l 5,Zal l 7,Zal l 8,Zal l 9,Zal l 16,()) H) fun p=>Zdp p.1 (Zap (Zbu Zbo [p.2.1.2.2.2.1]) (some (Zdw (Zag H) p.2.1.2.2.2.1 p.2.2)))
theorem F135_eq:FEq P TC 135 F135:=fun _ _ _ _=>by kernel_rfl
def C136 (call:Zbc) (tlo base:Nat):Zaz (TV×TV×TV×TV×TV×TV×TV×TV×TV×TV×Unit):=
 (Zaj (Zad fun S H k=>
 k (z1 nilT<| stN 10 S) H)
 (Zaj (Zaj (Zad fun S H k=>
 Zaa (lenT (Zab S.1)) fun t7=>
 Zaa (b2 Zcj t7 (tN 2)) fun t8=>
 k (z0 (Zae S.1)<| z5 t8<| stN 10 S) H)
 (Zbb (fun S=>some (g5 S))
 (Zaj (Zad fun S H k=>
 k (z0 (hush S.1)<| z1 S.1<| stN 10 S) H)
 (Zam .ret))
 (Zam .normal)))
 (Zaj (Zaj (Zad fun S H k=>
 k (z2 (tN 1)<| stN 10 S) H)
 (Zbd 0 (Zdn (Zaj (Zaj (Zad fun S H k=>
 Zaa (lenT (Zab S.1)) fun t12=>
 Zaa (b2 Zcj (Zab (g2 S)) t12) fun t13=>
 k (z0 (Zae S.1)<| z2 (Zae (g2 S))<| z6 t13<| stN 10 S) H)
 (Zbb (fun S=>some (g6 S))
 (Zam .normal)
 (Zam (.exit 0))))
 (Zaj (Zbd 1 (Zaj (Zad fun S H k=>
 Zaa (Zbn 2 (Zab S.1) (Zab (g2 S))) fun t18=>
 lA tlo base 2 H t18 fun t19 H0=>
 Zaa (b2 Zcl (Zab (Zae (g2 S))) (tN 1)) fun t22=>
 Zaa (Zbn 2 (Zab (Zae S.1)) t22) fun t23=>
 lA tlo base 2 H0 t23 fun t24 H1=>
 Zaa (eqlT (.ints 2) t19 t24) fun t25=>
 k (z0 (Zae (Zae S.1))<| z2 (Zae (Zae (g2 S)))<| z7 t25<| stN 10 S) H1)
 (Zbb (fun S=>some (g7 S))
 (Zaj (Zad fun S H k=>
 Zaa (cutT 2 (Zab S.1) (some (Zab (g2 S))) none none) fun t28=>
 k (z0 (Zae S.1)<| z2 (Zae (g2 S))<| z3 t28<| stN 10 S) H)
 (Zaj (Zaj (Zad fun S H k=>
 k (z4 (tN 1)<| stN 10 S) H)
 (Zbd 2 (Zdn (Zaj (Zaj (Zad fun S H k=>
 Zaa (lenT (Zab (g3 S))) fun t31=>
 Zaa (b2 Zcj (Zab (g4 S)) t31) fun t32=>
 k (z3 (Zae (g3 S))<| z4 (Zae (g4 S))<| z8 t32<| stN 10 S) H)
 (Zbb (fun S=>some (g8 S))
 (Zam .normal)
 (Zam (.exit 2))))
 (Zaj (Zbd 3 (Zaj (Zad fun S H k=>
 Zaa (Zbn 2 (Zab (g3 S)) (Zab (g4 S))) fun t37=>
 lA tlo base 2 H t37 fun t38 H2=>
 Zaa (b2 Zcl (Zab (Zae (g4 S))) (tN 1)) fun t41=>
 Zaa (Zbn 2 (Zab (Zae (g3 S))) t41) fun t42=>
 lA tlo base 2 H2 t42 fun t43 H3=>
 Zaa (neqT (.ints 2) t38 t43) fun t44=>
 k (z3 (Zae (Zae (g3 S)))<| z4 (Zae (Zae (g4 S)))<| z9 t44<| stN 10 S) H3)
 (Zbb (fun S=>some (g9 S))
 (Zaj (Zad fun S H k=>
 Zdf 2 true S.1 H fun c4 H4=>
 Zaa (Zbn 2 (Zab (stale (g3 S))) (Zab (stale (g4 S)))) fun t49=>
 sA tlo base 2 H4 t49 fun t50 H5=>
 Zdf 2 true c4 H5 fun c6 H6=>
 Zaa (Zbn 2 c6 (Zab (stale (g2 S)))) fun t51=>
 Zaa (Zas tlo base 2 H6 t51 (stale t50)) fun H7=>
 k (z0 c4<| z2 (Zae (stale (g2 S)))<| z3 (Zae (stale (g3 S)))<| z4 (Zae (stale (g4 S)))<| stN 10 S) H7)
 (Zad fun S H k=>
 Zaa (b2 Zbe (Zab (g2 S)) (tN 1)) fun t53=>
 k (z2 t53<| stN 10 S) H))
 (Zam .normal))))
 (Zad fun S H k=>
 Zaa (b2 Zbe (Zab (g4 S)) (tN 1)) fun t34=>
 k (z4 t34<| stN 10 S) H))) fuel)))
 (Zaj (Zad fun S H k=>
 Zaa (cutT 2 (Zab S.1) (some (Zab (g2 S))) none none) fun t56=>
 Zdf 2 true t56 H fun c8 H8=>
 Zap (vecIs c8 2)<|
 Zaa (clearT tlo H8 zc71 c8) fun H9=>
 k (z0 (Zae S.1)<| z2 (Zae (g2 S))<| stN 10 S) H9)
 (Zaj (Zad fun S H k=>
 Zaa (cutT 2 (Zab S.1) none (some (Zab (g2 S))) none) fun t59=>
 k (z0 (Zae S.1)<| z1 t59<| z2 (Zae (g2 S))<| stN 10 S) H)
 (Zam .ret)))))
 (Zam .normal))))
 (Zad fun S H k=>
 Zaa (b2 Zbe (Zab (g2 S)) (tN 1)) fun t15=>
 k (z2 t15<| stN 10 S) H))) fuel)))
 (Zaj (Zad fun S H k=>
 k (z0 (hush S.1)<| z1 S.1<| stN 10 S) H)
 (Zam .ret)))))
def F136:FnT:=fun call tlo l H=>Zaa (C136 call tlo (Zag H) (Zal l 0,Zal l 2,Zal l 3,Zal l 4,Zal l 5,Zal l 8,Zal l 13,Zal l 25,Zal l 32,Zal l 44,()) H) fun p=>Zdp p.1 (Zap (Zbu Zbo [p.2.1.2.1]) (some (Zdw (Zag H) p.2.1.2.1 p.2.2)))
theorem F136_eq:FEq P TC 136 F136:=fun _ _ _ _=>by kernel_rfl
def C137 (call:Zbc) (tlo base:Nat):Zaz (TV×TV×TV×TV×TV×TV×TV×TV×Unit):=
 (Zaj (Zad fun S H k=>
 k (z2 (tN 0)<| stN 8 S) H)
 (Zaj (Zaj (Zad fun S H k=>
 Zaa (lenT (Zab S.1)) fun t7=>
 k (z0 (Zae S.1)<| z4 t7<| z5 (tN 0)<| stN 8 S) H)
 (Zbd 0 (Zdn (Zaj (Zad fun S H k=>
 Zaa (b2 Zcj (g5 S) (g4 S)) fun t9=>
 k (z6 t9<| stN 8 S) H)
 (Zaj (Zbb (fun S=>some (g6 S))
 (Zam .normal)
 (Zam (.exit 0)))
 (Zaj (Zbd 1 (Zaj (Zad fun S H k=>
 k (z3 (g5 S)<| z5 (hush (g5 S))<| stN 8 S) H)
 (Zaj (Zad fun S H k=>
 Zaa (Zbn 1 (Zab S.1) (Zab (g3 S))) fun t14=>
 lF tlo base H t14 fun t15 H0=>
 Zaa (eqlT .int (Zab (g1 S)) t15) fun t16=>
 k (z0 (Zae S.1)<| z1 (Zae (g1 S))<| z3 (Zae (g3 S))<| z7 t16<| stN 8 S) H0)
 (Zbb (fun S=>some (g7 S))
 (Zaj (Zad fun S H k=>
 k (z2 (g3 S)<| z3 (hush (g3 S))<| stN 8 S) H)
 (Zam .ret))
 (Zam .normal)))))
 (Zad fun S H k=>
 Zaa (b2 Zbe (g5 S) (tN 1)) fun t18=>
 k (z5 t18<| stN 8 S) H)))) fuel)))
 (Zaj (Zad fun S H k=>
 k (z2 (.v (.int .i64 (.negSucc 0)))<| stN 8 S) H)
 (Zam .ret))))
def F137:FnT:=fun call tlo l H=>Zaa (C137 call tlo (Zag H) (Zal l 0,Zal l 1,Zal l 4,Zal l 5,Zal l 7,Zal l 8,Zal l 9,Zal l 16,()) H) fun p=>Zdp p.1 (Zap (Zbu Zbo [p.2.1.2.2.1]) (some (Zdw (Zag H) p.2.1.2.2.1 p.2.2)))
theorem F137_eq:FEq P TC 137 F137:=fun _ _ _ _=>by kernel_rfl
def C138 (call:Zbc) (tlo base:Nat):Zaz (TV×TV×TV×TV×TV×TV×TV×TV×Unit):=
 (Zaj (Zad fun S H k=>
 k (z2 (tN 0)<| stN 8 S) H)
 (Zaj (Zaj (Zad fun S H k=>
 Zaa (lenT (Zab S.1)) fun t7=>
 k (z0 (Zae S.1)<| z4 t7<| z5 (tN 0)<| stN 8 S) H)
 (Zbd 0 (Zdn (Zaj (Zad fun S H k=>
 Zaa (b2 Zcj (g5 S) (g4 S)) fun t9=>
 k (z6 t9<| stN 8 S) H)
 (Zaj (Zbb (fun S=>some (g6 S))
 (Zam .normal)
 (Zam (.exit 0)))
 (Zaj (Zbd 1 (Zaj (Zad fun S H k=>
 k (z3 (g5 S)<| z5 (hush (g5 S))<| stN 8 S) H)
 (Zaj (Zad fun S H k=>
 Zaa (Zbn 1 (Zab S.1) (Zab (g3 S))) fun t14=>
 sF tlo base H t14 fun t15 H0=>
 Zdc TC call tlo (Zab (g1 S)) [Zak t15] H0 fun t16 H1=>
 k (z0 (Zae S.1)<| z1 (Zae (g1 S))<| z3 (Zae (g3 S))<| z7 t16<| stN 8 S) H1)
 (Zbb (fun S=>some (g7 S))
 (Zaj (Zad fun S H k=>
 k (z2 (g3 S)<| z3 (hush (g3 S))<| stN 8 S) H)
 (Zam .ret))
 (Zam .normal)))))
 (Zad fun S H k=>
 Zaa (b2 Zbe (g5 S) (tN 1)) fun t18=>
 k (z5 t18<| stN 8 S) H)))) fuel)))
 (Zaj (Zad fun S H k=>
 k (z2 (.v (.int .i64 (.negSucc 0)))<| stN 8 S) H)
 (Zam .ret))))
def F138:FnT:=fun call tlo l H=>Zaa (C138 call tlo (Zag H) (Zal l 0,Zal l 1,Zal l 4,Zal l 5,Zal l 7,Zal l 8,Zal l 9,Zal l 16,()) H) fun p=>Zdp p.1 (Zap (Zbu Zbo [p.2.1.2.2.1]) (some (Zdw (Zag H) p.2.1.2.2.1 p.2.2)))
theorem F138_eq:FEq P TC 138 F138:=fun _ _ _ _=>by kernel_rfl
def C143 (call:Zbc) (tlo base:Nat):Zaz (TV×TV×TV×Unit):=
 (Zaj (Zad fun S H k=>
 k (z1 nilT<| stN 3 S) H)
 (Zaj (Zaj (Zad fun S H k=>
 Zaa (eqlT .slice (Zab S.1) nilT) fun t4=>
 k (z0 (Zae S.1)<| z2 t4<| stN 3 S) H)
 (Zbb (fun S=>some (g2 S))
 (Zaj (Zad fun S H k=>
 k (z1 nilT<| stN 3 S) H)
 (Zam .ret))
 (Zam .normal)))
 (Zaj (Zad fun S H k=>
 Zaa (Zcx 2 [] [] (repG [.agg zc71] 0)) fun c0=>
 Zcm tlo H 71 2 16 (.row .full (.own 71) 2 c0) (Zab S.1) fun t7 H1=>
 k (z0 (Zae S.1)<| z1 t7<| stN 3 S) H1)
 (Zam .ret))))
def F143:FnT:=fun call tlo l H=>Zaa (C143 call tlo (Zag H) (Zal l 0,Zal l 2,Zal l 4,()) H) fun p=>Zdp p.1 (Zap (Zbu Zbo [p.2.1.2.1]) (some (Zdw (Zag H) p.2.1.2.1 p.2.2)))
theorem F143_eq:FEq P TC 143 F143:=fun _ _ _ _=>by kernel_rfl
def C147 (call:Zbc) (tlo base:Nat):Zaz (TV×TV×TV×TV×TV×TV×TV×TV×TV×TV×Unit):=
 (Zaj (Zad fun S H k=>
 k (z2 (tN 0)<| stN 10 S) H)
 (Zaj (Zad fun S H k=>
 Zaa (Zah call 176 [Zak (Zab S.1)] H) fun t8=>
 k (z0 (Zae S.1)<| z3 t8<| stN 10 S) H)
 (Zaj (Zad fun S H k=>
 Zaa (Zah call 176 [Zak (Zab (g1 S))] H) fun t10=>
 k (z1 (Zae (g1 S))<| z4 t10<| stN 10 S) H)
 (Zaj (Zaj (Zad fun S H k=>
 k (z3 (Zak (g3 S))<| z5 (Zak (g3 S))<| stN 10 S) H)
 (Zbb (fun S=>some (g5 S))
 (Zaj (Zaj (Zad fun S H k=>
 k (z4 (Zak (g4 S))<| z6 (Zak (g4 S))<| stN 10 S) H)
 (Zbb (fun S=>some (g6 S))
 (Zaj (Zad fun S H k=>
 k (z2 (tN 0)<| stN 10 S) H)
 (Zam .ret))
 (Zam .normal)))
 (Zaj (Zad fun S H k=>
 k (z2 (.v (.int .i64 (.negSucc 0)))<| stN 10 S) H)
 (Zam .ret)))
 (Zam .normal)))
 (Zaj (Zaj (Zad fun S H k=>
 k (z4 (Zak (g4 S))<| z7 (Zak (g4 S))<| stN 10 S) H)
 (Zbb (fun S=>some (g7 S))
 (Zaj (Zad fun S H k=>
 k (z2 (tN 1)<| stN 10 S) H)
 (Zam .ret))
 (Zam .normal)))
 (Zaj (Zaj (Zad fun S H k=>
 Zaa (b2 Zcj (Zab S.1) (Zab (g1 S))) fun t16=>
 k (z0 (Zae S.1)<| z1 (Zae (g1 S))<| z8 t16<| stN 10 S) H)
 (Zbb (fun S=>some (g8 S))
 (Zaj (Zad fun S H k=>
 k (z2 (.v (.int .i64 (.negSucc 0)))<| stN 10 S) H)
 (Zam .ret))
 (Zam .normal)))
 (Zaj (Zaj (Zad fun S H k=>
 Zaa (b2 evGtr (Zab S.1) (Zab (g1 S))) fun t19=>
 k (z0 (Zae S.1)<| z1 (Zae (g1 S))<| z9 t19<| stN 10 S) H)
 (Zbb (fun S=>some (g9 S))
 (Zaj (Zad fun S H k=>
 k (z2 (tN 1)<| stN 10 S) H)
 (Zam .ret))
 (Zam .normal)))
 (Zaj (Zad fun S H k=>
 k (z2 (tN 0)<| stN 10 S) H)
 (Zam .ret)))))))))
def F147:FnT:=fun call tlo l H=>Zaa (C147 call tlo (Zag H) (Zal l 0,Zal l 1,Zal l 4,Zal l 5,Zal l 6,Zal l 11,Zal l 12,Zal l 13,Zal l 16,Zal l 19,()) H) fun p=>Zdp p.1 (Zap (Zbu Zbo [p.2.1.2.2.1]) (some (Zdw (Zag H) p.2.1.2.2.1 p.2.2)))
theorem F147_eq:FEq P TC 147 F147:=fun _ _ _ _=>by kernel_rfl
def C150 (call:Zbc) (tlo base:Nat):Zaz (TV×TV×Unit):=
 (Zaj (Zad fun S H k=>
 k (z1 (tN 0)<| stN 2 S) H)
 (Zaj (Zbb (fun S=>some (tB false))
 (Zaj (Zad fun S H k=>
 Zaa (b1 (evConv .u32) (Zab S.1)) fun t4=>
 Zaa (Zah call 186 [Zak t4] H) fun t5=>
 k (z0 (Zae S.1)<| z1 t5<| stN 2 S) H)
 (Zam .ret))
 (Zam .normal))
 (Zaj (Zad fun S H k=>
 Zaa (Zah call 187 [Zak (Zab S.1)] H) fun t7=>
 k (z0 (Zae S.1)<| z1 t7<| stN 2 S) H)
 (Zam .ret))))
def F150:FnT:=fun call tlo l H=>Zaa (C150 call tlo (Zag H) (Zal l 0,Zal l 2,()) H) fun p=>Zdp p.1 (Zap (Zbu Zbo [p.2.1.2.1]) (some (Zdw (Zag H) p.2.1.2.1 p.2.2)))
theorem F150_eq:FEq P TC 150 F150:=fun _ _ _ _=>by kernel_rfl
end
end Go.Proofs.YtgemobbfikjmoaaGreatDoor
namespace Go.Proofs.YtgemobbfikjmoaaGreatDoor
open Go Go.Ev
set_option maxRecDepth 1000000
set_option linter.unusedVariables false
noncomputable section
def C151 (call:Zbc) (tlo base:Nat):Zaz (TV×TV×TV×TV×TV×TV×TV×TV×TV×TV×TV×TV×TV×TV×TV×TV×TV×TV×TV×TV×TV×TV×TV×TV×Unit):=
 (Zaj (Zad fun S H k=>
 k (z5 (tB true)<| stN 24 S) H)
 (Zaj (Zad fun S H k=>
 k (z6 (tB true)<| stN 24 S) H)
 (Zbd 0 (Zdn (Zbd 1 (Zaj (Zad fun S H k=>
 Zaa (b2 Zcl (Zab (g2 S)) (Zab (g1 S))) fun t23=>
 k (z1 (Zae (g1 S))<| z2 (Zae (g2 S))<| z7 t23<| stN 24 S) H)
 (Zaj (Zaj (Zad fun S H k=>
 Zaa (b2 evLeq (Zab (g7 S)) (tN 12)) fun t25=>
 k (z7 (Zae (g7 S))<| z16 t25<| stN 24 S) H)
 (Zbb (fun S=>some (g16 S))
 (Zaj (Zad fun S H k=>
 Zdf 2 true S.1 H fun c0 H0=>
 Zdf 2 true c0 H0 fun c1 H1=>
 Zbr call tlo 188 [c1,Zak (Zak (stale (g1 S))),Zak (Zak (stale (g2 S))),Zak (Zak (stale (g4 S)))] H1 fun t30 H2=>
 k (z0 c0<| z1 (Zak (stale (g1 S)))<| z2 (Zak (stale (g2 S)))<| z4 (Zak (stale (g4 S)))<| stN 24 S) H2)
 (Zam .ret))
 (Zam .normal)))
 (Zaj (Zaj (Zad fun S H k=>
 Zaa (eqlT .int (Zab (g3 S)) (tN 0)) fun t32=>
 k (z3 (Zae (g3 S))<| z17 t32<| stN 24 S) H)
 (Zbb (fun S=>some (g17 S))
 (Zaj (Zad fun S H k=>
 Zdf 2 true S.1 H fun c3 H3=>
 Zdf 2 true c3 H3 fun c4 H4=>
 Zbr call tlo 189 [c4,Zak (Zak (stale (g1 S))),Zak (Zak (stale (g2 S))),Zak (Zak (stale (g4 S)))] H4 fun t37 H5=>
 k (z0 c3<| z1 (Zak (stale (g1 S)))<| z2 (Zak (stale (g2 S)))<| z4 (Zak (stale (g4 S)))<| stN 24 S) H5)
 (Zam .ret))
 (Zam .normal)))
 (Zaj (Zaj (Zad fun S H k=>
 Zaa (b1 evNot (Zab (g5 S))) fun t39=>
 k (z5 (Zae (g5 S))<| z18 t39<| stN 24 S) H)
 (Zbb (fun S=>some (g18 S))
 (Zaj (Zad fun S H k=>
 Zdf 2 true S.1 H fun c6 H6=>
 Zdf 2 true c6 H6 fun c7 H7=>
 Zbr call tlo 190 [c7,Zak (Zak (stale (g1 S))),Zak (Zak (stale (g2 S))),Zak (Zak (stale (g4 S)))] H7 fun t44 H8=>
 k (z0 c6<| z1 (Zak (stale (g1 S)))<| z2 (Zak (stale (g2 S)))<| z4 (Zak (stale (g4 S)))<| stN 24 S) H8)
 (Zad fun S H k=>
 Zaa (b2 Zcl (Zab (g3 S)) (tN 1)) fun t46=>
 k (z3 t46<| stN 24 S) H))
 (Zam .normal)))
 (Zaj (Zad fun S H k=>
 Zbr call tlo 191 [Zak (Zak S.1),Zak (Zak (g1 S)),Zak (Zak (g2 S)),Zak (Zak (g4 S))] H fun t52 H9=>
 Zaf (Zbq (Zab t52) 0) fun c10=>
 Zaf (Zbq (Zba (Zab t52) 0) 1) fun c11=>
 k (z0 (Zak S.1)<| z1 (Zak (g1 S))<| z2 (Zak (g2 S))<| z4 (Zak (g4 S))<| z8 c10<| z9 c11<| stN 24 S) H9)
 (Zaj (Zaj (Zad fun S H k=>
 Zaa (eqlT .int (Zab (g9 S)) (tN 2)) fun t56=>
 k (z9 (Zae (g9 S))<| z19 t56<| stN 24 S) H)
 (Zbb (fun S=>some (g19 S))
 (Zaj (Zad fun S H k=>
 Zdf 2 true S.1 H fun c12 H12=>
 Zdf 2 true c12 H12 fun c13 H13=>
 Zbr call tlo 192 [c13,Zak (Zak (stale (g1 S))),Zak (Zak (stale (g2 S))),Zak (Zak (stale (g4 S)))] H13 fun t61 H14=>
 k (z0 c12<| z1 (Zak (stale (g1 S)))<| z2 (Zak (stale (g2 S)))<| z4 (Zak (stale (g4 S)))<| stN 24 S) H14)
 (Zaj (Zad fun S H k=>
 Zaa (b2 Zcl (Zab (g2 S)) (tN 1)) fun t63=>
 Zaa (b2 Zcl (Zab (g8 S)) (Zab (g1 S))) fun t66=>
 Zaa (b2 Zcl t63 t66) fun t67=>
 k (z1 (Zae (g1 S))<| z2 (Zae (g2 S))<| z8 t67<| stN 24 S) H)
 (Zad fun S H k=>
 k (z9 (tN 1)<| stN 24 S) H)))
 (Zam .normal)))
 (Zaj (Zaj (Zad fun S H k=>
 Zbk (Zab (Zab (g5 S))) true ( Zbt (Zak (g6 S)) H) H fun t70 H15=>
 Zaa (Zch (Zab (Zab (g5 S))) (Zak t70) (tB false)) fun t71=>
 gV t71 true (Zab (g9 S)) H15 fun t73 H16=>
 gB t71 true (eqlT .int t73 (tN 1)) H16 fun t74 H17=>
 Zaa (Zch (Zab t71) (Zak t74) (tB false)) fun t75=>
 k (z5 (Zae (g5 S))<| z6 (Zak (g6 S))<| z9 (Zae (g9 S))<| z20 t75<| stN 24 S) H17)
 (Zbb (fun S=>some (g20 S))
 (Zaj (Zad fun S H k=>
 Zdf 2 true S.1 H fun c18 H18=>
 Zdf 2 true c18 H18 fun c19 H19=>
 Zbr call tlo 193 [c19,Zak (Zak (stale (g1 S))),Zak (Zak (stale (g2 S))),Zak (Zak (stale (g4 S)))] H19 fun t80 H20=>
 k (z0 c18<| z1 (Zak (stale (g1 S)))<| z2 (Zak (stale (g2 S)))<| z4 (Zak (stale (g4 S)))<| z21 t80<| stN 24 S) H20)
 (Zbb (fun S=>some (g21 S))
 (Zam .ret)
 (Zam .normal)))
 (Zam .normal)))
 (Zaj (Zaj (Zad fun S H k=>
 Zaa (b2 evGtr (Zab (g1 S)) (tN 0)) fun t82=>
 gV t82 true (Zab (g4 S)) H fun t84 H21=>
 gV t82 true (Zab S.1) H21 fun t85 H22=>
 gV t82 true (Zab (Zae (g1 S))) H22 fun t86 H23=>
 gB t82 true (b2 Zcl t86 (tN 1)) H23 fun t87 H24=>
 gB t82 true (Zbn 2 t85 t87) H24 fun t88 H25=>
 Zbk (Zab t82) true (sA tlo base 2 H25 t88 fun g26 H26=>Zbt g26 H26) H25 fun t89 H27=>
 gV t82 true (Zab (Zae S.1)) H27 fun t90 H28=>
 gV t82 true (Zab (g8 S)) H28 fun t91 H29=>
 gB t82 true (Zbn 2 t90 t91) H29 fun t92 H30=>
 Zbk (Zab t82) true (sA tlo base 2 H30 t92 fun g31 H31=>Zbt g31 H31) H30 fun t93 H32=>
 Zbk (Zab t82) true (Zdc TC call tlo t84 [Zak t89,Zak t93] H32 fun g33 H33=>Zbt g33 H33) H32 fun t94 H34=>
 gB t82 true (b2 Zcj t94 (tN 0)) H34 fun t95 H35=>
 gB t82 true (b1 evNot t95) H35 fun t96 H36=>
 Zaa (Zch (stale (Zab t82)) (Zak t96) (tB false)) fun t97=>
 k (z0 (Zae (Zae S.1))<| z1 (Zae (Zae (g1 S)))<| z4 (Zae (g4 S))<| z8 (Zae (g8 S))<| z22 t97<| stN 24 S) H36)
 (Zbb (fun S=>some (g22 S))
 (Zaj (Zad fun S H k=>
 Zdf 2 true S.1 H fun c37 H37=>
 Zdf 2 true c37 H37 fun c38 H38=>
 Zbr call tlo 194 [c38,Zak (Zak (stale (g1 S))),Zak (Zak (stale (g2 S))),Zak (Zak (stale (g8 S))),Zak (Zak (stale (g4 S)))] H38 fun t103 H39=>
 k (z0 c37<| z1 (Zak (stale (g1 S)))<| z2 (Zak (stale (g2 S)))<| z4 (Zak (stale (g4 S)))<| z8 (Zak (stale (g8 S)))<| z10 t103<| stN 24 S) H39)
 (Zaj (Zad fun S H k=>
 k (z1 (g10 S)<| z10 (hush (g10 S))<| stN 24 S) H)
 (Zam (.exit 1))))
 (Zam .normal)))
 (Zaj (Zad fun S H k=>
 Zdf 2 true S.1 H fun c40 H40=>
 Zdf 2 true c40 H40 fun c41 H41=>
 Zbr call tlo 195 [c41,Zak (Zak (stale (g1 S))),Zak (Zak (stale (g2 S))),Zak (Zak (stale (g8 S))),Zak (Zak (stale (g4 S)))] H41 fun t111 H42=>
 Zaf (Zbq (Zab t111) 0) fun c43=>
 Zaf (Zbq (Zba (Zab t111) 0) 1) fun c44=>
 k (z0 c40<| z1 (Zak (stale (g1 S)))<| z2 (Zak (stale (g2 S)))<| z4 (Zak (stale (g4 S)))<| z8 (Zak (stale (g8 S)))<| z11 c43<| z12 c44<| stN 24 S) H42)
 (Zaj (Zad fun S H k=>
 k (z6 (g12 S)<| z12 (hush (g12 S))<| stN 24 S) H)
 (Zaj (Zad fun S H k=>
 Zaa (b2 Zcl (Zab (g11 S)) (Zab (g1 S))) fun t117=>
 Zaa (b2 Zcl (Zab (g2 S)) (Zab (Zae (g11 S)))) fun t120=>
 k (z1 (Zae (g1 S))<| z2 (Zae (g2 S))<| z11 (Zae (Zae (g11 S)))<| z13 t117<| z14 t120<| stN 24 S) H)
 (Zaj (Zad fun S H k=>
 Zaa (b2 evQuo (Zab (g7 S)) (tN 8)) fun t122=>
 k (z7 (Zae (g7 S))<| z15 t122<| stN 24 S) H)
 (Zaj (Zad fun S H k=>
 Zaa (b2 Zcj (Zab (g13 S)) (Zab (g14 S))) fun t125=>
 k (z13 (Zae (g13 S))<| z14 (Zae (g14 S))<| z23 t125<| stN 24 S) H)
 (Zbb (fun S=>some (g23 S))
 (Zaj (Zad fun S H k=>
 Zaa (b2 evGeq (Zab (g13 S)) (Zab (g15 S))) fun t128=>
 k (z5 t128<| z13 (Zae (g13 S))<| z15 (Zae (g15 S))<| stN 24 S) H)
 (Zaj (Zad fun S H k=>
 Zdf 2 true S.1 H fun c45 H45=>
 Zdf 2 true c45 H45 fun c46 H46=>
 Zbr call tlo 151 [c46,Zak (Zak (stale (g1 S))),Zak (Zak (stale (g11 S))),Zak (Zak (stale (g3 S))),Zak (Zak (stale (g4 S)))] H46 fun t134 H47=>
 k (z0 c45<| z1 (Zak (stale (g1 S)))<| z3 (Zak (stale (g3 S)))<| z4 (Zak (stale (g4 S)))<| z11 (Zak (stale (g11 S)))<| stN 24 S) H47)
 (Zad fun S H k=>
 Zaa (b2 Zbe (Zab (g11 S)) (tN 1)) fun t136=>
 k (z1 t136<| z11 (Zae (g11 S))<| stN 24 S) H)))
 (Zaj (Zad fun S H k=>
 Zaa (b2 evGeq (Zab (g14 S)) (Zab (g15 S))) fun t139=>
 k (z5 t139<| z14 (Zae (g14 S))<| z15 (Zae (g15 S))<| stN 24 S) H)
 (Zaj (Zad fun S H k=>
 Zdf 2 true S.1 H fun c48 H48=>
 Zaa (b2 Zbe (Zab (stale (g11 S))) (tN 1)) fun t142=>
 Zdf 2 true c48 H48 fun c49 H49=>
 Zbr call tlo 151 [c49,Zak t142,Zak (Zak (stale (g2 S))),Zak (Zak (stale (g3 S))),Zak (Zak (stale (g4 S)))] H49 fun t146 H50=>
 k (z0 c48<| z2 (Zak (stale (g2 S)))<| z3 (Zak (stale (g3 S)))<| z4 (Zak (stale (g4 S)))<| z11 (Zae (stale (g11 S)))<| stN 24 S) H50)
 (Zad fun S H k=>
 k (z2 (g11 S)<| z11 (hush (g11 S))<| stN 24 S) H)))))))))))))))))) fuel))))
def F151:FnT:=fun call tlo l H=>Zaa (C151 call tlo (Zag H) (Zal l 0,Zal l 1,Zal l 2,Zal l 3,Zal l 4,Zal l 10,Zal l 11,Zal l 12,Zal l 13,Zal l 14,Zal l 15,Zal l 16,Zal l 17,Zal l 18,Zal l 19,Zal l 20,Zal l 25,Zal l 32,Zal l 39,Zal l 56,Zal l 75,Zal l 80,Zal l 97,Zal l 125,()) H) fun p=>Zdp p.1 (Zap (Zbu Zbo []) (some (Zdw (Zag H) (.tup []) p.2.2)))
theorem F151_eq:FEq P TC 151 F151:=fun _ _ _ _=>by kernel_rfl
def C152 (call:Zbc) (tlo base:Nat):Zaz (TV×TV×TV×TV×Unit):=
 (Zaj (Zad fun S H k=>
 Zaa (nilCkT (Zab S.1)) fun t7=>
 Zaa (Zar t7 2) fun t8=>
 lF tlo base H t8 fun t9 H0=>
 Zaa (b2 evShr t9 (Zab (g1 S))) fun t11=>
 Zaa (b2 evAnd t11 (.v (.int .u64 (.ofNat 1)))) fun t12=>
 Zaa (eqlT .int t12 (.v (.int .u64 (.ofNat 1)))) fun t13=>
 gV t13 true (Zab (Zae S.1)) H0 fun t15 H1=>
 gB t13 true (nilCkT t15) H1 fun t16 H2=>
 gB t13 true (Zar t16 2) H2 fun t17 H3=>
 Zbk (Zab t13) true (lF tlo base H3 t17 fun g4 H4=>Zbt g4 H4) H3 fun t18 H5=>
 gV t13 true (Zab (g2 S)) H5 fun t19 H6=>
 gB t13 true (b2 evShr t18 t19) H6 fun t20 H7=>
 gB t13 true (b2 evAnd t20 (.v (.int .u64 (.ofNat 1)))) H7 fun t21 H8=>
 gB t13 true (eqlT .int t21 (.v (.int .u64 (.ofNat 1)))) H8 fun t22 H9=>
 Zaa (Zch (Zab t13) (Zak t22) (tB false)) fun t23=>
 k (z0 (Zae (Zae S.1))<| z1 (Zae (g1 S))<| z2 (Zae (g2 S))<| z3 t23<| stN 4 S) H9)
 (Zbb (fun S=>some (g3 S))
 (Zaj (Zad fun S H k=>
 Zaa (nilCkT (Zab S.1)) fun t26=>
 Zaa (Zar t26 3) fun t27=>
 Zaa (Zbj 16 1 t27 (Zab (g1 S))) fun t28=>
 lF tlo base H t28 fun t29 H10=>
 Zaa (b2 evShl (.v (.int .u64 (.ofNat 1))) (Zab (g2 S))) fun t31=>
 Zaa (b2 evOr t29 t31) fun t32=>
 Zaa (nilCkT (Zab S.1)) fun t33=>
 Zaa (Zar t33 3) fun t34=>
 Zdf 0 false t34 H10 fun c11 H11=>
 Zaa (Zbj 16 1 c11 (Zab (g1 S))) fun t35=>
 Zaa (Zas tlo base 1 H11 t35 (stale t32)) fun H12=>
 k (z0 (Zae S.1)<| z1 (Zae (g1 S))<| z2 (Zae (g2 S))<| stN 4 S) H12)
 (Zad fun S H k=>
 Zaa (nilCkT (Zab S.1)) fun t38=>
 Zaa (Zar t38 3) fun t39=>
 Zaa (Zbj 16 1 t39 (Zab (g2 S))) fun t40=>
 lF tlo base H t40 fun t41 H13=>
 Zaa (b2 evShl (.v (.int .u64 (.ofNat 1))) (Zab (g1 S))) fun t43=>
 Zaa (b2 evOr t41 t43) fun t44=>
 Zaa (nilCkT (Zab S.1)) fun t45=>
 Zaa (Zar t45 3) fun t46=>
 Zdf 0 false t46 H13 fun c14 H14=>
 Zaa (Zbj 16 1 c14 (Zab (g2 S))) fun t47=>
 Zaa (Zas tlo base 1 H14 t47 (stale t44)) fun H15=>
 k (z0 (Zae S.1)<| z1 (Zae (g1 S))<| z2 (Zae (g2 S))<| stN 4 S) H15))
 (Zam .normal)))
def F152:FnT:=fun call tlo l H=>Zaa (C152 call tlo (Zag H) (Zal l 0,Zal l 1,Zal l 2,Zal l 23,()) H) fun p=>Zdp p.1 (Zap (Zbu Zbo []) (some (Zdw (Zag H) (.tup []) p.2.2)))
theorem F152_eq:FEq P TC 152 F152:=fun _ _ _ _=>by kernel_rfl
def C153 (call:Zbc) (tlo base:Nat):Zaz (TV×TV×TV×TV×TV×TV×TV×TV×TV×TV×TV×TV×TV×TV×Unit):=
 (Zaj (Zad fun S H k=>
 k (z6 (tB false)<| stN 14 S) H)
 (Zaj (Zam .normal)
 (Zaj (Zaj (Zad fun S H k=>
 Zaa (Zar (g1 S) 3) fun t11=>
 Zaa (Zbj 16 1 t11 (Zab S.1)) fun t12=>
 lF tlo base H t12 fun t13 H0=>
 lF tlo base H0 (g2 S) fun t14 H1=>
 Zaa (b2 evAnd t13 t14) fun t15=>
 Zaa (Zah call 100 [Zak t15] H1) fun t16=>
 Zaa (lenT t16) fun t17=>
 k (z0 (Zae S.1)<| z8 t16<| z9 t17<| z10 (tN 0)<| stN 14 S) H1)
 (Zbd 0 (Zdn (Zaj (Zad fun S H k=>
 Zaa (b2 Zcj (g10 S) (g9 S)) fun t19=>
 k (z11 t19<| stN 14 S) H)
 (Zaj (Zbb (fun S=>some (g11 S))
 (Zam .normal)
 (Zam (.exit 0)))
 (Zaj (Zbd 1 (Zaj (Zad fun S H k=>
 Zaa (Zbn 1 (g8 S) (g10 S)) fun t20=>
 sF tlo base H t20 fun t21 H2=>
 k (z7 t21<| stN 14 S) H2)
 (Zaj (Zaj (Zad fun S H k=>
 lF tlo base H (g3 S) fun t22 H3=>
 Zaa (b2 evShr t22 (Zab (g7 S))) fun t24=>
 Zaa (b2 evAnd t24 (.v (.int .u64 (.ofNat 1)))) fun t25=>
 Zaa (eqlT .int t25 (.v (.int .u64 (.ofNat 1)))) fun t26=>
 k (z7 (Zae (g7 S))<| z12 t26<| stN 14 S) H3)
 (Zbb (fun S=>some (g12 S))
 (Zam (.exit 1))
 (Zam .normal)))
 (Zaj (Zad fun S H k=>
 lF tlo base H (g3 S) fun t27 H4=>
 Zaa (b2 evShl (.v (.int .u64 (.ofNat 1))) (Zab (g7 S))) fun t29=>
 Zaa (b2 evOr t27 t29) fun t30=>
 Zaa (Zas tlo base 1 H4 (g3 S) t30) fun H5=>
 k (z7 (Zae (g7 S))<| stN 14 S) H5)
 (Zaj (Zad fun S H k=>
 Zaa (Zbj 16 1 (g4 S) (Zab (g7 S))) fun t32=>
 lF tlo base H t32 fun t33 H6=>
 Zaa (b2 Zcj t33 (tN 0)) fun t34=>
 Zbk (Zab t34) false (lF tlo base H6 (g5 S) fun g7 H7=>Zbt g7 H7) H6 fun t36 H8=>
 gV t34 false (Zab (Zae (g7 S))) H8 fun t37 H9=>
 gB t34 false (Zbj 16 1 (g4 S) t37) H9 fun t38 H10=>
 Zbk (Zab t34) false (sF tlo base H10 t38 fun g11 H11=>Zbt g11 H11) H10 fun t39 H12=>
 Zbk (Zab t34) false (Zdc TC call tlo t36 [Zak t39] H12 fun g13 H13=>Zbt g13 H13) H12 fun t40 H14=>
 Zaa (Zch (stale (Zab t34)) (tB true) (Zak t40)) fun t41=>
 k (z7 (Zae (Zae (g7 S)))<| z13 t41<| stN 14 S) H14)
 (Zbb (fun S=>some (g13 S))
 (Zaj (Zad fun S H k=>
 Zdf 0 false (g4 S) H fun c15 H15=>
 Zaa (Zbj 16 1 c15 (Zab (g7 S))) fun t44=>
 Zaa (Zas tlo base 1 H15 t44 (stale (Zak S.1))) fun H16=>
 k (z0 (Zak S.1)<| z4 c15<| z7 (Zae (g7 S))<| stN 14 S) H16)
 (Zaj (Zad fun S H k=>
 k (z6 (tB true)<| stN 14 S) H)
 (Zam .ret)))
 (Zam .normal)))))))
 (Zad fun S H k=>
 Zaa (b2 Zbe (g10 S) (tN 1)) fun t45=>
 k (z10 t45<| stN 14 S) H)))) fuel)))
 (Zaj (Zad fun S H k=>
 k (z6 (tB false)<| stN 14 S) H)
 (Zam .ret)))))
def F153:FnT:=fun call tlo l H=>Zaa (C153 call tlo (Zag H) (Zal l 0,Zal l 1,Zal l 2,Zal l 3,Zal l 4,Zal l 5,Zal l 7,Zal l 9,Zal l 16,Zal l 17,Zal l 18,Zal l 19,Zal l 26,Zal l 41,()) H) fun p=>Zdp p.1 (Zap (Zbu Zbo [p.2.1.2.2.2.2.2.2.1]) (some (Zdw (Zag H) p.2.1.2.2.2.2.2.2.1 p.2.2)))
theorem F153_eq:FEq P TC 153 F153:=fun _ _ _ _=>by kernel_rfl
def C154 (call:Zbc) (tlo base:Nat):Zaz (TV×TV×TV×TV×Unit):=
 (Zaj (Zad fun S H k=>
 Zap (stor S.1)<|
 let t2:=(.ptr (Zag H) 0)
 let H0:=(Zaq H (.cells (Zav S.1)))
 k (z0 (hush S.1)<| z2 t2<| z3 (tB false)<| stN 4 S) H0)
 (Zaj (Zad fun S H k=>
 Zaa (Zar (g2 S) 0) fun t6=>
 lF tlo base H t6 fun t7 H1=>
 Zaa (b2 evRem (Zab (g1 S)) t7) fun t8=>
 Zaa (Zar (g2 S) 0) fun t10=>
 lF tlo base H1 t10 fun t11 H2=>
 Zaa (b2 evQuo (Zab (Zae (g1 S))) t11) fun t12=>
 Zaa (b2 Zbe t8 t12) fun t13=>
 Zaa (b2 evRem t13 (tN 2)) fun t14=>
 Zaa (eqlT .int t14 (tN 1)) fun t15=>
 k (z1 (Zae (Zae (g1 S)))<| z3 t15<| stN 4 S) H2)
 (Zam .ret)))
def F154:FnT:=fun call tlo l H=>Zaa (C154 call tlo (Zag H) (Zal l 0,Zal l 1,Zal l 2,Zal l 4,()) H) fun p=>Zdp p.1 (Zap (Zbu Zbo [p.2.1.2.2.2.1]) (some (Zdw (Zag H) p.2.1.2.2.2.1 p.2.2)))
theorem F154_eq:FEq P TC 154 F154:=fun _ _ _ _=>by kernel_rfl
def C156 (call:Zbc) (tlo base:Nat):Zaz (TV×TV×Unit):=
 (Zaj (Zad fun S H k=>
 k (z1 (tN 0)<| stN 2 S) H)
 (Zaj (Zbb (fun S=>some (tB false))
 (Zaj (Zad fun S H k=>
 Zaa (b1 (evConv .u32) (Zab S.1)) fun t4=>
 Zaa (Zah call 196 [Zak t4] H) fun t5=>
 k (z0 (Zae S.1)<| z1 t5<| stN 2 S) H)
 (Zam .ret))
 (Zam .normal))
 (Zaj (Zad fun S H k=>
 Zaa (Zah call 197 [Zak (Zab S.1)] H) fun t7=>
 k (z0 (Zae S.1)<| z1 t7<| stN 2 S) H)
 (Zam .ret))))
def F156:FnT:=fun call tlo l H=>Zaa (C156 call tlo (Zag H) (Zal l 0,Zal l 2,()) H) fun p=>Zdp p.1 (Zap (Zbu Zbo [p.2.1.2.1]) (some (Zdw (Zag H) p.2.1.2.1 p.2.2)))
theorem F156_eq:FEq P TC 156 F156:=fun _ _ _ _=>by kernel_rfl
def C157 (call:Zbc) (tlo base:Nat):Zaz (TV×TV×TV×Unit):=
 (Zaj (Zad fun S H k=>
 k (z2 (tB false)<| stN 3 S) H)
 (Zaj (Zad fun S H k=>
 Zbr call tlo 198 [Zak (Zak S.1),Zak (Zak (g1 S))] H fun t7 H0=>
 Zaa (b2 evGeq t7 (tN 0)) fun t8=>
 k (z0 (Zak S.1)<| z1 (Zak (g1 S))<| z2 t8<| stN 3 S) H0)
 (Zam .ret)))
def F157:FnT:=fun call tlo l H=>Zaa (C157 call tlo (Zag H) (Zal l 0,Zal l 1,Zal l 4,()) H) fun p=>Zdp p.1 (Zap (Zbu Zbo [p.2.1.2.2.1]) (some (Zdw (Zag H) p.2.1.2.2.1 p.2.2)))
theorem F157_eq:FEq P TC 157 F157:=fun _ _ _ _=>by kernel_rfl
def C158 (call:Zbc) (tlo base:Nat):Zaz (TV×TV×TV×Unit):=
 (Zaj (Zad fun S H k=>
 k (z2 (tB false)<| stN 3 S) H)
 (Zaj (Zad fun S H k=>
 Zaa (Zar (g1 S) 2) fun t5=>
 lF tlo base H t5 fun t6 H0=>
 Zaa (neqT .int (Zab S.1) t6) fun t7=>
 k (z0 (Zae S.1)<| z2 t7<| stN 3 S) H0)
 (Zam .ret)))
def F158:FnT:=fun call tlo l H=>Zaa (C158 call tlo (Zag H) (Zal l 0,Zal l 1,Zal l 3,()) H) fun p=>Zdp p.1 (Zap (Zbu Zbo [p.2.1.2.2.1]) (some (Zdw (Zag H) p.2.1.2.2.1 p.2.2)))
theorem F158_eq:FEq P TC 158 F158:=fun _ _ _ _=>by kernel_rfl
def C159 (call:Zbc) (tlo base:Nat):Zaz (TV×TV×TV×TV×TV×TV×TV×TV×TV×TV×TV×Unit):=
 (Zaj (Zad fun S H k=>
 lA tlo base 19 H (g4 S) fun t17 H0=>
 Zaa (Zah call 160 [Zak t17,Zak (Zab (g1 S)),Zak (Zab (g2 S))] H0) fun t20=>
 Zaf (Zbq (Zab t20) 0) fun c1=>
 Zaf (Zbq (Zba (Zab t20) 0) 1) fun c2=>
 k (z1 (Zae (g1 S))<| z2 (Zae (g2 S))<| z8 c1<| z9 c2<| stN 11 S) H0)
 (Zaj (Zad fun S H k=>
 Zaa (b2 (Zdv true) (Zab (g8 S)) (Zab (g9 S))) fun c3=>
 Zap (isV c3)<|
 Zaa (b2 evGeq c3 (tN 0)) fun t26=>
 Zbk (Zab t26) true (lF tlo base H (g5 S) fun g4 H4=>Zbt g4 H4) H fun t28 H5=>
 gV t26 true (Zab S.1) H5 fun t29 H6=>
 gB t26 true (Zbn 1 t28 t29) H6 fun t30 H7=>
 Zbk (Zab t26) true (lF tlo base H7 t30 fun g8 H8=>Zbt g8 H8) H7 fun t31 H9=>
 gB t26 true (b1 evNot t31) H9 fun t32 H10=>
 Zaa (Zch (Zab t26) (Zak t32) (tB false)) fun t33=>
 Zbk (Zab t33) true (lF tlo base H10 (g6 S) fun g11 H11=>Zbt g11 H11) H10 fun t35 H12=>
 gV t33 true (Zak (Zae (g8 S))) H12 fun t36 H13=>
 gV t33 true (Zak (Zae (g9 S))) H13 fun t37 H14=>
 gB t33 true (aggT [(0,1,t36),(1,1,t37)] zc71) H14 fun t38 H15=>
 gB t33 true (Zah call 62 [Zak t35,Zak t38] H15) H15 fun t39 H16=>
 gB t33 true (b1 evNot t39) H16 fun t40 H17=>
 Zaa (Zch (Zab t33) (Zak t40) (tB false)) fun t41=>
 k (z0 (Zae S.1)<| z8 (Zak (Zae (g8 S)))<| z9 (Zak (Zae (g9 S)))<| z10 t41<| stN 11 S) H17)
 (Zbb (fun S=>some (g10 S))
 (Zad fun S H k=>
 lF tlo base H (g7 S) fun t42 H18=>
 Zdc TC call tlo t42 [Zak (Zak S.1),Zak (Zak (g3 S))] H18 fun t45 H19=>
 k (z0 (Zak S.1)<| z3 (Zak (g3 S))<| stN 11 S) H19)
 (Zam .normal))))
def F159:FnT:=fun call tlo l H=>Zaa (C159 call tlo (Zag H) (Zal l 1,Zal l 2,Zal l 3,Zal l 4,Zal l 5,Zal l 6,Zal l 7,Zal l 8,Zal l 14,Zal l 15,Zal l 41,()) H) fun p=>Zdp p.1 (Zap (Zbu Zbo []) (some (Zdw (Zag H) (.tup []) p.2.2)))
theorem F159_eq:FEq P TC 159 F159:=fun _ _ _ _=>by kernel_rfl
def C160 (call:Zbc) (tlo base:Nat):Zaz (TV×TV×TV×TV×TV×TV×TV×TV×TV×TV×Unit):=
 (Zaj (Zad fun S H k=>
 Zap (stor S.1)<|
 let t3:=(.ptr (Zag H) 0)
 let H0:=(Zaq H (.cells (Zav S.1)))
 k (z0 (hush S.1)<| z3 t3<| z4 (tN 0)<| z5 (tN 0)<| stN 10 S) H0)
 (Zaj (Zad fun S H k=>
 Zaa (Zar (g3 S) 0) fun t12=>
 lF tlo base H t12 fun t13 H1=>
 Zaa (b2 Zbe t13 (tN 1)) fun t14=>
 Zaa (b2 evRem (Zab (g1 S)) t14) fun t15=>
 Zaa (Zar (g3 S) 0) fun t17=>
 lF tlo base H1 t17 fun t18 H2=>
 Zaa (b2 Zbe t18 (tN 1)) fun t19=>
 Zaa (b2 evQuo (Zab (Zae (g1 S))) t19) fun t20=>
 k (z1 (Zae (Zae (g1 S)))<| z6 t15<| z7 t20<| stN 10 S) H2)
 (Zaj (Zad fun S H k=>
 Zap (Zbu pass [Zak (g3 S)])<|
 k (z3 (Zak (g3 S))<| z8 (.fn (.func 199) [] [Zak (g3 S)])<| stN 10 S) H)
 (Zaj (Zaj (Zad fun S H k=>
 k (z2 (Zak (g2 S))<| z9 (Zak (g2 S))<| stN 10 S) H)
 (Zbb (fun S=>some (g9 S))
 (Zaj (Zad fun S H k=>
 Zaa (b2 Zcl (Zab (g6 S)) (tN 1)) fun t25=>
 Zdc TC call tlo (Zab (g8 S)) [Zak t25,Zak (Zak (g7 S))] H fun t27 H3=>
 Zdc TC call tlo (Zab (stale (Zae (g8 S)))) [Zak (Zak (stale (Zae (g6 S)))),Zak (Zak (stale (Zak (g7 S))))] H3 fun t31 H4=>
 k (z4 (stale t27)<| z5 t31<| z6 (Zak (stale (Zae (g6 S))))<| z7 (Zak (stale (Zak (g7 S))))<| z8 (Zae (stale (Zae (g8 S))))<| stN 10 S) H4)
 (Zam .ret))
 (Zam .normal)))
 (Zaj (Zad fun S H k=>
 Zaa (b2 Zcl (Zab (g7 S)) (tN 1)) fun t35=>
 Zdc TC call tlo (Zab (g8 S)) [Zak (Zak (g6 S)),Zak t35] H fun t36 H5=>
 Zdc TC call tlo (Zab (stale (Zae (g8 S)))) [Zak (Zak (stale (Zak (g6 S)))),Zak (Zak (stale (Zae (g7 S))))] H5 fun t40 H6=>
 k (z4 (stale t36)<| z5 t40<| z6 (Zak (stale (Zak (g6 S))))<| z7 (Zak (stale (Zae (g7 S))))<| z8 (Zae (stale (Zae (g8 S))))<| stN 10 S) H6)
 (Zam .ret))))))
def F160:FnT:=fun call tlo l H=>Zaa (C160 call tlo (Zag H) (Zal l 0,Zal l 1,Zal l 2,Zal l 3,Zal l 6,Zal l 7,Zal l 8,Zal l 9,Zal l 10,Zal l 22,()) H) fun p=>Zdp p.1 (Zap (Zbu Zbo [p.2.1.2.2.2.2.1,p.2.1.2.2.2.2.2.1]) (some (Zdw (Zag H) (.tup [p.2.1.2.2.2.2.1,p.2.1.2.2.2.2.2.1]) p.2.2)))
theorem F160_eq:FEq P TC 160 F160:=fun _ _ _ _=>by kernel_rfl
def C161 (call:Zbc) (tlo base:Nat):Zaz (TV×TV×TV×TV×TV×TV×TV×TV×TV×TV×TV×TV×Unit):=
 (Zaj (Zad fun S H k=>
 Zbg (.thaw 1 false) tlo base false 1 H (g2 S) fun t10 H0=>
 Zbg (.thaw 1 false) tlo base false 1 H0 (stale (g3 S)) fun t12 H1=>
 Zdf 1 false (stale t10) H1 fun c2 H2=>
 Zaa (Zbn 1 c2 (stale (Zab (stale S.1)))) fun t15=>
 Zap (apartT [hdX (stale (g3 S)) (hdP H (g3 S))] [hdX t15 (hdP H2 t15)])<|
 Zaa (Zas tlo base 1 H2 t15 (stale (Zak (stale (g1 S))))) fun H3=>
 Zdf 1 false (stale t12) H3 fun c4 H4=>
 Zaa (Zbn 1 c4 (stale (Zab (stale (Zae (stale S.1)))))) fun t16=>
 Zaa (Zas tlo base 1 H4 t16 (tB true)) fun H5=>
 k (z0 (Zae (stale (Zae (stale S.1))))<| z1 (Zak (stale (g1 S)))<| stN 12 S) H5)
 (Zaj (Zad fun S H k=>
 Zaa (Zar (g4 S) 0) fun t18=>
 lF tlo base H t18 fun t19 H6=>
 Zaa (b2 Zbe t19 (tN 1)) fun t20=>
 Zaa (b2 evRem (Zab S.1) t20) fun t21=>
 Zaa (Zar (g4 S) 0) fun t23=>
 lF tlo base H6 t23 fun t24 H7=>
 Zaa (b2 Zbe t24 (tN 1)) fun t25=>
 Zaa (b2 evQuo (Zab (Zae S.1)) t25) fun t26=>
 k (z0 (Zae (Zae S.1))<| z6 t21<| z7 t26<| stN 12 S) H7)
 (Zaj (Zaj (Zad fun S H k=>
 Zaa (Zar (g4 S) 0) fun t28=>
 lF tlo base H t28 fun t29 H8=>
 Zaa (b2 Zcj (Zab (g6 S)) t29) fun t30=>
 k (z6 (Zae (g6 S))<| z8 t30<| stN 12 S) H8)
 (Zbb (fun S=>some (g8 S))
 (Zad fun S H k=>
 lF tlo base H (g5 S) fun t31 H9=>
 Zaa (b2 Zbe (Zab (Zak S.1)) (tN 1)) fun t34=>
 lA tlo base 19 H9 (g4 S) fun t37 H10=>
 Zaa (Zah call 162 [Zak t37,Zak (Zab (Zak (Zae (Zak S.1))))] H10) fun t39=>
 Zaa (b2 Zbe (Zab (g1 S)) t39) fun t40=>
 Zdc TC call tlo t31 [Zak (Zak S.1),Zak t34,Zak (Zak (Zae (Zak S.1))),tB false,Zak t40] H10 fun t41 H11=>
 k (z0 (Zae (Zak (Zae (Zak S.1))))<| z1 (Zae (g1 S))<| stN 12 S) H11)
 (Zam .normal)))
 (Zaj (Zaj (Zad fun S H k=>
 Zaa (Zar (g4 S) 1) fun t43=>
 lF tlo base H t43 fun t44 H12=>
 Zaa (b2 Zcj (Zab (g7 S)) t44) fun t45=>
 k (z7 (Zae (g7 S))<| z9 t45<| stN 12 S) H12)
 (Zbb (fun S=>some (g9 S))
 (Zad fun S H k=>
 lF tlo base H (g5 S) fun t46 H13=>
 Zaa (Zar (g4 S) 0) fun t49=>
 lF tlo base H13 t49 fun t50 H14=>
 Zaa (b2 Zbe (Zab (Zak S.1)) t50) fun t51=>
 Zaa (b2 Zbe t51 (tN 1)) fun t52=>
 lA tlo base 19 H14 (g4 S) fun t55 H15=>
 Zaa (Zah call 162 [Zak t55,Zak (Zab (Zak (Zae (Zak S.1))))] H15) fun t57=>
 Zaa (b2 Zcl (Zab (g1 S)) t57) fun t58=>
 Zdc TC call tlo t46 [Zak (Zak S.1),Zak t52,Zak (Zak (Zae (Zak S.1))),tB true,Zak t58] H15 fun t59 H16=>
 k (z0 (Zae (Zak (Zae (Zak S.1))))<| z1 (Zae (g1 S))<| stN 12 S) H16)
 (Zam .normal)))
 (Zaj (Zaj (Zad fun S H k=>
 Zaa (b2 evGtr (Zab (g6 S)) (tN 0)) fun t61=>
 k (z6 (Zae (g6 S))<| z10 t61<| stN 12 S) H)
 (Zbb (fun S=>some (g10 S))
 (Zad fun S H k=>
 lF tlo base H (g5 S) fun t62 H17=>
 Zaa (b2 Zcl (Zab (Zak S.1)) (tN 1)) fun t65=>
 Zaa (b2 Zcl (Zab (Zae (Zak S.1))) (tN 1)) fun t67=>
 lA tlo base 19 H17 (g4 S) fun t69 H18=>
 Zaa (b2 Zcl (Zab (Zae (Zae (Zak S.1)))) (tN 1)) fun t71=>
 Zaa (Zah call 162 [Zak t69,Zak t71] H18) fun t72=>
 Zaa (b2 Zcl (Zab (g1 S)) t72) fun t73=>
 Zdc TC call tlo t62 [Zak (Zak S.1),Zak t65,Zak t67,tB false,Zak t73] H18 fun t74 H19=>
 k (z0 (Zae (Zae (Zae (Zak S.1))))<| z1 (Zae (g1 S))<| stN 12 S) H19)
 (Zam .normal)))
 (Zaj (Zad fun S H k=>
 Zaa (b2 evGtr (Zab (g7 S)) (tN 0)) fun t76=>
 k (z7 (Zae (g7 S))<| z11 t76<| stN 12 S) H)
 (Zbb (fun S=>some (g11 S))
 (Zad fun S H k=>
 lF tlo base H (g5 S) fun t77 H20=>
 Zaa (Zar (g4 S) 0) fun t80=>
 lF tlo base H20 t80 fun t81 H21=>
 Zaa (b2 Zcl (Zab (Zak S.1)) t81) fun t82=>
 Zaa (b2 Zcl t82 (tN 1)) fun t83=>
 Zaa (Zar (g4 S) 0) fun t85=>
 lF tlo base H21 t85 fun t86 H22=>
 Zaa (b2 Zcl (Zab (Zae (Zak S.1))) t86) fun t87=>
 Zaa (b2 Zcl t87 (tN 1)) fun t88=>
 lA tlo base 19 H22 (g4 S) fun t90 H23=>
 Zaa (Zar (g4 S) 0) fun t92=>
 lF tlo base H23 t92 fun t93 H24=>
 Zaa (b2 Zcl (Zab (Zae (Zae (Zak S.1)))) t93) fun t94=>
 Zaa (b2 Zcl t94 (tN 1)) fun t95=>
 Zaa (Zah call 162 [Zak t90,Zak t95] H24) fun t96=>
 Zaa (b2 Zbe (Zab (g1 S)) t96) fun t97=>
 Zdc TC call tlo t77 [Zak (Zak S.1),Zak t83,Zak t88,tB true,Zak t97] H24 fun t98 H25=>
 k (z0 (Zae (Zae (Zae (Zak S.1))))<| z1 (Zae (g1 S))<| stN 12 S) H25)
 (Zam .normal))))))))
def F161:FnT:=fun call tlo l H=>Zaa (C161 call tlo (Zag H) (Zal l 0,Zal l 1,Zal l 2,Zal l 3,Zal l 4,Zal l 5,Zal l 8,Zal l 9,Zal l 30,Zal l 45,Zal l 61,Zal l 76,()) H) fun p=>Zdp p.1 (Zap (Zbu Zbo []) (some (Zdw (Zag H) (.tup []) p.2.2)))
theorem F161_eq:FEq P TC 161 F161:=fun _ _ _ _=>by kernel_rfl
def C162 (call:Zbc) (tlo base:Nat):Zaz (TV×TV×TV×TV×Unit):=
 (Zaj (Zad fun S H k=>
 Zap (stor S.1)<|
 let t2:=(.ptr (Zag H) 0)
 let H0:=(Zaq H (.cells (Zav S.1)))
 k (z0 (hush S.1)<| z2 t2<| z3 (tN 0)<| stN 4 S) H0)
 (Zaj (Zad fun S H k=>
 Zaa (Zar (g2 S) 0) fun t6=>
 lF tlo base H t6 fun t7 H1=>
 Zaa (b2 Zbe t7 (tN 1)) fun t8=>
 Zaa (b2 evRem (Zab (g1 S)) t8) fun t9=>
 Zaa (Zar (g2 S) 0) fun t11=>
 lF tlo base H1 t11 fun t12 H2=>
 Zaa (b2 Zbe t12 (tN 1)) fun t13=>
 Zaa (b2 evQuo (Zab (Zae (g1 S))) t13) fun t14=>
 Zaa (b2 Zbe t9 t14) fun t15=>
 Zaa (b2 evRem t15 (tN 2)) fun t16=>
 Zaa (b2 evMul (tN 2) t16) fun t17=>
 Zaa (b2 Zcl (tN 1) t17) fun t18=>
 k (z1 (Zae (Zae (g1 S)))<| z3 t18<| stN 4 S) H2)
 (Zam .ret)))
def F162:FnT:=fun call tlo l H=>Zaa (C162 call tlo (Zag H) (Zal l 0,Zal l 1,Zal l 2,Zal l 4,()) H) fun p=>Zdp p.1 (Zap (Zbu Zbo [p.2.1.2.2.2.1]) (some (Zdw (Zag H) p.2.1.2.2.2.1 p.2.2)))
theorem F162_eq:FEq P TC 162 F162:=fun _ _ _ _=>by kernel_rfl
def C164 (call:Zbc) (tlo base:Nat):Zaz (TV×TV×TV×TV×TV×Unit):=
 (Zaj (Zad fun S H k=>
 Zap (stor S.1)<|
 let t2:=(.ptr (Zag H) 0)
 let H0:=(Zaq H (.cells (Zav S.1)))
 Zap (stor (g1 S))<|
 let t3:=(.ptr (Zag H0) 0)
 let H1:=(Zaq H0 (.cells (Zav (g1 S))))
 k (z0 (hush S.1)<| z1 (hush (g1 S))<| z2 t2<| z3 t3<| z4 (tN 0)<| stN 5 S) H1)
 (Zaj (Zad fun S H k=>
 Zaa (cutArrT false 1 2 (g2 S) none none none) fun t5=>
 Zaa (cutArrT false 1 2 (g3 S) none none none) fun t6=>
 Zaa (Zah call 78 [Zak t5,Zak t6] H) fun t7=>
 k (z4 t7<| stN 5 S) H)
 (Zam .ret)))
def F164:FnT:=fun call tlo l H=>Zaa (C164 call tlo (Zag H) (Zal l 0,Zal l 1,Zal l 2,Zal l 3,Zal l 4,()) H) fun p=>Zdp p.1 (Zap (Zbu Zbo [p.2.1.2.2.2.2.1]) (some (Zdw (Zag H) p.2.1.2.2.2.2.1 p.2.2)))
theorem F164_eq:FEq P TC 164 F164:=fun _ _ _ _=>by kernel_rfl
def C166 (call:Zbc) (tlo base:Nat):Zaz (TV×TV×Unit):=
 (Zaj (Zad fun S H k=>
 k (z1 (tN 0)<| stN 2 S) H)
 (Zaj (Zbb (fun S=>some (tB false))
 (Zaj (Zad fun S H k=>
 Zaa (b1 (evConv .u32) (Zab S.1)) fun t4=>
 Zaa (Zah call 201 [Zak t4] H) fun t5=>
 k (z0 (Zae S.1)<| z1 t5<| stN 2 S) H)
 (Zam .ret))
 (Zam .normal))
 (Zaj (Zad fun S H k=>
 Zaa (Zah call 202 [Zak (Zab S.1)] H) fun t7=>
 k (z0 (Zae S.1)<| z1 t7<| stN 2 S) H)
 (Zam .ret))))
def F166:FnT:=fun call tlo l H=>Zaa (C166 call tlo (Zag H) (Zal l 0,Zal l 2,()) H) fun p=>Zdp p.1 (Zap (Zbu Zbo [p.2.1.2.1]) (some (Zdw (Zag H) p.2.1.2.1 p.2.2)))
theorem F166_eq:FEq P TC 166 F166:=fun _ _ _ _=>by kernel_rfl
def C169 (call:Zbc) (tlo base:Nat):Zaz (TV×TV×TV×TV×TV×TV×TV×TV×TV×TV×TV×TV×TV×TV×TV×Unit):=
 (Zaj (Zad fun S H k=>
 Zap (stor S.1)<|
 let t2:=(.ptr (Zag H) 0)
 let H0:=(Zaq H (.cells (Zav S.1)))
 k (z0 (hush S.1)<| z2 t2<| z3 nilT<| stN 15 S) H0)
 (Zaj (Zad fun S H k=>
 k (z4 nilT<| stN 15 S) H)
 (Zaj (Zaj (Zad fun S H k=>
 Zaa (Zar (g2 S) 2) fun t11=>
 lF tlo base H t11 fun t12 H1=>
 Zaa (Zah call 100 [Zak t12] H1) fun t13=>
 Zaa (lenT t13) fun t14=>
 k (z9 t13<| z10 t14<| z11 (tN 0)<| stN 15 S) H1)
 (Zbd 0 (Zdn (Zaj (Zad fun S H k=>
 Zaa (b2 Zcj (g11 S) (g10 S)) fun t16=>
 k (z12 t16<| stN 15 S) H)
 (Zaj (Zbb (fun S=>some (g12 S))
 (Zam .normal)
 (Zam (.exit 0)))
 (Zaj (Zbd 1 (Zaj (Zad fun S H k=>
 Zaa (Zbn 1 (g9 S) (g11 S)) fun t17=>
 sF tlo base H t17 fun t18 H2=>
 k (z5 t18<| stN 15 S) H2)
 (Zaj (Zad fun S H k=>
 Zaa (Zar (g2 S) 0) fun t20=>
 lF tlo base H t20 fun t21 H3=>
 Zaa (b2 evQuo (Zab (g5 S)) t21) fun t22=>
 Zaa (b2 Zbe t22 (tN 1)) fun t23=>
 Zaa (Zar (g2 S) 0) fun t24=>
 lF tlo base H3 t24 fun t25 H4=>
 Zaa (b2 Zbe t25 (tN 1)) fun t26=>
 Zaa (b2 evMul t23 t26) fun t27=>
 Zaa (Zar (g2 S) 0) fun t29=>
 lF tlo base H4 t29 fun t30 H5=>
 Zaa (b2 evRem (Zab (Zae (g5 S))) t30) fun t31=>
 Zaa (b2 Zbe t27 t31) fun t32=>
 Zaa (b2 Zbe t32 (tN 1)) fun t33=>
 k (z5 (Zae (Zae (g5 S)))<| z6 t33<| stN 15 S) H5)
 (Zaj (Zad fun S H k=>
 Zaa (Zbn 1 (Zab (g1 S)) (Zab (g6 S))) fun t36=>
 lF tlo base H t36 fun t37 H6=>
 Zaa (Zar (g2 S) 0) fun t40=>
 lF tlo base H6 t40 fun t41 H7=>
 Zaa (b2 Zcl (Zab (Zae (g6 S))) t41) fun t42=>
 Zaa (b2 Zcl t42 (tN 1)) fun t43=>
 Zaa (Zbn 1 (Zab (Zae (g1 S))) t43) fun t44=>
 lF tlo base H7 t44 fun t45 H8=>
 Zaa (b2 Zcl t37 t45) fun t46=>
 Zaa (Zbn 1 (Zab (Zae (Zae (g1 S)))) (Zab (Zae (Zae (g6 S))))) fun t49=>
 lF tlo base H8 t49 fun t50 H9=>
 Zaa (b2 Zcl (Zab (Zae (Zae (Zae (g6 S))))) (tN 1)) fun t53=>
 Zaa (Zbn 1 (Zab (Zae (Zae (Zae (g1 S))))) t53) fun t54=>
 lF tlo base H9 t54 fun t55 H10=>
 Zaa (b2 Zcl t50 t55) fun t56=>
 k (z1 (Zae (Zae (Zae (Zae (g1 S)))))<| z6 (Zae (Zae (Zae (Zae (g6 S)))))<| z7 t46<| z8 t56<| stN 15 S) H10)
 (Zaj (Zaj (Zad fun S H k=>
 Zaa (Zar (g2 S) 3) fun t58=>
 Zaa (Zbj 16 1 t58 (Zab (g5 S))) fun t59=>
 lF tlo base H t59 fun t60 H11=>
 Zaa (b2 Zbe (Zab (Zae (g5 S))) (tN 1)) fun t62=>
 Zaa (b2 evShr t60 t62) fun t63=>
 Zaa (b2 evAnd t63 (.v (.int .u64 (.ofNat 1)))) fun t64=>
 Zaa (eqlT .int t64 (.v (.int .u64 (.ofNat 1)))) fun t65=>
 gV t65 true (Zab (Zae (Zae (g5 S)))) H11 fun t67 H12=>
 gB t65 true (Zar (g2 S) 0) H12 fun t68 H13=>
 Zbk (Zab t65) true (lF tlo base H13 t68 fun g14 H14=>Zbt g14 H14) H13 fun t69 H15=>
 gB t65 true (b2 evRem t67 t69) H15 fun t70 H16=>
 gB t65 true (Zar (g2 S) 0) H16 fun t71 H17=>
 Zbk (Zab t65) true (lF tlo base H17 t71 fun g18 H18=>Zbt g18 H18) H17 fun t72 H19=>
 gB t65 true (b2 Zcl t72 (tN 1)) H19 fun t73 H20=>
 gB t65 true (b2 Zcj t70 t73) H20 fun t74 H21=>
 Zaa (Zch (Zab t65) (Zak t74) (tB false)) fun t75=>
 gV t75 true (Zab (g7 S)) H21 fun t77 H22=>
 gV t75 true (Zab (Zae (g7 S))) H22 fun t78 H23=>
 gB t75 true (b2 evMul t77 t78) H23 fun t79 H24=>
 gB t75 true (b2 evGtr t79 (tN 1)) H24 fun t80 H25=>
 Zaa (Zch (Zab t75) (Zak t80) (tB false)) fun t81=>
 k (z5 (Zae (Zae (Zae (g5 S))))<| z7 (Zae (Zae (g7 S)))<| z13 t81<| stN 15 S) H25)
 (Zbb (fun S=>some (g13 S))
 (Zad fun S H k=>
 Zaa (b2 Zbe (Zab (Zak (g5 S))) (tN 1)) fun t85=>
 Zaa (aggT [(0,1,(Zak (g5 S))),(1,1,t85)] zc71) fun t86=>
 Zaa (Zcx 2 [0] [Zak t86] (repG [.agg zc71] 1)) fun c26=>
 Zcm tlo H 71 2 16 (g4 S) (.row .full (.own 71) 2 c26) fun t88 H27=>
 k (z4 t88<| z5 (Zae (Zak (g5 S)))<| stN 15 S) H27)
 (Zam .normal)))
 (Zaj (Zad fun S H k=>
 Zaa (Zar (g2 S) 3) fun t90=>
 Zaa (Zbj 16 1 t90 (Zab (g5 S))) fun t91=>
 lF tlo base H t91 fun t92 H28=>
 Zaa (Zar (g2 S) 0) fun t94=>
 lF tlo base H28 t94 fun t95 H29=>
 Zaa (b2 Zbe (Zab (Zae (g5 S))) t95) fun t96=>
 Zaa (b2 evShr t92 t96) fun t97=>
 Zaa (b2 evAnd t97 (.v (.int .u64 (.ofNat 1)))) fun t98=>
 Zaa (eqlT .int t98 (.v (.int .u64 (.ofNat 1)))) fun t99=>
 gV t99 true (Zab (g8 S)) H29 fun t101 H30=>
 gV t99 true (Zab (Zae (g8 S))) H30 fun t102 H31=>
 gB t99 true (b2 evMul t101 t102) H31 fun t103 H32=>
 gB t99 true (b2 evGtr t103 (tN 1)) H32 fun t104 H33=>
 Zaa (Zch (Zab t99) (Zak t104) (tB false)) fun t105=>
 k (z5 (Zae (Zae (g5 S)))<| z8 (Zae (Zae (g8 S)))<| z14 t105<| stN 15 S) H33)
 (Zbb (fun S=>some (g14 S))
 (Zad fun S H k=>
 Zaa (Zar (g2 S) 0) fun t109=>
 lF tlo base H t109 fun t110 H34=>
 Zaa (b2 Zbe (Zab (Zak (g5 S))) t110) fun t111=>
 Zaa (aggT [(0,1,(Zak (g5 S))),(1,1,t111)] zc71) fun t112=>
 Zaa (Zcx 2 [0] [Zak t112] (repG [.agg zc71] 1)) fun c35=>
 Zcm tlo H34 71 2 16 (g4 S) (.row .full (.own 71) 2 c35) fun t114 H36=>
 k (z4 t114<| z5 (Zae (Zak (g5 S)))<| stN 15 S) H36)
 (Zam .normal))))))))
 (Zad fun S H k=>
 Zaa (b2 Zbe (g11 S) (tN 1)) fun t115=>
 k (z11 t115<| stN 15 S) H)))) fuel)))
 (Zaj (Zad fun S H k=>
 k (z3 (g4 S)<| z4 (hush (g4 S))<| stN 15 S) H)
 (Zam .ret)))))
def F169:FnT:=fun call tlo l H=>Zaa (C169 call tlo (Zag H) (Zal l 0,Zal l 1,Zal l 2,Zal l 4,Zal l 5,Zal l 7,Zal l 8,Zal l 9,Zal l 10,Zal l 13,Zal l 14,Zal l 15,Zal l 16,Zal l 81,Zal l 105,()) H) fun p=>Zdp p.1 (Zap (Zbu Zbo [p.2.1.2.2.2.1]) (some (Zdw (Zag H) p.2.1.2.2.2.1 p.2.2)))
theorem F169_eq:FEq P TC 169 F169:=fun _ _ _ _=>by kernel_rfl
def C170 (call:Zbc) (tlo base:Nat):Zaz (TV×TV×TV×TV×TV×TV×TV×TV×TV×TV×TV×Unit):=
 (Zaj (Zad fun S H k=>
 k (z3 (.v (.int .u64 (.ofNat 0)))<| stN 11 S) H)
 (Zbd 0 (Zdn (Zbd 1 (Zaj (Zad fun S H k=>
 k (z0 (hush S.1)<| z4 S.1<| stN 11 S) H)
 (Zaj (Zaj (Zad fun S H k=>
 Zaa (Zah call 100 [Zak (Zab S.1)] H) fun t12=>
 Zaa (lenT t12) fun t13=>
 k (z0 (Zae S.1)<| z6 t12<| z7 t13<| z8 (tN 0)<| stN 11 S) H)
 (Zbd 2 (Zdn (Zaj (Zad fun S H k=>
 Zaa (b2 Zcj (g8 S) (g7 S)) fun t15=>
 k (z9 t15<| stN 11 S) H)
 (Zaj (Zbb (fun S=>some (g9 S))
 (Zam .normal)
 (Zam (.exit 2)))
 (Zaj (Zbd 3 (Zaj (Zad fun S H k=>
 Zaa (Zbn 1 (g6 S) (g8 S)) fun t16=>
 sF tlo base H t16 fun t17 H0=>
 k (z5 t17<| stN 11 S) H0)
 (Zad fun S H k=>
 Zdc TC call tlo (Zab (g2 S)) [Zak (Zak (g5 S))] H fun t21 H1=>
 Zaa (b2 evAnd t21 (Zab (stale (g1 S)))) fun t23=>
 Zaa (b2 evOr (stale (Zab (g4 S))) t23) fun t24=>
 k (z1 (Zae (stale (g1 S)))<| z2 (Zae (g2 S))<| z4 t24<| z5 (Zak (g5 S))<| stN 11 S) H1)))
 (Zad fun S H k=>
 Zaa (b2 Zbe (g8 S) (tN 1)) fun t25=>
 k (z8 t25<| stN 11 S) H)))) fuel)))
 (Zaj (Zaj (Zad fun S H k=>
 Zaa (eqlT .int (Zab (g4 S)) (Zab S.1)) fun t28=>
 k (z0 (Zae S.1)<| z4 (Zae (g4 S))<| z10 t28<| stN 11 S) H)
 (Zbb (fun S=>some (g10 S))
 (Zaj (Zad fun S H k=>
 k (z3 (g4 S)<| z4 (hush (g4 S))<| stN 11 S) H)
 (Zam .ret))
 (Zam .normal)))
 (Zad fun S H k=>
 k (z0 (g4 S)<| z4 (hush (g4 S))<| stN 11 S) H))))) fuel)))
def F170:FnT:=fun call tlo l H=>Zaa (C170 call tlo (Zag H) (Zal l 0,Zal l 1,Zal l 2,Zal l 6,Zal l 7,Zal l 9,Zal l 12,Zal l 13,Zal l 14,Zal l 15,Zal l 28,()) H) fun p=>Zdp p.1 (Zap (Zbu Zbo [p.2.1.2.2.2.1]) (some (Zdw (Zag H) p.2.1.2.2.2.1 p.2.2)))
theorem F170_eq:FEq P TC 170 F170:=fun _ _ _ _=>by kernel_rfl
def C171 (call:Zbc) (tlo base:Nat):Zaz (TV×TV×TV×Unit):=
 (Zaj (Zad fun S H k=>
 k (z2 (.v (.int .u64 (.ofNat 0)))<| stN 3 S) H)
 (Zaj (Zad fun S H k=>
 Zaa (Zar (g1 S) 3) fun t5=>
 Zaa (Zbj 16 1 t5 (Zab S.1)) fun t6=>
 sF tlo base H t6 fun t7 H0=>
 k (z0 (Zae S.1)<| z2 t7<| stN 3 S) H0)
 (Zam .ret)))
def F171:FnT:=fun call tlo l H=>Zaa (C171 call tlo (Zag H) (Zal l 0,Zal l 1,Zal l 3,()) H) fun p=>Zdp p.1 (Zap (Zbu Zbo [p.2.1.2.2.1]) (some (Zdw (Zag H) p.2.1.2.2.1 p.2.2)))
theorem F171_eq:FEq P TC 171 F171:=fun _ _ _ _=>by kernel_rfl
def C172 (call:Zbc) (tlo base:Nat):Zaz (TV×TV×TV×TV×TV×TV×TV×TV×TV×TV×TV×Unit):=
 (Zaj (Zad fun S H k=>
 Zap (stor S.1)<|
 let t2:=(.ptr (Zag H) 0)
 let H0:=(Zaq H (.cells (Zav S.1)))
 k (z0 (hush S.1)<| z2 t2<| z3 (.v (.int .u64 (.ofNat 0)))<| stN 11 S) H0)
 (Zaj (Zad fun S H k=>
 Zaa (Zar (g2 S) 0) fun t9=>
 lF tlo base H t9 fun t10 H1=>
 Zaa (b2 evRem (Zab (g1 S)) t10) fun t11=>
 Zaa (Zar (g2 S) 0) fun t13=>
 lF tlo base H1 t13 fun t14 H2=>
 Zaa (b2 evQuo (Zab (Zae (g1 S))) t14) fun t15=>
 k (z1 (Zae (Zae (g1 S)))<| z4 t11<| z5 t15<| stN 11 S) H2)
 (Zaj (Zad fun S H k=>
 k (z6 (.v (.int .u64 (.ofNat 0)))<| stN 11 S) H)
 (Zaj (Zaj (Zad fun S H k=>
 Zaa (b2 evGtr (Zab (g4 S)) (tN 0)) fun t17=>
 k (z4 (Zae (g4 S))<| z7 t17<| stN 11 S) H)
 (Zbb (fun S=>some (g7 S))
 (Zad fun S H k=>
 Zaa (b2 Zcl (Zab (g1 S)) (tN 1)) fun t20=>
 Zaa (b2 evShl (.v (.int .u64 (.ofNat 1))) t20) fun t21=>
 Zaa (b2 evOr (Zab (g6 S)) t21) fun t22=>
 k (z1 (Zae (g1 S))<| z6 t22<| stN 11 S) H)
 (Zam .normal)))
 (Zaj (Zaj (Zad fun S H k=>
 Zaa (Zar (g2 S) 0) fun t24=>
 lF tlo base H t24 fun t25 H3=>
 Zaa (b2 Zcl t25 (tN 1)) fun t26=>
 Zaa (b2 Zcj (Zab (g4 S)) t26) fun t27=>
 k (z4 (Zae (g4 S))<| z8 t27<| stN 11 S) H3)
 (Zbb (fun S=>some (g8 S))
 (Zad fun S H k=>
 Zaa (b2 Zbe (Zab (g1 S)) (tN 1)) fun t30=>
 Zaa (b2 evShl (.v (.int .u64 (.ofNat 1))) t30) fun t31=>
 Zaa (b2 evOr (Zab (g6 S)) t31) fun t32=>
 k (z1 (Zae (g1 S))<| z6 t32<| stN 11 S) H)
 (Zam .normal)))
 (Zaj (Zaj (Zad fun S H k=>
 Zaa (b2 evGtr (Zab (g5 S)) (tN 0)) fun t34=>
 k (z5 (Zae (g5 S))<| z9 t34<| stN 11 S) H)
 (Zbb (fun S=>some (g9 S))
 (Zad fun S H k=>
 Zaa (Zar (g2 S) 0) fun t37=>
 lF tlo base H t37 fun t38 H4=>
 Zaa (b2 Zcl (Zab (g1 S)) t38) fun t39=>
 Zaa (b2 evShl (.v (.int .u64 (.ofNat 1))) t39) fun t40=>
 Zaa (b2 evOr (Zab (g6 S)) t40) fun t41=>
 k (z1 (Zae (g1 S))<| z6 t41<| stN 11 S) H4)
 (Zam .normal)))
 (Zaj (Zaj (Zad fun S H k=>
 Zaa (Zar (g2 S) 1) fun t43=>
 lF tlo base H t43 fun t44 H5=>
 Zaa (b2 Zcl t44 (tN 1)) fun t45=>
 Zaa (b2 Zcj (Zab (g5 S)) t45) fun t46=>
 k (z5 (Zae (g5 S))<| z10 t46<| stN 11 S) H5)
 (Zbb (fun S=>some (g10 S))
 (Zad fun S H k=>
 Zaa (Zar (g2 S) 0) fun t49=>
 lF tlo base H t49 fun t50 H6=>
 Zaa (b2 Zbe (Zab (g1 S)) t50) fun t51=>
 Zaa (b2 evShl (.v (.int .u64 (.ofNat 1))) t51) fun t52=>
 Zaa (b2 evOr (Zab (g6 S)) t52) fun t53=>
 k (z1 (Zae (g1 S))<| z6 t53<| stN 11 S) H6)
 (Zam .normal)))
 (Zaj (Zad fun S H k=>
 k (z3 (g6 S)<| z6 (hush (g6 S))<| stN 11 S) H)
 (Zam .ret)))))))))
def F172:FnT:=fun call tlo l H=>Zaa (C172 call tlo (Zag H) (Zal l 0,Zal l 1,Zal l 2,Zal l 4,Zal l 5,Zal l 6,Zal l 7,Zal l 17,Zal l 27,Zal l 34,Zal l 46,()) H) fun p=>Zdp p.1 (Zap (Zbu Zbo [p.2.1.2.2.2.1]) (some (Zdw (Zag H) p.2.1.2.2.2.1 p.2.2)))
theorem F172_eq:FEq P TC 172 F172:=fun _ _ _ _=>by kernel_rfl
def C175 (call:Zbc) (tlo base:Nat):Zaz (TV×TV×TV×TV×TV×TV×TV×TV×TV×TV×TV×TV×TV×TV×TV×TV×TV×TV×TV×Unit):=
 (Zaj (Zaj (Zad fun S H k=>
 lF tlo base H (g4 S) fun t16 H0=>
 Zaa (lenT t16) fun t17=>
 Zaa (eqlT .int (Zab S.1) t17) fun t18=>
 k (z0 (Zae S.1)<| z10 t18<| stN 19 S) H0)
 (Zbb (fun S=>some (g10 S))
 (Zaj (Zaj (Zad fun S H k=>
 Zaa (eqlT .int (Zab (g1 S)) (tN 0)) fun t20=>
 k (z1 (Zae (g1 S))<| z11 t20<| stN 19 S) H)
 (Zbb (fun S=>some (g11 S))
 (Zad fun S H k=>
 lF tlo base H (g5 S) fun t21 H1=>
 Zdc TC call tlo t21 [Zak (Zak (g3 S))] H1 fun t23 H2=>
 k (z3 (Zak (g3 S))<| stN 19 S) H2)
 (Zam .normal)))
 (Zam .ret))
 (Zam .normal)))
 (Zaj (Zad fun S H k=>
 lF tlo base H (g4 S) fun t24 H3=>
 Zaa (Zbn 1 t24 (Zab S.1)) fun t26=>
 sF tlo base H3 t26 fun t27 H4=>
 k (z0 (Zae S.1)<| z8 t27<| stN 19 S) H4)
 (Zaj (Zaj (Zad fun S H k=>
 Zaa (b2 evShr (Zab (g2 S)) (Zab (g8 S))) fun t30=>
 Zaa (b2 evAnd t30 (.v (.int .u64 (.ofNat 1)))) fun t31=>
 Zaa (eqlT .int t31 (.v (.int .u64 (.ofNat 1)))) fun t32=>
 k (z2 (Zae (g2 S))<| z8 (Zae (g8 S))<| z12 t32<| stN 19 S) H)
 (Zbb (fun S=>some (g12 S))
 (Zaj (Zad fun S H k=>
 lF tlo base H (g6 S) fun t33 H5=>
 Zaa (b2 Zbe (Zab S.1) (tN 1)) fun t35=>
 Zdc TC call tlo t33 [Zak t35,Zak (Zak (g1 S)),Zak (Zak (g2 S)),Zak (Zak (g3 S))] H5 fun t39 H6=>
 k (z0 (Zae S.1)<| z1 (Zak (g1 S))<| z2 (Zak (g2 S))<| z3 (Zak (g3 S))<| stN 19 S) H6)
 (Zam .ret))
 (Zam .normal)))
 (Zaj (Zaj (Zad fun S H k=>
 sF tlo base H (g7 S) fun t40 H7=>
 Zaa (lenT t40) fun t41=>
 k (z13 t40<| z14 t41<| z15 (tN 0)<| stN 19 S) H7)
 (Zbd 0 (Zdn (Zaj (Zad fun S H k=>
 Zaa (b2 Zcj (g15 S) (g14 S)) fun t43=>
 k (z16 t43<| stN 19 S) H)
 (Zaj (Zbb (fun S=>some (g16 S))
 (Zam .normal)
 (Zam (.exit 0)))
 (Zaj (Zbd 1 (Zaj (Zad fun S H k=>
 Zaa (Zbn 2 (g13 S) (g15 S)) fun t44=>
 sA tlo base 2 H t44 fun t45 H8=>
 let t14:=(.ptr (Zag H8) 0)
 let H9:=(Zaq H8 (.cells zc71))
 Zaa (Zas tlo base 2 H9 t14 t45) fun H10=>
 k (z9 t14<| stN 19 S) H10)
 (Zaj (Zad fun S H k=>
 Zaa (Zbj 2 1 (g9 S) (tN 0)) fun t46=>
 lF tlo base H t46 fun t47 H11=>
 Zaa (eqlT .int t47 (Zab (g8 S))) fun t49=>
 gV t49 true (Zab (g2 S)) H11 fun t51 H12=>
 gB t49 true (Zbj 2 1 (g9 S) (tN 1)) H12 fun t52 H13=>
 Zbk (Zab t49) true (lF tlo base H13 t52 fun g14 H14=>Zbt g14 H14) H13 fun t53 H15=>
 gB t49 true (b2 evShr t51 t53) H15 fun t54 H16=>
 gB t49 true (b2 evAnd t54 (.v (.int .u64 (.ofNat 1)))) H16 fun t55 H17=>
 gB t49 true (eqlT .int t55 (.v (.int .u64 (.ofNat 0)))) H17 fun t56 H18=>
 Zaa (Zch (Zab t49) (Zak t56) (tB false)) fun t57=>
 k (z2 (Zae (g2 S))<| z8 (Zae (g8 S))<| z17 t57<| stN 19 S) H18)
 (Zbb (fun S=>some (g17 S))
 (Zad fun S H k=>
 lF tlo base H (g6 S) fun t58 H19=>
 Zaa (b2 Zbe (Zab S.1) (tN 1)) fun t60=>
 Zaa (b2 evShl (.v (.int .u64 (.ofNat 1))) (Zab (g8 S))) fun t64=>
 Zaa (b2 evOr (Zab (g2 S)) t64) fun t65=>
 Zaa (Zbj 2 1 (g9 S) (tN 1)) fun t66=>
 lF tlo base H19 t66 fun t67 H20=>
 Zaa (b2 evShl (.v (.int .u64 (.ofNat 1))) t67) fun t68=>
 Zaa (b2 evOr t65 t68) fun t69=>
 Zaa (lenT (Zab (Zae (g3 S)))) fun t72=>
 Zaa (lenT (Zab (Zae (Zae (g3 S))))) fun t74=>
 Zaa (cutT 2 (Zab (g3 S)) none (some t72) (some t74)) fun t75=>
 sA tlo base 2 H20 (g9 S) fun t76 H21=>
 Zaa (Zcx 2 [0] [Zak t76] (repG [.agg zc71] 1)) fun c22=>
 Zap (apartT [hdX (g6 S) (hdP H (g6 S)),hdX t66 (hdP H19 t66)] [hdX t75 (hdP H20 t75),hdX (.row .full (.own 71) 2 c22) (hdP H21 (.row .full (.own 71) 2 c22))])<|
 Zcm tlo H21 71 2 16 t75 (.row .full (.own 71) 2 c22) fun t78 H23=>
 Zdc TC call tlo (stale t58) [Zak (stale t60),Zak (stale (Zak (g1 S))),Zak (stale t69),Zak t78] H23 fun t79 H24=>
 k (z0 (Zae S.1)<| z1 (Zak (g1 S))<| z2 (Zae (g2 S))<| z3 (Zae (Zae (Zae (g3 S))))<| z8 (Zae (g8 S))<| stN 19 S) H24)
 (Zam .normal)))))
 (Zad fun S H k=>
 Zaa (b2 Zbe (g15 S) (tN 1)) fun t80=>
 k (z15 t80<| stN 19 S) H)))) fuel)))
 (Zaj (Zad fun S H k=>
 Zaa (b2 evGtr (Zab (g1 S)) (tN 0)) fun t82=>
 k (z1 (Zae (g1 S))<| z18 t82<| stN 19 S) H)
 (Zbb (fun S=>some (g18 S))
 (Zad fun S H k=>
 lF tlo base H (g6 S) fun t83 H25=>
 Zaa (b2 Zbe (Zab S.1) (tN 1)) fun t85=>
 Zaa (b2 Zcl (Zab (g1 S)) (tN 1)) fun t87=>
 Zdc TC call tlo t83 [Zak t85,Zak t87,Zak (Zak (g2 S)),Zak (Zak (g3 S))] H25 fun t90 H26=>
 k (z0 (Zae S.1)<| z1 (Zae (g1 S))<| z2 (Zak (g2 S))<| z3 (Zak (g3 S))<| stN 19 S) H26)
 (Zam .normal)))))))
def F175:FnT:=fun call tlo l H=>Zaa (C175 call tlo (Zag H) (Zal l 0,Zal l 1,Zal l 2,Zal l 3,Zal l 4,Zal l 5,Zal l 6,Zal l 7,Zal l 12,Zal l 14,Zal l 18,Zal l 20,Zal l 32,Zal l 40,Zal l 41,Zal l 42,Zal l 43,Zal l 57,Zal l 82,()) H) fun p=>Zdp p.1 (Zap (Zbu Zbo []) (some (Zdw (Zag H) (.tup []) p.2.2)))
theorem F175_eq:FEq P TC 175 F175:=fun _ _ _ _=>by kernel_rfl
def C176 (call:Zbc) (tlo base:Nat):Zaz (TV×TV×Unit):=
 (Zaj (Zad fun S H k=>
 k (z1 (tB false)<| stN 2 S) H)
 (Zaj (Zad fun S H k=>
 Zaa (neqT .int (Zab S.1) (Zab (Zae S.1))) fun t5=>
 k (z0 (Zae (Zae S.1))<| z1 t5<| stN 2 S) H)
 (Zam .ret)))
def F176:FnT:=fun call tlo l H=>Zaa (C176 call tlo (Zag H) (Zal l 0,Zal l 2,()) H) fun p=>Zdp p.1 (Zap (Zbu Zbo [p.2.1.2.1]) (some (Zdw (Zag H) p.2.1.2.1 p.2.2)))
theorem F176_eq:FEq P TC 176 F176:=fun _ _ _ _=>by kernel_rfl
end
end Go.Proofs.YtgemobbfikjmoaaGreatDoor
namespace Go.Proofs.YtgemobbfikjmoaaGreatDoor
open Go Go.Ev
set_option maxRecDepth 1000000
set_option linter.unusedVariables false
noncomputable section
def C186 (call:Zbc) (tlo base:Nat):Zaz (TV×TV×TV×TV×Unit):=
 (Zaj (Zad fun S H k=>
 k (z1 (tN 0)<| stN 4 S) H)
 (Zaj (Zaj (Zad fun S H k=>
 Zaa (b2 evGeq (Zab S.1) (.v (.int .u32 (.ofNat 65536)))) fun t4=>
 k (z0 (Zae S.1)<| z2 t4<| stN 4 S) H)
 (Zbb (fun S=>some (g2 S))
 (Zaj (Zad fun S H k=>
 Zaa (b2 evShr (Zab S.1) (.v (.int .u64 (.ofNat 16)))) fun t6=>
 k (z0 t6<| stN 4 S) H)
 (Zad fun S H k=>
 k (z1 (tN 16)<| stN 4 S) H))
 (Zam .normal)))
 (Zaj (Zaj (Zad fun S H k=>
 Zaa (b2 evGeq (Zab S.1) (.v (.int .u32 (.ofNat 256)))) fun t8=>
 k (z0 (Zae S.1)<| z3 t8<| stN 4 S) H)
 (Zbb (fun S=>some (g3 S))
 (Zaj (Zad fun S H k=>
 Zaa (b2 evShr (Zab S.1) (.v (.int .u64 (.ofNat 8)))) fun t10=>
 k (z0 t10<| stN 4 S) H)
 (Zad fun S H k=>
 Zaa (b2 Zbe (Zab (g1 S)) (tN 8)) fun t12=>
 k (z1 t12<| stN 4 S) H))
 (Zam .normal)))
 (Zaj (Zad fun S H k=>
 Zaa (b1 (evConv .u8) (Zab S.1)) fun t15=>
 Zaa (idxStrT (.v str0) t15) fun t16=>
 Zaa (b1 (evConv .i64) t16) fun t17=>
 Zaa (b2 Zbe (Zab (g1 S)) t17) fun t18=>
 k (z0 (Zae S.1)<| z1 t18<| stN 4 S) H)
 (Zam .ret)))))
def F186:FnT:=fun call tlo l H=>Zaa (C186 call tlo (Zag H) (Zal l 0,Zal l 2,Zal l 4,Zal l 8,()) H) fun p=>Zdp p.1 (Zap (Zbu Zbo [p.2.1.2.1]) (some (Zdw (Zag H) p.2.1.2.1 p.2.2)))
theorem F186_eq:FEq P TC 186 F186:=fun _ _ _ _=>by kernel_rfl
def C187 (call:Zbc) (tlo base:Nat):Zaz (TV×TV×TV×TV×TV×Unit):=
 (Zaj (Zad fun S H k=>
 k (z1 (tN 0)<| stN 5 S) H)
 (Zaj (Zaj (Zad fun S H k=>
 Zaa (b2 evGeq (Zab S.1) (.v (.int .u64 (.ofNat 4294967296)))) fun t4=>
 k (z0 (Zae S.1)<| z2 t4<| stN 5 S) H)
 (Zbb (fun S=>some (g2 S))
 (Zaj (Zad fun S H k=>
 Zaa (b2 evShr (Zab S.1) (.v (.int .u64 (.ofNat 32)))) fun t6=>
 k (z0 t6<| stN 5 S) H)
 (Zad fun S H k=>
 k (z1 (tN 32)<| stN 5 S) H))
 (Zam .normal)))
 (Zaj (Zaj (Zad fun S H k=>
 Zaa (b2 evGeq (Zab S.1) (.v (.int .u64 (.ofNat 65536)))) fun t8=>
 k (z0 (Zae S.1)<| z3 t8<| stN 5 S) H)
 (Zbb (fun S=>some (g3 S))
 (Zaj (Zad fun S H k=>
 Zaa (b2 evShr (Zab S.1) (.v (.int .u64 (.ofNat 16)))) fun t10=>
 k (z0 t10<| stN 5 S) H)
 (Zad fun S H k=>
 Zaa (b2 Zbe (Zab (g1 S)) (tN 16)) fun t12=>
 k (z1 t12<| stN 5 S) H))
 (Zam .normal)))
 (Zaj (Zaj (Zad fun S H k=>
 Zaa (b2 evGeq (Zab S.1) (.v (.int .u64 (.ofNat 256)))) fun t14=>
 k (z0 (Zae S.1)<| z4 t14<| stN 5 S) H)
 (Zbb (fun S=>some (g4 S))
 (Zaj (Zad fun S H k=>
 Zaa (b2 evShr (Zab S.1) (.v (.int .u64 (.ofNat 8)))) fun t16=>
 k (z0 t16<| stN 5 S) H)
 (Zad fun S H k=>
 Zaa (b2 Zbe (Zab (g1 S)) (tN 8)) fun t18=>
 k (z1 t18<| stN 5 S) H))
 (Zam .normal)))
 (Zaj (Zad fun S H k=>
 Zaa (b1 (evConv .u8) (Zab S.1)) fun t21=>
 Zaa (idxStrT (.v str0) t21) fun t22=>
 Zaa (b1 (evConv .i64) t22) fun t23=>
 Zaa (b2 Zbe (Zab (g1 S)) t23) fun t24=>
 k (z0 (Zae S.1)<| z1 t24<| stN 5 S) H)
 (Zam .ret))))))
def F187:FnT:=fun call tlo l H=>Zaa (C187 call tlo (Zag H) (Zal l 0,Zal l 2,Zal l 4,Zal l 8,Zal l 14,()) H) fun p=>Zdp p.1 (Zap (Zbu Zbo [p.2.1.2.1]) (some (Zdw (Zag H) p.2.1.2.1 p.2.2)))
theorem F187_eq:FEq P TC 187 F187:=fun _ _ _ _=>by kernel_rfl
def C188 (call:Zbc) (tlo base:Nat):Zaz (TV×TV×TV×TV×TV×TV×TV×TV×Unit):=
 (Zaj (Zad fun S H k=>
 Zaa (b2 Zbe (Zab (g1 S)) (tN 1)) fun t11=>
 k (z1 (Zae (g1 S))<| z4 t11<| stN 8 S) H)
 (Zbd 0 (Zdn (Zaj (Zaj (Zad fun S H k=>
 Zaa (b2 Zcj (Zab (g4 S)) (Zab (g2 S))) fun t14=>
 k (z2 (Zae (g2 S))<| z4 (Zae (g4 S))<| z6 t14<| stN 8 S) H)
 (Zbb (fun S=>some (g6 S))
 (Zam .normal)
 (Zam (.exit 0))))
 (Zaj (Zbd 1 (Zaj (Zad fun S H k=>
 k (z4 (hush (g4 S))<| z5 (g4 S)<| stN 8 S) H)
 (Zbd 2 (Zdn (Zaj (Zaj (Zad fun S H k=>
 Zaa (b2 evGtr (Zab (g5 S)) (Zab (g1 S))) fun t20=>
 gV t20 true (Zab (g3 S)) H fun t22 H0=>
 gV t20 true (Zab S.1) H0 fun t23 H1=>
 gV t20 true (Zab (Zae (g5 S))) H1 fun t24 H2=>
 gB t20 true (Zbn 2 t23 t24) H2 fun t25 H3=>
 Zbk (Zab t20) true (sA tlo base 2 H3 t25 fun g4 H4=>Zbt g4 H4) H3 fun t26 H5=>
 gV t20 true (Zab (Zae S.1)) H5 fun t27 H6=>
 gV t20 true (Zab (Zae (Zae (g5 S)))) H6 fun t28 H7=>
 gB t20 true (b2 Zcl t28 (tN 1)) H7 fun t29 H8=>
 gB t20 true (Zbn 2 t27 t29) H8 fun t30 H9=>
 Zbk (Zab t20) true (sA tlo base 2 H9 t30 fun g10 H10=>Zbt g10 H10) H9 fun t31 H11=>
 Zbk (Zab t20) true (Zdc TC call tlo t22 [Zak t26,Zak t31] H11 fun g12 H12=>Zbt g12 H12) H11 fun t32 H13=>
 gB t20 true (b2 Zcj t32 (tN 0)) H13 fun t33 H14=>
 Zaa (Zch (stale (Zab t20)) (Zak t33) (tB false)) fun t34=>
 k (z0 (Zae (Zae S.1))<| z1 (Zae (g1 S))<| z3 (Zae (g3 S))<| z5 (Zae (Zae (Zae (g5 S))))<| z7 t34<| stN 8 S) H14)
 (Zbb (fun S=>some (g7 S))
 (Zam .normal)
 (Zam (.exit 2))))
 (Zaj (Zbd 3 (Zad fun S H k=>
 Zdf 2 true S.1 H fun c15 H15=>
 Zdf 2 true (stale c15) H15 fun c16 H16=>
 Zaa (b2 Zcl (Zab (stale (Zae (stale (g5 S))))) (tN 1)) fun t41=>
 Zaa (b2 Zcl (Zab (Zae (stale (Zae (stale (g5 S)))))) (tN 1)) fun t44=>
 Zaa (Zbn 2 (Zab (stale c16)) t44) fun t45=>
 sA tlo base 2 H16 t45 fun t46 H17=>
 Zaa (Zbn 2 (Zab (Zae (stale c16))) (Zab (Zae (Zae (stale (Zae (stale (g5 S)))))))) fun t49=>
 sA tlo base 2 H17 t49 fun t50 H18=>
 Zdf 2 true (stale c15) H18 fun c19 H19=>
 Zaa (Zbn 2 c19 (stale (Zab (stale (g5 S))))) fun t51=>
 Zaa (Zas tlo base 2 H19 t51 (stale t46)) fun H20=>
 Zdf 2 true (stale c16) H20 fun c21 H21=>
 Zaa (Zbn 2 c21 (stale t41)) fun t52=>
 Zaa (Zas tlo base 2 H21 t52 (stale t50)) fun H22=>
 k (z0 (Zae (Zae (stale c16)))<| z5 (Zae (Zae (Zae (stale (Zae (stale (g5 S)))))))<| stN 8 S) H22))
 (Zad fun S H k=>
 Zaa (b2 Zcl (Zab (g5 S)) (tN 1)) fun t36=>
 k (z5 t36<| stN 8 S) H))) fuel))))
 (Zad fun S H k=>
 Zaa (b2 Zbe (Zab (g4 S)) (tN 1)) fun t16=>
 k (z4 t16<| stN 8 S) H))) fuel)))
def F188:FnT:=fun call tlo l H=>Zaa (C188 call tlo (Zag H) (Zal l 0,Zal l 1,Zal l 2,Zal l 3,Zal l 8,Zal l 9,Zal l 14,Zal l 34,()) H) fun p=>Zdp p.1 (Zap (Zbu Zbo []) (some (Zdw (Zag H) (.tup []) p.2.2)))
theorem F188_eq:FEq P TC 188 F188:=fun _ _ _ _=>by kernel_rfl
def C196 (call:Zbc) (tlo base:Nat):Zaz (TV×TV×TV×Unit):=
 (Zaj (Zad fun S H k=>
 k (z1 (tN 0)<| stN 3 S) H)
 (Zaj (Zaj (Zad fun S H k=>
 Zaa (eqlT .int (Zab S.1) (.v (.int .u32 (.ofNat 0)))) fun t4=>
 k (z0 (Zae S.1)<| z2 t4<| stN 3 S) H)
 (Zbb (fun S=>some (g2 S))
 (Zaj (Zad fun S H k=>
 k (z1 (tN 32)<| stN 3 S) H)
 (Zam .ret))
 (Zam .normal)))
 (Zaj (Zad fun S H k=>
 Zaa (b1 evNeg (Zab (Zae S.1))) fun t7=>
 Zaa (b2 evAnd (Zab S.1) t7) fun t8=>
 Zaa (b2 evMul t8 (.v (.int .u32 (.ofNat 125613361)))) fun t9=>
 Zaa (b2 evShr t9 (.v (.int .u64 (.ofNat 27)))) fun t10=>
 Zaa (Zbj 32 1 (.el .set tab0 0) t10) fun t11=>
 lF tlo base H t11 fun t12 H0=>
 Zaa (b1 (evConv .i64) t12) fun t13=>
 k (z0 (Zae (Zae S.1))<| z1 t13<| stN 3 S) H0)
 (Zam .ret))))
def F196:FnT:=fun call tlo l H=>Zaa (C196 call tlo (Zag H) (Zal l 0,Zal l 2,Zal l 4,()) H) fun p=>Zdp p.1 (Zap (Zbu Zbo [p.2.1.2.1]) (some (Zdw (Zag H) p.2.1.2.1 p.2.2)))
theorem F196_eq:FEq P TC 196 F196:=fun _ _ _ _=>by kernel_rfl
def C197 (call:Zbc) (tlo base:Nat):Zaz (TV×TV×TV×Unit):=
 (Zaj (Zad fun S H k=>
 k (z1 (tN 0)<| stN 3 S) H)
 (Zaj (Zaj (Zad fun S H k=>
 Zaa (eqlT .int (Zab S.1) (.v (.int .u64 (.ofNat 0)))) fun t4=>
 k (z0 (Zae S.1)<| z2 t4<| stN 3 S) H)
 (Zbb (fun S=>some (g2 S))
 (Zaj (Zad fun S H k=>
 k (z1 (tN 64)<| stN 3 S) H)
 (Zam .ret))
 (Zam .normal)))
 (Zaj (Zad fun S H k=>
 Zaa (b1 evNeg (Zab (Zae S.1))) fun t7=>
 Zaa (b2 evAnd (Zab S.1) t7) fun t8=>
 Zaa (b2 evMul t8 (.v (.int .u64 (.ofNat 285870213051353865)))) fun t9=>
 Zaa (b2 evShr t9 (.v (.int .u64 (.ofNat 58)))) fun t10=>
 Zaa (Zbj 64 1 (.el .set tab1 0) t10) fun t11=>
 lF tlo base H t11 fun t12 H0=>
 Zaa (b1 (evConv .i64) t12) fun t13=>
 k (z0 (Zae (Zae S.1))<| z1 t13<| stN 3 S) H0)
 (Zam .ret))))
def F197:FnT:=fun call tlo l H=>Zaa (C197 call tlo (Zag H) (Zal l 0,Zal l 2,Zal l 4,()) H) fun p=>Zdp p.1 (Zap (Zbu Zbo [p.2.1.2.1]) (some (Zdw (Zag H) p.2.1.2.1 p.2.2)))
theorem F197_eq:FEq P TC 197 F197:=fun _ _ _ _=>by kernel_rfl
def C198 (call:Zbc) (tlo base:Nat):Zaz (TV×TV×TV×TV×TV×TV×TV×TV×Unit):=
 (Zaj (Zad fun S H k=>
 k (z2 (tN 0)<| stN 8 S) H)
 (Zaj (Zaj (Zad fun S H k=>
 Zaa (lenT (Zab S.1)) fun t7=>
 k (z0 (Zae S.1)<| z4 t7<| z5 (tN 0)<| stN 8 S) H)
 (Zbd 0 (Zdn (Zaj (Zad fun S H k=>
 Zaa (b2 Zcj (g5 S) (g4 S)) fun t9=>
 k (z6 t9<| stN 8 S) H)
 (Zaj (Zbb (fun S=>some (g6 S))
 (Zam .normal)
 (Zam (.exit 0)))
 (Zaj (Zbd 1 (Zaj (Zad fun S H k=>
 k (z3 (g5 S)<| z5 (hush (g5 S))<| stN 8 S) H)
 (Zaj (Zad fun S H k=>
 Zaa (Zbn 1 (Zab S.1) (Zab (g3 S))) fun t14=>
 sF tlo base H t14 fun t15 H0=>
 Zdc TC call tlo (Zab (g1 S)) [Zak t15] H0 fun t16 H1=>
 k (z0 (Zae S.1)<| z1 (Zae (g1 S))<| z3 (Zae (g3 S))<| z7 t16<| stN 8 S) H1)
 (Zbb (fun S=>some (g7 S))
 (Zaj (Zad fun S H k=>
 k (z2 (g3 S)<| z3 (hush (g3 S))<| stN 8 S) H)
 (Zam .ret))
 (Zam .normal)))))
 (Zad fun S H k=>
 Zaa (b2 Zbe (g5 S) (tN 1)) fun t18=>
 k (z5 t18<| stN 8 S) H)))) fuel)))
 (Zaj (Zad fun S H k=>
 k (z2 (.v (.int .i64 (.negSucc 0)))<| stN 8 S) H)
 (Zam .ret))))
def F198:FnT:=fun call tlo l H=>Zaa (C198 call tlo (Zag H) (Zal l 0,Zal l 1,Zal l 4,Zal l 5,Zal l 7,Zal l 8,Zal l 9,Zal l 16,()) H) fun p=>Zdp p.1 (Zap (Zbu Zbo [p.2.1.2.2.1]) (some (Zdw (Zag H) p.2.1.2.2.1 p.2.2)))
theorem F198_eq:FEq P TC 198 F198:=fun _ _ _ _=>by kernel_rfl
def C199 (call:Zbc) (tlo base:Nat):Zaz (TV×TV×TV×TV×TV×Unit):=
 (Zaj (Zad fun S H k=>
 k (z3 (tN 0)<| stN 5 S) H)
 (Zaj (Zaj (Zad fun S H k=>
 Zaa (b2 (Zdv false) (Zab S.1) (Zab (g1 S))) fun c0=>
 Zap (isV c0)<|
 Zaa (b2 Zcj c0 (tN 0)) fun t9=>
 gV t9 false (Zab (Zae S.1)) H fun t11 H1=>
 gB t9 false (Zar (g2 S) 0) H1 fun t12 H2=>
 Zbk (Zab t9) false (lF tlo base H2 t12 fun g3 H3=>Zbt g3 H3) H2 fun t13 H4=>
 gB t9 false (b2 evGeq t11 t13) H4 fun t14 H5=>
 Zaa (Zch (Zab t9) (tB true) (Zak t14)) fun t15=>
 gV t15 false (Zab (Zae (g1 S))) H5 fun t17 H6=>
 gB t15 false (Zar (g2 S) 1) H6 fun t18 H7=>
 Zbk (Zab t15) false (lF tlo base H7 t18 fun g8 H8=>Zbt g8 H8) H7 fun t19 H9=>
 gB t15 false (b2 evGeq t17 t19) H9 fun t20 H10=>
 Zaa (Zch (Zab t15) (tB true) (Zak t20)) fun t21=>
 gB t21 false (Zar (g2 S) 2) H10 fun t23 H11=>
 Zbk (Zab t21) false (lF tlo base H11 t23 fun g12 H12=>Zbt g12 H12) H11 fun t24 H13=>
 gV t21 false (Zab (Zae (Zae (g1 S)))) H13 fun t25 H14=>
 gB t21 false (Zar (g2 S) 0) H14 fun t26 H15=>
 Zbk (Zab t21) false (lF tlo base H15 t26 fun g16 H16=>Zbt g16 H16) H15 fun t27 H17=>
 gB t21 false (b2 evMul t25 t27) H17 fun t28 H18=>
 gV t21 false (Zab (Zae (Zae S.1))) H18 fun t29 H19=>
 gB t21 false (b2 Zbe t28 t29) H19 fun t30 H20=>
 gB t21 false (b2 evShr t24 t30) H20 fun t31 H21=>
 gB t21 false (b2 evAnd t31 (.v (.int .u64 (.ofNat 1)))) H21 fun t32 H22=>
 gB t21 false (eqlT .int t32 (.v (.int .u64 (.ofNat 0)))) H22 fun t33 H23=>
 Zaa (Zch (Zab t21) (tB true) (Zak t33)) fun t34=>
 k (z0 (Zae (Zae (Zae S.1)))<| z1 (Zae (Zae (Zae (g1 S))))<| z4 t34<| stN 5 S) H23)
 (Zbb (fun S=>some (g4 S))
 (Zaj (Zad fun S H k=>
 k (z3 (.v (.int .i64 (.negSucc 0)))<| stN 5 S) H)
 (Zam .ret))
 (Zam .normal)))
 (Zaj (Zad fun S H k=>
 Zaa (Zar (g2 S) 0) fun t36=>
 lF tlo base H t36 fun t37 H24=>
 Zaa (b2 evMul (Zab (g1 S)) t37) fun t38=>
 Zaa (b2 Zbe t38 (Zab S.1)) fun t40=>
 k (z0 (Zae S.1)<| z1 (Zae (g1 S))<| z3 t40<| stN 5 S) H24)
 (Zam .ret))))
def F199:FnT:=fun call tlo l H=>Zaa (C199 call tlo (Zag H) (Zal l 0,Zal l 1,Zal l 2,Zal l 5,Zal l 34,()) H) fun p=>Zdp p.1 (Zap (Zbu Zbo [p.2.1.2.2.2.1]) (some (Zdw (Zag H) p.2.1.2.2.2.1 p.2.2)))
theorem F199_eq:FEq P TC 199 F199:=fun _ _ _ _=>by kernel_rfl
def C201 (call:Zbc) (tlo base:Nat):Zaz (TV×TV×Unit):=
 (Zaj (Zad fun S H k=>
 k (z1 (tN 0)<| stN 2 S) H)
 (Zaj (Zad fun S H k=>
 Zaa (b2 evShr (Zab S.1) (.v (.int .u64 (.ofNat 24)))) fun t4=>
 Zaa (idxStrT (.v str1) t4) fun t5=>
 Zaa (b2 evShr (Zab (Zae S.1)) (.v (.int .u64 (.ofNat 16)))) fun t7=>
 Zaa (b2 evAnd t7 (.v (.int .u32 (.ofNat 255)))) fun t8=>
 Zaa (idxStrT (.v str1) t8) fun t9=>
 Zaa (b2 Zbe t5 t9) fun t10=>
 Zaa (b2 evShr (Zab (Zae (Zae S.1))) (.v (.int .u64 (.ofNat 8)))) fun t12=>
 Zaa (b2 evAnd t12 (.v (.int .u32 (.ofNat 255)))) fun t13=>
 Zaa (idxStrT (.v str1) t13) fun t14=>
 Zaa (b2 Zbe t10 t14) fun t15=>
 Zaa (b2 evAnd (Zab (Zae (Zae (Zae S.1)))) (.v (.int .u32 (.ofNat 255)))) fun t17=>
 Zaa (idxStrT (.v str1) t17) fun t18=>
 Zaa (b2 Zbe t15 t18) fun t19=>
 Zaa (b1 (evConv .i64) t19) fun t20=>
 k (z0 (Zae (Zae (Zae (Zae S.1))))<| z1 t20<| stN 2 S) H)
 (Zam .ret)))
def F201:FnT:=fun call tlo l H=>Zaa (C201 call tlo (Zag H) (Zal l 0,Zal l 2,()) H) fun p=>Zdp p.1 (Zap (Zbu Zbo [p.2.1.2.1]) (some (Zdw (Zag H) p.2.1.2.1 p.2.2)))
theorem F201_eq:FEq P TC 201 F201:=fun _ _ _ _=>by kernel_rfl
def C202 (call:Zbc) (tlo base:Nat):Zaz (TV×TV×Unit):=
 (Zaj (Zad fun S H k=>
 k (z1 (tN 0)<| stN 2 S) H)
 (Zaj (Zad fun S H k=>
 Zaa (b2 evShr (Zab S.1) (.v (.int .u64 (.ofNat 1)))) fun t4=>
 Zaa (b2 evAnd t4 (.v (.int .u64 (.ofNat 6148914691236517205)))) fun t5=>
 Zaa (b2 evAnd (Zab (Zae S.1)) (.v (.int .u64 (.ofNat 6148914691236517205)))) fun t7=>
 Zaa (b2 Zbe t5 t7) fun t8=>
 k (z0 t8<| stN 2 S) H)
 (Zaj (Zad fun S H k=>
 Zaa (b2 evShr (Zab S.1) (.v (.int .u64 (.ofNat 2)))) fun t10=>
 Zaa (b2 evAnd t10 (.v (.int .u64 (.ofNat 3689348814741910323)))) fun t11=>
 Zaa (b2 evAnd (Zab (Zae S.1)) (.v (.int .u64 (.ofNat 3689348814741910323)))) fun t13=>
 Zaa (b2 Zbe t11 t13) fun t14=>
 k (z0 t14<| stN 2 S) H)
 (Zaj (Zad fun S H k=>
 Zaa (b2 evShr (Zab S.1) (.v (.int .u64 (.ofNat 4)))) fun t16=>
 Zaa (b2 Zbe t16 (Zab (Zae S.1))) fun t18=>
 Zaa (b2 evAnd t18 (.v (.int .u64 (.ofNat 1085102592571150095)))) fun t19=>
 k (z0 t19<| stN 2 S) H)
 (Zaj (Zad fun S H k=>
 Zaa (b2 evShr (Zab (Zae S.1)) (.v (.int .u64 (.ofNat 8)))) fun t22=>
 Zaa (b2 Zbe (Zab S.1) t22) fun t23=>
 k (z0 t23<| stN 2 S) H)
 (Zaj (Zad fun S H k=>
 Zaa (b2 evShr (Zab (Zae S.1)) (.v (.int .u64 (.ofNat 16)))) fun t26=>
 Zaa (b2 Zbe (Zab S.1) t26) fun t27=>
 k (z0 t27<| stN 2 S) H)
 (Zaj (Zad fun S H k=>
 Zaa (b2 evShr (Zab (Zae S.1)) (.v (.int .u64 (.ofNat 32)))) fun t30=>
 Zaa (b2 Zbe (Zab S.1) t30) fun t31=>
 k (z0 t31<| stN 2 S) H)
 (Zaj (Zad fun S H k=>
 Zaa (b1 (evConv .i64) (Zab S.1)) fun t33=>
 Zaa (b2 evAnd t33 (tN 127)) fun t34=>
 k (z0 (Zae S.1)<| z1 t34<| stN 2 S) H)
 (Zam .ret)))))))))
def F202:FnT:=fun call tlo l H=>Zaa (C202 call tlo (Zag H) (Zal l 0,Zal l 2,()) H) fun p=>Zdp p.1 (Zap (Zbu Zbo [p.2.1.2.1]) (some (Zdw (Zag H) p.2.1.2.1 p.2.2)))
theorem F202_eq:FEq P TC 202 F202:=fun _ _ _ _=>by kernel_rfl
end
end Go.Proofs.YtgemobbfikjmoaaGreatDoor
namespace Go.Proofs.YtgemobbfikjmoaaGreatDoor
open Go Go.Ev
set_option maxRecDepth 1000000
set_option linter.unusedVariables false
end Go.Proofs.YtgemobbfikjmoaaGreatDoor
namespace Go.Proofs.YtgemobbfikjmoaaGreatDoor
open Go Go.Ev
set_option maxRecDepth 1000000
noncomputable section
def rows:List (Nat×(Zbc→Zbc)):=[
 rowF 8 F8,rowF 15 F15,rowF 16 F16,rowF 18 F18,rowF 20 F20,rowF 21 F21,rowF 23 F23,rowF 25 F25,rowF 27 F27,rowF 28 F28,rowF 30 F30,rowF 32 F32,rowF 34 F34,rowF 36 F36,rowF 38 F38,rowF 40 F40,rowF 42 F42,rowF 44 F44,rowF 46 F46,rowF 48 F48,rowF 52 F52,rowF 54 F54,rowF 55 F55,rowF 56 F56,rowF 57 F57,rowF 58 F58,rowF 59 F59,rowF 60 F60,rowF 61 F61,rowF 62 F62,rowF 63 F63,rowF 64 F64,rowF 65 F65,rowF 66 F66,rowF 69 F69,rowF 78 F78,rowF 85 F85,rowF 87 F87,rowF 88 F88,rowF 89 F89,rowF 90 F90,rowF 91 F91,rowF 92 F92,rowF 93 F93,rowF 94 F94,rowF 95 F95,rowF 97 F97,rowF 98 F98,rowF 99 F99,rowF 100 F100,rowF 101 F101,rowF 104 F104,rowF 105 F105,rowF 111 F111,rowF 112 F112,rowF 113 F113,rowF 116 F116,rowF 117 F117,rowF 119 F119,rowF 121 F121,rowF 124 F124,rowF 125 F125,rowF 127 F127,rowF 128 F128,rowF 132 F132,rowF 133 F133,rowF 134 F134,rowF 135 F135,rowF 136 F136,rowF 137 F137,rowF 138 F138,rowF 143 F143,rowF 147 F147,rowF 150 F150,rowF 151 F151,rowF 152 F152,rowF 153 F153,rowF 154 F154,rowF 156 F156,rowF 157 F157,rowF 158 F158,rowF 159 F159,rowF 160 F160,rowF 161 F161,rowF 162 F162,rowF 164 F164,rowF 166 F166,rowF 169 F169,rowF 170 F170,rowF 171 F171,rowF 172 F172,rowF 175 F175,rowF 176 F176,rowF 186 F186,rowF 187 F187,rowF 188 F188,rowF 196 F196,rowF 197 F197,rowF 198 F198,rowF 199 F199,rowF 201 F201,rowF 202 F202]
def table:Tr (Zbc→Zbc):=tableT rows .leaf
theorem rows_ok:∀ r∈rows,∀ call tlo args H,r.2 call tlo r.1 args H=fnT P TC call tlo r.1 args H:=by
 simp only [rows,List.forall_mem_cons]
 refine ⟨fun c t a H=>(F8_eq c t a H).symm,fun c t a H=>(F15_eq c t a H).symm,fun c t a H=>(F16_eq c t a H).symm,fun c t a H=>(F18_eq c t a H).symm,fun c t a H=>(F20_eq c t a H).symm,fun c t a H=>(F21_eq c t a H).symm,fun c t a H=>(F23_eq c t a H).symm,fun c t a H=>(F25_eq c t a H).symm,fun c t a H=>(F27_eq c t a H).symm,fun c t a H=>(F28_eq c t a H).symm,fun c t a H=>(F30_eq c t a H).symm,fun c t a H=>(F32_eq c t a H).symm,fun c t a H=>(F34_eq c t a H).symm,fun c t a H=>(F36_eq c t a H).symm,fun c t a H=>(F38_eq c t a H).symm,fun c t a H=>(F40_eq c t a H).symm,fun c t a H=>(F42_eq c t a H).symm,fun c t a H=>(F44_eq c t a H).symm,fun c t a H=>(F46_eq c t a H).symm,fun c t a H=>(F48_eq c t a H).symm,fun c t a H=>(F52_eq c t a H).symm,fun c t a H=>(F54_eq c t a H).symm,fun c t a H=>(F55_eq c t a H).symm,fun c t a H=>(F56_eq c t a H).symm,fun c t a H=>(F57_eq c t a H).symm,fun c t a H=>(F58_eq c t a H).symm,fun c t a H=>(F59_eq c t a H).symm,fun c t a H=>(F60_eq c t a H).symm,fun c t a H=>(F61_eq c t a H).symm,fun c t a H=>(F62_eq c t a H).symm,fun c t a H=>(F63_eq c t a H).symm,fun c t a H=>(F64_eq c t a H).symm,fun c t a H=>(F65_eq c t a H).symm,fun c t a H=>(F66_eq c t a H).symm,fun c t a H=>(F69_eq c t a H).symm,fun c t a H=>(F78_eq c t a H).symm,fun c t a H=>(F85_eq c t a H).symm,fun c t a H=>(F87_eq c t a H).symm,fun c t a H=>(F88_eq c t a H).symm,fun c t a H=>(F89_eq c t a H).symm,fun c t a H=>(F90_eq c t a H).symm,fun c t a H=>(F91_eq c t a H).symm,fun c t a H=>(F92_eq c t a H).symm,fun c t a H=>(F93_eq c t a H).symm,fun c t a H=>(F94_eq c t a H).symm,fun c t a H=>(F95_eq c t a H).symm,fun c t a H=>(F97_eq c t a H).symm,fun c t a H=>(F98_eq c t a H).symm,fun c t a H=>(F99_eq c t a H).symm,fun c t a H=>(F100_eq c t a H).symm,fun c t a H=>(F101_eq c t a H).symm,fun c t a H=>(F104_eq c t a H).symm,fun c t a H=>(F105_eq c t a H).symm,fun c t a H=>(F111_eq c t a H).symm,fun c t a H=>(F112_eq c t a H).symm,fun c t a H=>(F113_eq c t a H).symm,fun c t a H=>(F116_eq c t a H).symm,fun c t a H=>(F117_eq c t a H).symm,fun c t a H=>(F119_eq c t a H).symm,fun c t a H=>(F121_eq c t a H).symm,fun c t a H=>(F124_eq c t a H).symm,fun c t a H=>(F125_eq c t a H).symm,fun c t a H=>(F127_eq c t a H).symm,fun c t a H=>(F128_eq c t a H).symm,fun c t a H=>(F132_eq c t a H).symm,fun c t a H=>(F133_eq c t a H).symm,fun c t a H=>(F134_eq c t a H).symm,fun c t a H=>(F135_eq c t a H).symm,fun c t a H=>(F136_eq c t a H).symm,fun c t a H=>(F137_eq c t a H).symm,fun c t a H=>(F138_eq c t a H).symm,fun c t a H=>(F143_eq c t a H).symm,fun c t a H=>(F147_eq c t a H).symm,fun c t a H=>(F150_eq c t a H).symm,fun c t a H=>(F151_eq c t a H).symm,fun c t a H=>(F152_eq c t a H).symm,fun c t a H=>(F153_eq c t a H).symm,fun c t a H=>(F154_eq c t a H).symm,fun c t a H=>(F156_eq c t a H).symm,fun c t a H=>(F157_eq c t a H).symm,fun c t a H=>(F158_eq c t a H).symm,fun c t a H=>(F159_eq c t a H).symm,fun c t a H=>(F160_eq c t a H).symm,fun c t a H=>(F161_eq c t a H).symm,fun c t a H=>(F162_eq c t a H).symm,fun c t a H=>(F164_eq c t a H).symm,fun c t a H=>(F166_eq c t a H).symm,fun c t a H=>(F169_eq c t a H).symm,fun c t a H=>(F170_eq c t a H).symm,fun c t a H=>(F171_eq c t a H).symm,fun c t a H=>(F172_eq c t a H).symm,fun c t a H=>(F175_eq c t a H).symm,fun c t a H=>(F176_eq c t a H).symm,fun c t a H=>(F186_eq c t a H).symm,fun c t a H=>(F187_eq c t a H).symm,fun c t a H=>(F188_eq c t a H).symm,fun c t a H=>(F196_eq c t a H).symm,fun c t a H=>(F197_eq c t a H).symm,fun c t a H=>(F198_eq c t a H).symm,fun c t a H=>(F199_eq c t a H).symm,fun c t a H=>(F201_eq c t a H).symm,fun c t a H=>(F202_eq c t a H).symm,by simp⟩
end
end Go.Proofs.YtgemobbfikjmoaaGreatDoor
