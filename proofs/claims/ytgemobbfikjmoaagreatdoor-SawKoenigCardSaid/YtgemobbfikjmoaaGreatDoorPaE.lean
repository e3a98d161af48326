/- The functions' texts for the second evaluator, each with its proof.
   Conditions: none beyond the given statement's own. -/
import Derived.Test.YtgemobbfikjmoaaGreatDoorPaD
import Derived.Test.YtgemobbfikjmoaaGreatDoorProg
import Derived.KernelRfl
set_option linter.unusedVariables false
set_option linter.unusedSimpArgs false
set_option linter.defProp false
namespace Go.Proofs.YtgemobbfikjmoaaGreatDoor
open Go Go.Ev
set_option maxRecDepth 1000000
noncomputable section
noncomputable abbrev P:Program:=Go.Proofs.Tryz.prog
def fuel:Nat:=100000
def keeps:List (List Tmp):=[[],[],[],[],[],[],[],[],[],[],[],[],[0,1,2,3,4,5,6,7,8,9,10,11,12,13,14,15,16,17,18,19,20,21,103,106,107,108,110,111,112,113,121,153],[],[],[0,1,2,3,4,5,6,7,8,9,10,11,12,13,14,15,16,17,18,19,20,21,22,83,150],[0,1,2,3,4,5,12],[],[0,1,2,3,4,5,12],[],[0,1,4,5,10,14,25],[0,1,2,3,4,5,12],[],[0,1,2,3,4,5,6,13],[],[0,1,2,3,4,5,6,13],[],[0,1,4,5,10,14,25],[0,1,2,3,4,5,6,7,9,16,22,23,24,25,37],[],[0,1,2,3,6,7,8,9,10,12,14,20,24,29,30,31,32,35,47,51,65,66,67,68,77,82],[],[0,1,2,4,5,6,7,8,17,23],[],[0,1,2,3,6,7,8,10,11,12,20,24,41],[],[0,1,2,3],[],[0,1,2,3],[],[0,1,2,3,6,7,9,10,11,12,13,24,25,26],[],[0,1,2,3,6,7],[],[0,1,2,3,6,7],[],[0,1,2,3,4,5,12],[],[0,1,2,3,4,5,12],[],[0,1,2,4],[],[0,1,2,4,7],[],[0,1,2,4,5,6,28,29,30,47],[0,1,2,3,4,7],[0,1,2,3,4,9,10,11,17],[],[],[0,1,4],[],[],[0,1,3,4],[0,1,2,3,4,6,9,10,11,12,28,41],[0,1,4],[],[],[],[],[],[],[],[],[],[],[],[],[],[0,1,4,5,6,7,8,9,10,11,12,19,28,35],[0,1,2,3,4],[],[],[],[],[],[0,1,4],[],[0],[0],[0],[0],[0,1,2,6],[0,2,3,4,9],[0,2],[0,1,2,3,4,5,6,8,9,10,30,52,53,54,55,58,67,80,81,82,88,96],[0,1,2,3,4,5,6,7,8,9,11,12,13,20,21,22,23,28,31],[],[0,1,2,4,5,6,7,9,14,27,28,29,30,41],[0,1,2,3,6,7,8,9,10,11,13,14,16,24,42,43,44,45,59,66],[0,1,4,5,6,7,12,19,29],[0,2,3,5],[0,1,2,4],[],[],[0,1,4,5,6,7,12,19,29],[0,1,2,3,4,5],[],[],[],[],[],[0,1,2,4,5,6,7,8,9,10,11,12,13,14,21,29,30,31,32,41,58,76,97,104],[0,1,2,4,5,9],[0,1,2,3,4,5,6,7,8,9],[],[],[0,1,2],[0,1,2,3,6,7,8,9,10,11,12,13,15,16,17,18,44,78,79,80,95],[],[0,1,2,4,5,6,7,8,9,10,11,12,18,22,36,37,38,43,44,45,71],[],[0,1,2,3,6,7,8,9,10,11,12,14,23,34,41],[],[],[0,1,2,3,4,8,9,10,11,12,13,14,25,28,29,30],[0,1,4],[],[0,1,4],[0,1,2,3,4,6,7,8,20,21,22,23,47],[],[],[],[0,1,2,3,5,6,7,8],[0,1],[0,1,4,5,7,8,9,16],[0,1,3,4,5,7,8,9,16],[0,2,3,4,5,8,13,25,32,44],[0,1,4,5,7,8,9,16],[0,1,4,5,7,8,9,16],[],[],[],[],[0,2,4],[],[],[],[0,1,4,5,6,11,12,13,16,19],[0,1,2,3],[],[0,2],[0,1,2,3,4,10,11,12,13,14,15,16,17,18,19,20,25,32,39,56,75,80,97,125],[0,1,2,23],[0,1,2,3,4,5,7,9,16,17,18,19,26,41],[0,1,2,4],[],[0,2],[0,1,4],[0,1,3],[1,2,3,4,5,6,7,8,14,15,41],[0,1,2,3,6,7,8,9,10,22],[0,1,2,3,4,5,8,9,30,45,61,76],[0,1,2,4],[],[0,1,2,3,4],[],[0,2],[],[],[0,1,2,4,5,7,8,9,10,13,14,15,16,81,105],[0,1,2,6,7,9,12,13,14,15,28],[0,1,3],[0,1,2,4,5,6,7,17,27,34,46],[],[],[0,1,2,3,4,5,6,7,12,14,18,20,32,40,41,42,43,57,82],[0,2],[],[],[],[],[],[],[],[],[],[0,2,4,8],[0,2,4,8,14],[0,1,2,3,8,9,14,34],[],[],[],[],[],[],[],[0,2,4],[0,2,4],[0,1,4,5,7,8,9,16],[0,1,2,5,34],[],[0,2],[0,2],[],[],[],[],[],[],[],[],[],[],[],[],[],[],[],[],[],[],[],[],[],[],[],[],[],[],[],[],[],[],[]]
def trees:List Bool:=[false,false,false,true,true,true,true,true,true,true,true,true,true,true,true,true,true,true,true,true,true,true,true,true,true,true,true,true,true,true,true,true,true,true,true,true,true,true,true,true,true,true,true,true,true,true,true,true,true,true,true,true,true,true,true,true,true,false,false,false,false,false,true,true,true,false,false,true,true,false,false,false,false,true,false,false,false,false,true,true,false,false,false,false,false,false,true,true,true,true,true,true,true,true,true,true,true,true,false,false,true,false,true,true,false,false,true,true,true,true,true,true,true,false,true,false,true,true,true,true,true,false,false,true,true,true,true,true,true,true,true,true,false,false,false,true,false,true,false,false,false,false,false,true,false,true,false,true,false,false,true,false,false,false,true,true,true,false,false,false,true,false,true,true,true,true,true,true,true,true,false,false,true,true,true,false,true,false,false,false,true,false,false,true,false,false,true,true,false,false,false,false,false,false,false,false,true,true,false,false,true,true,true,false,true,false,false,false,false,false,false,false,false,false,false,false,false,false,false,false,false,false,false,false,false,false,false,false,false,false,false,false,false,false]
def thawl:List Bool:=[false,false,false,false,false,false,false,false,false,false,false,false,false,false,false,false,false,false,false,false,false,false,false,false,false,false,false,false,false,false,false,false,false,false,false,false,false,false,false,false,false,false,false,false,false,false,false,false,false,false,false,false,false,false,false,false,false,false,false,false,false,false,false,false,false,false,false,false,false,false,false,false,false,false,false,false,false,false,false,false,false,true,false,true,false,true,false,false,false,false,false,false,false,false,false,false,false,false,false,true,false,false,false,false,true,false,false,false,false,false,false,false,false,false,false,false,false,false,false,false,false,false,false,false,false,false,false,false,false,false,false,false,false,false,false,false,true,false,false,false,false,false,false,false,false,false,false,false,false,true,false,true,false,false,false,false,false,false,false,false,false,false,false,false,false,false,false,false,false,false,false,false,false,false,false,false,false,true,true,true,false,true,true,false,true,true,false,false,true,true,true,false,true,true,true,true,false,false,false,false,false,false,false,true,false,false,false,false,true,false,false,false,false,false,false,false,false,false,false,false,false,false,false,false,false,false,false,false,false,false,false,false,false,false]
def deepl:List Nat:=[55,68,96,107,155]
noncomputable abbrev tab0:List TV:=tabT tb32
noncomputable abbrev tab1:List TV:=tabT tb64
def TC:TC:=⟨fuel,fun f=>(nth keeps f).getD [],fun f=>(nth trees f).getD false,fun f=>(nth thawl f).getD false,twoT,fun f=>anyG (Nat.beq f) deepl⟩
def zc24:List TV:=[(.v (.int .i64 (.ofNat 0))),(.v (.int .i64 (.ofNat 0))),nilT]
def zc71:List TV:=[(.v (.int .i64 (.ofNat 0))),(.v (.int .i64 (.ofNat 0)))]
def Acr:List TV:=[(.v (.int .i64 (.ofNat 0))),(.v (.int .i64 (.ofNat 0))),(.v (.int .u64 (.ofNat 0))),(.v (.int .u64 (.ofNat 0))),(.v (.int .u64 (.ofNat 0))),(.v (.int .u64 (.ofNat 0))),(.v (.int .u64 (.ofNat 0))),(.v (.int .u64 (.ofNat 0))),(.v (.int .u64 (.ofNat 0))),(.v (.int .u64 (.ofNat 0))),(.v (.int .u64 (.ofNat 0))),(.v (.int .u64 (.ofNat 0))),(.v (.int .u64 (.ofNat 0))),(.v (.int .u64 (.ofNat 0))),(.v (.int .u64 (.ofNat 0))),(.v (.int .u64 (.ofNat 0))),(.v (.int .u64 (.ofNat 0))),(.v (.int .u64 (.ofNat 0))),(.v (.int .u64 (.ofNat 0)))]
def zc158:List TV:=[(.v (.int .i64 (.ofNat 0))),(.v (.int .i64 (.ofNat 0))),(.v (.int .i64 (.ofNat 0))),(.v (.int .i64 (.ofNat 0))),(.v (.int .i64 (.ofNat 0))),(.v (.int .i64 (.ofNat 0))),(.v (.int .i64 (.ofNat 0))),(.v (.int .i64 (.ofNat 0))),(.v (.int .i64 (.ofNat 0))),(.v (.int .i64 (.ofNat 0))),(.v (.int .i64 (.ofNat 0))),(.v (.int .i64 (.ofNat 0))),(.v (.int .i64 (.ofNat 0))),(.v (.int .i64 (.ofNat 0))),(.v (.int .i64 (.ofNat 0))),(.v (.int .i64 (.ofNat 0)))]
def zc111:List TV:=[(.v (.int .i64 (.ofNat 0))),(.v (.int .i64 (.ofNat 0)))]
def zc172:List TV:=[(.v (.int .i64 (.ofNat 0))),(.v (.int .i64 (.ofNat 0))),(.v (.int .i64 (.ofNat 0))),(.v (.int .i64 (.ofNat 0)))]
def zc173:List TV:=[(.v (.int .i64 (.ofNat 0))),(.v (.int .i64 (.ofNat 0))),(.v (.int .i64 (.ofNat 0))),(.v (.int .i64 (.ofNat 0))),(.v (.int .i64 (.ofNat 0))),(.v (.int .i64 (.ofNat 0))),(.v (.int .i64 (.ofNat 0))),(.v (.int .i64 (.ofNat 0)))]
def str0:Value:=(.string ⟨#[0,1,2,2,3,3,3,3,4,4,4,4,4,4,4,4,5,5,5,5,5,5,5,5,5,5,5,5,5,5,5,5,6,6,6,6,6,6,6,6,6,6,6,6,6,6,6,6,6,6,6,6,6,6,6,6,6,6,6,6,6,6,6,6,7,7,7,7,7,7,7,7,7,7,7,7,7,7,7,7,7,7,7,7,7,7,7,7,7,7,7,7,7,7,7,7,7,7,7,7,7,7,7,7,7,7,7,7,7,7,7,7,7,7,7,7,7,7,7,7,7,7,7,7,7,7,7,7,8,8,8,8,8,8,8,8,8,8,8,8,8,8,8,8,8,8,8,8,8,8,8,8,8,8,8,8,8,8,8,8,8,8,8,8,8,8,8,8,8,8,8,8,8,8,8,8,8,8,8,8,8,8,8,8,8,8,8,8,8,8,8,8,8,8,8,8,8,8,8,8,8,8,8,8,8,8,8,8,8,8,8,8,8,8,8,8,8,8,8,8,8,8,8,8,8,8,8,8,8,8,8,8,8,8,8,8,8,8,8,8,8,8,8,8,8,8,8,8,8,8,8,8,8,8,8,8]⟩)
def str1:Value:=(.string ⟨#[0,1,1,2,1,2,2,3,1,2,2,3,2,3,3,4,1,2,2,3,2,3,3,4,2,3,3,4,3,4,4,5,1,2,2,3,2,3,3,4,2,3,3,4,3,4,4,5,2,3,3,4,3,4,4,5,3,4,4,5,4,5,5,6,1,2,2,3,2,3,3,4,2,3,3,4,3,4,4,5,2,3,3,4,3,4,4,5,3,4,4,5,4,5,5,6,2,3,3,4,3,4,4,5,3,4,4,5,4,5,5,6,3,4,4,5,4,5,5,6,4,5,5,6,5,6,6,7,1,2,2,3,2,3,3,4,2,3,3,4,3,4,4,5,2,3,3,4,3,4,4,5,3,4,4,5,4,5,5,6,2,3,3,4,3,4,4,5,3,4,4,5,4,5,5,6,3,4,4,5,4,5,5,6,4,5,5,6,5,6,6,7,2,3,3,4,3,4,4,5,3,4,4,5,4,5,5,6,3,4,4,5,4,5,5,6,4,5,5,6,5,6,6,7,3,4,4,5,4,5,5,6,4,5,5,6,5,6,6,7,4,5,5,6,5,6,6,7,5,6,6,7,6,7,7,8]⟩)
end
end Go.Proofs.YtgemobbfikjmoaaGreatDoor
namespace Go.Proofs.YtgemobbfikjmoaaGreatDoor
open Go Go.Ev
set_option maxRecDepth 1000000
set_option linter.unusedVariables false
end Go.Proofs.YtgemobbfikjmoaaGreatDoor
namespace Go.Proofs.YtgemobbfikjmoaaGreatDoor
open Go Go.Ev
set_option maxRecDepth 1000000
set_option linter.unusedVariables false
end Go.Proofs.YtgemobbfikjmoaaGreatDoor
namespace Go.Proofs.YtgemobbfikjmoaaGreatDoor
open Go Go.Ev
set_option maxRecDepth 1000000
set_option linter.unusedVariables false
noncomputable section
def C12 (call:Abc) (tlo base:Nat):Aba (TV×TV×TV×TV×TV×TV×TV×TV×TV×TV×TV×TV×TV×TV×TV×TV×TV×TV×TV×TV×TV×TV×TV×TV×TV×TV×TV×TV×TV×TV×TV×TV×Unit):=
 (Aak (Aad fun S H k=>
 Aap (stor S.1)<|
 let t1:=(.ptr (Aah H) 0)
 let H0:=(Aaq H (.cells (Aas S.1)))
 k (z0 (hush S.1)<| z1 t1<| z2 (tB false)<| stN 32 S) H0)
 (Aak (Aad fun S H k=>
 lA tlo base 4 H (g1 S) fun t22 H1=>
 Aaa (Aag call 54 [Aaj t22,tN 12] H1) fun t23=>
 let t3:=(.ptr (Aah H1) 0)
 let H2:=(Aaq H1 (.cells zc24))
 Aaa (Aau tlo base 3 H2 t3 t23) fun H3=>
 k (z3 t3<| stN 32 S) H3)
 (Aak (Aad fun S H k=>
 lA tlo base 3 H (g3 S) fun t24 H4=>
 Aaa (Aag call 56 [Aaj t24] H4) fun t25=>
 k (z4 t25<| stN 32 S) H4)
 (Aak (Aad fun S H k=>
 sA tlo base 3 H (g3 S) fun t26 H5=>
 Aaa (Aag call 55 [Aaj t26] H5) fun t27=>
 k (z5 t27<| stN 32 S) H5)
 (Aak (Aad fun S H k=>
 lA tlo base 3 H (g3 S) fun t29 H6=>
 Aaa (Aag call 16 [Aaj t29] H6) fun t30=>
 Aaf (Abl (Aab t30) 0) fun c7=>
 Aaf (Abl (Aaz (Aab t30) 0) 1) fun c8=>
 k (z6 c7<| z7 c8<| stN 32 S) H6)
 (Aak (Aad fun S H k=>
 lA tlo base 3 H (g3 S) fun t34 H9=>
 Aaa (Aag call 18 [Aaj t34] H9) fun t35=>
 Aaf (Abl (Aab t35) 0) fun c10=>
 Aaf (Abl (Aaz (Aab t35) 0) 1) fun c11=>
 k (z8 c10<| z9 c11<| stN 32 S) H9)
 (Aak (Aad fun S H k=>
 lA tlo base 3 H (g3 S) fun t39 H12=>
 Aaa (Aag call 21 [Aaj t39] H12) fun t40=>
 Aaf (Abl (Aab t40) 0) fun c13=>
 Aaf (Abl (Aaz (Aab t40) 0) 1) fun c14=>
 k (z10 c13<| z11 c14<| stN 32 S) H12)
 (Aak (Aad fun S H k=>
 lA tlo base 3 H (g3 S) fun t44 H15=>
 Aaa (Aag call 28 [Aaj t44] H15) fun t45=>
 Aaf (Abl (Aab t45) 0) fun c16=>
 Aaf (Abl (Aaz (Aab t45) 0) 1) fun c17=>
 k (z12 c16<| z13 c17<| stN 32 S) H15)
 (Aak (Aad fun S H k=>
 lA tlo base 3 H (g3 S) fun t49 H18=>
 Aaa (Aag call 46 [Aaj t49] H18) fun t50=>
 Aaf (Abl (Aab t50) 0) fun c19=>
 Aaf (Abl (Aaz (Aab t50) 0) 1) fun c20=>
 k (z14 c19<| z15 c20<| stN 32 S) H18)
 (Aak (Aak (Aad fun S H k=>
 lA tlo base 3 H (g3 S) fun t53 H21=>
 Aaa (Aag call 50 [Aaj t53] H21) fun t54=>
 Aaa (neqT .int t54 (tN 0)) fun t55=>
 gV t55 false (Aab (g7 S)) H21 fun t57 H22=>
 gB t55 false (neqT .int t57 (tN 0)) H22 fun t58 H23=>
 Aaa (Acb (Aab t55) (tB true) (Aaj t58)) fun t59=>
 gV t59 false (Aab (g9 S)) H23 fun t61 H24=>
 gB t59 false (neqT .int t61 (tN 0)) H24 fun t62 H25=>
 Aaa (Acb (Aab t59) (tB true) (Aaj t62)) fun t63=>
 gV t63 false (Aab (g11 S)) H25 fun t65 H26=>
 gB t63 false (neqT .int t65 (tN 0)) H26 fun t66 H27=>
 Aaa (Acb (Aab t63) (tB true) (Aaj t66)) fun t67=>
 gV t67 false (Aab (g13 S)) H27 fun t69 H28=>
 gB t67 false (neqT .int t69 (tN 0)) H28 fun t70 H29=>
 Aaa (Acb (Aab t67) (tB true) (Aaj t70)) fun t71=>
 gV t71 false (Aab (g15 S)) H29 fun t73 H30=>
 gB t71 false (neqT .int t73 (tN 0)) H30 fun t74 H31=>
 Aaa (Acb (Aab t71) (tB true) (Aaj t74)) fun t75=>
 gV t75 false (Aab (g14 S)) H31 fun t77 H32=>
 gV t75 false (Aab (g4 S)) H32 fun t78 H33=>
 gB t75 false (Aag call 27 [Aaj t77,Aaj t78] H33) H33 fun t79 H34=>
 gB t75 false (b1 evNot t79) H34 fun t80 H35=>
 Aaa (Acb (Aab t75) (tB true) (Aaj t80)) fun t81=>
 gV t81 false (Aab (g6 S)) H35 fun t83 H36=>
 gV t81 false (Aab (g5 S)) H36 fun t84 H37=>
 gB t81 false (Abn 1 t84 (tN 0)) H37 fun t85 H38=>
 Abf (Aab t81) false (lF tlo base H38 t85 fun g39 H39=>Abm g39 H39) H38 fun t86 H40=>
 gB t81 false (lenT t86) H40 fun t87 H41=>
 gB t81 false (neqT .int t83 t87) H41 fun t88 H42=>
 Aaa (Acb (Aab t81) (tB true) (Aaj t88)) fun t89=>
 gV t89 false (Aab (g8 S)) H42 fun t91 H43=>
 gV t89 false (Aab (Aae (g5 S))) H43 fun t92 H44=>
 gB t89 false (Abn 1 t92 (tN 0)) H44 fun t93 H45=>
 Abf (Aab t89) false (lF tlo base H45 t93 fun g46 H46=>Abm g46 H46) H45 fun t94 H47=>
 gB t89 false (Aag call 20 [Aaj t91,Aaj t94] H47) H47 fun t95 H48=>
 gB t89 false (b1 evNot t95) H48 fun t96 H49=>
 Aaa (Acb (Aab t89) (tB true) (Aaj t96)) fun t97=>
 gV t97 false (Aab (g10 S)) H49 fun t99 H50=>
 gV t97 false (Aab (Aae (Aae (g5 S)))) H50 fun t100 H51=>
 gB t97 false (lenT t100) H51 fun t101 H52=>
 gB t97 false (neqT .int t99 t101) H52 fun t102 H53=>
 Aaa (Acb (Aab t97) (tB true) (Aaj t102)) fun t103=>
 k (z4 (Aae (g4 S))<| z5 (Aae (Aae (Aae (g5 S))))<| z6 (Aae (g6 S))<| z7 (Aae (g7 S))<| z8 (Aae (g8 S))<| z9 (Aae (g9 S))<| z10 (Aae (g10 S))<| z11 (Aae (g11 S))<| z13 (Aae (g13 S))<| z14 (Aae (g14 S))<| z15 (Aae (g15 S))<| z22 t103<| stN 32 S) H53)
 (Abb (fun S=>some (g22 S))
 (Aak (Aad fun S H k=>
 k (z2 (tB false)<| stN 32 S) H)
 (Aam .ret))
 (Aam .normal)))
 (Aak (Aad fun S H k=>
 k (z16 nilT<| stN 32 S) H)
 (Aak (Aad fun S H k=>
 k (z17 (tB false)<| stN 32 S) H)
 (Aak (Aak (Aad fun S H k=>
 Aaa (lenT (Aab (g4 S))) fun t105=>
 Aaa (b2 evShl (tN 1) t105) fun t106=>
 k (z4 (Aae (g4 S))<| z23 t106<| z24 (tN 0)<| stN 32 S) H)
 (Abd 0 (Ado (Aak (Aad fun S H k=>
 Aaa (b2 Ace (g24 S) (g23 S)) fun t108=>
 k (z25 t108<| stN 32 S) H)
 (Aak (Abb (fun S=>some (g25 S))
 (Aam .normal)
 (Aam (.exit 0)))
 (Aak (Abd 1 (Aak (Aad fun S H k=>
 k (z18 (g24 S)<| z24 (hush (g24 S))<| stN 32 S) H)
 (Aak (Aad fun S H k=>
 k (z19 nilT<| stN 32 S) H)
 (Aak (Aak (Aad fun S H k=>
 Aaa (lenT (Aaj (g4 S))) fun t111=>
 k (z4 (Aaj (g4 S))<| z26 (Aaj (g4 S))<| z27 t111<| z28 (tN 0)<| stN 32 S) H)
 (Abd 2 (Ado (Aak (Aad fun S H k=>
 Aaa (b2 Ace (g28 S) (g27 S)) fun t113=>
 k (z29 t113<| stN 32 S) H)
 (Aak (Abb (fun S=>some (g29 S))
 (Aam .normal)
 (Aam (.exit 2)))
 (Aak (Abd 3 (Aak (Aad fun S H k=>
 Aaa (Abn 1 (g26 S) (hush (g28 S))) fun t115=>
 sF tlo base H t115 fun t116 H54=>
 k (z20 (g28 S)<| z21 t116<| z28 (hush (g28 S))<| stN 32 S) H54)
 (Aak (Aad fun S H k=>
 Aaa (b2 evShr (Aab (g18 S)) (Aab (g20 S))) fun t119=>
 Aaa (b2 evAnd t119 (tN 1)) fun t120=>
 Aaa (eqlT .int t120 (tN 1)) fun t121=>
 k (z18 (Aae (g18 S))<| z20 (Aae (g20 S))<| z30 t121<| stN 32 S) H)
 (Abb (fun S=>some (g30 S))
 (Aad fun S H k=>
 Aaa (Ada 1 [0] [Aaj (Aaj (g21 S))] (repG [tN 0] 1)) fun c55=>
 Acq tlo H 3 1 8 (g19 S) (.row .full (.own 3) 1 c55) fun t125 H56=>
 k (z19 t125<| z21 (Aaj (g21 S))<| stN 32 S) H56)
 (Aam .normal)))))
 (Aad fun S H k=>
 Aaa (b2 Abe (g28 S) (tN 1)) fun t126=>
 k (z28 t126<| stN 32 S) H)))) fuel)))
 (Aak (Aad fun S H k=>
 Aaa (b1 evNot (Aab (g17 S))) fun t128=>
 gV t128 false (Aab (g19 S)) H fun t130 H57=>
 gB t128 false (lenT t130) H57 fun t131 H58=>
 gV t128 false (Aab (g16 S)) H58 fun t132 H59=>
 gB t128 false (lenT t132) H59 fun t133 H60=>
 gB t128 false (b2 Ace t131 t133) H60 fun t134 H61=>
 Aaa (Acb (Aab t128) (tB true) (Aaj t134)) fun t135=>
 gV t135 false (Aab (Aae (g19 S))) H61 fun t137 H62=>
 gB t135 false (lenT t137) H62 fun t138 H63=>
 gV t135 false (Aab (Aae (g16 S))) H63 fun t139 H64=>
 gB t135 false (lenT t139) H64 fun t140 H65=>
 gB t135 false (eqlT .int t138 t140) H65 fun t141 H66=>
 gV t135 false (Aab t141) H66 fun t142 H67=>
 Abf t142 true ( Abm (Aab (Aae (Aae (g19 S)))) H67) H67 fun t143 H68=>
 Abf t142 true ( Abm (Aab (Aae (Aae (g16 S)))) H68) H68 fun t144 H69=>
 Abf t142 true (Aaa (Aag call 78 [Aaj t143,Aaj t144] H69) fun g70=>Abm g70 H69) H69 fun t145 H70=>
 Abf t142 true (Aaa (b2 Ace t145 (tN 0)) fun g71=>Abm g71 H70) H70 fun t146 H71=>
 gB t135 false (Acb t142 (Aaj t146) (tB false)) H71 fun t147 H72=>
 Aaa (Acb (Aab t135) (tB true) (Aaj t147)) fun t148=>
 Abf (Aab t148) true (lA tlo base 3 H72 (g3 S) fun g73 H73=>Abm g73 H73) H72 fun t150 H74=>
 gV t148 true (Aab (Aae (Aae (Aae (g19 S))))) H74 fun t151 H75=>
 gB t148 true (Aag call 79 [Aaj t150,Aaj t151] H75) H75 fun t152 H76=>
 Aaa (Acb (Aab t148) (Aaj t152) (tB false)) fun t153=>
 k (z16 (Aae (Aae (Aae (g16 S))))<| z17 (Aae (g17 S))<| z19 (Aae (Aae (Aae (Aae (g19 S)))))<| z31 t153<| stN 32 S) H76)
 (Abb (fun S=>some (g31 S))
 (Aad fun S H k=>
 k (z16 (g19 S)<| z17 (tB true)<| z19 (hush (g19 S))<| stN 32 S) H)
 (Aam .normal)))))))
 (Aad fun S H k=>
 Aaa (b2 Abe (g24 S) (tN 1)) fun t155=>
 k (z24 t155<| stN 32 S) H)))) fuel)))
 (Aak (Aad fun S H k=>
 Abf (Aab (Aab (g17 S))) true ( Abm (Aab (g16 S)) H) H fun t158 H77=>
 Abf (Aab (Aab (g17 S))) true (Aaa (lenT t158) fun g78=>Abm g78 H77) H77 fun t159 H78=>
 Abf (Aab (Aab (g17 S))) true ( Abm (Aab (g6 S)) H78) H78 fun t160 H79=>
 Abf (Aab (Aab (g17 S))) true (Aaa (eqlT .int t159 t160) fun g80=>Abm g80 H79) H79 fun t161 H80=>
 Aaa (Acb (Aab (Aab (g17 S))) (Aaj t161) (tB false)) fun t162=>
 gV t162 true (Aab (g12 S)) H80 fun t164 H81=>
 gV t162 true (Aab (Aae (g16 S))) H81 fun t165 H82=>
 gB t162 true (Aag call 27 [Aaj t164,Aaj t165] H82) H82 fun t166 H83=>
 Aaa (Acb (Aab t162) (Aaj t166) (tB false)) fun t167=>
 Abf (Aab t167) true (lA tlo base 3 H83 (g3 S) fun g84 H84=>Abm g84 H84) H83 fun t169 H85=>
 gV t167 true (Aab (Aae (g6 S))) H85 fun t170 H86=>
 gV t167 true (Aab (Aae (g12 S))) H86 fun t171 H87=>
 gB t167 true (Aag call 30 [Aaj t169,Aaj t170,Aaj t171] H87) H87 fun t172 H88=>
 gB t167 true (eqlT .int t172 (tN 0)) H88 fun t173 H89=>
 Aaa (Acb (Aab t167) (Aaj t173) (tB false)) fun t174=>
 Abf (Aab t174) true (lA tlo base 3 H89 (g3 S) fun g90 H90=>Abm g90 H90) H89 fun t176 H91=>
 gV t174 true (Aab (Aae (Aae (g6 S)))) H91 fun t177 H92=>
 gB t174 true (b2 Acj t177 (tN 1)) H92 fun t178 H93=>
 gV t174 true (Aab (Aae (Aae (g12 S)))) H93 fun t179 H94=>
 gB t174 true (Aag call 30 [Aaj t176,Aaj t178,Aaj t179] H94) H94 fun t180 H95=>
 gB t174 true (neqT .int t180 (tN 0)) H95 fun t181 H96=>
 Aaa (Acb (Aab t174) (Aaj t181) (tB false)) fun t182=>
 gB t182 true (Aag call 15 [] H96) H96 fun t184 H97=>
 Aaa (Acb (Aab t182) (Aaj t184) (tB false)) fun t185=>
 k (z2 t185<| z6 (Aae (Aae (Aae (g6 S))))<| z12 (Aae (Aae (Aae (g12 S))))<| z16 (Aae (Aae (g16 S)))<| z17 (Aae (g17 S))<| stN 32 S) H97)
 (Aam .ret)))))))))))))))
def F12:FnT:=fun call tlo l H=>Aaa (C12 call tlo (Aah H) (Aal l 0,Aal l 1,Aal l 2,Aal l 3,Aal l 4,Aal l 5,Aal l 6,Aal l 7,Aal l 8,Aal l 9,Aal l 10,Aal l 11,Aal l 12,Aal l 13,Aal l 14,Aal l 15,Aal l 16,Aal l 17,Aal l 18,Aal l 19,Aal l 20,Aal l 21,Aal l 103,Aal l 106,Aal l 107,Aal l 108,Aal l 110,Aal l 111,Aal l 112,Aal l 113,Aal l 121,Aal l 153,()) H) fun p=>resE p.1 (Aap (Abw Abo [p.2.1.2.2.1]) (some (endT (Aah H) p.2.1.2.2.1 p.2.2)))
theorem F12_eq:FEq P TC 12 F12:=fun _ _ _ _=>by kernel_rfl
end
end Go.Proofs.YtgemobbfikjmoaaGreatDoor
namespace Go.Proofs.YtgemobbfikjmoaaGreatDoor
open Go Go.Ev
set_option maxRecDepth 1000000
set_option linter.unusedVariables false
noncomputable section
def C15 (call:Abc) (tlo base:Nat):Aba (TV×TV×TV×TV×TV×TV×TV×TV×TV×TV×TV×TV×TV×TV×TV×TV×TV×TV×TV×TV×TV×TV×TV×TV×TV×Unit):=
 (Aak (Aad fun S H k=>
 k (z0 (tB false)<| stN 25 S) H)
 (Aak (Aad fun S H k=>
 Aaa (Aag call 87 [] H) fun t24=>
 Aaa (Aag call 46 [Aaj t24] H) fun t25=>
 Aaf (Abl (Aab t25) 0) fun c0=>
 Aaf (Abl (Aaz (Aab t25) 0) 1) fun c1=>
 k (z1 c0<| z2 c1<| stN 25 S) H)
 (Aak (Aad fun S H k=>
 Aaa (Aag call 88 [] H) fun t29=>
 Aaa (Aag call 48 [Aaj t29] H) fun t30=>
 Aaf (Abl (Aab t30) 0) fun c2=>
 Aaf (Abl (Aaz (Aab t30) 0) 1) fun c3=>
 k (z3 c2<| z4 c3<| stN 25 S) H)
 (Aak (Aad fun S H k=>
 Aaa (Aag call 89 [] H) fun t34=>
 Aaa (Aag call 18 [Aaj t34] H) fun t35=>
 Aaf (Abl (Aab t35) 0) fun c4=>
 Aaf (Abl (Aaz (Aab t35) 0) 1) fun c5=>
 k (z5 c4<| z6 c5<| stN 25 S) H)
 (Aak (Aad fun S H k=>
 Aaa (Aag call 89 [] H) fun t39=>
 Aaa (Aag call 21 [Aaj t39] H) fun t40=>
 Aaf (Abl (Aab t40) 0) fun c6=>
 Aaf (Abl (Aaz (Aab t40) 0) 1) fun c7=>
 k (z7 c6<| z8 c7<| stN 25 S) H)
 (Aak (Aad fun S H k=>
 Aaa (Aag call 90 [] H) fun t44=>
 Aaa (Aag call 23 [Aaj t44] H) fun t45=>
 Aaf (Abl (Aab t45) 0) fun c8=>
 Aaf (Abl (Aaz (Aab t45) 0) 1) fun c9=>
 k (z9 c8<| z10 c9<| stN 25 S) H)
 (Aak (Aad fun S H k=>
 Aaa (Aag call 91 [tN 2,tN 1,nilT] H) fun t49=>
 Aaa (Aag call 25 [Aaj t49] H) fun t50=>
 Aaf (Abl (Aab t50) 0) fun c10=>
 Aaf (Abl (Aaz (Aab t50) 0) 1) fun c11=>
 k (z11 c10<| z12 c11<| stN 25 S) H)
 (Aak (Aad fun S H k=>
 Aaa (Aag call 89 [] H) fun t54=>
 Aaa (Aag call 28 [Aaj t54] H) fun t55=>
 Aaf (Abl (Aab t55) 0) fun c12=>
 Aaf (Abl (Aaz (Aab t55) 0) 1) fun c13=>
 k (z13 c12<| z14 c13<| stN 25 S) H)
 (Aak (Aak (Aad fun S H k=>
 Aaa (neqT .int (Aab (g2 S)) (tN 0)) fun t59=>
 gV t59 false (Aab (g4 S)) H fun t61 H14=>
 gB t59 false (neqT .int t61 (tN 0)) H14 fun t62 H15=>
 Aaa (Acb (Aab t59) (tB true) (Aaj t62)) fun t63=>
 gV t63 false (Aab (g6 S)) H15 fun t65 H16=>
 gB t63 false (neqT .int t65 (tN 0)) H16 fun t66 H17=>
 Aaa (Acb (Aab t63) (tB true) (Aaj t66)) fun t67=>
 gV t67 false (Aab (g8 S)) H17 fun t69 H18=>
 gB t67 false (neqT .int t69 (tN 0)) H18 fun t70 H19=>
 Aaa (Acb (Aab t67) (tB true) (Aaj t70)) fun t71=>
 gV t71 false (Aab (g10 S)) H19 fun t73 H20=>
 gB t71 false (neqT .int t73 (tN 0)) H20 fun t74 H21=>
 Aaa (Acb (Aab t71) (tB true) (Aaj t74)) fun t75=>
 gV t75 false (Aab (g12 S)) H21 fun t77 H22=>
 gB t75 false (neqT .int t77 (tN 0)) H22 fun t78 H23=>
 Aaa (Acb (Aab t75) (tB true) (Aaj t78)) fun t79=>
 gV t79 false (Aab (g14 S)) H23 fun t81 H24=>
 gB t79 false (neqT .int t81 (tN 0)) H24 fun t82 H25=>
 Aaa (Acb (Aab t79) (tB true) (Aaj t82)) fun t83=>
 k (z2 (Aae (g2 S))<| z4 (Aae (g4 S))<| z6 (Aae (g6 S))<| z8 (Aae (g8 S))<| z10 (Aae (g10 S))<| z12 (Aae (g12 S))<| z14 (Aae (g14 S))<| z23 t83<| stN 25 S) H25)
 (Abb (fun S=>some (g23 S))
 (Aak (Aad fun S H k=>
 k (z0 (tB false)<| stN 25 S) H)
 (Aam .ret))
 (Aam .normal)))
 (Aak (Aad fun S H k=>
 Aaa (Aag call 88 [] H) fun t85=>
 Aaa (Ada 1 [0,1,2,3] [tN 0,tN 1,tN 2,tN 3] (repG [tN 0] 4)) fun c26=>
 Aaa (Aag call 92 [Aaj (.row .full (.own 3) 1 c26)] H) fun t87=>
 Aaa (Aag call 32 [Aaj t85,Aaj t87] H) fun t88=>
 Aaf (Abl (Aab t88) 0) fun c27=>
 Aaf (Abl (Aaz (Aab t88) 0) 1) fun c28=>
 k (z2 c28<| z15 c27<| stN 25 S) H)
 (Aak (Aad fun S H k=>
 Aaa (Aag call 88 [] H) fun t92=>
 Aaa (Ada 1 [0,1,2,3] [tN 0,tN 1,tN 2,tN 3] (repG [tN 0] 4)) fun c29=>
 Aaa (Aag call 92 [Aaj (.row .full (.own 3) 1 c29)] H) fun t94=>
 Aaa (Aag call 34 [Aaj t92,Aaj t94,tN 4] H) fun t95=>
 Aaf (Abl (Aab t95) 0) fun c30=>
 Aaf (Abl (Aaz (Aab t95) 0) 1) fun c31=>
 k (z4 c31<| z16 c30<| stN 25 S) H)
 (Aak (Aad fun S H k=>
 Aaa (Aag call 88 [] H) fun t99=>
 Aaa (Aag call 36 [Aaj t99] H) fun t100=>
 Aaf (Abl (Aab t100) 0) fun c32=>
 Aaf (Abl (Aaz (Aab t100) 0) 1) fun c33=>
 k (z6 c33<| z17 c32<| stN 25 S) H)
 (Aak (Aad fun S H k=>
 Aaa (Aag call 88 [] H) fun t104=>
 Aaa (Aag call 38 [Aaj t104] H) fun t105=>
 Aaf (Abl (Aab t105) 0) fun c34=>
 Aaf (Abl (Aaz (Aab t105) 0) 1) fun c35=>
 k (z8 c35<| z18 c34<| stN 25 S) H)
 (Aak (Aad fun S H k=>
 Aaa (Aag call 88 [] H) fun t109=>
 Aaa (Aag call 40 [Aaj t109,Aaj (Aab (g17 S)),Aaj (Aab (g18 S))] H) fun t112=>
 Aaf (Abl (Aab t112) 0) fun c36=>
 Aaf (Abl (Aaz (Aab t112) 0) 1) fun c37=>
 k (z10 c37<| z17 (Aae (g17 S))<| z18 (Aae (g18 S))<| z19 c36<| stN 25 S) H)
 (Aak (Aad fun S H k=>
 Aaa (Aag call 90 [] H) fun t116=>
 Aaa (Aag call 36 [Aaj t116] H) fun t117=>
 Aaf (Abl (Aab t117) 0) fun c38=>
 Aaf (Abl (Aaz (Aab t117) 0) 1) fun c39=>
 k (z12 c39<| stN 25 S) H)
 (Aak (Aad fun S H k=>
 Aaa (Aag call 88 [] H) fun t121=>
 Aaa (Aag call 16 [Aaj t121] H) fun t122=>
 Aaf (Abl (Aab t122) 0) fun c40=>
 Aaf (Abl (Aaz (Aab t122) 0) 1) fun c41=>
 k (z14 c41<| z20 c40<| stN 25 S) H)
 (Aak (Aak (Aad fun S H k=>
 Aaa (neqT .int (Aab (g2 S)) (tN 0)) fun t126=>
 gV t126 false (Aab (g4 S)) H fun t128 H42=>
 gB t126 false (neqT .int t128 (tN 0)) H42 fun t129 H43=>
 Aaa (Acb (Aab t126) (tB true) (Aaj t129)) fun t130=>
 gV t130 false (Aab (g6 S)) H43 fun t132 H44=>
 gB t130 false (neqT .int t132 (tN 0)) H44 fun t133 H45=>
 Aaa (Acb (Aab t130) (tB true) (Aaj t133)) fun t134=>
 gV t134 false (Aab (g8 S)) H45 fun t136 H46=>
 gB t134 false (neqT .int t136 (tN 0)) H46 fun t137 H47=>
 Aaa (Acb (Aab t134) (tB true) (Aaj t137)) fun t138=>
 gV t138 false (Aab (g10 S)) H47 fun t140 H48=>
 gB t138 false (neqT .int t140 (tN 0)) H48 fun t141 H49=>
 Aaa (Acb (Aab t138) (tB true) (Aaj t141)) fun t142=>
 gV t142 false (Aab (g12 S)) H49 fun t144 H50=>
 gB t142 false (neqT .int t144 (tN 12)) H50 fun t145 H51=>
 Aaa (Acb (Aab t142) (tB true) (Aaj t145)) fun t146=>
 gV t146 false (Aab (g14 S)) H51 fun t148 H52=>
 gB t146 false (neqT .int t148 (tN 0)) H52 fun t149 H53=>
 Aaa (Acb (Aab t146) (tB true) (Aaj t149)) fun t150=>
 k (z2 (Aae (g2 S))<| z4 (Aae (g4 S))<| z6 (Aae (g6 S))<| z8 (Aae (g8 S))<| z10 (Aae (g10 S))<| z12 (Aae (g12 S))<| z14 (Aae (g14 S))<| z24 t150<| stN 25 S) H53)
 (Abb (fun S=>some (g24 S))
 (Aak (Aad fun S H k=>
 k (z0 (tB false)<| stN 25 S) H)
 (Aam .ret))
 (Aam .normal)))
 (Aak (Aad fun S H k=>
 Aaa (Aag call 88 [] H) fun t152=>
 Aaa (Aag call 42 [Aaj t152,Aaj (Aab (g17 S)),Aaj (Aab (g18 S))] H) fun t155=>
 Aaf (Abl (Aab t155) 0) fun c54=>
 Aaf (Abl (Aaz (Aab t155) 0) 1) fun c55=>
 k (z2 c55<| z17 (Aae (g17 S))<| z18 (Aae (g18 S))<| z21 c54<| stN 25 S) H)
 (Aak (Aad fun S H k=>
 Aaa (Aag call 88 [] H) fun t159=>
 Aaa (Aag call 44 [Aaj t159,Aaj (Aab (g17 S)),Aaj (Aab (g18 S))] H) fun t162=>
 Aaf (Abl (Aab t162) 0) fun c56=>
 Aaf (Abl (Aaz (Aab t162) 0) 1) fun c57=>
 k (z4 c57<| z17 (Aae (g17 S))<| z18 (Aae (g18 S))<| z22 c56<| stN 25 S) H)
 (Aak (Aad fun S H k=>
 Aaa (eqlT .int (Aab (g2 S)) (tN 0)) fun t166=>
 gV t166 true (Aab (g4 S)) H fun t168 H58=>
 gB t166 true (eqlT .int t168 (tN 0)) H58 fun t169 H59=>
 Aaa (Acb (Aab t166) (Aaj t169) (tB false)) fun t170=>
 gV t170 true (Aab (g1 S)) H59 fun t172 H60=>
 Abf (Aab t170) true (Aaa (Ada 1 [0,1,2] [tN 0,tN 1,tN 2] (repG [tN 0] 3)) fun c61=>Abm (.row .full (.own 3) 1 c61) H60) H60 fun t173 H62=>
 gB t170 true (Aag call 93 [Aaj t173] H62) H62 fun t174 H63=>
 gB t170 true (Aag call 27 [Aaj t172,Aaj t174] H63) H63 fun t175 H64=>
 Aaa (Acb (Aab t170) (Aaj t175) (tB false)) fun t176=>
 gV t176 true (Aaj (g3 S)) H64 fun t178 H65=>
 Aaa (Acb (Aab t176) (Aaj t178) (tB false)) fun t179=>
 gV t179 true (Aab (g5 S)) H65 fun t181 H66=>
 Abf (Aab t179) true (Aaa (Ada 1 [0,1,2,3,4,5,6,7] [tN 0,tN 1,tN 2,tN 5,tN 3,tN 6,tN 7,tN 8] (repG [tN 0] 8)) fun c67=>Abm (.row .full (.own 3) 1 c67) H66) H66 fun t182 H68=>
 gB t179 true (Aag call 92 [Aaj t182] H68) H68 fun t183 H69=>
 gB t179 true (Aag call 20 [Aaj t181,Aaj t183] H69) H69 fun t184 H70=>
 Aaa (Acb (Aab t179) (Aaj t184) (tB false)) fun t185=>
 gV t185 true (Aab (g7 S)) H70 fun t187 H71=>
 gB t185 true (eqlT .int t187 (tN 2)) H71 fun t188 H72=>
 Aaa (Acb (Aab t185) (Aaj t188) (tB false)) fun t189=>
 gV t189 true (Aab (g9 S)) H72 fun t191 H73=>
 Abf (Aab t189) true (Aaa (Ada 1 [0,1] [tN 0,tN 2] (repG [tN 0] 2)) fun c74=>Abm (.row .full (.own 3) 1 c74) H73) H73 fun t192 H75=>
 gB t189 true (Aag call 93 [Aaj t192] H75) H75 fun t193 H76=>
 gB t189 true (Aag call 27 [Aaj t191,Aaj t193] H76) H76 fun t194 H77=>
 Aaa (Acb (Aab t189) (Aaj t194) (tB false)) fun t195=>
 gV t195 true (Aab (g11 S)) H77 fun t197 H78=>
 Abf (Aab t195) true (Aaa (Ada 1 [0,1] [tN 0,tN 1] (repG [tN 0] 2)) fun c79=>Abm (.row .full (.own 3) 1 c79) H78) H78 fun t198 H80=>
 gB t195 true (Aag call 92 [Aaj t198] H80) H80 fun t199 H81=>
 gB t195 true (Aag call 20 [Aaj t197,Aaj t199] H81) H81 fun t200 H82=>
 Aaa (Acb (Aab t195) (Aaj t200) (tB false)) fun t201=>
 gV t201 true (Aab (g13 S)) H82 fun t203 H83=>
 Abf (Aab t201) true (Aaa (Ada 1 [0,1,2,3] [tN 0,tN 2,tN 6,tN 8] (repG [tN 0] 4)) fun c84=>Abm (.row .full (.own 3) 1 c84) H83) H83 fun t204 H85=>
 gB t201 true (Aag call 93 [Aaj t204] H85) H85 fun t205 H86=>
 gB t201 true (Aag call 27 [Aaj t203,Aaj t205] H86) H86 fun t206 H87=>
 Aaa (Acb (Aab t201) (Aaj t206) (tB false)) fun t207=>
 gV t207 true (Aab (g15 S)) H87 fun t209 H88=>
 Abf (Aab t207) true (Aaa (Ada 1 [0,1,2,3,4,5,6,7,8] [tN 0,tN 1,tN 0,.v (.int .i64 (.negSucc 0)),.v (.int .i64 (.negSucc 1)),.v (.int .i64 (.negSucc 0)),tN 0,tN 1,tN 0] (repG [tN 0] 9)) fun c89=>Abm (.row .full (.own 3) 1 c89) H88) H88 fun t210 H90=>
 gB t207 true (Aag call 93 [Aaj t210] H90) H90 fun t211 H91=>
 gB t207 true (Aag call 27 [Aaj t209,Aaj t211] H91) H91 fun t212 H92=>
 Aaa (Acb (Aab t207) (Aaj t212) (tB false)) fun t213=>
 gV t213 true (Aab (g16 S)) H92 fun t215 H93=>
 Abf (Aab t213) true (Aaa (Ada 1 [0,1,2,3] [tN 0,tN 2,tN 1,tN 3] (repG [tN 0] 4)) fun c94=>Abm (.row .full (.own 3) 1 c94) H93) H93 fun t216 H95=>
 gB t213 true (Aag call 92 [Aaj t216] H95) H95 fun t217 H96=>
 gB t213 true (Aag call 20 [Aaj t215,Aaj t217] H96) H96 fun t218 H97=>
 Aaa (Acb (Aab t213) (Aaj t218) (tB false)) fun t219=>
 gV t219 true (Aab (g17 S)) H97 fun t221 H98=>
 Abf (Aab t219) true (Aaa (Ada 1 [0,1,2,3] [tN 0,tN 1,tN 2,tN 3] (repG [tN 0] 4)) fun c99=>Abm (.row .full (.own 3) 1 c99) H98) H98 fun t222 H100=>
 gB t219 true (Aag call 92 [Aaj t222] H100) H100 fun t223 H101=>
 gB t219 true (Aag call 20 [Aaj t221,Aaj t223] H101) H101 fun t224 H102=>
 Aaa (Acb (Aab t219) (Aaj t224) (tB false)) fun t225=>
 gV t225 true (Aab (g18 S)) H102 fun t227 H103=>
 gV t225 true (Aab (Aae (g16 S))) H103 fun t228 H104=>
 gB t225 true (Aag call 20 [Aaj t227,Aaj t228] H104) H104 fun t229 H105=>
 Aaa (Acb (Aab t225) (Aaj t229) (tB false)) fun t230=>
 gV t230 true (Aab (g19 S)) H105 fun t232 H106=>
 gB t230 true (eqlT .int t232 (tN 1)) H106 fun t233 H107=>
 Aaa (Acb (Aab t230) (Aaj t233) (tB false)) fun t234=>
 gV t234 true (Aab (g20 S)) H107 fun t236 H108=>
 gB t234 true (eqlT .int t236 (tN 2)) H108 fun t237 H109=>
 Aaa (Acb (Aab t234) (Aaj t237) (tB false)) fun t238=>
 gV t238 true (Aab (g21 S)) H109 fun t240 H110=>
 gV t238 true (Aab (Aae (g17 S))) H110 fun t241 H111=>
 gB t238 true (Aag call 20 [Aaj t240,Aaj t241] H111) H111 fun t242 H112=>
 Aaa (Acb (Aab t238) (Aaj t242) (tB false)) fun t243=>
 gV t243 true (Aab (g22 S)) H112 fun t245 H113=>
 gV t243 true (Aab (Aae (g18 S))) H113 fun t246 H114=>
 gB t243 true (Aag call 20 [Aaj t245,Aaj t246] H114) H114 fun t247 H115=>
 Aaa (Acb (Aab t243) (Aaj t247) (tB false)) fun t248=>
 gB t248 true (Aag call 88 [] H115) H115 fun t250 H116=>
 gV t248 true (Aab (Aae (Aae (g17 S)))) H116 fun t251 H117=>
 gB t248 true (Aag call 52 [Aaj t250,Aaj t251] H117) H117 fun t252 H118=>
 gB t248 true (eqlT .int t252 (tN 0)) H118 fun t253 H119=>
 Aaa (Acb (Aab t248) (Aaj t253) (tB false)) fun t254=>
 gB t254 true (Aag call 90 [] H119) H119 fun t256 H120=>
 Abf (Aab t254) true (Aaa (Ada 1 [0] [tN 1] (repG [tN 0] 1)) fun c121=>Abm (.row .full (.own 3) 1 c121) H120) H120 fun t257 H122=>
 gB t254 true (Aag call 93 [Aaj t257] H122) H122 fun t258 H123=>
 gB t254 true (Aag call 30 [Aaj t256,tN 1,Aaj t258] H123) H123 fun t259 H124=>
 gB t254 true (eqlT .int t259 (tN 0)) H124 fun t260 H125=>
 Aaa (Acb (Aab t254) (Aaj t260) (tB false)) fun t261=>
 gB t261 true (Aag call 90 [] H125) H125 fun t263 H126=>
 Abf (Aab t261) true (Aaa (Ada 1 [0] [tN 1] (repG [tN 0] 1)) fun c127=>Abm (.row .full (.own 3) 1 c127) H126) H126 fun t264 H128=>
 gB t261 true (Aag call 93 [Aaj t264] H128) H128 fun t265 H129=>
 gB t261 true (Aag call 30 [Aaj t263,tN 0,Aaj t265] H129) H129 fun t266 H130=>
 gB t261 true (eqlT .int t266 (tN 14)) H130 fun t267 H131=>
 Aaa (Acb (Aab t261) (Aaj t267) (tB false)) fun t268=>
 k (z0 t268<| z1 (Aae (g1 S))<| z2 (Aae (g2 S))<| z3 (Aaj (g3 S))<| z4 (Aae (g4 S))<| z5 (Aae (g5 S))<| z7 (Aae (g7 S))<| z9 (Aae (g9 S))<| z11 (Aae (g11 S))<| z13 (Aae (g13 S))<| z15 (Aae (g15 S))<| z16 (Aae (Aae (g16 S)))<| z17 (Aae (Aae (Aae (g17 S))))<| z18 (Aae (Aae (g18 S)))<| z19 (Aae (g19 S))<| z20 (Aae (g20 S))<| z21 (Aae (g21 S))<| z22 (Aae (g22 S))<| stN 25 S) H131)
 (Aam .ret)))))))))))))))))))))
def F15:FnT:=fun call tlo l H=>Aaa (C15 call tlo (Aah H) (Aal l 0,Aal l 1,Aal l 2,Aal l 3,Aal l 4,Aal l 5,Aal l 6,Aal l 7,Aal l 8,Aal l 9,Aal l 10,Aal l 11,Aal l 12,Aal l 13,Aal l 14,Aal l 15,Aal l 16,Aal l 17,Aal l 18,Aal l 19,Aal l 20,Aal l 21,Aal l 22,Aal l 83,Aal l 150,()) H) fun p=>resE p.1 (Aap (Abw Abo [p.2.1.1]) (some (endT (Aah H) p.2.1.1 p.2.2)))
theorem F15_eq:FEq P TC 15 F15:=fun _ _ _ _=>by kernel_rfl
def C16 (call:Abc) (tlo base:Nat):Aba (TV×TV×TV×TV×TV×TV×TV×Unit):=
 (Aak (Aad fun S H k=>
 Aap (stor S.1)<|
 let t1:=(.ptr (Aah H) 0)
 let H0:=(Aaq H (.cells (Aas S.1)))
 k (z0 (hush S.1)<| z1 t1<| z2 (tN 0)<| z3 (tN 0)<| stN 7 S) H0)
 (Aak (Aad fun S H k=>
 lA tlo base 3 H (g1 S) fun t7 H1=>
 Aaa (Aag call 94 [Aaj t7] H1) fun t8=>
 Aaf (Abl (Aab t8) 0) fun c2=>
 Aaf (Abl (Aaz (Aab t8) 0) 1) fun c3=>
 let t4:=(.ptr (Aah H1) 0)
 let H4:=(Aaq H1 (.cells Acr))
 Aaa (Aau tlo base 19 H4 t4 c2) fun H5=>
 k (z4 t4<| z5 c3<| stN 7 S) H5)
 (Aak (Aak (Aad fun S H k=>
 Aaa (neqT .int (Aab (g5 S)) (tN 0)) fun t12=>
 k (z5 (Aae (g5 S))<| z6 t12<| stN 7 S) H)
 (Abb (fun S=>some (g6 S))
 (Aak (Aad fun S H k=>
 k (z2 (tN 0)<| z3 (g5 S)<| z5 (hush (g5 S))<| stN 7 S) H)
 (Aam .ret))
 (Aam .normal)))
 (Aak (Aad fun S H k=>
 lA tlo base 19 H (g4 S) fun t14 H6=>
 Aaa (Aar (g4 S) 2) fun t15=>
 lF tlo base H6 t15 fun t16 H7=>
 Aaa (Aag call 95 [Aaj t14,Aaj t16] H7) fun t17=>
 k (z2 t17<| z3 (tN 0)<| stN 7 S) H7)
 (Aam .ret)))))
def F16:FnT:=fun call tlo l H=>Aaa (C16 call tlo (Aah H) (Aal l 0,Aal l 1,Aal l 2,Aal l 3,Aal l 4,Aal l 5,Aal l 12,()) H) fun p=>resE p.1 (Aap (Abw Abo [p.2.1.2.2.1,p.2.1.2.2.2.1]) (some (endT (Aah H) (.tup [p.2.1.2.2.1,p.2.1.2.2.2.1]) p.2.2)))
theorem F16_eq:FEq P TC 16 F16:=fun _ _ _ _=>by kernel_rfl
def C18 (call:Abc) (tlo base:Nat):Aba (TV×TV×TV×TV×TV×TV×TV×Unit):=
 (Aak (Aad fun S H k=>
 Aap (stor S.1)<|
 let t1:=(.ptr (Aah H) 0)
 let H0:=(Aaq H (.cells (Aas S.1)))
 k (z0 (hush S.1)<| z1 t1<| z2 nilT<| z3 (tN 0)<| stN 7 S) H0)
 (Aak (Aad fun S H k=>
 lA tlo base 3 H (g1 S) fun t7 H1=>
 Aaa (Aag call 94 [Aaj t7] H1) fun t8=>
 Aaf (Abl (Aab t8) 0) fun c2=>
 Aaf (Abl (Aaz (Aab t8) 0) 1) fun c3=>
 let t4:=(.ptr (Aah H1) 0)
 let H4:=(Aaq H1 (.cells Acr))
 Aaa (Aau tlo base 19 H4 t4 c2) fun H5=>
 k (z4 t4<| z5 c3<| stN 7 S) H5)
 (Aak (Aak (Aad fun S H k=>
 Aaa (neqT .int (Aab (g5 S)) (tN 0)) fun t12=>
 k (z5 (Aae (g5 S))<| z6 t12<| stN 7 S) H)
 (Abb (fun S=>some (g6 S))
 (Aak (Aad fun S H k=>
 k (z2 nilT<| z3 (g5 S)<| z5 (hush (g5 S))<| stN 7 S) H)
 (Aam .ret))
 (Aam .normal)))
 (Aak (Aad fun S H k=>
 lA tlo base 19 H (g4 S) fun t14 H6=>
 Aaa (Aar (g4 S) 2) fun t15=>
 lF tlo base H6 t15 fun t16 H7=>
 Aaa (Aag call 97 [Aaj t14,Aaj t16] H7) fun t17=>
 k (z2 t17<| z3 (tN 0)<| stN 7 S) H7)
 (Aam .ret)))))
def F18:FnT:=fun call tlo l H=>Aaa (C18 call tlo (Aah H) (Aal l 0,Aal l 1,Aal l 2,Aal l 3,Aal l 4,Aal l 5,Aal l 12,()) H) fun p=>resE p.1 (Aap (Abw Abo [p.2.1.2.2.1,p.2.1.2.2.2.1]) (some (endT (Aah H) (.tup [p.2.1.2.2.1,p.2.1.2.2.2.1]) p.2.2)))
theorem F18_eq:FEq P TC 18 F18:=fun _ _ _ _=>by kernel_rfl
def C20 (call:Abc) (tlo base:Nat):Aba (TV×TV×TV×TV×TV×TV×TV×Unit):=
 (Aak (Aad fun S H k=>
 k (z2 (tB false)<| stN 7 S) H)
 (Aak (Aak (Aad fun S H k=>
 Aaa (lenT (Aab S.1)) fun t7=>
 Aaa (lenT (Aab (g1 S))) fun t9=>
 Aaa (neqT .int t7 t9) fun t10=>
 k (z0 (Aae S.1)<| z1 (Aae (g1 S))<| z4 t10<| stN 7 S) H)
 (Abb (fun S=>some (g4 S))
 (Aak (Aad fun S H k=>
 k (z2 (tB false)<| stN 7 S) H)
 (Aam .ret))
 (Aam .normal)))
 (Aak (Aak (Aad fun S H k=>
 k (z3 (tN 0)<| stN 7 S) H)
 (Abd 0 (Ado (Aak (Aak (Aad fun S H k=>
 Aaa (lenT (Aab S.1)) fun t13=>
 Aaa (b2 Ace (Aab (g3 S)) t13) fun t14=>
 k (z0 (Aae S.1)<| z3 (Aae (g3 S))<| z5 t14<| stN 7 S) H)
 (Abb (fun S=>some (g5 S))
 (Aam .normal)
 (Aam (.exit 0))))
 (Aak (Abd 1 (Aak (Aad fun S H k=>
 Aaa (Abn 2 (Aab S.1) (Aab (g3 S))) fun t19=>
 lA tlo base 2 H t19 fun t20 H0=>
 Aaa (Abn 2 (Aab (g1 S)) (Aab (Aae (g3 S)))) fun t23=>
 lA tlo base 2 H0 t23 fun t24 H1=>
 Aaa (neqT (.ints 2) t20 t24) fun t25=>
 k (z0 (Aae S.1)<| z1 (Aae (g1 S))<| z3 (Aae (Aae (g3 S)))<| z6 t25<| stN 7 S) H1)
 (Abb (fun S=>some (g6 S))
 (Aak (Aad fun S H k=>
 k (z2 (tB false)<| stN 7 S) H)
 (Aam .ret))
 (Aam .normal))))
 (Aad fun S H k=>
 Aaa (b2 Abe (Aab (g3 S)) (tN 1)) fun t16=>
 k (z3 t16<| stN 7 S) H))) fuel)))
 (Aak (Aad fun S H k=>
 k (z2 (tB true)<| stN 7 S) H)
 (Aam .ret)))))
def F20:FnT:=fun call tlo l H=>Aaa (C20 call tlo (Aah H) (Aal l 0,Aal l 1,Aal l 4,Aal l 5,Aal l 10,Aal l 14,Aal l 25,()) H) fun p=>resE p.1 (Aap (Abw Abo [p.2.1.2.2.1]) (some (endT (Aah H) p.2.1.2.2.1 p.2.2)))
theorem F20_eq:FEq P TC 20 F20:=fun _ _ _ _=>by kernel_rfl
def C21 (call:Abc) (tlo base:Nat):Aba (TV×TV×TV×TV×TV×TV×TV×Unit):=
 (Aak (Aad fun S H k=>
 Aap (stor S.1)<|
 let t1:=(.ptr (Aah H) 0)
 let H0:=(Aaq H (.cells (Aas S.1)))
 k (z0 (hush S.1)<| z1 t1<| z2 (tN 0)<| z3 (tN 0)<| stN 7 S) H0)
 (Aak (Aad fun S H k=>
 lA tlo base 3 H (g1 S) fun t7 H1=>
 Aaa (Aag call 94 [Aaj t7] H1) fun t8=>
 Aaf (Abl (Aab t8) 0) fun c2=>
 Aaf (Abl (Aaz (Aab t8) 0) 1) fun c3=>
 let t4:=(.ptr (Aah H1) 0)
 let H4:=(Aaq H1 (.cells Acr))
 Aaa (Aau tlo base 19 H4 t4 c2) fun H5=>
 k (z4 t4<| z5 c3<| stN 7 S) H5)
 (Aak (Aak (Aad fun S H k=>
 Aaa (neqT .int (Aab (g5 S)) (tN 0)) fun t12=>
 k (z5 (Aae (g5 S))<| z6 t12<| stN 7 S) H)
 (Abb (fun S=>some (g6 S))
 (Aak (Aad fun S H k=>
 k (z2 (tN 0)<| z3 (g5 S)<| z5 (hush (g5 S))<| stN 7 S) H)
 (Aam .ret))
 (Aam .normal)))
 (Aak (Aad fun S H k=>
 sA tlo base 19 H (g4 S) fun t14 H6=>
 Aaa (Aar (g4 S) 2) fun t15=>
 sF tlo base H6 t15 fun t16 H7=>
 let t17:=(.map (Aah H7))
 let H8:=(Aaq H7 (.map []))
 Abz call tlo 98 [Aaj t14,Aaj t16,Aaj t17] H8 fun t18 H9=>
 Aaa (partT false 1 (Aaj t18) 1) fun t19=>
 k (z2 t19<| z3 (tN 0)<| stN 7 S) H9)
 (Aam .ret)))))
def F21:FnT:=fun call tlo l H=>Aaa (C21 call tlo (Aah H) (Aal l 0,Aal l 1,Aal l 2,Aal l 3,Aal l 4,Aal l 5,Aal l 12,()) H) fun p=>resE p.1 (Aap (Abw Abo [p.2.1.2.2.1,p.2.1.2.2.2.1]) (some (endT (Aah H) (.tup [p.2.1.2.2.1,p.2.1.2.2.2.1]) p.2.2)))
theorem F21_eq:FEq P TC 21 F21:=fun _ _ _ _=>by kernel_rfl
def C23 (call:Abc) (tlo base:Nat):Aba (TV×TV×TV×TV×TV×TV×TV×TV×Unit):=
 (Aak (Aad fun S H k=>
 Aap (stor S.1)<|
 let t1:=(.ptr (Aah H) 0)
 let H0:=(Aaq H (.cells (Aas S.1)))
 k (z0 (hush S.1)<| z1 t1<| z2 nilT<| z3 (tN 0)<| stN 8 S) H0)
 (Aak (Aad fun S H k=>
 lA tlo base 3 H (g1 S) fun t8 H1=>
 Aaa (Aag call 94 [Aaj t8] H1) fun t9=>
 Aaf (Abl (Aab t9) 0) fun c2=>
 Aaf (Abl (Aaz (Aab t9) 0) 1) fun c3=>
 let t4:=(.ptr (Aah H1) 0)
 let H4:=(Aaq H1 (.cells Acr))
 Aaa (Aau tlo base 19 H4 t4 c2) fun H5=>
 k (z4 t4<| z5 c3<| stN 8 S) H5)
 (Aak (Aak (Aad fun S H k=>
 Aaa (neqT .int (Aab (g5 S)) (tN 0)) fun t13=>
 k (z5 (Aae (g5 S))<| z7 t13<| stN 8 S) H)
 (Abb (fun S=>some (g7 S))
 (Aak (Aad fun S H k=>
 k (z2 nilT<| z3 (g5 S)<| z5 (hush (g5 S))<| stN 8 S) H)
 (Aam .ret))
 (Aam .normal)))
 (Aak (Aad fun S H k=>
 lA tlo base 19 H (g4 S) fun t15 H6=>
 Aaa (Aar (g4 S) 2) fun t16=>
 lF tlo base H6 t16 fun t17 H7=>
 Aaa (Aag call 95 [Aaj t15,Aaj t17] H7) fun t18=>
 let t6:=(.ptr (Aah H7) 0)
 let H8:=(Aaq H7 (.cells [tN 0]))
 Aaa (Aau tlo base 1 H8 t6 t18) fun H9=>
 k (z6 t6<| stN 8 S) H9)
 (Aak (Aad fun S H k=>
 Aaa (Aar (g4 S) 2) fun t19=>
 lF tlo base H t19 fun t20 H10=>
 Aaa (Aag call 100 [Aaj t20] H10) fun t21=>
 Aap (Abw pass [Aaj (g4 S),Aaj (g6 S)])<|
 Adh 1 false t21 H10 fun c11 H11=>
 Abz call tlo 99 [c11,.fn (.func 101) [] [Aaj (g4 S),Aaj (g6 S)]] H11 fun t23 H12=>
 k (z2 t23<| z3 (tN 0)<| z4 (Aaj (g4 S))<| z6 (Aaj (g6 S))<| stN 8 S) H12)
 (Aam .ret))))))
def F23:FnT:=fun call tlo l H=>Aaa (C23 call tlo (Aah H) (Aal l 0,Aal l 1,Aal l 2,Aal l 3,Aal l 4,Aal l 5,Aal l 6,Aal l 13,()) H) fun p=>resE p.1 (Aap (Abw Abo [p.2.1.2.2.1,p.2.1.2.2.2.1]) (some (endT (Aah H) (.tup [p.2.1.2.2.1,p.2.1.2.2.2.1]) p.2.2)))
theorem F23_eq:FEq P TC 23 F23:=fun _ _ _ _=>by kernel_rfl
def C25 (call:Abc) (tlo base:Nat):Aba (TV×TV×TV×TV×TV×TV×TV×TV×Unit):=
 (Aak (Aad fun S H k=>
 Aap (stor S.1)<|
 let t1:=(.ptr (Aah H) 0)
 let H0:=(Aaq H (.cells (Aas S.1)))
 k (z0 (hush S.1)<| z1 t1<| z2 nilT<| z3 (tN 0)<| stN 8 S) H0)
 (Aak (Aad fun S H k=>
 lA tlo base 3 H (g1 S) fun t8 H1=>
 Aaa (Aag call 94 [Aaj t8] H1) fun t9=>
 Aaf (Abl (Aab t9) 0) fun c2=>
 Aaf (Abl (Aaz (Aab t9) 0) 1) fun c3=>
 let t4:=(.ptr (Aah H1) 0)
 let H4:=(Aaq H1 (.cells Acr))
 Aaa (Aau tlo base 19 H4 t4 c2) fun H5=>
 k (z4 t4<| z5 c3<| stN 8 S) H5)
 (Aak (Aak (Aad fun S H k=>
 Aaa (neqT .int (Aab (g5 S)) (tN 0)) fun t13=>
 k (z5 (Aae (g5 S))<| z7 t13<| stN 8 S) H)
 (Abb (fun S=>some (g7 S))
 (Aak (Aad fun S H k=>
 k (z2 nilT<| z3 (g5 S)<| z5 (hush (g5 S))<| stN 8 S) H)
 (Aam .ret))
 (Aam .normal)))
 (Aak (Aad fun S H k=>
 lA tlo base 19 H (g4 S) fun t15 H6=>
 Aaa (Aar (g4 S) 2) fun t16=>
 lF tlo base H6 t16 fun t17 H7=>
 Aaa (Aag call 95 [Aaj t15,Aaj t17] H7) fun t18=>
 let t6:=(.ptr (Aah H7) 0)
 let H8:=(Aaq H7 (.cells [tN 0]))
 Aaa (Aau tlo base 1 H8 t6 t18) fun H9=>
 k (z6 t6<| stN 8 S) H9)
 (Aak (Aad fun S H k=>
 lA tlo base 19 H (g4 S) fun t19 H10=>
 Aaa (Aar (g4 S) 2) fun t20=>
 lF tlo base H10 t20 fun t21 H11=>
 Aaa (Aag call 97 [Aaj t19,Aaj t21] H11) fun t22=>
 Aap (Abw pass [Aaj (g4 S),Aaj (g6 S)])<|
 Adh 2 true t22 H11 fun c12 H12=>
 Abz call tlo 104 [c12,.fn (.func 105) [] [Aaj (g4 S),Aaj (g6 S)]] H12 fun t24 H13=>
 k (z2 t24<| z3 (tN 0)<| z4 (Aaj (g4 S))<| z6 (Aaj (g6 S))<| stN 8 S) H13)
 (Aam .ret))))))
def F25:FnT:=fun call tlo l H=>Aaa (C25 call tlo (Aah H) (Aal l 0,Aal l 1,Aal l 2,Aal l 3,Aal l 4,Aal l 5,Aal l 6,Aal l 13,()) H) fun p=>resE p.1 (Aap (Abw Abo [p.2.1.2.2.1,p.2.1.2.2.2.1]) (some (endT (Aah H) (.tup [p.2.1.2.2.1,p.2.1.2.2.2.1]) p.2.2)))
theorem F25_eq:FEq P TC 25 F25:=fun _ _ _ _=>by kernel_rfl
end
end Go.Proofs.YtgemobbfikjmoaaGreatDoor
namespace Go.Proofs.YtgemobbfikjmoaaGreatDoor
open Go Go.Ev
set_option maxRecDepth 1000000
set_option linter.unusedVariables false
noncomputable section
def C27 (call:Abc) (tlo base:Nat):Aba (TV×TV×TV×TV×TV×TV×TV×Unit):=
 (Aak (Aad fun S H k=>
 k (z2 (tB false)<| stN 7 S) H)
 (Aak (Aak (Aad fun S H k=>
 Aaa (lenT (Aab S.1)) fun t7=>
 Aaa (lenT (Aab (g1 S))) fun t9=>
 Aaa (neqT .int t7 t9) fun t10=>
 k (z0 (Aae S.1)<| z1 (Aae (g1 S))<| z4 t10<| stN 7 S) H)
 (Abb (fun S=>some (g4 S))
 (Aak (Aad fun S H k=>
 k (z2 (tB false)<| stN 7 S) H)
 (Aam .ret))
 (Aam .normal)))
 (Aak (Aak (Aad fun S H k=>
 k (z3 (tN 0)<| stN 7 S) H)
 (Abd 0 (Ado (Aak (Aak (Aad fun S H k=>
 Aaa (lenT (Aab S.1)) fun t13=>
 Aaa (b2 Ace (Aab (g3 S)) t13) fun t14=>
 k (z0 (Aae S.1)<| z3 (Aae (g3 S))<| z5 t14<| stN 7 S) H)
 (Abb (fun S=>some (g5 S))
 (Aam .normal)
 (Aam (.exit 0))))
 (Aak (Abd 1 (Aak (Aad fun S H k=>
 Aaa (Abn 1 (Aab S.1) (Aab (g3 S))) fun t19=>
 lF tlo base H t19 fun t20 H0=>
 Aaa (Abn 1 (Aab (g1 S)) (Aab (Aae (g3 S)))) fun t23=>
 lF tlo base H0 t23 fun t24 H1=>
 Aaa (neqT .int t20 t24) fun t25=>
 k (z0 (Aae S.1)<| z1 (Aae (g1 S))<| z3 (Aae (Aae (g3 S)))<| z6 t25<| stN 7 S) H1)
 (Abb (fun S=>some (g6 S))
 (Aak (Aad fun S H k=>
 k (z2 (tB false)<| stN 7 S) H)
 (Aam .ret))
 (Aam .normal))))
 (Aad fun S H k=>
 Aaa (b2 Abe (Aab (g3 S)) (tN 1)) fun t16=>
 k (z3 t16<| stN 7 S) H))) fuel)))
 (Aak (Aad fun S H k=>
 k (z2 (tB true)<| stN 7 S) H)
 (Aam .ret)))))
def F27:FnT:=fun call tlo l H=>Aaa (C27 call tlo (Aah H) (Aal l 0,Aal l 1,Aal l 4,Aal l 5,Aal l 10,Aal l 14,Aal l 25,()) H) fun p=>resE p.1 (Aap (Abw Abo [p.2.1.2.2.1]) (some (endT (Aah H) p.2.1.2.2.1 p.2.2)))
theorem F27_eq:FEq P TC 27 F27:=fun _ _ _ _=>by kernel_rfl
def C28 (call:Abc) (tlo base:Nat):Aba (TV×TV×TV×TV×TV×TV×TV×TV×TV×TV×TV×TV×TV×TV×TV×Unit):=
 (Aak (Aad fun S H k=>
 Aap (stor S.1)<|
 let t1:=(.ptr (Aah H) 0)
 let H0:=(Aaq H (.cells (Aas S.1)))
 k (z0 (hush S.1)<| z1 t1<| z2 nilT<| z3 (tN 0)<| stN 15 S) H0)
 (Aak (Aad fun S H k=>
 lA tlo base 3 H (g1 S) fun t11 H1=>
 Aaa (Aag call 94 [Aaj t11] H1) fun t12=>
 Aaf (Abl (Aab t12) 0) fun c2=>
 Aaf (Abl (Aaz (Aab t12) 0) 1) fun c3=>
 let t4:=(.ptr (Aah H1) 0)
 let H4:=(Aaq H1 (.cells Acr))
 Aaa (Aau tlo base 19 H4 t4 c2) fun H5=>
 k (z4 t4<| z5 c3<| stN 15 S) H5)
 (Aak (Aak (Aad fun S H k=>
 Aaa (neqT .int (Aab (g5 S)) (tN 0)) fun t16=>
 k (z5 (Aae (g5 S))<| z9 t16<| stN 15 S) H)
 (Abb (fun S=>some (g9 S))
 (Aak (Aad fun S H k=>
 k (z2 nilT<| z3 (g5 S)<| z5 (hush (g5 S))<| stN 15 S) H)
 (Aam .ret))
 (Aam .normal)))
 (Aak (Aad fun S H k=>
 k (z6 nilT<| stN 15 S) H)
 (Aak (Aad fun S H k=>
 Aaa (Aar (g4 S) 2) fun t18=>
 sF tlo base H t18 fun t19 H6=>
 k (z7 t19<| stN 15 S) H6)
 (Aak (Aak (Aad fun S H k=>
 Aaa (Aar (g4 S) 2) fun t20=>
 lF tlo base H t20 fun t21 H7=>
 Aaa (Aag call 100 [Aaj t21] H7) fun t22=>
 Aaa (lenT t22) fun t23=>
 k (z10 t22<| z11 t23<| z12 (tN 0)<| stN 15 S) H7)
 (Abd 0 (Ado (Aak (Aad fun S H k=>
 Aaa (b2 Ace (g12 S) (g11 S)) fun t25=>
 k (z13 t25<| stN 15 S) H)
 (Aak (Abb (fun S=>some (g13 S))
 (Aam .normal)
 (Aam (.exit 0)))
 (Aak (Abd 1 (Aak (Aad fun S H k=>
 Aaa (Abn 1 (g10 S) (g12 S)) fun t26=>
 sF tlo base H t26 fun t27 H8=>
 k (z8 t27<| stN 15 S) H8)
 (Aak (Aad fun S H k=>
 lA tlo base 19 H (g4 S) fun t28 H9=>
 Aaa (b2 evShl (.v (.int .u64 (.ofNat 1))) (Aab (g8 S))) fun t31=>
 Aaa (b2 Adc (Aab (g7 S)) t31) fun t32=>
 Aaa (Aag call 95 [Aaj t28,Aaj t32] H9) fun t33=>
 lA tlo base 19 H9 (g4 S) fun t34 H10=>
 Aaa (Aag call 95 [Aaj t34,Aaj (Aab (Aae (g7 S)))] H10) fun t36=>
 Aaa (b2 Ace t33 t36) fun t37=>
 k (z7 (Aae (Aae (g7 S)))<| z8 (Aae (g8 S))<| z14 t37<| stN 15 S) H10)
 (Abb (fun S=>some (g14 S))
 (Aak (Aad fun S H k=>
 Aaa (b2 evShl (.v (.int .u64 (.ofNat 1))) (Aab (g8 S))) fun t40=>
 Aaa (b2 Adc (Aab (g7 S)) t40) fun t41=>
 k (z7 t41<| z8 (Aae (g8 S))<| stN 15 S) H)
 (Aad fun S H k=>
 Aaa (Ada 1 [0] [Aaj (Aaj (g8 S))] (repG [tN 0] 1)) fun c11=>
 Acq tlo H 3 1 8 (g6 S) (.row .full (.own 3) 1 c11) fun t45 H12=>
 k (z6 t45<| z8 (Aaj (g8 S))<| stN 15 S) H12))
 (Aam .normal)))))
 (Aad fun S H k=>
 Aaa (b2 Abe (g12 S) (tN 1)) fun t46=>
 k (z12 t46<| stN 15 S) H)))) fuel)))
 (Aak (Aad fun S H k=>
 k (z2 (g6 S)<| z3 (tN 0)<| z6 (hush (g6 S))<| stN 15 S) H)
 (Aam .ret))))))))
def F28:FnT:=fun call tlo l H=>Aaa (C28 call tlo (Aah H) (Aal l 0,Aal l 1,Aal l 2,Aal l 3,Aal l 4,Aal l 5,Aal l 6,Aal l 7,Aal l 9,Aal l 16,Aal l 22,Aal l 23,Aal l 24,Aal l 25,Aal l 37,()) H) fun p=>resE p.1 (Aap (Abw Abo [p.2.1.2.2.1,p.2.1.2.2.2.1]) (some (endT (Aah H) (.tup [p.2.1.2.2.1,p.2.1.2.2.2.1]) p.2.2)))
theorem F28_eq:FEq P TC 28 F28:=fun _ _ _ _=>by kernel_rfl
def C30 (call:Abc) (tlo base:Nat):Aba (TV×TV×TV×TV×TV×TV×TV×TV×TV×TV×TV×TV×TV×TV×TV×TV×TV×TV×TV×TV×TV×TV×TV×TV×TV×TV×Unit):=
 (Aak (Aad fun S H k=>
 Aap (stor S.1)<|
 let t3:=(.ptr (Aah H) 0)
 let H0:=(Aaq H (.cells (Aas S.1)))
 k (z0 (hush S.1)<| z3 t3<| z4 (tN 0)<| stN 26 S) H0)
 (Aak (Aad fun S H k=>
 lA tlo base 3 H (g3 S) fun t16 H1=>
 Aaa (Aag call 94 [Aaj t16] H1) fun t17=>
 Aaf (Abl (Aab t17) 0) fun c2=>
 Aaf (Abl (Aaz (Aab t17) 0) 1) fun c3=>
 let t7:=(.ptr (Aah H1) 0)
 let H4:=(Aaq H1 (.cells Acr))
 Aaa (Aau tlo base 19 H4 t7 c2) fun H5=>
 k (z5 t7<| z6 c3<| stN 26 S) H5)
 (Aak (Abd 0 (Aak (Aad fun S H k=>
 Aaa (neqT .int (Aab (g6 S)) (tN 0)) fun t22=>
 k (z6 (Aae (g6 S))<| z11 t22<| stN 26 S) H)
 (Abb (fun S=>some (g11 S))
 (Aak (Aad fun S H k=>
 k (z4 (g6 S)<| z6 (hush (g6 S))<| stN 26 S) H)
 (Aam .ret))
 (Aak (Aad fun S H k=>
 Aaa (b2 Ace (Aab (g1 S)) (tN 0)) fun t26=>
 k (z1 (Aae (g1 S))<| z12 t26<| stN 26 S) H)
 (Abb (fun S=>some (g12 S))
 (Aak (Aad fun S H k=>
 k (z4 (tN 1)<| stN 26 S) H)
 (Aam .ret))
 (Aam .normal))))))
 (Aak (Aad fun S H k=>
 Aaa (Aar (g5 S) 2) fun t27=>
 sF tlo base H t27 fun t28 H6=>
 k (z7 t28<| z8 (.v (.int .i64 (.negSucc 0)))<| stN 26 S) H6)
 (Aak (Aak (Aad fun S H k=>
 Aaa (lenT (Aaj (g2 S))) fun t30=>
 k (z2 (Aaj (g2 S))<| z13 (Aaj (g2 S))<| z14 t30<| z15 (tN 0)<| stN 26 S) H)
 (Abd 1 (Ado (Aak (Aad fun S H k=>
 Aaa (b2 Ace (g15 S) (g14 S)) fun t32=>
 k (z16 t32<| stN 26 S) H)
 (Aak (Abb (fun S=>some (g16 S))
 (Aam .normal)
 (Aam (.exit 1)))
 (Aak (Abd 2 (Aak (Aad fun S H k=>
 Aaa (Abn 1 (g13 S) (g15 S)) fun t33=>
 sF tlo base H t33 fun t34 H7=>
 k (z9 t34<| stN 26 S) H7)
 (Aak (Abd 3 (Aak (Aad fun S H k=>
 Aaa (b2 Ace (Aab (g9 S)) (tN 0)) fun t37=>
 gV t37 false (Aab (Aae (g9 S))) H fun t39 H8=>
 gB t37 false (Aar (g5 S) 0) H8 fun t40 H9=>
 Abf (Aab t37) false (lF tlo base H9 t40 fun g10 H10=>Abm g10 H10) H9 fun t41 H11=>
 gB t37 false (Aar (g5 S) 1) H11 fun t42 H12=>
 Abf (Aab t37) false (lF tlo base H12 t42 fun g13 H13=>Abm g13 H13) H12 fun t43 H14=>
 gB t37 false (b2 evMul t41 t43) H14 fun t44 H15=>
 gB t37 false (b2 evGeq t39 t44) H15 fun t45 H16=>
 Aaa (Acb (Aab t37) (tB true) (Aaj t45)) fun t46=>
 k (z9 (Aae (Aae (g9 S)))<| z17 t46<| stN 26 S) H16)
 (Abb (fun S=>some (g17 S))
 (Aak (Aad fun S H k=>
 k (z4 (tN 2)<| stN 26 S) H)
 (Aam .ret))
 (Aak (Aad fun S H k=>
 Aaa (b2 evLeq (Aab (g9 S)) (Aab (g8 S))) fun t50=>
 k (z8 (Aae (g8 S))<| z9 (Aae (g9 S))<| z18 t50<| stN 26 S) H)
 (Abb (fun S=>some (g18 S))
 (Aak (Aad fun S H k=>
 k (z4 (tN 7)<| stN 26 S) H)
 (Aam .ret))
 (Aak (Aad fun S H k=>
 Aaa (Aar (g5 S) 2) fun t52=>
 lF tlo base H t52 fun t53 H17=>
 Aaa (b2 evShr t53 (Aab (g9 S))) fun t55=>
 Aaa (b2 evAnd t55 (.v (.int .u64 (.ofNat 1)))) fun t56=>
 Aaa (eqlT .int t56 (.v (.int .u64 (.ofNat 0)))) fun t57=>
 k (z9 (Aae (g9 S))<| z19 t57<| stN 26 S) H17)
 (Abb (fun S=>some (g19 S))
 (Aak (Aad fun S H k=>
 k (z4 (tN 13)<| stN 26 S) H)
 (Aam .ret))
 (Aam .normal))))))))
 (Aak (Aad fun S H k=>
 Aaa (b2 evShl (.v (.int .u64 (.ofNat 1))) (Aab (g9 S))) fun t60=>
 Aaa (b2 Adc (Aab (g7 S)) t60) fun t61=>
 k (z7 t61<| z9 (Aae (g9 S))<| stN 26 S) H)
 (Aad fun S H k=>
 k (z8 (g9 S)<| z9 (hush (g9 S))<| stN 26 S) H)))))
 (Aad fun S H k=>
 Aaa (b2 Abe (g15 S) (tN 1)) fun t63=>
 k (z15 t63<| stN 26 S) H)))) fuel)))
 (Aak (Aak (Aad fun S H k=>
 Aaa (Aag call 100 [Aaj (Aab (g7 S))] H) fun t65=>
 Aaa (lenT t65) fun t66=>
 k (z7 (Aae (g7 S))<| z20 t65<| z21 t66<| z22 (tN 0)<| stN 26 S) H)
 (Abd 4 (Ado (Aak (Aad fun S H k=>
 Aaa (b2 Ace (g22 S) (g21 S)) fun t68=>
 k (z23 t68<| stN 26 S) H)
 (Aak (Abb (fun S=>some (g23 S))
 (Aam .normal)
 (Aam (.exit 4)))
 (Aak (Abd 5 (Aak (Aad fun S H k=>
 Aaa (Abn 1 (g20 S) (g22 S)) fun t69=>
 sF tlo base H t69 fun t70 H18=>
 k (z10 t70<| stN 26 S) H18)
 (Aak (Aad fun S H k=>
 Aaa (Aar (g5 S) 3) fun t72=>
 Aaa (Abk 16 1 t72 (Aab (g10 S))) fun t73=>
 lF tlo base H t73 fun t74 H19=>
 Aaa (b2 evAnd t74 (Aab (g7 S))) fun t76=>
 Aaa (neqT .int t76 (.v (.int .u64 (.ofNat 0)))) fun t77=>
 k (z7 (Aae (g7 S))<| z10 (Aae (g10 S))<| z24 t77<| stN 26 S) H19)
 (Abb (fun S=>some (g24 S))
 (Aak (Aad fun S H k=>
 k (z4 (tN 21)<| stN 26 S) H)
 (Aam .ret))
 (Aam .normal)))))
 (Aad fun S H k=>
 Aaa (b2 Abe (g22 S) (tN 1)) fun t78=>
 k (z22 t78<| stN 26 S) H)))) fuel)))
 (Aak (Aak (Aad fun S H k=>
 Aaa (lenT (Aab (g2 S))) fun t80=>
 Aaa (b2 evGtr t80 (Aab (g1 S))) fun t82=>
 k (z1 (Aae (g1 S))<| z2 (Aae (g2 S))<| z25 t82<| stN 26 S) H)
 (Abb (fun S=>some (g25 S))
 (Aak (Aad fun S H k=>
 k (z4 (tN 14)<| stN 26 S) H)
 (Aam .ret))
 (Aam .normal)))
 (Aak (Aad fun S H k=>
 k (z4 (tN 0)<| stN 26 S) H)
 (Aam .ret)))))))))
def F30:FnT:=fun call tlo l H=>Aaa (C30 call tlo (Aah H) (Aal l 0,Aal l 1,Aal l 2,Aal l 3,Aal l 6,Aal l 7,Aal l 8,Aal l 9,Aal l 10,Aal l 12,Aal l 14,Aal l 20,Aal l 24,Aal l 29,Aal l 30,Aal l 31,Aal l 32,Aal l 35,Aal l 47,Aal l 51,Aal l 65,Aal l 66,Aal l 67,Aal l 68,Aal l 77,Aal l 82,()) H) fun p=>resE p.1 (Aap (Abw Abo [p.2.1.2.2.2.2.1]) (some (endT (Aah H) p.2.1.2.2.2.2.1 p.2.2)))
theorem F30_eq:FEq P TC 30 F30:=fun _ _ _ _=>by kernel_rfl
def C32 (call:Abc) (tlo base:Nat):Aba (TV×TV×TV×TV×TV×TV×TV×TV×TV×TV×Unit):=
 (Aak (Aad fun S H k=>
 Aap (stor S.1)<|
 let t2:=(.ptr (Aah H) 0)
 let H0:=(Aaq H (.cells (Aas S.1)))
 k (z0 (hush S.1)<| z2 t2<| z3 nilT<| z4 (tN 0)<| stN 10 S) H0)
 (Aak (Aad fun S H k=>
 lA tlo base 3 H (g2 S) fun t10 H1=>
 Aaa (Aag call 111 [Aaj t10,Aaj (Aab (g1 S))] H1) fun t12=>
 Aaf (Abl (Aab t12) 0) fun c2=>
 Aaf (Abl (Aaz (Aab t12) 0) 1) fun c3=>
 Aaf (Abl (Aaz (Aaz (Aab t12) 0) 1) 2) fun c4=>
 let t6:=(.ptr (Aah H1) 0)
 let H5:=(Aaq H1 (.cells Acr))
 Aaa (Aau tlo base 19 H5 t6 c2) fun H6=>
 k (z1 (Aae (g1 S))<| z5 t6<| z6 c3<| z7 c4<| stN 10 S) H6)
 (Aak (Aak (Aad fun S H k=>
 Aaa (eqlT .int (Aab (g7 S)) (tN 0)) fun t17=>
 k (z7 (Aae (g7 S))<| z8 t17<| stN 10 S) H)
 (Abb (fun S=>some (g8 S))
 (Aad fun S H k=>
 lA tlo base 19 H (g5 S) fun t18 H7=>
 Aaa (Ada 1 [0] [Aaj (Aaj (g6 S))] (repG [.v (.int .u64 (.ofNat 0))] 1)) fun c8=>
 Aaa (Aag call 112 [Aaj t18,Aaj (.row .full (.own 101) 1 c8)] H7) fun t21=>
 k (z6 (Aaj (g6 S))<| z7 t21<| stN 10 S) H7)
 (Aam .normal)))
 (Aak (Aak (Aad fun S H k=>
 Aaa (neqT .int (Aab (g7 S)) (tN 0)) fun t23=>
 k (z7 (Aae (g7 S))<| z9 t23<| stN 10 S) H)
 (Abb (fun S=>some (g9 S))
 (Aak (Aad fun S H k=>
 k (z3 nilT<| z4 (g7 S)<| z7 (hush (g7 S))<| stN 10 S) H)
 (Aam .ret))
 (Aam .normal)))
 (Aak (Aad fun S H k=>
 sA tlo base 19 H (g5 S) fun t25 H9=>
 Abz call tlo 113 [Aaj t25,Aaj (Aaj (g1 S))] H9 fun t27 H10=>
 k (z1 (Aaj (g1 S))<| z3 t27<| z4 (tN 0)<| stN 10 S) H10)
 (Aam .ret))))))
def F32:FnT:=fun call tlo l H=>Aaa (C32 call tlo (Aah H) (Aal l 0,Aal l 1,Aal l 2,Aal l 4,Aal l 5,Aal l 6,Aal l 7,Aal l 8,Aal l 17,Aal l 23,()) H) fun p=>resE p.1 (Aap (Abw Abo [p.2.1.2.2.2.1,p.2.1.2.2.2.2.1]) (some (endT (Aah H) (.tup [p.2.1.2.2.2.1,p.2.1.2.2.2.2.1]) p.2.2)))
theorem F32_eq:FEq P TC 32 F32:=fun _ _ _ _=>by kernel_rfl
def C34 (call:Abc) (tlo base:Nat):Aba (TV×TV×TV×TV×TV×TV×TV×TV×TV×TV×TV×TV×TV×Unit):=
 (Aak (Aad fun S H k=>
 Aap (stor S.1)<|
 let t3:=(.ptr (Aah H) 0)
 let H0:=(Aaq H (.cells (Aas S.1)))
 k (z0 (hush S.1)<| z3 t3<| z4 nilT<| z5 (tN 0)<| stN 13 S) H0)
 (Aak (Aad fun S H k=>
 lA tlo base 3 H (g3 S) fun t14 H1=>
 Aaa (Aag call 111 [Aaj t14,Aaj (Aab (g1 S))] H1) fun t16=>
 Aaf (Abl (Aab t16) 0) fun c2=>
 Aaf (Abl (Aaz (Aab t16) 0) 1) fun c3=>
 Aaf (Abl (Aaz (Aaz (Aab t16) 0) 1) 2) fun c4=>
 let t8:=(.ptr (Aah H1) 0)
 let H5:=(Aaq H1 (.cells Acr))
 Aaa (Aau tlo base 19 H5 t8 c2) fun H6=>
 k (z1 (Aae (g1 S))<| z6 t8<| z7 c4<| stN 13 S) H6)
 (Aak (Abd 0 (Aak (Aad fun S H k=>
 Aaa (neqT .int (Aab (g7 S)) (tN 0)) fun t22=>
 k (z7 (Aae (g7 S))<| z10 t22<| stN 13 S) H)
 (Abb (fun S=>some (g10 S))
 (Aak (Aad fun S H k=>
 k (z4 nilT<| z5 (g7 S)<| z7 (hush (g7 S))<| stN 13 S) H)
 (Aam .ret))
 (Aak (Aad fun S H k=>
 Aaa (b2 Ace (Aab (g2 S)) (tN 0)) fun t26=>
 gV t26 false (Aab (Aae (g2 S))) H fun t28 H7=>
 Abf (Aab t26) false (lA tlo base 19 H7 (g6 S) fun g8 H8=>Abm g8 H8) H7 fun t29 H9=>
 gB t26 false (Aag call 116 [Aaj t29] H9) H9 fun t30 H10=>
 gB t26 false (b2 evGeq t28 t30) H10 fun t31 H11=>
 Aaa (Acb (Aab t26) (tB true) (Aaj t31)) fun t32=>
 k (z2 (Aae (Aae (g2 S)))<| z11 t32<| stN 13 S) H11)
 (Abb (fun S=>some (g11 S))
 (Aak (Aad fun S H k=>
 k (z4 nilT<| z5 (tN 2)<| stN 13 S) H)
 (Aam .ret))
 (Aam .normal))))))
 (Aak (Aad fun S H k=>
 lA tlo base 19 H (g6 S) fun t34 H12=>
 Aaa (Aag call 117 [Aaj t34,Aaj (Aab (g1 S)),Aaj (Aab (g2 S))] H12) fun t37=>
 Aaf (Abl (Aab t37) 0) fun c13=>
 Aaf (Abl (Aaz (Aab t37) 0) 1) fun c14=>
 k (z1 (Aae (g1 S))<| z2 (Aae (g2 S))<| z8 c13<| z9 c14<| stN 13 S) H12)
 (Aak (Aak (Aad fun S H k=>
 Aaa (b1 evNot (Aab (g9 S))) fun t41=>
 k (z9 (Aae (g9 S))<| z12 t41<| stN 13 S) H)
 (Abb (fun S=>some (g12 S))
 (Aak (Aad fun S H k=>
 k (z4 nilT<| z5 (tN 13)<| stN 13 S) H)
 (Aam .ret))
 (Aam .normal)))
 (Aak (Aad fun S H k=>
 k (z4 (g8 S)<| z5 (tN 0)<| z8 (hush (g8 S))<| stN 13 S) H)
 (Aam .ret)))))))
def F34:FnT:=fun call tlo l H=>Aaa (C34 call tlo (Aah H) (Aal l 0,Aal l 1,Aal l 2,Aal l 3,Aal l 6,Aal l 7,Aal l 8,Aal l 10,Aal l 11,Aal l 12,Aal l 20,Aal l 24,Aal l 41,()) H) fun p=>resE p.1 (Aap (Abw Abo [p.2.1.2.2.2.2.1,p.2.1.2.2.2.2.2.1]) (some (endT (Aah H) (.tup [p.2.1.2.2.2.2.1,p.2.1.2.2.2.2.2.1]) p.2.2)))
theorem F34_eq:FEq P TC 34 F34:=fun _ _ _ _=>by kernel_rfl
def C36 (call:Abc) (tlo base:Nat):Aba (TV×TV×TV×TV×Unit):=
 (Aak (Aad fun S H k=>
 Aap (stor S.1)<|
 let t1:=(.ptr (Aah H) 0)
 let H0:=(Aaq H (.cells (Aas S.1)))
 k (z0 (hush S.1)<| z1 t1<| z2 nilT<| z3 (tN 0)<| stN 4 S) H0)
 (Aak (Aad fun S H k=>
 lA tlo base 3 H (g1 S) fun t4 H1=>
 Aaa (Aag call 119 [Aaj t4,tN 1] H1) fun t5=>
 Aaf (Abl t5 0) fun c2=>
 Aaf (Abl (Aaz t5 0) 1) fun c3=>
 k (z2 c2<| z3 c3<| stN 4 S) H1)
 (Aam .ret)))
def F36:FnT:=fun call tlo l H=>Aaa (C36 call tlo (Aah H) (Aal l 0,Aal l 1,Aal l 2,Aal l 3,()) H) fun p=>resE p.1 (Aap (Abw Abo [p.2.1.2.2.1,p.2.1.2.2.2.1]) (some (endT (Aah H) (.tup [p.2.1.2.2.1,p.2.1.2.2.2.1]) p.2.2)))
theorem F36_eq:FEq P TC 36 F36:=fun _ _ _ _=>by kernel_rfl
def C38 (call:Abc) (tlo base:Nat):Aba (TV×TV×TV×TV×Unit):=
 (Aak (Aad fun S H k=>
 Aap (stor S.1)<|
 let t1:=(.ptr (Aah H) 0)
 let H0:=(Aaq H (.cells (Aas S.1)))
 k (z0 (hush S.1)<| z1 t1<| z2 nilT<| z3 (tN 0)<| stN 4 S) H0)
 (Aak (Aad fun S H k=>
 lA tlo base 3 H (g1 S) fun t4 H1=>
 Aaa (Aag call 119 [Aaj t4,.v (.int .i64 (.negSucc 0))] H1) fun t5=>
 Aaf (Abl t5 0) fun c2=>
 Aaf (Abl (Aaz t5 0) 1) fun c3=>
 k (z2 c2<| z3 c3<| stN 4 S) H1)
 (Aam .ret)))
def F38:FnT:=fun call tlo l H=>Aaa (C38 call tlo (Aah H) (Aal l 0,Aal l 1,Aal l 2,Aal l 3,()) H) fun p=>resE p.1 (Aap (Abw Abo [p.2.1.2.2.1,p.2.1.2.2.2.1]) (some (endT (Aah H) (.tup [p.2.1.2.2.1,p.2.1.2.2.2.1]) p.2.2)))
theorem F38_eq:FEq P TC 38 F38:=fun _ _ _ _=>by kernel_rfl
def C40 (call:Abc) (tlo base:Nat):Aba (TV×TV×TV×TV×TV×TV×TV×TV×TV×TV×TV×TV×TV×TV×Unit):=
 (Aak (Aad fun S H k=>
 Aap (stor S.1)<|
 let t3:=(.ptr (Aah H) 0)
 let H0:=(Aaq H (.cells (Aas S.1)))
 k (z0 (hush S.1)<| z3 t3<| z4 (tN 0)<| z5 (tN 0)<| stN 14 S) H0)
 (Aak (Aad fun S H k=>
 sA tlo base 3 H (g3 S) fun t15 H1=>
 Abz call tlo 121 [Aaj t15,Aaj (Aaj (g1 S)),Aaj (Aaj (g2 S))] H1 fun t18 H2=>
 Aaf (Abl (Aab t18) 0) fun c3=>
 Aaf (Abl (Aaz (Aab t18) 0) 1) fun c4=>
 Aaf (Abl (Aaz (Aaz (Aab t18) 0) 1) 2) fun c5=>
 Aaf (Abl (Aaz (Aaz (Aaz (Aab t18) 0) 1) 2) 3) fun c6=>
 let t8:=(.ptr (Aah H2) 0)
 let H7:=(Aaq H2 (.cells Acr))
 Aaa (Aau tlo base 19 H7 t8 c3) fun H8=>
 k (z1 (Aaj (g1 S))<| z2 (Aaj (g2 S))<| z6 c4<| z7 c5<| z8 c6<| stN 14 S) H8)
 (Aak (Aad fun S H k=>
 k (z9 (tN 0)<| stN 14 S) H)
 (Aak (Aak (Aad fun S H k=>
 Aaa (lenT (Aab (g6 S))) fun t24=>
 k (z6 (Aae (g6 S))<| z11 t24<| z12 (tN 0)<| stN 14 S) H)
 (Abd 0 (Ado (Aak (Aad fun S H k=>
 Aaa (b2 Ace (g12 S) (g11 S)) fun t26=>
 k (z13 t26<| stN 14 S) H)
 (Aak (Abb (fun S=>some (g13 S))
 (Aam .normal)
 (Aam (.exit 0)))
 (Aak (Abd 1 (Aak (Aad fun S H k=>
 k (z10 (g12 S)<| z12 (hush (g12 S))<| stN 14 S) H)
 (Aad fun S H k=>
 Aaa (Abn 1 (Aab (g6 S)) (Aab (g10 S))) fun t31=>
 lF tlo base H t31 fun t32 H9=>
 Aaa (Abn 1 (Aab (g7 S)) (Aab (Aae (g10 S)))) fun t35=>
 lF tlo base H9 t35 fun t36 H10=>
 Aaa (b2 Acj t32 t36) fun t37=>
 Aaa (Abn 1 (Aab (Aae (g7 S))) (Aab (Aae (Aae (g10 S))))) fun t40=>
 lF tlo base H10 t40 fun t41 H11=>
 Aaa (Abn 1 (Aab (Aae (g6 S))) (Aab (Aae (Aae (Aae (g10 S)))))) fun t44=>
 lF tlo base H11 t44 fun t45 H12=>
 Aaa (b2 Acj t41 t45) fun t46=>
 Aaa (b2 (evLesser true) t37 t46) fun c13=>
 Aap (isV c13)<|
 Aaa (b2 Abe (Aab (g9 S)) c13) fun t48=>
 k (z6 (Aae (Aae (g6 S)))<| z7 (Aae (Aae (g7 S)))<| z9 t48<| z10 (Aae (Aae (Aae (Aae (g10 S)))))<| stN 14 S) H12)))
 (Aad fun S H k=>
 Aaa (b2 Abe (g12 S) (tN 1)) fun t49=>
 k (z12 t49<| stN 14 S) H)))) fuel)))
 (Aak (Aad fun S H k=>
 Aaa (b2 evQuo (Aab (g9 S)) (tN 4)) fun t51=>
 k (z4 t51<| z5 (g8 S)<| z8 (hush (g8 S))<| z9 (Aae (g9 S))<| stN 14 S) H)
 (Aam .ret))))))
def F40:FnT:=fun call tlo l H=>Aaa (C40 call tlo (Aah H) (Aal l 0,Aal l 1,Aal l 2,Aal l 3,Aal l 6,Aal l 7,Aal l 9,Aal l 10,Aal l 11,Aal l 12,Aal l 13,Aal l 24,Aal l 25,Aal l 26,()) H) fun p=>resE p.1 (Aap (Abw Abo [p.2.1.2.2.2.2.1,p.2.1.2.2.2.2.2.1]) (some (endT (Aah H) (.tup [p.2.1.2.2.2.2.1,p.2.1.2.2.2.2.2.1]) p.2.2)))
theorem F40_eq:FEq P TC 40 F40:=fun _ _ _ _=>by kernel_rfl
def C42 (call:Abc) (tlo base:Nat):Aba (TV×TV×TV×TV×TV×TV×Unit):=
 (Aak (Aad fun S H k=>
 Aap (stor S.1)<|
 let t3:=(.ptr (Aah H) 0)
 let H0:=(Aaq H (.cells (Aas S.1)))
 k (z0 (hush S.1)<| z3 t3<| z4 nilT<| z5 (tN 0)<| stN 6 S) H0)
 (Aak (Aad fun S H k=>
 lA tlo base 3 H (g3 S) fun t8 H1=>
 Aaa (Aag call 124 [Aaj t8,Aaj (Aab (g1 S)),Aaj (Aab (g2 S)),.fn (.func 125) [] []] H1) fun t11=>
 Aaf (Abl t11 0) fun c2=>
 Aaf (Abl (Aaz t11 0) 1) fun c3=>
 k (z1 (Aae (g1 S))<| z2 (Aae (g2 S))<| z4 c2<| z5 c3<| stN 6 S) H1)
 (Aam .ret)))
def F42:FnT:=fun call tlo l H=>Aaa (C42 call tlo (Aah H) (Aal l 0,Aal l 1,Aal l 2,Aal l 3,Aal l 6,Aal l 7,()) H) fun p=>resE p.1 (Aap (Abw Abo [p.2.1.2.2.2.2.1,p.2.1.2.2.2.2.2.1]) (some (endT (Aah H) (.tup [p.2.1.2.2.2.2.1,p.2.1.2.2.2.2.2.1]) p.2.2)))
theorem F42_eq:FEq P TC 42 F42:=fun _ _ _ _=>by kernel_rfl
def C44 (call:Abc) (tlo base:Nat):Aba (TV×TV×TV×TV×TV×TV×Unit):=
 (Aak (Aad fun S H k=>
 Aap (stor S.1)<|
 let t3:=(.ptr (Aah H) 0)
 let H0:=(Aaq H (.cells (Aas S.1)))
 k (z0 (hush S.1)<| z3 t3<| z4 nilT<| z5 (tN 0)<| stN 6 S) H0)
 (Aak (Aad fun S H k=>
 lA tlo base 3 H (g3 S) fun t8 H1=>
 Aaa (Aag call 124 [Aaj t8,Aaj (Aab (g1 S)),Aaj (Aab (g2 S)),.fn (.func 127) [] []] H1) fun t11=>
 Aaf (Abl t11 0) fun c2=>
 Aaf (Abl (Aaz t11 0) 1) fun c3=>
 k (z1 (Aae (g1 S))<| z2 (Aae (g2 S))<| z4 c2<| z5 c3<| stN 6 S) H1)
 (Aam .ret)))
def F44:FnT:=fun call tlo l H=>Aaa (C44 call tlo (Aah H) (Aal l 0,Aal l 1,Aal l 2,Aal l 3,Aal l 6,Aal l 7,()) H) fun p=>resE p.1 (Aap (Abw Abo [p.2.1.2.2.2.2.1,p.2.1.2.2.2.2.2.1]) (some (endT (Aah H) (.tup [p.2.1.2.2.2.2.1,p.2.1.2.2.2.2.2.1]) p.2.2)))
theorem F44_eq:FEq P TC 44 F44:=fun _ _ _ _=>by kernel_rfl
def C46 (call:Abc) (tlo base:Nat):Aba (TV×TV×TV×TV×TV×TV×TV×Unit):=
 (Aak (Aad fun S H k=>
 Aap (stor S.1)<|
 let t1:=(.ptr (Aah H) 0)
 let H0:=(Aaq H (.cells (Aas S.1)))
 k (z0 (hush S.1)<| z1 t1<| z2 nilT<| z3 (tN 0)<| stN 7 S) H0)
 (Aak (Aad fun S H k=>
 lA tlo base 3 H (g1 S) fun t7 H1=>
 Aaa (Aag call 94 [Aaj t7] H1) fun t8=>
 Aaf (Abl (Aab t8) 0) fun c2=>
 Aaf (Abl (Aaz (Aab t8) 0) 1) fun c3=>
 let t4:=(.ptr (Aah H1) 0)
 let H4:=(Aaq H1 (.cells Acr))
 Aaa (Aau tlo base 19 H4 t4 c2) fun H5=>
 k (z4 t4<| z5 c3<| stN 7 S) H5)
 (Aak (Aak (Aad fun S H k=>
 Aaa (neqT .int (Aab (g5 S)) (tN 0)) fun t12=>
 k (z5 (Aae (g5 S))<| z6 t12<| stN 7 S) H)
 (Abb (fun S=>some (g6 S))
 (Aak (Aad fun S H k=>
 k (z2 nilT<| z3 (g5 S)<| z5 (hush (g5 S))<| stN 7 S) H)
 (Aam .ret))
 (Aam .normal)))
 (Aak (Aad fun S H k=>
 Aaa (Aar (g4 S) 2) fun t14=>
 lF tlo base H t14 fun t15 H6=>
 Aaa (Aag call 100 [Aaj t15] H6) fun t16=>
 k (z2 t16<| z3 (tN 0)<| stN 7 S) H6)
 (Aam .ret)))))
def F46:FnT:=fun call tlo l H=>Aaa (C46 call tlo (Aah H) (Aal l 0,Aal l 1,Aal l 2,Aal l 3,Aal l 4,Aal l 5,Aal l 12,()) H) fun p=>resE p.1 (Aap (Abw Abo [p.2.1.2.2.1,p.2.1.2.2.2.1]) (some (endT (Aah H) (.tup [p.2.1.2.2.1,p.2.1.2.2.2.1]) p.2.2)))
theorem F46_eq:FEq P TC 46 F46:=fun _ _ _ _=>by kernel_rfl
def C48 (call:Abc) (tlo base:Nat):Aba (TV×TV×TV×TV×TV×TV×TV×Unit):=
 (Aak (Aad fun S H k=>
 Aap (stor S.1)<|
 let t1:=(.ptr (Aah H) 0)
 let H0:=(Aaq H (.cells (Aas S.1)))
 k (z0 (hush S.1)<| z1 t1<| z2 (tB false)<| z3 (tN 0)<| stN 7 S) H0)
 (Aak (Aad fun S H k=>
 lA tlo base 3 H (g1 S) fun t7 H1=>
 Aaa (Aag call 94 [Aaj t7] H1) fun t8=>
 Aaf (Abl (Aab t8) 0) fun c2=>
 Aaf (Abl (Aaz (Aab t8) 0) 1) fun c3=>
 let t4:=(.ptr (Aah H1) 0)
 let H4:=(Aaq H1 (.cells Acr))
 Aaa (Aau tlo base 19 H4 t4 c2) fun H5=>
 k (z4 t4<| z5 c3<| stN 7 S) H5)
 (Aak (Aak (Aad fun S H k=>
 Aaa (neqT .int (Aab (g5 S)) (tN 0)) fun t12=>
 k (z5 (Aae (g5 S))<| z6 t12<| stN 7 S) H)
 (Abb (fun S=>some (g6 S))
 (Aak (Aad fun S H k=>
 k (z2 (tB false)<| z3 (g5 S)<| z5 (hush (g5 S))<| stN 7 S) H)
 (Aam .ret))
 (Aam .normal)))
 (Aak (Aad fun S H k=>
 lA tlo base 19 H (g4 S) fun t14 H6=>
 Aaa (Aag call 128 [Aaj t14] H6) fun t15=>
 k (z2 t15<| z3 (tN 0)<| stN 7 S) H6)
 (Aam .ret)))))
def F48:FnT:=fun call tlo l H=>Aaa (C48 call tlo (Aah H) (Aal l 0,Aal l 1,Aal l 2,Aal l 3,Aal l 4,Aal l 5,Aal l 12,()) H) fun p=>resE p.1 (Aap (Abw Abo [p.2.1.2.2.1,p.2.1.2.2.2.1]) (some (endT (Aah H) (.tup [p.2.1.2.2.1,p.2.1.2.2.2.1]) p.2.2)))
theorem F48_eq:FEq P TC 48 F48:=fun _ _ _ _=>by kernel_rfl
def C50 (call:Abc) (tlo base:Nat):Aba (TV×TV×TV×TV×Unit):=
 (Aak (Aad fun S H k=>
 Aap (stor S.1)<|
 let t1:=(.ptr (Aah H) 0)
 let H0:=(Aaq H (.cells (Aas S.1)))
 k (z0 (hush S.1)<| z1 t1<| z2 (tN 0)<| stN 4 S) H0)
 (Aak (Aad fun S H k=>
 lA tlo base 3 H (g1 S) fun t6 H1=>
 Aaa (Aag call 94 [Aaj t6] H1) fun t7=>
 Aaf (Abl (Aab t7) 0) fun c2=>
 Aaf (Abl (Aaz (Aab t7) 0) 1) fun c3=>
 let t3:=(.ptr (Aah H1) 0)
 let H4:=(Aaq H1 (.cells Acr))
 Aaa (Aau tlo base 19 H4 t3 c2) fun H5=>
 k (z3 c3<| stN 4 S) H5)
 (Aak (Aad fun S H k=>
 k (z2 (g3 S)<| z3 (hush (g3 S))<| stN 4 S) H)
 (Aam .ret))))
def F50:FnT:=fun call tlo l H=>Aaa (C50 call tlo (Aah H) (Aal l 0,Aal l 1,Aal l 2,Aal l 4,()) H) fun p=>resE p.1 (Aap (Abw Abo [p.2.1.2.2.1]) (some (endT (Aah H) p.2.1.2.2.1 p.2.2)))
theorem F50_eq:FEq P TC 50 F50:=fun _ _ _ _=>by kernel_rfl
def C52 (call:Abc) (tlo base:Nat):Aba (TV×TV×TV×TV×TV×Unit):=
 (Aak (Aad fun S H k=>
 Aap (stor S.1)<|
 let t2:=(.ptr (Aah H) 0)
 let H0:=(Aaq H (.cells (Aas S.1)))
 k (z0 (hush S.1)<| z2 t2<| z3 (tN 0)<| stN 5 S) H0)
 (Aak (Aad fun S H k=>
 lA tlo base 3 H (g2 S) fun t9 H1=>
 Aaa (Aag call 111 [Aaj t9,Aaj (Aab (g1 S))] H1) fun t11=>
 Aaf (Abl (Aab t11) 0) fun c2=>
 Aaf (Abl (Aaz (Aab t11) 0) 1) fun c3=>
 Aaf (Abl (Aaz (Aaz (Aab t11) 0) 1) 2) fun c4=>
 let t5:=(.ptr (Aah H1) 0)
 let H5:=(Aaq H1 (.cells Acr))
 Aaa (Aau tlo base 19 H5 t5 c2) fun H6=>
 k (z1 (Aae (g1 S))<| z4 c4<| stN 5 S) H6)
 (Aak (Aad fun S H k=>
 k (z3 (g4 S)<| z4 (hush (g4 S))<| stN 5 S) H)
 (Aam .ret))))
def F52:FnT:=fun call tlo l H=>Aaa (C52 call tlo (Aah H) (Aal l 0,Aal l 1,Aal l 2,Aal l 4,Aal l 7,()) H) fun p=>resE p.1 (Aap (Abw Abo [p.2.1.2.2.2.1]) (some (endT (Aah H) p.2.1.2.2.2.1 p.2.2)))
theorem F52_eq:FEq P TC 52 F52:=fun _ _ _ _=>by kernel_rfl
def C54 (call:Abc) (tlo base:Nat):Aba (TV×TV×TV×TV×TV×TV×TV×TV×TV×TV×Unit):=
 (Aak (Aad fun S H k=>
 Aap (stor S.1)<|
 let t2:=(.ptr (Aah H) 0)
 let H0:=(Aaq H (.cells (Aas S.1)))
 let t4:=(.ptr (Aah H0) 0)
 let H1:=(Aaq H0 (.cells zc24))
 k (z0 (hush S.1)<| z2 t2<| z3 t4<| stN 10 S) H1)
 (Aak (Aad fun S H k=>
 Aaa (Aar (g2 S) 0) fun t7=>
 lF tlo base H t7 fun t8 H2=>
 Aaa (b1 (evConv .i64) t8) fun t9=>
 Aaa (b2 evRem t9 (tN 8)) fun t10=>
 Aaa (b2 Abe (tN 1) t10) fun t11=>
 Aaa (aggT [(0,1,t11)] zc24) fun t12=>
 let t5:=(.ptr (Aah H2) 0)
 let H3:=(Aaq H2 (.cells zc24))
 Aaa (Aau tlo base 3 H3 t5 t12) fun H4=>
 k (z4 t5<| stN 10 S) H4)
 (Aak (Aad fun S H k=>
 Aaa (Aar (g2 S) 1) fun t13=>
 lF tlo base H t13 fun t14 H5=>
 Aaa (b1 (evConv .i64) t14) fun t15=>
 Aaa (Aar (g4 S) 0) fun t17=>
 lF tlo base H5 t17 fun t18 H6=>
 Aaa (b2 evQuo (Aab (g1 S)) t18) fun t19=>
 Aaa (b2 (evLesser false) (tN 8) t19) fun c7=>
 Aap (isV c7)<|
 Aaa (b2 evRem t15 c7) fun t21=>
 Aaa (b2 Abe (tN 1) t21) fun t22=>
 Aaa (Aar (g4 S) 1) fun t23=>
 Aaa (Aau tlo base 1 H6 t23 t22) fun H8=>
 k (z1 (Aae (g1 S))<| stN 10 S) H8)
 (Aak (Aak (Aad fun S H k=>
 Aaa (Aar (g4 S) 0) fun t24=>
 lF tlo base H t24 fun t25 H9=>
 Aaa (Aar (g4 S) 1) fun t26=>
 lF tlo base H9 t26 fun t27 H10=>
 Aaa (b2 evMul t25 t27) fun t28=>
 k (z6 t28<| z7 (tN 0)<| stN 10 S) H10)
 (Abd 0 (Ado (Aak (Aad fun S H k=>
 Aaa (b2 Ace (g7 S) (g6 S)) fun t30=>
 k (z8 t30<| stN 10 S) H)
 (Aak (Abb (fun S=>some (g8 S))
 (Aam .normal)
 (Aam (.exit 0)))
 (Aak (Abd 1 (Aak (Aad fun S H k=>
 k (z5 (g7 S)<| z7 (hush (g7 S))<| stN 10 S) H)
 (Aak (Aad fun S H k=>
 Aaa (Aar (g2 S) 3) fun t32=>
 lF tlo base H t32 fun t33 H11=>
 Aaa (b2 evShr t33 (Aab (g5 S))) fun t35=>
 Aaa (b2 evAnd t35 (.v (.int .u16 (.ofNat 1)))) fun t36=>
 Aaa (eqlT .int t36 (.v (.int .u16 (.ofNat 1)))) fun t37=>
 gB t37 true (Aar (g2 S) 2) H11 fun t39 H12=>
 Abf (Aab t37) true (lF tlo base H12 t39 fun g13 H13=>Abm g13 H13) H12 fun t40 H14=>
 gB t37 true (b1 (evConv .i64) t40) H14 fun t41 H15=>
 gV t37 true (Aab (Aae (g5 S))) H15 fun t42 H16=>
 gB t37 true (b2 evMul (tN 5) t42) H16 fun t43 H17=>
 gB t37 true (b2 Abe t41 t43) H17 fun t44 H18=>
 gB t37 true (b2 evRem t44 (tN 4)) H18 fun t45 H19=>
 gB t37 true (eqlT .int t45 (tN 0)) H19 fun t46 H20=>
 Aaa (Acb (Aab t37) (Aaj t46) (tB false)) fun t47=>
 k (z5 (Aae (Aae (g5 S)))<| z9 t47<| stN 10 S) H20)
 (Abb (fun S=>some (g9 S))
 (Aad fun S H k=>
 Aaa (Aar (g4 S) 2) fun t48=>
 Abj .take tlo base false 1 H t48 fun t49 H21=>
 Aaa (Ada 1 [0] [Aaj (Aaj (g5 S))] (repG [tN 0] 1)) fun c22=>
 Acq tlo H21 3 1 8 t49 (.row .full (.own 3) 1 c22) fun t52 H23=>
 Aaa (Aar (stale (g4 S)) 2) fun t53=>
 Aaa (Aau tlo base 1 H23 t53 t52) fun H24=>
 k (z5 (Aaj (g5 S))<| stN 10 S) H24)
 (Aam .normal)))))
 (Aad fun S H k=>
 Aaa (b2 Abe (g7 S) (tN 1)) fun t54=>
 k (z7 t54<| stN 10 S) H)))) fuel)))
 (Aak (Aad fun S H k=>
 sA tlo base 3 H (g4 S) fun t55 H25=>
 Aaa (Aau tlo base 3 H25 (g3 S) t55) fun H26=>
 k (stN 10 S) H26)
 (Aam .ret))))))
def F54:FnT:=fun call tlo l H=>Aaa (C54 call tlo (Aah H) (Aal l 0,Aal l 1,Aal l 2,Aal l 4,Aal l 5,Aal l 6,Aal l 28,Aal l 29,Aal l 30,Aal l 47,()) H) fun p=>resE p.1 (Abj .take tlo (Aah p.2.2) true 3 p.2.2 p.2.1.2.2.2.1 fun r0 h0=>Aap (Abw Abo [r0]) (some (endT (Aah H) r0 h0)))
theorem F54_eq:FEq P TC 54 F54:=fun _ _ _ _=>by kernel_rfl
def C55 (call:Abc) (tlo base:Nat):Aba (TV×TV×TV×TV×TV×TV×Unit):=
 (Aak (Aad fun S H k=>
 Aap (stor S.1)<|
 let t1:=(.ptr (Aah H) 0)
 let H0:=(Aaq H (.cells (Aas S.1)))
 k (z0 (hush S.1)<| z1 t1<| z2 nilT<| stN 6 S) H0)
 (Aak (Aad fun S H k=>
 let t3:=(.ptr (Aah H) 0)
 let H1:=(Aaq H (.cells [nilT]))
 k (z3 t3<| stN 6 S) H1)
 (Aak (Aak (Aad fun S H k=>
 k (z4 (tN 0)<| stN 6 S) H)
 (Abd 0 (Ado (Aak (Aak (Aad fun S H k=>
 lF tlo base H (g3 S) fun t5 H2=>
 Aaa (lenT t5) fun t6=>
 Aaa (eqlT .int t6 (tN 0)) fun t7=>
 k (z5 t7<| stN 6 S) H2)
 (Abb (fun S=>some (g5 S))
 (Aam .normal)
 (Aam (.exit 0))))
 (Aak (Abd 1 (Aad fun S H k=>
 sA tlo base 3 H (g1 S) fun t10 H3=>
 Aap (Abw pass [Aaj (g3 S)])<|
 Abz call tlo 132 [Aaj t10,Aaj (Aaj (g4 S)),.fn (.func 133) [] [Aaj (g3 S)]] H3 fun t13 H4=>
 k (z3 (Aaj (g3 S))<| z4 (Aaj (g4 S))<| stN 6 S) H4))
 (Aad fun S H k=>
 Aaa (b2 Abe (Aab (g4 S)) (tN 1)) fun t9=>
 k (z4 t9<| stN 6 S) H))) fuel)))
 (Aak (Aad fun S H k=>
 sF tlo base H (g3 S) fun t14 H5=>
 k (z2 t14<| stN 6 S) H5)
 (Aam .ret)))))
def F55:FnT:=fun call tlo l H=>Aaa (C55 call tlo (Aah H) (Aal l 0,Aal l 1,Aal l 2,Aal l 3,Aal l 4,Aal l 7,()) H) fun p=>resE p.1 (Aap (Abw Abo [p.2.1.2.2.1]) (some (endT (Aah H) p.2.1.2.2.1 p.2.2)))
theorem F55_eq:FEq P TC 55 F55:=fun _ _ _ _=>by kernel_rfl
def C56 (call:Abc) (tlo base:Nat):Aba (TV×TV×TV×TV×TV×TV×TV×TV×TV×Unit):=
 (Aak (Aad fun S H k=>
 Aap (stor S.1)<|
 let t1:=(.ptr (Aah H) 0)
 let H0:=(Aaq H (.cells (Aas S.1)))
 k (z0 (hush S.1)<| z1 t1<| z2 nilT<| stN 9 S) H0)
 (Aak (Aad fun S H k=>
 k (z3 nilT<| stN 9 S) H)
 (Aak (Aak (Aad fun S H k=>
 Aaa (Aar (g1 S) 0) fun t5=>
 lF tlo base H t5 fun t6 H1=>
 Aaa (Aar (g1 S) 1) fun t7=>
 lF tlo base H1 t7 fun t8 H2=>
 Aaa (b2 evMul t6 t8) fun t9=>
 k (z5 t9<| z6 (tN 0)<| stN 9 S) H2)
 (Abd 0 (Ado (Aak (Aad fun S H k=>
 Aaa (b2 Ace (g6 S) (g5 S)) fun t11=>
 k (z7 t11<| stN 9 S) H)
 (Aak (Abb (fun S=>some (g7 S))
 (Aam .normal)
 (Aam (.exit 0)))
 (Aak (Abd 1 (Aak (Aad fun S H k=>
 k (z4 (g6 S)<| z6 (hush (g6 S))<| stN 9 S) H)
 (Aak (Aad fun S H k=>
 Aaa (Aar (g1 S) 2) fun t13=>
 lF tlo base H t13 fun t14 H3=>
 Aaa (Aag call 64 [Aaj t14,Aaj (Aab (g4 S))] H3) fun t16=>
 Aaa (b1 evNot t16) fun t17=>
 k (z4 (Aae (g4 S))<| z8 t17<| stN 9 S) H3)
 (Abb (fun S=>some (g8 S))
 (Aad fun S H k=>
 Aaa (Ada 1 [0] [Aaj (Aaj (g4 S))] (repG [tN 0] 1)) fun c4=>
 Acq tlo H 3 1 8 (g3 S) (.row .full (.own 3) 1 c4) fun t21 H5=>
 k (z3 t21<| z4 (Aaj (g4 S))<| stN 9 S) H5)
 (Aam .normal)))))
 (Aad fun S H k=>
 Aaa (b2 Abe (g6 S) (tN 1)) fun t22=>
 k (z6 t22<| stN 9 S) H)))) fuel)))
 (Aak (Aad fun S H k=>
 k (z2 (g3 S)<| z3 (hush (g3 S))<| stN 9 S) H)
 (Aam .ret)))))
def F56:FnT:=fun call tlo l H=>Aaa (C56 call tlo (Aah H) (Aal l 0,Aal l 1,Aal l 2,Aal l 3,Aal l 4,Aal l 9,Aal l 10,Aal l 11,Aal l 17,()) H) fun p=>resE p.1 (Aap (Abw Abo [p.2.1.2.2.1]) (some (endT (Aah H) p.2.1.2.2.1 p.2.2)))
theorem F56_eq:FEq P TC 56 F56:=fun _ _ _ _=>by kernel_rfl
def C59 (call:Abc) (tlo base:Nat):Aba (TV×TV×TV×Unit):=
 (Aak (Aad fun S H k=>
 k (z2 (tB false)<| stN 3 S) H)
 (Aak (Aad fun S H k=>
 Abz call tlo 134 [Aaj (Aaj S.1),Aaj (Aaj (g1 S))] H fun t7 H0=>
 Aaa (b2 evGeq t7 (tN 0)) fun t8=>
 k (z0 (Aaj S.1)<| z1 (Aaj (g1 S))<| z2 t8<| stN 3 S) H0)
 (Aam .ret)))
def F59:FnT:=fun call tlo l H=>Aaa (C59 call tlo (Aah H) (Aal l 0,Aal l 1,Aal l 4,()) H) fun p=>resE p.1 (Aap (Abw Abo [p.2.1.2.2.1]) (some (endT (Aah H) p.2.1.2.2.1 p.2.2)))
theorem F59_eq:FEq P TC 59 F59:=fun _ _ _ _=>by kernel_rfl
def C62 (call:Abc) (tlo base:Nat):Aba (TV×TV×TV×TV×Unit):=
 (Aak (Aad fun S H k=>
 Aap (stor (g1 S))<|
 let t3:=(.ptr (Aah H) 0)
 let H0:=(Aaq H (.cells (Aas (g1 S))))
 k (z1 (hush (g1 S))<| z2 t3<| z3 (tB false)<| stN 4 S) H0)
 (Aak (Aad fun S H k=>
 lA tlo base 2 H (g2 S) fun t6 H1=>
 Aaa (Aag call 135 [Aaj (Aab S.1),Aaj t6] H1) fun t7=>
 Aaa (b2 evGeq t7 (tN 0)) fun t8=>
 k (z0 (Aae S.1)<| z3 t8<| stN 4 S) H1)
 (Aam .ret)))
def F62:FnT:=fun call tlo l H=>Aaa (C62 call tlo (Aah H) (Aal l 0,Aal l 1,Aal l 3,Aal l 4,()) H) fun p=>resE p.1 (Aap (Abw Abo [p.2.1.2.2.2.1]) (some (endT (Aah H) p.2.1.2.2.2.1 p.2.2)))
theorem F62_eq:FEq P TC 62 F62:=fun _ _ _ _=>by kernel_rfl
end
end Go.Proofs.YtgemobbfikjmoaaGreatDoor
namespace Go.Proofs.YtgemobbfikjmoaaGreatDoor
open Go Go.Ev
set_option maxRecDepth 1000000
set_option linter.unusedVariables false
noncomputable section
def C63 (call:Abc) (tlo base:Nat):Aba (TV×TV×TV×TV×TV×TV×TV×TV×TV×TV×TV×TV×Unit):=
 (Aak (Aad fun S H k=>
 Aap (stor S.1)<|
 let t1:=(.ptr (Aah H) 0)
 let H0:=(Aaq H (.cells (Aas S.1)))
 k (z0 (hush S.1)<| z1 t1<| z2 nilT<| stN 12 S) H0)
 (Aak (Aad fun S H k=>
 k (z3 nilT<| stN 12 S) H)
 (Aak (Aad fun S H k=>
 lA tlo base 3 H (g1 S) fun t7 H1=>
 Aaa (Aag call 56 [Aaj t7] H1) fun t8=>
 k (z4 t8<| stN 12 S) H1)
 (Aak (Aak (Aad fun S H k=>
 Aaa (lenT (Aaj (g4 S))) fun t10=>
 k (z4 (Aaj (g4 S))<| z6 (Aaj (g4 S))<| z7 t10<| z8 (tN 0)<| stN 12 S) H)
 (Abd 0 (Ado (Aak (Aad fun S H k=>
 Aaa (b2 Ace (g8 S) (g7 S)) fun t12=>
 k (z9 t12<| stN 12 S) H)
 (Aak (Abb (fun S=>some (g9 S))
 (Aam .normal)
 (Aam (.exit 0)))
 (Aak (Abd 1 (Aak (Aad fun S H k=>
 Aaa (Abn 1 (g6 S) (g8 S)) fun t13=>
 sF tlo base H t13 fun t14 H2=>
 k (z5 t14<| stN 12 S) H2)
 (Aak (Aak (Aad fun S H k=>
 Aaa (Aar (g1 S) 0) fun t16=>
 lF tlo base H t16 fun t17 H3=>
 Aaa (b2 evRem (Aab (g5 S)) t17) fun t18=>
 Aaa (Aar (g1 S) 0) fun t19=>
 lF tlo base H3 t19 fun t20 H4=>
 Aaa (b2 Acj t20 (tN 1)) fun t21=>
 Aaa (b2 Ace t18 t21) fun t22=>
 gV t22 true (Aab (g4 S)) H4 fun t24 H5=>
 gV t22 true (Aab (Aae (g5 S))) H5 fun t25 H6=>
 gB t22 true (b2 Abe t25 (tN 1)) H6 fun t26 H7=>
 gB t22 true (Aag call 64 [Aaj t24,Aaj t26] H7) H7 fun t27 H8=>
 Aaa (Acb (Aab t22) (Aaj t27) (tB false)) fun t28=>
 k (z4 (Aae (g4 S))<| z5 (Aae (Aae (g5 S)))<| z10 t28<| stN 12 S) H8)
 (Abb (fun S=>some (g10 S))
 (Aad fun S H k=>
 Aaa (b2 Abe (Aab (Aaj (g5 S))) (tN 1)) fun t32=>
 Aaa (aggT [(0,1,(Aaj (g5 S))),(1,1,t32)] zc71) fun t33=>
 Aaa (Ada 2 [0] [Aaj t33] (repG [.agg zc71] 1)) fun c9=>
 Acq tlo H 71 2 16 (g3 S) (.row .full (.own 71) 2 c9) fun t35 H10=>
 k (z3 t35<| z5 (Aae (Aaj (g5 S)))<| stN 12 S) H10)
 (Aam .normal)))
 (Aak (Aad fun S H k=>
 Aaa (Aar (g1 S) 0) fun t38=>
 lF tlo base H t38 fun t39 H11=>
 Aaa (b2 Abe (Aab (g5 S)) t39) fun t40=>
 Aaa (Aag call 64 [Aaj (Aab (g4 S)),Aaj t40] H11) fun t41=>
 k (z4 (Aae (g4 S))<| z5 (Aae (g5 S))<| z11 t41<| stN 12 S) H11)
 (Abb (fun S=>some (g11 S))
 (Aad fun S H k=>
 Aaa (Aar (g1 S) 0) fun t45=>
 lF tlo base H t45 fun t46 H12=>
 Aaa (b2 Abe (Aab (Aaj (g5 S))) t46) fun t47=>
 Aaa (aggT [(0,1,(Aaj (g5 S))),(1,1,t47)] zc71) fun t48=>
 Aaa (Ada 2 [0] [Aaj t48] (repG [.agg zc71] 1)) fun c13=>
 Acq tlo H12 71 2 16 (g3 S) (.row .full (.own 71) 2 c13) fun t50 H14=>
 k (z3 t50<| z5 (Aae (Aaj (g5 S)))<| stN 12 S) H14)
 (Aam .normal))))))
 (Aad fun S H k=>
 Aaa (b2 Abe (g8 S) (tN 1)) fun t51=>
 k (z8 t51<| stN 12 S) H)))) fuel)))
 (Aak (Aad fun S H k=>
 Adh 2 true (g3 S) H fun c15 H15=>
 Adh 2 true c15 H15 fun c16 H16=>
 Abz call tlo 136 [c16] H16 fun t53 H17=>
 k (z2 t53<| z3 c15<| stN 12 S) H17)
 (Aam .ret))))))
def F63:FnT:=fun call tlo l H=>Aaa (C63 call tlo (Aah H) (Aal l 0,Aal l 1,Aal l 2,Aal l 3,Aal l 4,Aal l 6,Aal l 9,Aal l 10,Aal l 11,Aal l 12,Aal l 28,Aal l 41,()) H) fun p=>resE p.1 (Aap (Abw Abo [p.2.1.2.2.1]) (some (endT (Aah H) p.2.1.2.2.1 p.2.2)))
theorem F63_eq:FEq P TC 63 F63:=fun _ _ _ _=>by kernel_rfl
def C64 (call:Abc) (tlo base:Nat):Aba (TV×TV×TV×Unit):=
 (Aak (Aad fun S H k=>
 k (z2 (tB false)<| stN 3 S) H)
 (Aak (Aad fun S H k=>
 Aaa (Aag call 137 [Aaj (Aab S.1),Aaj (Aab (g1 S))] H) fun t7=>
 Aaa (b2 evGeq t7 (tN 0)) fun t8=>
 k (z0 (Aae S.1)<| z1 (Aae (g1 S))<| z2 t8<| stN 3 S) H)
 (Aam .ret)))
def F64:FnT:=fun call tlo l H=>Aaa (C64 call tlo (Aah H) (Aal l 0,Aal l 1,Aal l 4,()) H) fun p=>resE p.1 (Aap (Abw Abo [p.2.1.2.2.1]) (some (endT (Aah H) p.2.1.2.2.1 p.2.2)))
theorem F64_eq:FEq P TC 64 F64:=fun _ _ _ _=>by kernel_rfl
def C78 (call:Abc) (tlo base:Nat):Aba (TV×TV×TV×TV×TV×TV×TV×TV×TV×TV×TV×TV×TV×TV×Unit):=
 (Aak (Aad fun S H k=>
 k (z2 (tN 0)<| stN 14 S) H)
 (Aak (Aak (Aad fun S H k=>
 Aaa (lenT (Aaj S.1)) fun t10=>
 k (z0 (Aaj S.1)<| z7 (Aaj S.1)<| z8 t10<| z9 (tN 0)<| stN 14 S) H)
 (Abd 0 (Ado (Aak (Aad fun S H k=>
 Aaa (b2 Ace (g9 S) (g8 S)) fun t12=>
 k (z10 t12<| stN 14 S) H)
 (Aak (Abb (fun S=>some (g10 S))
 (Aam .normal)
 (Aam (.exit 0)))
 (Aak (Abd 1 (Aak (Aad fun S H k=>
 Aaa (Abn 1 (g7 S) (hush (g9 S))) fun t14=>
 sF tlo base H t14 fun t15 H0=>
 k (z3 (g9 S)<| z4 t15<| z9 (hush (g9 S))<| stN 14 S) H0)
 (Aak (Aak (Aad fun S H k=>
 Aaa (lenT (Aab (g1 S))) fun t18=>
 Aaa (b2 evGeq (Aab (g3 S)) t18) fun t19=>
 k (z1 (Aae (g1 S))<| z3 (Aae (g3 S))<| z11 t19<| stN 14 S) H)
 (Abb (fun S=>some (g11 S))
 (Aak (Aad fun S H k=>
 k (z2 (tN 1)<| stN 14 S) H)
 (Aam .ret))
 (Aam .normal)))
 (Aak (Aad fun S H k=>
 Aaa (Abn 1 (Aab (g1 S)) (Aab (g3 S))) fun t22=>
 sF tlo base H t22 fun t23 H1=>
 k (z1 (Aae (g1 S))<| z3 (Aae (g3 S))<| z5 t23<| stN 14 S) H1)
 (Aak (Aad fun S H k=>
 Aaa (Aag call 147 [Aaj (Aab (g4 S)),Aaj (Aab (g5 S))] H) fun t26=>
 k (z4 (Aae (g4 S))<| z5 (Aae (g5 S))<| z6 t26<| stN 14 S) H)
 (Aak (Aad fun S H k=>
 Aaa (neqT .int (Aab (g6 S)) (tN 0)) fun t28=>
 k (z6 (Aae (g6 S))<| z12 t28<| stN 14 S) H)
 (Abb (fun S=>some (g12 S))
 (Aak (Aad fun S H k=>
 k (z2 (g6 S)<| z6 (hush (g6 S))<| stN 14 S) H)
 (Aam .ret))
 (Aam .normal))))))))
 (Aad fun S H k=>
 Aaa (b2 Abe (g9 S) (tN 1)) fun t30=>
 k (z9 t30<| stN 14 S) H)))) fuel)))
 (Aak (Aak (Aad fun S H k=>
 Aaa (lenT (Aab S.1)) fun t32=>
 Aaa (lenT (Aab (g1 S))) fun t34=>
 Aaa (b2 Ace t32 t34) fun t35=>
 k (z0 (Aae S.1)<| z1 (Aae (g1 S))<| z13 t35<| stN 14 S) H)
 (Abb (fun S=>some (g13 S))
 (Aak (Aad fun S H k=>
 k (z2 (.v (.int .i64 (.negSucc 0)))<| stN 14 S) H)
 (Aam .ret))
 (Aam .normal)))
 (Aak (Aad fun S H k=>
 k (z2 (tN 0)<| stN 14 S) H)
 (Aam .ret)))))
def F78:FnT:=fun call tlo l H=>Aaa (C78 call tlo (Aah H) (Aal l 0,Aal l 1,Aal l 4,Aal l 5,Aal l 6,Aal l 7,Aal l 8,Aal l 9,Aal l 10,Aal l 11,Aal l 12,Aal l 19,Aal l 28,Aal l 35,()) H) fun p=>resE p.1 (Aap (Abw Abo [p.2.1.2.2.1]) (some (endT (Aah H) p.2.1.2.2.1 p.2.2)))
theorem F78_eq:FEq P TC 78 F78:=fun _ _ _ _=>by kernel_rfl
def C79 (call:Abc) (tlo base:Nat):Aba (TV×TV×TV×TV×TV×Unit):=
 (Aak (Aad fun S H k=>
 Aap (stor S.1)<|
 let t2:=(.ptr (Aah H) 0)
 let H0:=(Aaq H (.cells (Aas S.1)))
 Aap (stor (g1 S))<|
 let t3:=(.ptr (Aah H0) 0)
 let H1:=(Aaq H0 (.cells (Aas (g1 S))))
 k (z0 (hush S.1)<| z1 (hush (g1 S))<| z2 t2<| z3 t3<| z4 (tB false)<| stN 5 S) H1)
 (Aak (Aad fun S H k=>
 lA tlo base 3 H (g2 S) fun t5 H2=>
 Aaa (Aag call 63 [Aaj t5] H2) fun t6=>
 Aap (Abw pass [Aaj (g3 S)])<|
 Abz call tlo 59 [Aaj t6,.fn (.func 148) [] [Aaj (g3 S)]] H2 fun t8 H3=>
 Aaa (b1 evNot t8) fun t9=>
 k (z3 (Aaj (g3 S))<| z4 t9<| stN 5 S) H3)
 (Aam .ret)))
def F79:FnT:=fun call tlo l H=>Aaa (C79 call tlo (Aah H) (Aal l 0,Aal l 1,Aal l 2,Aal l 3,Aal l 4,()) H) fun p=>resE p.1 (Aap (Abw Abo [p.2.1.2.2.2.2.1]) (some (endT (Aah H) p.2.1.2.2.2.2.1 p.2.2)))
theorem F79_eq:FEq P TC 79 F79:=fun _ _ _ _=>by kernel_rfl
def C85 (call:Abc) (tlo base:Nat):Aba (TV×TV×TV×Unit):=
 (Aak (Aad fun S H k=>
 Aaa (lenT (Aab S.1)) fun t6=>
 k (z0 (Aae S.1)<| z2 t6<| stN 3 S) H)
 (Aad fun S H k=>
 Adh 2 true S.1 H fun c0 H0=>
 Aaa (b1 (evConv .u64) (Aab (Aaj (stale (g2 S))))) fun t10=>
 Aaa (Aag call 150 [Aaj t10] H0) fun t11=>
 Adh 2 true c0 H0 fun c1 H1=>
 Abz call tlo 151 [c1,tN 0,Aaj (Aaj (stale (g2 S))),Aaj t11,Aaj (Aaj (stale (g1 S)))] H1 fun t13 H2=>
 k (z0 c0<| z1 (Aaj (stale (g1 S)))<| z2 (Aae (Aaj (stale (g2 S))))<| stN 3 S) H2))
def F85:FnT:=fun call tlo l H=>Aaa (C85 call tlo (Aah H) (Aal l 0,Aal l 1,Aal l 4,()) H) fun p=>resE p.1 (Aap (Abw Abo []) (some (endT (Aah H) (.tup []) p.2.2)))
theorem F85_eq:FEq P TC 85 F85:=fun _ _ _ _=>by kernel_rfl
def C87 (call:Abc) (tlo base:Nat):Aba (TV×Unit):=
 (Aak (Aad fun S H k=>
 let t0:=(.ptr (Aah H) 0)
 let H0:=(Aaq H (.cells zc24))
 k (z0 t0<| stN 1 S) H0)
 (Aak (Aad fun S H k=>
 Aaa (Ada 1 [0] [tN 3] (repG [tN 0] 1)) fun c1=>
 Aaa (Aag call 91 [tN 2,tN 2,Aaj (.row .full (.own 3) 1 c1)] H) fun t2=>
 Aaa (Aau tlo base 3 H S.1 t2) fun H2=>
 k (stN 1 S) H2)
 (Aam .ret)))
def F87:FnT:=fun call tlo l H=>Aaa (C87 call tlo (Aah H) (Aal l 0,()) H) fun p=>resE p.1 (Abj .take tlo (Aah p.2.2) true 3 p.2.2 p.2.1.1 fun r0 h0=>Aap (Abw Abo [r0]) (some (endT (Aah H) r0 h0)))
theorem F87_eq:FEq P TC 87 F87:=fun _ _ _ _=>by kernel_rfl
def C88 (call:Abc) (tlo base:Nat):Aba (TV×Unit):=
 (Aak (Aad fun S H k=>
 let t0:=(.ptr (Aah H) 0)
 let H0:=(Aaq H (.cells zc24))
 k (z0 t0<| stN 1 S) H0)
 (Aak (Aad fun S H k=>
 Aaa (Aag call 91 [tN 2,tN 2,nilT] H) fun t1=>
 Aaa (Aau tlo base 3 H S.1 t1) fun H1=>
 k (stN 1 S) H1)
 (Aam .ret)))
def F88:FnT:=fun call tlo l H=>Aaa (C88 call tlo (Aah H) (Aal l 0,()) H) fun p=>resE p.1 (Abj .take tlo (Aah p.2.2) true 3 p.2.2 p.2.1.1 fun r0 h0=>Aap (Abw Abo [r0]) (some (endT (Aah H) r0 h0)))
theorem F88_eq:FEq P TC 88 F88:=fun _ _ _ _=>by kernel_rfl
def C89 (call:Abc) (tlo base:Nat):Aba (TV×Unit):=
 (Aak (Aad fun S H k=>
 let t0:=(.ptr (Aah H) 0)
 let H0:=(Aaq H (.cells zc24))
 k (z0 t0<| stN 1 S) H0)
 (Aak (Aad fun S H k=>
 Aaa (Ada 1 [0] [tN 4] (repG [tN 0] 1)) fun c1=>
 Aaa (Aag call 91 [tN 3,tN 3,Aaj (.row .full (.own 3) 1 c1)] H) fun t2=>
 Aaa (Aau tlo base 3 H S.1 t2) fun H2=>
 k (stN 1 S) H2)
 (Aam .ret)))
def F89:FnT:=fun call tlo l H=>Aaa (C89 call tlo (Aah H) (Aal l 0,()) H) fun p=>resE p.1 (Abj .take tlo (Aah p.2.2) true 3 p.2.2 p.2.1.1 fun r0 h0=>Aap (Abw Abo [r0]) (some (endT (Aah H) r0 h0)))
theorem F89_eq:FEq P TC 89 F89:=fun _ _ _ _=>by kernel_rfl
def C90 (call:Abc) (tlo base:Nat):Aba (TV×Unit):=
 (Aak (Aad fun S H k=>
 let t0:=(.ptr (Aah H) 0)
 let H0:=(Aaq H (.cells zc24))
 k (z0 t0<| stN 1 S) H0)
 (Aak (Aad fun S H k=>
 Aaa (Aag call 91 [tN 3,tN 1,nilT] H) fun t1=>
 Aaa (Aau tlo base 3 H S.1 t1) fun H1=>
 k (stN 1 S) H1)
 (Aam .ret)))
def F90:FnT:=fun call tlo l H=>Aaa (C90 call tlo (Aah H) (Aal l 0,()) H) fun p=>resE p.1 (Abj .take tlo (Aah p.2.2) true 3 p.2.2 p.2.1.1 fun r0 h0=>Aap (Abw Abo [r0]) (some (endT (Aah H) r0 h0)))
theorem F90_eq:FEq P TC 90 F90:=fun _ _ _ _=>by kernel_rfl
def C91 (call:Abc) (tlo base:Nat):Aba (TV×TV×TV×TV×Unit):=
 (Aak (Aad fun S H k=>
 let t6:=(.ptr (Aah H) 0)
 let H0:=(Aaq H (.cells zc24))
 k (z3 t6<| stN 4 S) H0)
 (Aak (Aad fun S H k=>
 Aaa (aggT [(0,1,(Aaj S.1)),(1,1,(Aaj (g1 S))),(2,1,(Aaj (g2 S)))] zc24) fun t10=>
 Aaa (Aau tlo base 3 H (g3 S) t10) fun H1=>
 k (z0 (Aaj S.1)<| z1 (Aaj (g1 S))<| z2 (Aaj (g2 S))<| stN 4 S) H1)
 (Aam .ret)))
def F91:FnT:=fun call tlo l H=>Aaa (C91 call tlo (Aah H) (Aal l 0,Aal l 1,Aal l 2,Aal l 6,()) H) fun p=>resE p.1 (Abj .take tlo (Aah p.2.2) true 3 p.2.2 p.2.1.2.2.2.1 fun r0 h0=>Aap (Abw Abo [r0]) (some (endT (Aah H) r0 h0)))
theorem F91_eq:FEq P TC 91 F91:=fun _ _ _ _=>by kernel_rfl
def C92 (call:Abc) (tlo base:Nat):Aba (TV×TV×TV×TV×TV×Unit):=
 (Aak (Aad fun S H k=>
 k (z1 nilT<| stN 5 S) H)
 (Aak (Aad fun S H k=>
 k (z2 nilT<| stN 5 S) H)
 (Aak (Aak (Aad fun S H k=>
 k (z3 (tN 0)<| stN 5 S) H)
 (Abd 0 (Ado (Aak (Aak (Aad fun S H k=>
 Aaa (b2 Abe (Aab (g3 S)) (tN 1)) fun t6=>
 Aaa (lenT (Aab S.1)) fun t8=>
 Aaa (b2 Ace t6 t8) fun t9=>
 k (z0 (Aae S.1)<| z3 (Aae (g3 S))<| z4 t9<| stN 5 S) H)
 (Abb (fun S=>some (g4 S))
 (Aam .normal)
 (Aam (.exit 0))))
 (Aak (Abd 1 (Aad fun S H k=>
 Aaa (Abn 1 (Aab S.1) (Aab (g3 S))) fun t15=>
 sF tlo base H t15 fun t16 H0=>
 Aaa (b2 Abe (Aab (Aae (g3 S))) (tN 1)) fun t19=>
 Aaa (Abn 1 (Aab (Aae S.1)) t19) fun t20=>
 sF tlo base H0 t20 fun t21 H1=>
 Aaa (aggT [(0,1,t16),(1,1,t21)] zc71) fun t22=>
 Aaa (Ada 2 [0] [Aaj t22] (repG [.agg zc71] 1)) fun c2=>
 Acq tlo H1 71 2 16 (g2 S) (.row .full (.own 71) 2 c2) fun t24 H3=>
 k (z0 (Aae (Aae S.1))<| z2 t24<| z3 (Aae (Aae (g3 S)))<| stN 5 S) H3))
 (Aad fun S H k=>
 Aaa (b2 Abe (Aab (g3 S)) (tN 2)) fun t11=>
 k (z3 t11<| stN 5 S) H))) fuel)))
 (Aak (Aad fun S H k=>
 k (z1 (g2 S)<| z2 (hush (g2 S))<| stN 5 S) H)
 (Aam .ret)))))
def F92:FnT:=fun call tlo l H=>Aaa (C92 call tlo (Aah H) (Aal l 0,Aal l 2,Aal l 3,Aal l 4,Aal l 9,()) H) fun p=>resE p.1 (Aap (Abw Abo [p.2.1.2.1]) (some (endT (Aah H) p.2.1.2.1 p.2.2)))
theorem F92_eq:FEq P TC 92 F92:=fun _ _ _ _=>by kernel_rfl
def C93 (call:Abc) (tlo base:Nat):Aba (TV×TV×Unit):=
 (Aak (Aad fun S H k=>
 k (z1 nilT<| stN 2 S) H)
 (Aak (Aad fun S H k=>
 k (z0 (hush S.1)<| z1 S.1<| stN 2 S) H)
 (Aam .ret)))
def F93:FnT:=fun call tlo l H=>Aaa (C93 call tlo (Aah H) (Aal l 0,Aal l 2,()) H) fun p=>resE p.1 (Aap (Abw Abo [p.2.1.2.1]) (some (endT (Aah H) p.2.1.2.1 p.2.2)))
theorem F93_eq:FEq P TC 93 F93:=fun _ _ _ _=>by kernel_rfl
def C94 (call:Abc) (tlo base:Nat):Aba (TV×TV×TV×TV×TV×TV×TV×TV×TV×TV×TV×TV×TV×TV×TV×TV×TV×TV×TV×TV×TV×TV×Unit):=
 (Aak (Aad fun S H k=>
 Aap (stor S.1)<|
 let t1:=(.ptr (Aah H) 0)
 let H0:=(Aaq H (.cells (Aas S.1)))
 let t2:=(.ptr (Aah H0) 0)
 let H1:=(Aaq H0 (.cells Acr))
 k (z0 (hush S.1)<| z1 t1<| z2 t2<| z3 (tN 0)<| stN 22 S) H1)
 (Aak (Abd 0 (Aak (Aad fun S H k=>
 Aaa (Aar (g1 S) 0) fun t11=>
 lF tlo base H t11 fun t12 H2=>
 Aaa (b2 Ace t12 (tN 1)) fun t13=>
 gB t13 false (Aar (g1 S) 0) H2 fun t15 H3=>
 Abf (Aab t13) false (lF tlo base H3 t15 fun g4 H4=>Abm g4 H4) H3 fun t16 H5=>
 gB t13 false (b2 evGtr t16 (tN 8)) H5 fun t17 H6=>
 Aaa (Acb (Aab t13) (tB true) (Aaj t17)) fun t18=>
 gB t18 false (Aar (g1 S) 1) H6 fun t20 H7=>
 Abf (Aab t18) false (lF tlo base H7 t20 fun g8 H8=>Abm g8 H8) H7 fun t21 H9=>
 gB t18 false (b2 Ace t21 (tN 1)) H9 fun t22 H10=>
 Aaa (Acb (Aab t18) (tB true) (Aaj t22)) fun t23=>
 gB t23 false (Aar (g1 S) 1) H10 fun t25 H11=>
 Abf (Aab t23) false (lF tlo base H11 t25 fun g12 H12=>Abm g12 H12) H11 fun t26 H13=>
 gB t23 false (b2 evGtr t26 (tN 8)) H13 fun t27 H14=>
 Aaa (Acb (Aab t23) (tB true) (Aaj t27)) fun t28=>
 k (z9 t28<| stN 22 S) H14)
 (Abb (fun S=>some (g9 S))
 (Aak (Aad fun S H k=>
 Aaa (aggT [] Acr) fun t29=>
 Aaa (Aau tlo base 19 H (g2 S) t29) fun H15=>
 k (z3 (tN 1)<| stN 22 S) H15)
 (Aam .ret))
 (Aak (Aad fun S H k=>
 Aaa (Aar (g1 S) 0) fun t31=>
 lF tlo base H t31 fun t32 H16=>
 Aaa (Aar (g1 S) 1) fun t33=>
 lF tlo base H16 t33 fun t34 H17=>
 Aaa (b2 evMul t32 t34) fun t35=>
 Aaa (b2 evGtr t35 (tN 16)) fun t36=>
 k (z10 t36<| stN 22 S) H17)
 (Abb (fun S=>some (g10 S))
 (Aak (Aad fun S H k=>
 Aaa (aggT [] Acr) fun t37=>
 Aaa (Aau tlo base 19 H (g2 S) t37) fun H18=>
 k (z3 (tN 3)<| stN 22 S) H18)
 (Aam .ret))
 (Aam .normal))))))
 (Aak (Aad fun S H k=>
 Aaa (Aar (g1 S) 0) fun t38=>
 lF tlo base H t38 fun t39 H19=>
 Aaa (Aar (g1 S) 1) fun t40=>
 lF tlo base H19 t40 fun t41 H20=>
 Aaa (b2 evMul t39 t41) fun t42=>
 k (z4 t42<| stN 22 S) H20)
 (Aak (Aad fun S H k=>
 Aaa (Aar (g1 S) 0) fun t43=>
 sF tlo base H t43 fun t44 H21=>
 Aaa (Aar (g1 S) 1) fun t45=>
 sF tlo base H21 t45 fun t46 H22=>
 Aaa (b2 evShl (.v (.int .u64 (.ofNat 1))) (Aab (g4 S))) fun t48=>
 Aaa (b2 Acj t48 (.v (.int .u64 (.ofNat 1)))) fun t49=>
 Aaa (aggT [(0,1,t44),(1,1,t46),(2,1,t49)] Acr) fun t50=>
 let t5:=(.ptr (Aah H22) 0)
 let H23:=(Aaq H22 (.cells Acr))
 Aaa (Aau tlo base 19 H23 t5 t50) fun H24=>
 k (z4 (Aae (g4 S))<| z5 t5<| stN 22 S) H24)
 (Aak (Aad fun S H k=>
 k (z6 (.v (.int .i64 (.negSucc 0)))<| stN 22 S) H)
 (Aak (Aak (Aad fun S H k=>
 Aaa (Aar (g1 S) 2) fun t51=>
 sF tlo base H t51 fun t52 H25=>
 Aaa (lenT t52) fun t53=>
 k (z11 t52<| z12 t53<| z13 (tN 0)<| stN 22 S) H25)
 (Abd 1 (Ado (Aak (Aad fun S H k=>
 Aaa (b2 Ace (g13 S) (g12 S)) fun t55=>
 k (z14 t55<| stN 22 S) H)
 (Aak (Abb (fun S=>some (g14 S))
 (Aam .normal)
 (Aam (.exit 1)))
 (Aak (Abd 2 (Aak (Aad fun S H k=>
 Aaa (Abn 1 (g11 S) (g13 S)) fun t56=>
 sF tlo base H t56 fun t57 H26=>
 k (z7 t57<| stN 22 S) H26)
 (Aak (Abd 3 (Aak (Aad fun S H k=>
 Aaa (b2 Ace (Aab (g7 S)) (tN 0)) fun t60=>
 gV t60 false (Aab (Aae (g7 S))) H fun t62 H27=>
 gV t60 false (Aab (g4 S)) H27 fun t63 H28=>
 gB t60 false (b2 evGeq t62 t63) H28 fun t64 H29=>
 Aaa (Acb (Aab t60) (tB true) (Aaj t64)) fun t65=>
 k (z4 (Aae (g4 S))<| z7 (Aae (Aae (g7 S)))<| z15 t65<| stN 22 S) H29)
 (Abb (fun S=>some (g15 S))
 (Aak (Aad fun S H k=>
 Aaa (aggT [] Acr) fun t66=>
 Aaa (Aau tlo base 19 H (g2 S) t66) fun H30=>
 k (z3 (tN 2)<| stN 22 S) H30)
 (Aam .ret))
 (Aak (Aad fun S H k=>
 Aaa (b2 evLeq (Aab (g7 S)) (Aab (g6 S))) fun t70=>
 k (z6 (Aae (g6 S))<| z7 (Aae (g7 S))<| z16 t70<| stN 22 S) H)
 (Abb (fun S=>some (g16 S))
 (Aak (Aad fun S H k=>
 Aaa (aggT [] Acr) fun t71=>
 Aaa (Aau tlo base 19 H (g2 S) t71) fun H31=>
 k (z3 (tN 7)<| stN 22 S) H31)
 (Aam .ret))
 (Aam .normal))))))
 (Aak (Aad fun S H k=>
 Aaa (Aar (g5 S) 2) fun t72=>
 lF tlo base H t72 fun t73 H32=>
 Aaa (b2 evShl (.v (.int .u64 (.ofNat 1))) (Aab (g7 S))) fun t75=>
 Aaa (b2 Adc t73 t75) fun t76=>
 Aaa (Aar (g5 S) 2) fun t77=>
 Aaa (Aau tlo base 1 H32 t77 t76) fun H33=>
 k (z7 (Aae (g7 S))<| stN 22 S) H33)
 (Aad fun S H k=>
 k (z6 (g7 S)<| z7 (hush (g7 S))<| stN 22 S) H)))))
 (Aad fun S H k=>
 Aaa (b2 Abe (g13 S) (tN 1)) fun t79=>
 k (z13 t79<| stN 22 S) H)))) fuel)))
 (Aak (Aak (Aad fun S H k=>
 k (z4 (Aaj (g4 S))<| z17 (Aaj (g4 S))<| z18 (tN 0)<| stN 22 S) H)
 (Abd 4 (Ado (Aak (Aad fun S H k=>
 Aaa (b2 Ace (g18 S) (g17 S)) fun t82=>
 k (z19 t82<| stN 22 S) H)
 (Aak (Abb (fun S=>some (g19 S))
 (Aam .normal)
 (Aam (.exit 4)))
 (Aak (Abd 5 (Aak (Aad fun S H k=>
 k (z8 (g18 S)<| z18 (hush (g18 S))<| stN 22 S) H)
 (Aak (Aak (Aad fun S H k=>
 Aaa (Aar (g1 S) 0) fun t85=>
 lF tlo base H t85 fun t86 H34=>
 Aaa (b2 evRem (Aab (g8 S)) t86) fun t87=>
 Aaa (b2 evGtr t87 (tN 0)) fun t88=>
 k (z8 (Aae (g8 S))<| z20 t88<| stN 22 S) H34)
 (Abb (fun S=>some (g20 S))
 (Aad fun S H k=>
 Aaa (b2 Acj (Aab (g8 S)) (tN 1)) fun t90=>
 Abz call tlo 152 [Aaj (g5 S),Aaj t90,Aaj (Aaj (Aae (g8 S)))] H fun t92 H35=>
 k (z5 (Aaj (g5 S))<| z8 (Aaj (Aae (g8 S)))<| stN 22 S) H35)
 (Aam .normal)))
 (Aak (Aad fun S H k=>
 Aaa (Aar (g1 S) 0) fun t94=>
 lF tlo base H t94 fun t95 H36=>
 Aaa (b2 evGeq (Aab (g8 S)) t95) fun t96=>
 k (z8 (Aae (g8 S))<| z21 t96<| stN 22 S) H36)
 (Abb (fun S=>some (g21 S))
 (Aad fun S H k=>
 Aaa (Aar (g1 S) 0) fun t98=>
 lF tlo base H t98 fun t99 H37=>
 Aaa (b2 Acj (Aab (g8 S)) t99) fun t100=>
 Abz call tlo 152 [Aaj (g5 S),Aaj t100,Aaj (Aaj (Aae (g8 S)))] H37 fun t102 H38=>
 k (z5 (Aaj (g5 S))<| z8 (Aaj (Aae (g8 S)))<| stN 22 S) H38)
 (Aam .normal))))))
 (Aad fun S H k=>
 Aaa (b2 Abe (g18 S) (tN 1)) fun t103=>
 k (z18 t103<| stN 22 S) H)))) fuel)))
 (Aak (Aad fun S H k=>
 sA tlo base 19 H (g5 S) fun t104 H39=>
 Aaa (Aau tlo base 19 H39 (g2 S) t104) fun H40=>
 k (z3 (tN 0)<| stN 22 S) H40)
 (Aam .ret)))))))))
def F94:FnT:=fun call tlo l H=>Aaa (C94 call tlo (Aah H) (Aal l 0,Aal l 1,Aal l 2,Aal l 3,Aal l 4,Aal l 5,Aal l 6,Aal l 8,Aal l 9,Aal l 10,Aal l 30,Aal l 52,Aal l 53,Aal l 54,Aal l 55,Aal l 58,Aal l 67,Aal l 80,Aal l 81,Aal l 82,Aal l 88,Aal l 96,()) H) fun p=>resE p.1 (Abj .take tlo (Aah p.2.2) true 19 p.2.2 p.2.1.2.2.1 fun r0 h0=>Aap (Abw Abo [r0,p.2.1.2.2.2.1]) (some (endT (Aah H) (.tup [r0,p.2.1.2.2.2.1]) h0)))
theorem F94_eq:FEq P TC 94 F94:=fun _ _ _ _=>by kernel_rfl
def C95 (call:Abc) (tlo base:Nat):Aba (TV×TV×TV×TV×TV×TV×TV×TV×TV×TV×TV×TV×TV×TV×TV×TV×TV×TV×TV×Unit):=
 (Aak (Aad fun S H k=>
 Aap (stor S.1)<|
 let t2:=(.ptr (Aah H) 0)
 let H0:=(Aaq H (.cells (Aas S.1)))
 Aap (stor (g1 S))<|
 let t3:=(.ptr (Aah H0) 0)
 let H1:=(Aaq H0 (.cells (Aas (g1 S))))
 k (z0 (hush S.1)<| z1 (hush (g1 S))<| z2 t2<| z3 t3<| z4 (tN 0)<| stN 19 S) H1)
 (Aak (Aad fun S H k=>
 let t5:=(.ptr (Aah H) 0)
 let H2:=(Aaq H (.cells zc158))
 k (z5 t5<| stN 19 S) H2)
 (Aak (Aak (Aad fun S H k=>
 k (z11 (tN 0)<| stN 19 S) H)
 (Abd 0 (Ado (Aak (Aad fun S H k=>
 Aaa (b2 Ace (g11 S) (tN 16)) fun t13=>
 k (z12 t13<| stN 19 S) H)
 (Aak (Abb (fun S=>some (g12 S))
 (Aam .normal)
 (Aam (.exit 0)))
 (Aak (Abd 1 (Aak (Aad fun S H k=>
 k (z6 (g11 S)<| z11 (hush (g11 S))<| stN 19 S) H)
 (Aad fun S H k=>
 Adh 0 false (g5 S) H fun c3 H3=>
 Aaa (Abk 16 1 c3 (Aab (g6 S))) fun t16=>
 Aaa (Aau tlo base 1 H3 t16 (.v (.int .i64 (.negSucc 0)))) fun H4=>
 k (z5 c3<| z6 (Aae (g6 S))<| stN 19 S) H4)))
 (Aad fun S H k=>
 Aaa (b2 Abe (g11 S) (tN 1)) fun t17=>
 k (z11 t17<| stN 19 S) H)))) fuel)))
 (Aak (Aad fun S H k=>
 k (z7 (tN 0)<| stN 19 S) H)
 (Aak (Aad fun S H k=>
 let t8:=(.ptr (Aah H) 0)
 let H5:=(Aaq H (.cells [.v (.int .u64 (.ofNat 0))]))
 Aaa (Aau tlo base 1 H5 t8 (.v (.int .u64 (.ofNat 0)))) fun H6=>
 k (z8 t8<| stN 19 S) H6)
 (Aak (Aad fun S H k=>
 let t9:=(.ptr (Aah H) 0)
 let H7:=(Aaq H (.cells [.v .nilFunc]))
 k (z9 t9<| stN 19 S) H7)
 (Aak (Aad fun S H k=>
 Aap (Abw pass [Aaj (g2 S),Aaj (g3 S),Aaj (g8 S),Aaj (g5 S),Aaj (g9 S)])<|
 Aaa (Aau tlo base 1 H (Aaj (g9 S)) (.fn (.func 153) [] [Aaj (g2 S),Aaj (g3 S),Aaj (g8 S),Aaj (g5 S),Aaj (g9 S)])) fun H8=>
 k (z2 (Aaj (g2 S))<| z3 (Aaj (g3 S))<| z5 (Aaj (g5 S))<| z8 (Aaj (g8 S))<| z9 (Aaj (g9 S))<| stN 19 S) H8)
 (Aak (Aak (Aad fun S H k=>
 lF tlo base H (g3 S) fun t19 H9=>
 Aaa (Aag call 100 [Aaj t19] H9) fun t20=>
 Aaa (lenT t20) fun t21=>
 k (z13 t20<| z14 t21<| z15 (tN 0)<| stN 19 S) H9)
 (Abd 2 (Ado (Aak (Aad fun S H k=>
 Aaa (b2 Ace (g15 S) (g14 S)) fun t23=>
 k (z16 t23<| stN 19 S) H)
 (Aak (Abb (fun S=>some (g16 S))
 (Aam .normal)
 (Aam (.exit 2)))
 (Aak (Abd 3 (Aak (Aad fun S H k=>
 Aaa (Abn 1 (g13 S) (g15 S)) fun t24=>
 sF tlo base H t24 fun t25 H10=>
 k (z10 t25<| stN 19 S) H10)
 (Aak (Aak (Aad fun S H k=>
 lA tlo base 19 H (g2 S) fun t26 H11=>
 Aaa (Aag call 154 [Aaj t26,Aaj (Aab (g10 S))] H11) fun t28=>
 k (z10 (Aae (g10 S))<| z17 t28<| stN 19 S) H11)
 (Abb (fun S=>some (g17 S))
 (Aam (.exit 3))
 (Aam .normal)))
 (Aak (Aad fun S H k=>
 Aaa (Aau tlo base 1 H (g8 S) (.v (.int .u64 (.ofNat 0)))) fun H12=>
 k (stN 19 S) H12)
 (Aak (Aad fun S H k=>
 lF tlo base H (g9 S) fun t29 H13=>
 Adl TC call tlo t29 [Aaj (Aaj (g10 S))] H13 fun t31 H14=>
 k (z10 (Aaj (g10 S))<| z18 t31<| stN 19 S) H14)
 (Abb (fun S=>some (g18 S))
 (Aad fun S H k=>
 Aaa (b2 Abe (Aab (g7 S)) (tN 1)) fun t33=>
 k (z7 t33<| stN 19 S) H)
 (Aam .normal)))))))
 (Aad fun S H k=>
 Aaa (b2 Abe (g15 S) (tN 1)) fun t34=>
 k (z15 t34<| stN 19 S) H)))) fuel)))
 (Aak (Aad fun S H k=>
 k (z4 (g7 S)<| z7 (hush (g7 S))<| stN 19 S) H)
 (Aam .ret))))))))))
def F95:FnT:=fun call tlo l H=>Aaa (C95 call tlo (Aah H) (Aal l 0,Aal l 1,Aal l 2,Aal l 3,Aal l 4,Aal l 5,Aal l 6,Aal l 7,Aal l 8,Aal l 9,Aal l 11,Aal l 12,Aal l 13,Aal l 20,Aal l 21,Aal l 22,Aal l 23,Aal l 28,Aal l 31,()) H) fun p=>resE p.1 (Aap (Abw Abo [p.2.1.2.2.2.2.1]) (some (endT (Aah H) p.2.1.2.2.2.2.1 p.2.2)))
theorem F95_eq:FEq P TC 95 F95:=fun _ _ _ _=>by kernel_rfl
def C97 (call:Abc) (tlo base:Nat):Aba (TV×TV×TV×TV×TV×TV×TV×TV×TV×TV×TV×TV×TV×TV×Unit):=
 (Aak (Aad fun S H k=>
 Aap (stor S.1)<|
 let t2:=(.ptr (Aah H) 0)
 let H0:=(Aaq H (.cells (Aas S.1)))
 k (z0 (hush S.1)<| z2 t2<| z3 nilT<| stN 14 S) H0)
 (Aak (Aad fun S H k=>
 k (z4 nilT<| stN 14 S) H)
 (Aak (Aad fun S H k=>
 lA tlo base 19 H (g2 S) fun t10 H1=>
 Aaa (Aag call 95 [Aaj t10,Aaj (Aab (g1 S))] H1) fun t12=>
 k (z1 (Aae (g1 S))<| z5 t12<| stN 14 S) H1)
 (Aak (Aam .normal)
 (Aak (Abd 0 (Ado (Aak (Aak (Aad fun S H k=>
 Aaa (neqT .int (Aab (g1 S)) (.v (.int .u64 (.ofNat 0)))) fun t14=>
 k (z1 (Aae (g1 S))<| z8 t14<| stN 14 S) H)
 (Abb (fun S=>some (g8 S))
 (Aam .normal)
 (Aam (.exit 0))))
 (Abd 1 (Aak (Aad fun S H k=>
 Aaa (Aag call 156 [Aaj (Aab (g1 S))] H) fun t16=>
 k (z1 (Aae (g1 S))<| z6 t16<| stN 14 S) H)
 (Aak (Aad fun S H k=>
 Aaa (b2 evShl (.v (.int .u64 (.ofNat 1))) (Aab (g6 S))) fun t19=>
 Aaa (b2 Adc (Aab (g1 S)) t19) fun t20=>
 k (z1 t20<| z6 (Aae (g6 S))<| stN 14 S) H)
 (Aak (Aad fun S H k=>
 Aaa (Aar (g2 S) 3) fun t22=>
 Aaa (Abk 16 1 t22 (Aab (g6 S))) fun t23=>
 lF tlo base H t23 fun t24 H2=>
 Aaa (b2 evAnd t24 (Aab (g1 S))) fun t26=>
 Aaa (Aag call 100 [Aaj t26] H2) fun t27=>
 Aaa (lenT t27) fun t28=>
 k (z1 (Aae (g1 S))<| z6 (Aae (g6 S))<| z9 t27<| z10 t28<| z11 (tN 0)<| stN 14 S) H2)
 (Abd 2 (Ado (Aak (Aad fun S H k=>
 Aaa (b2 Ace (g11 S) (g10 S)) fun t30=>
 k (z12 t30<| stN 14 S) H)
 (Aak (Abb (fun S=>some (g12 S))
 (Aam .normal)
 (Aam (.exit 2)))
 (Aak (Abd 3 (Aak (Aad fun S H k=>
 Aaa (Abn 1 (g9 S) (g11 S)) fun t31=>
 sF tlo base H t31 fun t32 H3=>
 k (z7 t32<| stN 14 S) H3)
 (Aak (Aad fun S H k=>
 lA tlo base 19 H (g2 S) fun t33 H4=>
 Aaa (b2 evShl (.v (.int .u64 (.ofNat 1))) (Aab (g7 S))) fun t36=>
 Aaa (b2 Adc (Aab (g1 S)) t36) fun t37=>
 Aaa (Aag call 95 [Aaj t33,Aaj t37] H4) fun t38=>
 Aaa (b2 Acj (Aab (g5 S)) (tN 1)) fun t40=>
 Aaa (eqlT .int t38 t40) fun t41=>
 k (z1 (Aae (g1 S))<| z5 (Aae (g5 S))<| z7 (Aae (g7 S))<| z13 t41<| stN 14 S) H4)
 (Abb (fun S=>some (g13 S))
 (Aak (Aad fun S H k=>
 Aaa (b2 evShl (.v (.int .u64 (.ofNat 1))) (Aab (g7 S))) fun t44=>
 Aaa (b2 Adc (Aab (g1 S)) t44) fun t45=>
 k (z1 t45<| z7 (Aae (g7 S))<| stN 14 S) H)
 (Aak (Aad fun S H k=>
 Aaa (b2 Acj (Aab (g5 S)) (tN 1)) fun t47=>
 k (z5 t47<| stN 14 S) H)
 (Aak (Aad fun S H k=>
 Aaa (aggT [(0,1,(Aaj (g6 S))),(1,1,(Aaj (g7 S)))] zc71) fun t51=>
 Aaa (Ada 2 [0] [Aaj t51] (repG [.agg zc71] 1)) fun c5=>
 Acq tlo H 71 2 16 (g4 S) (.row .full (.own 71) 2 c5) fun t53 H6=>
 k (z4 t53<| z6 (Aaj (g6 S))<| z7 (Aaj (g7 S))<| stN 14 S) H6)
 (Aam (.exit 1)))))
 (Aam .normal)))))
 (Aad fun S H k=>
 Aaa (b2 Abe (g11 S) (tN 1)) fun t54=>
 k (z11 t54<| stN 14 S) H)))) fuel))))))) fuel))
 (Aak (Aad fun S H k=>
 k (z3 (g4 S)<| z4 (hush (g4 S))<| stN 14 S) H)
 (Aam .ret)))))))
def F97:FnT:=fun call tlo l H=>Aaa (C97 call tlo (Aah H) (Aal l 0,Aal l 1,Aal l 2,Aal l 4,Aal l 5,Aal l 6,Aal l 7,Aal l 9,Aal l 14,Aal l 27,Aal l 28,Aal l 29,Aal l 30,Aal l 41,()) H) fun p=>resE p.1 (Aap (Abw Abo [p.2.1.2.2.2.1]) (some (endT (Aah H) p.2.1.2.2.2.1 p.2.2)))
theorem F97_eq:FEq P TC 97 F97:=fun _ _ _ _=>by kernel_rfl
end
end Go.Proofs.YtgemobbfikjmoaaGreatDoor
namespace Go.Proofs.YtgemobbfikjmoaaGreatDoor
open Go Go.Ev
set_option maxRecDepth 1000000
set_option linter.unusedVariables false
noncomputable section
def C98 (call:Abc) (tlo base:Nat):Aba (TV×TV×TV×TV×TV×TV×TV×TV×TV×TV×TV×TV×TV×TV×TV×TV×TV×TV×TV×TV×Unit):=
 (Aak (Aad fun S H k=>
 Aap (stor S.1)<|
 let t3:=(.ptr (Aah H) 0)
 let H0:=(Aaq H (.cells (Aas S.1)))
 let t6:=(.ptr (Aah H0) 0)
 let H1:=(Aaq H0 (.cells zc111))
 k (z0 (hush S.1)<| z3 t3<| z4 t6<| stN 20 S) H1)
 (Aak (Aak (Aad fun S H k=>
 Aaa (eqlT .int (Aab (g1 S)) (.v (.int .u64 (.ofNat 0)))) fun t16=>
 k (z1 (Aae (g1 S))<| z12 t16<| stN 20 S) H)
 (Abb (fun S=>some (g12 S))
 (Aak (Aad fun S H k=>
 Aaa (aggT [(0,1,(tN 0)),(1,1,(tN 1))] zc111) fun t17=>
 Aaa (Aau tlo base 2 H (g4 S) t17) fun H2=>
 k (stN 20 S) H2)
 (Aam .ret))
 (Aam .normal)))
 (Aak (Aak (Aad fun S H k=>
 Aaa (lookupT H .int (.agg zc111) (Aab (g2 S)) (Aab (g1 S)) true) fun t21=>
 Aaf (Abl (Aab t21) 0) fun c3=>
 Aaf (Abl (Aaz (Aab t21) 0) 1) fun c4=>
 let t7:=(.ptr (Aah H) 0)
 let H5:=(Aaq H (.cells zc111))
 Aaa (Aau tlo base 2 H5 t7 c3) fun H6=>
 k (z1 (Aae (g1 S))<| z2 (Aae (g2 S))<| z5 t7<| z6 c4<| stN 20 S) H6)
 (Aak (Aad fun S H k=>
 k (z6 (Aaj (g6 S))<| z13 (Aaj (g6 S))<| stN 20 S) H)
 (Abb (fun S=>some (g13 S))
 (Aak (Aad fun S H k=>
 sA tlo base 2 H (g5 S) fun t25 H7=>
 Aaa (Aau tlo base 2 H7 (g4 S) t25) fun H8=>
 k (stN 20 S) H8)
 (Aam .ret))
 (Aam .normal))))
 (Aak (Aad fun S H k=>
 Aaa (Aag call 156 [Aaj (Aab (g1 S))] H) fun t27=>
 k (z1 (Aae (g1 S))<| z7 t27<| stN 20 S) H)
 (Aak (Aad fun S H k=>
 Aaa (b2 evShl (.v (.int .u64 (.ofNat 1))) (Aab (g7 S))) fun t30=>
 Aaa (b2 Adc (Aab (g1 S)) t30) fun t31=>
 k (z1 (Aae (g1 S))<| z7 (Aae (g7 S))<| z8 t31<| stN 20 S) H)
 (Aak (Aad fun S H k=>
 sA tlo base 19 H (g3 S) fun t32 H9=>
 Abz call tlo 98 [Aaj t32,Aaj (Aaj (g8 S)),Aaj (Aaj (g2 S))] H9 fun t35 H10=>
 let t11:=(.ptr (Aah H10) 0)
 let H11:=(Aaq H10 (.cells zc111))
 Aaa (Aau tlo base 2 H11 t11 t35) fun H12=>
 k (z2 (Aaj (g2 S))<| z8 (Aaj (g8 S))<| z9 t11<| stN 20 S) H12)
 (Aak (Aak (Aad fun S H k=>
 Aaa (Aar (g3 S) 3) fun t37=>
 Aaa (Abk 16 1 t37 (Aab (g7 S))) fun t38=>
 lF tlo base H t38 fun t39 H13=>
 Aaa (b2 evAnd t39 (Aab (g8 S))) fun t41=>
 Aaa (Aag call 100 [Aaj t41] H13) fun t42=>
 Aaa (lenT t42) fun t43=>
 k (z7 (Aae (g7 S))<| z8 (Aae (g8 S))<| z14 t42<| z15 t43<| z16 (tN 0)<| stN 20 S) H13)
 (Abd 0 (Ado (Aak (Aad fun S H k=>
 Aaa (b2 Ace (g16 S) (g15 S)) fun t45=>
 k (z17 t45<| stN 20 S) H)
 (Aak (Abb (fun S=>some (g17 S))
 (Aam .normal)
 (Aam (.exit 0)))
 (Aak (Abd 1 (Aak (Aad fun S H k=>
 Aaa (Abn 1 (g14 S) (g16 S)) fun t46=>
 sF tlo base H t46 fun t47 H14=>
 k (z10 t47<| stN 20 S) H14)
 (Aak (Aad fun S H k=>
 sA tlo base 19 H (g3 S) fun t48 H15=>
 Aaa (b2 evShl (.v (.int .u64 (.ofNat 1))) (Aab (g10 S))) fun t51=>
 Aaa (b2 Adc (Aab (g8 S)) t51) fun t52=>
 Abz call tlo 98 [Aaj t48,Aaj t52,Aaj (Aaj (g2 S))] H15 fun t54 H16=>
 let t14:=(.ptr (Aah H16) 0)
 let H17:=(Aaq H16 (.cells zc111))
 Aaa (Aau tlo base 2 H17 t14 t54) fun H18=>
 k (z2 (Aaj (g2 S))<| z8 (Aae (g8 S))<| z10 (Aae (g10 S))<| z11 t14<| stN 20 S) H18)
 (Aak (Aad fun S H k=>
 Aaa (Aar (g11 S) 0) fun t55=>
 lF tlo base H t55 fun t56 H19=>
 Aaa (b2 Abe t56 (tN 1)) fun t57=>
 Aaa (Aar (g11 S) 0) fun t58=>
 Aaa (Aau tlo base 1 H19 t58 t57) fun H20=>
 k (stN 20 S) H20)
 (Abd 2 (Aak (Aad fun S H k=>
 Aaa (Aar (g11 S) 0) fun t60=>
 lF tlo base H t60 fun t61 H21=>
 Aaa (Aar (g9 S) 0) fun t62=>
 lF tlo base H21 t62 fun t63 H22=>
 Aaa (b2 evGtr t61 t63) fun t64=>
 k (z18 t64<| stN 20 S) H22)
 (Abb (fun S=>some (g18 S))
 (Aad fun S H k=>
 sA tlo base 2 H (g11 S) fun t65 H23=>
 Aaa (Aau tlo base 2 H23 (g9 S) t65) fun H24=>
 k (stN 20 S) H24)
 (Aak (Aad fun S H k=>
 Aaa (Aar (g11 S) 0) fun t67=>
 lF tlo base H t67 fun t68 H25=>
 Aaa (Aar (g9 S) 0) fun t69=>
 lF tlo base H25 t69 fun t70 H26=>
 Aaa (eqlT .int t68 t70) fun t71=>
 k (z19 t71<| stN 20 S) H26)
 (Abb (fun S=>some (g19 S))
 (Aad fun S H k=>
 Aaa (Aar (g9 S) 1) fun t72=>
 lF tlo base H t72 fun t73 H27=>
 Aaa (Aar (g11 S) 1) fun t74=>
 lF tlo base H27 t74 fun t75 H28=>
 Aaa (b2 Abe t73 t75) fun t76=>
 Aaa (Aar (g9 S) 1) fun t77=>
 Aaa (Aau tlo base 1 H28 t77 t76) fun H29=>
 k (stN 20 S) H29)
 (Aam .normal))))))))))
 (Aad fun S H k=>
 Aaa (b2 Abe (g16 S) (tN 1)) fun t78=>
 k (z16 t78<| stN 20 S) H)))) fuel)))
 (Aak (Aad fun S H k=>
 sA tlo base 2 H (g9 S) fun t81 H30=>
 Aaa (updateT tlo H30 .int (Aab (g2 S)) (Aab (g1 S)) (Aaj t81)) fun H31=>
 k (z1 (Aae (g1 S))<| z2 (Aae (g2 S))<| stN 20 S) H31)
 (Aak (Aad fun S H k=>
 sA tlo base 2 H (g9 S) fun t82 H32=>
 Aaa (Aau tlo base 2 H32 (g4 S) t82) fun H33=>
 k (stN 20 S) H33)
 (Aam .ret))))))))))
def F98:FnT:=fun call tlo l H=>Aaa (C98 call tlo (Aah H) (Aal l 0,Aal l 1,Aal l 2,Aal l 3,Aal l 6,Aal l 7,Aal l 8,Aal l 9,Aal l 10,Aal l 11,Aal l 13,Aal l 14,Aal l 16,Aal l 24,Aal l 42,Aal l 43,Aal l 44,Aal l 45,Aal l 59,Aal l 66,()) H) fun p=>resE p.1 (Abj .take tlo (Aah p.2.2) true 2 p.2.2 p.2.1.2.2.2.2.1 fun r0 h0=>Aap (Abw Abo [r0]) (some (endT (Aah H) r0 h0)))
theorem F98_eq:FEq P TC 98 F98:=fun _ _ _ _=>by kernel_rfl
def C99 (call:Abc) (tlo base:Nat):Aba (TV×TV×TV×TV×TV×TV×TV×TV×TV×Unit):=
 (Aak (Aad fun S H k=>
 k (z2 nilT<| stN 9 S) H)
 (Aak (Aad fun S H k=>
 Abz call tlo 138 [Aaj (Aaj S.1),Aaj (Aaj (g1 S))] H fun t10 H0=>
 k (z0 (Aaj S.1)<| z1 (Aaj (g1 S))<| z3 t10<| stN 9 S) H0)
 (Aak (Aak (Aad fun S H k=>
 Aaa (eqlT .int (Aab (g3 S)) (.v (.int .i64 (.negSucc 0)))) fun t12=>
 k (z3 (Aae (g3 S))<| z6 t12<| stN 9 S) H)
 (Abb (fun S=>some (g6 S))
 (Aak (Aad fun S H k=>
 k (z0 (hush S.1)<| z2 S.1<| stN 9 S) H)
 (Aam .ret))
 (Aam .normal)))
 (Aak (Aak (Aad fun S H k=>
 Aaa (b2 Abe (Aab (g3 S)) (tN 1)) fun t15=>
 k (z3 (Aae (g3 S))<| z4 t15<| stN 9 S) H)
 (Abd 0 (Ado (Aak (Aak (Aad fun S H k=>
 Aaa (lenT (Aab S.1)) fun t18=>
 Aaa (b2 Ace (Aab (g4 S)) t18) fun t19=>
 k (z0 (Aae S.1)<| z4 (Aae (g4 S))<| z7 t19<| stN 9 S) H)
 (Abb (fun S=>some (g7 S))
 (Aam .normal)
 (Aam (.exit 0))))
 (Aak (Abd 1 (Aak (Aad fun S H k=>
 Aaa (Abn 1 (Aab S.1) (Aab (g4 S))) fun t24=>
 sF tlo base H t24 fun t25 H1=>
 k (z0 (Aae S.1)<| z4 (Aae (g4 S))<| z5 t25<| stN 9 S) H1)
 (Aak (Aad fun S H k=>
 Adl TC call tlo (Aab (g1 S)) [Aaj (Aaj (g5 S))] H fun t28 H2=>
 Aaa (b1 evNot t28) fun t29=>
 k (z1 (Aae (g1 S))<| z5 (Aaj (g5 S))<| z8 t29<| stN 9 S) H2)
 (Abb (fun S=>some (g8 S))
 (Aak (Aad fun S H k=>
 Adh 1 false S.1 H fun c3 H3=>
 Adh 1 false c3 H3 fun c4 H4=>
 Aaa (Abn 1 c4 (Aab (stale (g3 S)))) fun t33=>
 Aaa (Aau tlo base 1 H4 t33 (stale (Aaj (stale (g5 S))))) fun H5=>
 k (z0 c3<| z3 (Aae (stale (g3 S)))<| z5 (Aaj (stale (g5 S)))<| stN 9 S) H5)
 (Aad fun S H k=>
 Aaa (b2 Abe (Aab (g3 S)) (tN 1)) fun t35=>
 k (z3 t35<| stN 9 S) H))
 (Aam .normal)))))
 (Aad fun S H k=>
 Aaa (b2 Abe (Aab (g4 S)) (tN 1)) fun t21=>
 k (z4 t21<| stN 9 S) H))) fuel)))
 (Aak (Aad fun S H k=>
 Aaa (cutT 1 (Aab S.1) (some (Aab (g3 S))) none none) fun t38=>
 Adh 1 false t38 H fun c6 H6=>
 Aap (vecIs c6 1)<|
 Aaa (clearT tlo H6 [tN 0] c6) fun H7=>
 k (z0 (Aae S.1)<| z3 (Aae (g3 S))<| stN 9 S) H7)
 (Aak (Aad fun S H k=>
 Aaa (cutT 1 (Aab S.1) none (some (Aab (g3 S))) none) fun t41=>
 k (z0 (Aae S.1)<| z2 t41<| z3 (Aae (g3 S))<| stN 9 S) H)
 (Aam .ret)))))))
def F99:FnT:=fun call tlo l H=>Aaa (C99 call tlo (Aah H) (Aal l 0,Aal l 1,Aal l 4,Aal l 5,Aal l 6,Aal l 7,Aal l 12,Aal l 19,Aal l 29,()) H) fun p=>resE p.1 (Aap (Abw Abo [p.2.1.2.2.1]) (some (endT (Aah H) p.2.1.2.2.1 p.2.2)))
theorem F99_eq:FEq P TC 99 F99:=fun _ _ _ _=>by kernel_rfl
def C100 (call:Abc) (tlo base:Nat):Aba (TV×TV×TV×TV×Unit):=
 (Aak (Aad fun S H k=>
 k (z1 nilT<| stN 4 S) H)
 (Aak (Aad fun S H k=>
 k (z2 nilT<| stN 4 S) H)
 (Aak (Abd 0 (Ado (Aak (Aak (Aad fun S H k=>
 Aaa (neqT .int (Aab S.1) (.v (.int .u64 (.ofNat 0)))) fun t5=>
 k (z0 (Aae S.1)<| z3 t5<| stN 4 S) H)
 (Abb (fun S=>some (g3 S))
 (Aam .normal)
 (Aam (.exit 0))))
 (Aak (Abd 1 (Aad fun S H k=>
 Aaa (Aag call 156 [Aaj (Aab S.1)] H) fun t12=>
 Aaa (Ada 1 [0] [Aaj t12] (repG [tN 0] 1)) fun c0=>
 Acq tlo H 3 1 8 (g2 S) (.row .full (.own 3) 1 c0) fun t14 H1=>
 k (z0 (Aae S.1)<| z2 t14<| stN 4 S) H1))
 (Aad fun S H k=>
 Aaa (b2 Acj (Aab (Aae S.1)) (.v (.int .u64 (.ofNat 1)))) fun t8=>
 Aaa (b2 evAnd (Aab S.1) t8) fun t9=>
 k (z0 t9<| stN 4 S) H))) fuel))
 (Aak (Aad fun S H k=>
 k (z1 (g2 S)<| z2 (hush (g2 S))<| stN 4 S) H)
 (Aam .ret)))))
def F100:FnT:=fun call tlo l H=>Aaa (C100 call tlo (Aah H) (Aal l 0,Aal l 2,Aal l 3,Aal l 5,()) H) fun p=>resE p.1 (Aap (Abw Abo [p.2.1.2.1]) (some (endT (Aah H) p.2.1.2.1 p.2.2)))
theorem F100_eq:FEq P TC 100 F100:=fun _ _ _ _=>by kernel_rfl
def C101 (call:Abc) (tlo base:Nat):Aba (TV×TV×TV×TV×Unit):=
 (Aak (Aad fun S H k=>
 k (z3 (tB false)<| stN 4 S) H)
 (Aak (Aad fun S H k=>
 lA tlo base 19 H (g1 S) fun t5 H0=>
 Aaa (Aar (g1 S) 2) fun t6=>
 lF tlo base H0 t6 fun t7 H1=>
 Aaa (b2 evShl (.v (.int .u64 (.ofNat 1))) (Aab S.1)) fun t9=>
 Aaa (b2 Adc t7 t9) fun t10=>
 Aaa (Aag call 95 [Aaj t5,Aaj t10] H1) fun t11=>
 lF tlo base H1 (g2 S) fun t12 H2=>
 Aaa (b2 Ace t11 t12) fun t13=>
 k (z0 (Aae S.1)<| z3 t13<| stN 4 S) H2)
 (Aam .ret)))
def F101:FnT:=fun call tlo l H=>Aaa (C101 call tlo (Aah H) (Aal l 0,Aal l 1,Aal l 2,Aal l 4,()) H) fun p=>resE p.1 (Aap (Abw Abo [p.2.1.2.2.2.1]) (some (endT (Aah H) p.2.1.2.2.2.1 p.2.2)))
theorem F101_eq:FEq P TC 101 F101:=fun _ _ _ _=>by kernel_rfl
def C104 (call:Abc) (tlo base:Nat):Aba (TV×TV×TV×TV×TV×TV×TV×TV×TV×Unit):=
 (Aak (Aad fun S H k=>
 k (z2 nilT<| stN 9 S) H)
 (Aak (Aad fun S H k=>
 Abz call tlo 134 [Aaj (Aaj S.1),Aaj (Aaj (g1 S))] H fun t10 H0=>
 k (z0 (Aaj S.1)<| z1 (Aaj (g1 S))<| z3 t10<| stN 9 S) H0)
 (Aak (Aak (Aad fun S H k=>
 Aaa (eqlT .int (Aab (g3 S)) (.v (.int .i64 (.negSucc 0)))) fun t12=>
 k (z3 (Aae (g3 S))<| z6 t12<| stN 9 S) H)
 (Abb (fun S=>some (g6 S))
 (Aak (Aad fun S H k=>
 k (z0 (hush S.1)<| z2 S.1<| stN 9 S) H)
 (Aam .ret))
 (Aam .normal)))
 (Aak (Aak (Aad fun S H k=>
 Aaa (b2 Abe (Aab (g3 S)) (tN 1)) fun t15=>
 k (z3 (Aae (g3 S))<| z4 t15<| stN 9 S) H)
 (Abd 0 (Ado (Aak (Aak (Aad fun S H k=>
 Aaa (lenT (Aab S.1)) fun t18=>
 Aaa (b2 Ace (Aab (g4 S)) t18) fun t19=>
 k (z0 (Aae S.1)<| z4 (Aae (g4 S))<| z7 t19<| stN 9 S) H)
 (Abb (fun S=>some (g7 S))
 (Aam .normal)
 (Aam (.exit 0))))
 (Aak (Abd 1 (Aak (Aad fun S H k=>
 Aaa (Abn 2 (Aab S.1) (Aab (g4 S))) fun t24=>
 sA tlo base 2 H t24 fun t25 H1=>
 let t7:=(.ptr (Aah H1) 0)
 let H2:=(Aaq H1 (.cells zc71))
 Aaa (Aau tlo base 2 H2 t7 t25) fun H3=>
 k (z0 (Aae S.1)<| z4 (Aae (g4 S))<| z5 t7<| stN 9 S) H3)
 (Aak (Aad fun S H k=>
 sA tlo base 2 H (g5 S) fun t27 H4=>
 Adl TC call tlo (Aab (g1 S)) [Aaj t27] H4 fun t28 H5=>
 Aaa (b1 evNot t28) fun t29=>
 k (z1 (Aae (g1 S))<| z8 t29<| stN 9 S) H5)
 (Abb (fun S=>some (g8 S))
 (Aak (Aad fun S H k=>
 Adh 2 true S.1 H fun c6 H6=>
 sA tlo base 2 H6 (stale (g5 S)) fun t32 H7=>
 Adh 2 true c6 H7 fun c8 H8=>
 Aaa (Abn 2 c8 (Aab (stale (g3 S)))) fun t33=>
 Aaa (Aau tlo base 2 H8 t33 (stale t32)) fun H9=>
 k (z0 c6<| z3 (Aae (stale (g3 S)))<| stN 9 S) H9)
 (Aad fun S H k=>
 Aaa (b2 Abe (Aab (g3 S)) (tN 1)) fun t35=>
 k (z3 t35<| stN 9 S) H))
 (Aam .normal)))))
 (Aad fun S H k=>
 Aaa (b2 Abe (Aab (g4 S)) (tN 1)) fun t21=>
 k (z4 t21<| stN 9 S) H))) fuel)))
 (Aak (Aad fun S H k=>
 Aaa (cutT 2 (Aab S.1) (some (Aab (g3 S))) none none) fun t38=>
 Adh 2 true t38 H fun c10 H10=>
 Aap (vecIs c10 2)<|
 Aaa (clearT tlo H10 zc71 c10) fun H11=>
 k (z0 (Aae S.1)<| z3 (Aae (g3 S))<| stN 9 S) H11)
 (Aak (Aad fun S H k=>
 Aaa (cutT 2 (Aab S.1) none (some (Aab (g3 S))) none) fun t41=>
 k (z0 (Aae S.1)<| z2 t41<| z3 (Aae (g3 S))<| stN 9 S) H)
 (Aam .ret)))))))
def F104:FnT:=fun call tlo l H=>Aaa (C104 call tlo (Aah H) (Aal l 0,Aal l 1,Aal l 4,Aal l 5,Aal l 6,Aal l 7,Aal l 12,Aal l 19,Aal l 29,()) H) fun p=>resE p.1 (Aap (Abw Abo [p.2.1.2.2.1]) (some (endT (Aah H) p.2.1.2.2.1 p.2.2)))
theorem F104_eq:FEq P TC 104 F104:=fun _ _ _ _=>by kernel_rfl
def C105 (call:Abc) (tlo base:Nat):Aba (TV×TV×TV×TV×TV×TV×Unit):=
 (Aak (Aad fun S H k=>
 Aap (stor S.1)<|
 let t3:=(.ptr (Aah H) 0)
 let H0:=(Aaq H (.cells (Aas S.1)))
 k (z0 (hush S.1)<| z3 t3<| z4 (tB false)<| stN 6 S) H0)
 (Aak (Aad fun S H k=>
 sA tlo base 19 H (g1 S) fun t6 H1=>
 let t5:=(.ptr (Aah H1) 0)
 let H2:=(Aaq H1 (.cells Acr))
 Aaa (Aau tlo base 19 H2 t5 t6) fun H3=>
 k (z5 t5<| stN 6 S) H3)
 (Aak (Aad fun S H k=>
 Aaa (Abk 2 1 (g3 S) (tN 0)) fun t7=>
 lF tlo base H t7 fun t8 H4=>
 Aaa (Aar (g5 S) 3) fun t9=>
 Aaa (Abk 16 1 t9 t8) fun t10=>
 lF tlo base H4 t10 fun t11 H5=>
 Aaa (Abk 2 1 (g3 S) (tN 1)) fun t12=>
 lF tlo base H5 t12 fun t13 H6=>
 Aaa (b2 evShl (.v (.int .u64 (.ofNat 1))) t13) fun t14=>
 Aaa (b2 Adc t11 t14) fun t15=>
 Aaa (Aar (g5 S) 3) fun t16=>
 Adh 0 false t16 H6 fun c7 H7=>
 Aaa (Abk 16 1 c7 t8) fun t17=>
 Aaa (Aau tlo base 1 H7 t17 (stale t15)) fun H8=>
 k (stN 6 S) H8)
 (Aak (Aad fun S H k=>
 Aaa (Abk 2 1 (g3 S) (tN 1)) fun t18=>
 lF tlo base H t18 fun t19 H9=>
 Aaa (Aar (g5 S) 3) fun t20=>
 Aaa (Abk 16 1 t20 t19) fun t21=>
 lF tlo base H9 t21 fun t22 H10=>
 Aaa (Abk 2 1 (g3 S) (tN 0)) fun t23=>
 lF tlo base H10 t23 fun t24 H11=>
 Aaa (b2 evShl (.v (.int .u64 (.ofNat 1))) t24) fun t25=>
 Aaa (b2 Adc t22 t25) fun t26=>
 Aaa (Aar (g5 S) 3) fun t27=>
 Adh 0 false t27 H11 fun c12 H12=>
 Aaa (Abk 16 1 c12 t19) fun t28=>
 Aaa (Aau tlo base 1 H12 t28 (stale t26)) fun H13=>
 k (stN 6 S) H13)
 (Aak (Aad fun S H k=>
 lA tlo base 19 H (g5 S) fun t29 H14=>
 Aaa (Aar (g1 S) 2) fun t30=>
 lF tlo base H14 t30 fun t31 H15=>
 Aaa (Aag call 95 [Aaj t29,Aaj t31] H15) fun t32=>
 lF tlo base H15 (g2 S) fun t33 H16=>
 Aaa (eqlT .int t32 t33) fun t34=>
 k (z4 t34<| stN 6 S) H16)
 (Aam .ret))))))
def F105:FnT:=fun call tlo l H=>Aaa (C105 call tlo (Aah H) (Aal l 0,Aal l 1,Aal l 2,Aal l 3,Aal l 4,Aal l 5,()) H) fun p=>resE p.1 (Aap (Abw Abo [p.2.1.2.2.2.2.1]) (some (endT (Aah H) p.2.1.2.2.2.2.1 p.2.2)))
theorem F105_eq:FEq P TC 105 F105:=fun _ _ _ _=>by kernel_rfl
def C111 (call:Abc) (tlo base:Nat):Aba (TV×TV×TV×TV×TV×TV×TV×TV×TV×TV×TV×TV×TV×TV×TV×TV×TV×TV×TV×TV×TV×TV×TV×TV×Unit):=
 (Aak (Aad fun S H k=>
 Aap (stor S.1)<|
 let t2:=(.ptr (Aah H) 0)
 let H0:=(Aaq H (.cells (Aas S.1)))
 let t4:=(.ptr (Aah H0) 0)
 let H1:=(Aaq H0 (.cells Acr))
 k (z0 (hush S.1)<| z2 t2<| z3 t4<| z4 (.v (.int .u64 (.ofNat 0)))<| z5 (tN 0)<| stN 24 S) H1)
 (Aak (Aad fun S H k=>
 lA tlo base 3 H (g2 S) fun t16 H2=>
 Aaa (Aag call 94 [Aaj t16] H2) fun t17=>
 Aaf (Abl (Aab t17) 0) fun c3=>
 Aaf (Abl (Aaz (Aab t17) 0) 1) fun c4=>
 let t7:=(.ptr (Aah H2) 0)
 let H5:=(Aaq H2 (.cells Acr))
 Aaa (Aau tlo base 19 H5 t7 c3) fun H6=>
 k (z6 t7<| z7 c4<| stN 24 S) H6)
 (Aak (Aak (Aad fun S H k=>
 Aaa (neqT .int (Aab (g7 S)) (tN 0)) fun t21=>
 k (z7 (Aae (g7 S))<| z14 t21<| stN 24 S) H)
 (Abb (fun S=>some (g14 S))
 (Aak (Aad fun S H k=>
 sA tlo base 19 H (g6 S) fun t22 H7=>
 Aaa (Aau tlo base 19 H7 (g3 S) t22) fun H8=>
 k (z4 (.v (.int .u64 (.ofNat 0)))<| z5 (g7 S)<| z7 (hush (g7 S))<| stN 24 S) H8)
 (Aam .ret))
 (Aam .normal)))
 (Aak (Aad fun S H k=>
 Aaa (Aar (g6 S) 0) fun t24=>
 lF tlo base H t24 fun t25 H9=>
 Aaa (Aar (g6 S) 1) fun t26=>
 lF tlo base H9 t26 fun t27 H10=>
 Aaa (b2 evMul t25 t27) fun t28=>
 k (z8 (.v (.int .u64 (.ofNat 0)))<| z9 t28<| stN 24 S) H10)
 (Aak (Aak (Aad fun S H k=>
 Aaa (lenT (Aaj (g1 S))) fun t30=>
 k (z1 (Aaj (g1 S))<| z15 (Aaj (g1 S))<| z16 t30<| z17 (tN 0)<| stN 24 S) H)
 (Abd 0 (Ado (Aak (Aad fun S H k=>
 Aaa (b2 Ace (g17 S) (g16 S)) fun t32=>
 k (z18 t32<| stN 24 S) H)
 (Aak (Abb (fun S=>some (g18 S))
 (Aam .normal)
 (Aam (.exit 0)))
 (Aak (Abd 1 (Aak (Aad fun S H k=>
 Aaa (Abn 2 (g15 S) (hush (g17 S))) fun t34=>
 sA tlo base 2 H t34 fun t35 H11=>
 let t12:=(.ptr (Aah H11) 0)
 let H12:=(Aaq H11 (.cells zc71))
 Aaa (Aau tlo base 2 H12 t12 t35) fun H13=>
 k (z10 (g17 S)<| z11 t12<| z17 (hush (g17 S))<| stN 24 S) H13)
 (Aak (Aad fun S H k=>
 Aaa (Abk 2 1 (g11 S) (tN 1)) fun t36=>
 lF tlo base H t36 fun t37 H14=>
 Aaa (Abk 2 1 (g11 S) (tN 0)) fun t38=>
 lF tlo base H14 t38 fun t39 H15=>
 Aaa (b2 Acj t37 t39) fun t40=>
 k (z12 t40<| stN 24 S) H15)
 (Aak (Abd 2 (Aak (Aad fun S H k=>
 Aaa (Abk 2 1 (g11 S) (tN 0)) fun t42=>
 lF tlo base H t42 fun t43 H16=>
 Aaa (Abk 2 1 (g11 S) (tN 1)) fun t44=>
 lF tlo base H16 t44 fun t45 H17=>
 Aaa (b2 (evLesser false) t43 t45) fun c18=>
 Aap (isV c18)<|
 Aaa (b2 Ace c18 (tN 0)) fun t47=>
 gB t47 false (Abk 2 1 (g11 S) (tN 0)) H17 fun t49 H19=>
 Abf (Aab t47) false (lF tlo base H19 t49 fun g20 H20=>Abm g20 H20) H19 fun t50 H21=>
 gB t47 false (Abk 2 1 (g11 S) (tN 1)) H21 fun t51 H22=>
 Abf (Aab t47) false (lF tlo base H22 t51 fun g23 H23=>Abm g23 H23) H22 fun t52 H24=>
 Abf (Aab t47) false (Aaa (b2 (evLesser true) t50 t52) fun c25=>Aap (isV c25)<| Abm c25 H24) H24 fun t53 H26=>
 gV t47 false (Aab (g9 S)) H26 fun t54 H27=>
 gB t47 false (b2 evGeq t53 t54) H27 fun t55 H28=>
 Aaa (Acb (Aab t47) (tB true) (Aaj t55)) fun t56=>
 k (z9 (Aae (g9 S))<| z19 t56<| stN 24 S) H28)
 (Abb (fun S=>some (g19 S))
 (Aak (Aad fun S H k=>
 sA tlo base 19 H (g6 S) fun t57 H29=>
 Aaa (Aau tlo base 19 H29 (g3 S) t57) fun H30=>
 k (z4 (.v (.int .u64 (.ofNat 0)))<| z5 (tN 2)<| stN 24 S) H30)
 (Aam .ret))
 (Aak (Aad fun S H k=>
 Aaa (Aar (g6 S) 0) fun t60=>
 lF tlo base H t60 fun t61 H31=>
 Aaa (neqT .int (Aab (g12 S)) t61) fun t62=>
 gV t62 true (Aab (Aae (g12 S))) H31 fun t64 H32=>
 gB t62 true (neqT .int t64 (tN 1)) H32 fun t65 H33=>
 gV t62 true (Aab t65) H33 fun t66 H34=>
 Abf t66 false (Aaa (Abk 2 1 (g11 S) (tN 1)) fun g35=>Abm g35 H34) H34 fun t67 H35=>
 Abf t66 false (lF tlo base H35 t67 fun g36 H36=>Abm g36 H36) H35 fun t68 H37=>
 Abf t66 false (Aaa (Aar (g6 S) 0) fun g38=>Abm g38 H37) H37 fun t69 H38=>
 Abf t66 false (lF tlo base H38 t69 fun g39 H39=>Abm g39 H39) H38 fun t70 H40=>
 Abf t66 false (Aaa (b2 evRem t68 t70) fun g41=>Abm g41 H40) H40 fun t71 H41=>
 Abf t66 false (Aaa (eqlT .int t71 (tN 0)) fun g42=>Abm g42 H41) H41 fun t72 H42=>
 gB t62 true (Acb t66 (tB true) (Aaj t72)) H42 fun t73 H43=>
 Aaa (Acb (Aab t62) (Aaj t73) (tB false)) fun t74=>
 k (z12 (Aae (Aae (g12 S)))<| z20 t74<| stN 24 S) H43)
 (Abb (fun S=>some (g20 S))
 (Aak (Aad fun S H k=>
 sA tlo base 19 H (g6 S) fun t75 H44=>
 Aaa (Aau tlo base 19 H44 (g3 S) t75) fun H45=>
 k (z4 (.v (.int .u64 (.ofNat 0)))<| z5 (tN 5)<| stN 24 S) H45)
 (Aam .ret))
 (Aak (Aad fun S H k=>
 Aaa (b2 evGtr (Aab (g10 S)) (tN 0)) fun t78=>
 gV t78 true (Aab (g1 S)) H fun t80 H46=>
 gV t78 true (Aab (Aae (g10 S))) H46 fun t81 H47=>
 gB t78 true (b2 Acj t81 (tN 1)) H47 fun t82 H48=>
 gB t78 true (Abn 2 t80 t82) H48 fun t83 H49=>
 gB t78 true (cutArrT false 1 2 t83 none none none) H49 fun t84 H50=>
 gB t78 true (cutArrT false 1 2 (g11 S) none none none) H50 fun t85 H51=>
 gB t78 true (Aag call 78 [Aaj t84,Aaj t85] H51) H51 fun t86 H52=>
 gB t78 true (b2 evGeq t86 (tN 0)) H52 fun t87 H53=>
 Aaa (Acb (Aab t78) (Aaj t87) (tB false)) fun t88=>
 k (z1 (Aae (g1 S))<| z10 (Aae (Aae (g10 S)))<| z21 t88<| stN 24 S) H53)
 (Abb (fun S=>some (g21 S))
 (Aak (Aad fun S H k=>
 sA tlo base 19 H (g6 S) fun t89 H54=>
 Aaa (Aau tlo base 19 H54 (g3 S) t89) fun H55=>
 k (z4 (.v (.int .u64 (.ofNat 0)))<| z5 (tN 7)<| stN 24 S) H55)
 (Aam .ret))
 (Aam .normal))))))))
 (Aak (Aad fun S H k=>
 Aaa (Abk 2 1 (g11 S) (tN 0)) fun t90=>
 lF tlo base H t90 fun t91 H56=>
 Aaa (b2 evShl (.v (.int .u64 (.ofNat 1))) t91) fun t92=>
 Aaa (Abk 2 1 (g11 S) (tN 1)) fun t93=>
 lF tlo base H56 t93 fun t94 H57=>
 Aaa (b2 evShl (.v (.int .u64 (.ofNat 1))) t94) fun t95=>
 Aaa (b2 evOr t92 t95) fun t96=>
 k (z13 t96<| stN 24 S) H57)
 (Aak (Abd 3 (Aak (Aad fun S H k=>
 Aaa (Aar (g6 S) 2) fun t99=>
 lF tlo base H t99 fun t100 H58=>
 Aaa (b2 Adc (Aab (g13 S)) t100) fun t101=>
 Aaa (neqT .int t101 (.v (.int .u64 (.ofNat 0)))) fun t102=>
 k (z13 (Aae (g13 S))<| z22 t102<| stN 24 S) H58)
 (Abb (fun S=>some (g22 S))
 (Aak (Aad fun S H k=>
 sA tlo base 19 H (g6 S) fun t103 H59=>
 Aaa (Aau tlo base 19 H59 (g3 S) t103) fun H60=>
 k (z4 (.v (.int .u64 (.ofNat 0)))<| z5 (tN 13)<| stN 24 S) H60)
 (Aam .ret))
 (Aak (Aad fun S H k=>
 Aaa (b2 evAnd (Aab (g13 S)) (Aab (g8 S))) fun t107=>
 Aaa (neqT .int t107 (.v (.int .u64 (.ofNat 0)))) fun t108=>
 k (z8 (Aae (g8 S))<| z13 (Aae (g13 S))<| z23 t108<| stN 24 S) H)
 (Abb (fun S=>some (g23 S))
 (Aak (Aad fun S H k=>
 sA tlo base 19 H (g6 S) fun t109 H61=>
 Aaa (Aau tlo base 19 H61 (g3 S) t109) fun H62=>
 k (z4 (.v (.int .u64 (.ofNat 0)))<| z5 (tN 6)<| stN 24 S) H62)
 (Aam .ret))
 (Aam .normal))))))
 (Aad fun S H k=>
 Aaa (b2 evOr (Aab (g8 S)) (Aab (g13 S))) fun t112=>
 k (z8 t112<| z13 (Aae (g13 S))<| stN 24 S) H)))))))
 (Aad fun S H k=>
 Aaa (b2 Abe (g17 S) (tN 1)) fun t113=>
 k (z17 t113<| stN 24 S) H)))) fuel)))
 (Aak (Aad fun S H k=>
 sA tlo base 19 H (g6 S) fun t114 H63=>
 Aaa (Aau tlo base 19 H63 (g3 S) t114) fun H64=>
 k (z4 (g8 S)<| z5 (tN 0)<| z8 (hush (g8 S))<| stN 24 S) H64)
 (Aam .ret)))))))
def F111:FnT:=fun call tlo l H=>Aaa (C111 call tlo (Aah H) (Aal l 0,Aal l 1,Aal l 2,Aal l 4,Aal l 5,Aal l 6,Aal l 7,Aal l 8,Aal l 9,Aal l 10,Aal l 11,Aal l 12,Aal l 13,Aal l 14,Aal l 21,Aal l 29,Aal l 30,Aal l 31,Aal l 32,Aal l 41,Aal l 58,Aal l 76,Aal l 97,Aal l 104,()) H) fun p=>resE p.1 (Abj .take tlo (Aah p.2.2) true 19 p.2.2 p.2.1.2.2.2.1 fun r0 h0=>Aap (Abw Abo [r0,p.2.1.2.2.2.2.1,p.2.1.2.2.2.2.2.1]) (some (endT (Aah H) (.tup [r0,p.2.1.2.2.2.2.1,p.2.1.2.2.2.2.2.1]) h0)))
theorem F111_eq:FEq P TC 111 F111:=fun _ _ _ _=>by kernel_rfl
def C112 (call:Abc) (tlo base:Nat):Aba (TV×TV×TV×TV×TV×TV×Unit):=
 (Aak (Aad fun S H k=>
 Aap (stor S.1)<|
 let t2:=(.ptr (Aah H) 0)
 let H0:=(Aaq H (.cells (Aas S.1)))
 k (z0 (hush S.1)<| z2 t2<| z3 (tN 0)<| stN 6 S) H0)
 (Aak (Abd 0 (Aak (Aad fun S H k=>
 lA tlo base 19 H (g2 S) fun t6 H1=>
 Aaa (Aag call 128 [Aaj t6] H1) fun t7=>
 Aaa (b1 evNot t7) fun t8=>
 k (z4 t8<| stN 6 S) H1)
 (Abb (fun S=>some (g4 S))
 (Aak (Aad fun S H k=>
 k (z3 (tN 5)<| stN 6 S) H)
 (Aam .ret))
 (Aak (Aad fun S H k=>
 Aap (Abw pass [Aaj (g2 S)])<|
 Abz call tlo 157 [Aaj (Aaj (g1 S)),.fn (.func 158) [] [Aaj (g2 S)]] H fun t12 H2=>
 k (z1 (Aaj (g1 S))<| z2 (Aaj (g2 S))<| z5 t12<| stN 6 S) H2)
 (Abb (fun S=>some (g5 S))
 (Aak (Aad fun S H k=>
 k (z3 (tN 21)<| stN 6 S) H)
 (Aam .ret))
 (Aam .normal))))))
 (Aak (Aad fun S H k=>
 k (z3 (tN 0)<| stN 6 S) H)
 (Aam .ret))))
def F112:FnT:=fun call tlo l H=>Aaa (C112 call tlo (Aah H) (Aal l 0,Aal l 1,Aal l 2,Aal l 4,Aal l 5,Aal l 9,()) H) fun p=>resE p.1 (Aap (Abw Abo [p.2.1.2.2.2.1]) (some (endT (Aah H) p.2.1.2.2.2.1 p.2.2)))
theorem F112_eq:FEq P TC 112 F112:=fun _ _ _ _=>by kernel_rfl
def C113 (call:Abc) (tlo base:Nat):Aba (TV×TV×TV×TV×TV×TV×TV×TV×TV×TV×Unit):=
 (Aak (Aad fun S H k=>
 Aap (stor S.1)<|
 let t2:=(.ptr (Aah H) 0)
 let H0:=(Aaq H (.cells (Aas S.1)))
 Aap (stor (g1 S))<|
 let t3:=(.ptr (Aah H0) 0)
 let H1:=(Aaq H0 (.cells (Aas (g1 S))))
 k (z0 (hush S.1)<| z1 (hush (g1 S))<| z2 t2<| z3 t3<| z4 nilT<| stN 10 S) H1)
 (Aak (Aad fun S H k=>
 lA tlo base 19 H (g2 S) fun t10 H2=>
 Aaa (Aag call 116 [Aaj t10] H2) fun t11=>
 Aaf (toV t11) fun l3=>Aaf (toV t11) fun m3=>Aaa (evSizes 8 l3 m3) fun c3=>
 let t12:=(.vec (Aah H2) 0 c3.1 c3.2 1 false)
 let H4:=(Aaq H2 (.cells (repG [tN 0] c3.2)))
 let t5:=(.ptr (Aah H4) 0)
 let H5:=(Aaq H4 (.cells [nilT]))
 Aaa (Aau tlo base 1 H5 t5 t12) fun H6=>
 k (z5 t5<| stN 10 S) H6)
 (Aak (Aad fun S H k=>
 lA tlo base 19 H (g2 S) fun t13 H7=>
 Aaa (Aag call 116 [Aaj t13] H7) fun t14=>
 Aaf (toV t14) fun l8=>Aaf (toV t14) fun m8=>Aaa (evSizes 1 l8 m8) fun c8=>
 let t15:=(.vec (Aah H7) 0 c8.1 c8.2 1 false)
 let H9:=(Aaq H7 (.cells (repG [tB false] c8.2)))
 let t6:=(.ptr (Aah H9) 0)
 let H10:=(Aaq H9 (.cells [nilT]))
 Aaa (Aau tlo base 1 H10 t6 t15) fun H11=>
 k (z6 t6<| stN 10 S) H11)
 (Aak (Aad fun S H k=>
 let t7:=(.ptr (Aah H) 0)
 let H12:=(Aaq H (.cells [.v .nilFunc]))
 k (z7 t7<| stN 10 S) H12)
 (Aak (Aad fun S H k=>
 Aap (Abw pass [Aaj (g2 S),Aaj (g6 S),Aaj (g3 S),Aaj (g7 S)])<|
 let t8:=(.ptr (Aah H) 0)
 let H13:=(Aaq H (.cells [.v .nilFunc]))
 Aaa (Aau tlo base 1 H13 t8 (.fn (.func 159) [] [Aaj (g2 S),Aaj (g6 S),Aaj (g3 S),Aaj (g7 S)])) fun H14=>
 k (z2 (Aaj (g2 S))<| z3 (Aaj (g3 S))<| z6 (Aaj (g6 S))<| z7 (Aaj (g7 S))<| z8 t8<| stN 10 S) H14)
 (Aak (Aad fun S H k=>
 Aap (Abw pass [Aaj (g5 S),Aaj (g6 S),Aaj (g2 S),Aaj (g8 S)])<|
 Aaa (Aau tlo base 1 H (g7 S) (.fn (.func 161) [] [Aaj (g5 S),Aaj (g6 S),Aaj (g2 S),Aaj (g8 S)])) fun H15=>
 k (z2 (Aaj (g2 S))<| z5 (Aaj (g5 S))<| z6 (Aaj (g6 S))<| z8 (Aaj (g8 S))<| stN 10 S) H15)
 (Aak (Aad fun S H k=>
 Aaa (Aar (g2 S) 2) fun t18=>
 lF tlo base H t18 fun t19 H16=>
 Aaa (Aag call 156 [Aaj t19] H16) fun t20=>
 k (z9 t20<| stN 10 S) H16)
 (Aak (Aad fun S H k=>
 lF tlo base H (g7 S) fun t21 H17=>
 Aaa (Aar (g2 S) 0) fun t23=>
 lF tlo base H17 t23 fun t24 H18=>
 Aaa (b2 evQuo (Aab (g9 S)) t24) fun t25=>
 Aaa (Aar (g2 S) 0) fun t26=>
 lF tlo base H18 t26 fun t27 H19=>
 Aaa (b2 Abe t27 (tN 1)) fun t28=>
 Aaa (b2 evMul t25 t28) fun t29=>
 Aaa (Aar (g2 S) 0) fun t31=>
 lF tlo base H19 t31 fun t32 H20=>
 Aaa (b2 evRem (Aab (Aae (g9 S))) t32) fun t33=>
 Aaa (b2 Abe t29 t33) fun t34=>
 Adl TC call tlo t21 [Aaj t34,tN 0] H20 fun t35 H21=>
 k (z9 (Aae (Aae (g9 S)))<| stN 10 S) H21)
 (Aak (Aad fun S H k=>
 sF tlo base H (g5 S) fun t36 H22=>
 k (z4 t36<| stN 10 S) H22)
 (Aam .ret))))))))))
def F113:FnT:=fun call tlo l H=>Aaa (C113 call tlo (Aah H) (Aal l 0,Aal l 1,Aal l 2,Aal l 3,Aal l 4,Aal l 5,Aal l 6,Aal l 7,Aal l 8,Aal l 9,()) H) fun p=>resE p.1 (Aap (Abw Abo [p.2.1.2.2.2.2.1]) (some (endT (Aah H) p.2.1.2.2.2.2.1 p.2.2)))
theorem F113_eq:FEq P TC 113 F113:=fun _ _ _ _=>by kernel_rfl
def C116 (call:Abc) (tlo base:Nat):Aba (TV×TV×TV×Unit):=
 (Aak (Aad fun S H k=>
 Aap (stor S.1)<|
 let t1:=(.ptr (Aah H) 0)
 let H0:=(Aaq H (.cells (Aas S.1)))
 k (z0 (hush S.1)<| z1 t1<| z2 (tN 0)<| stN 3 S) H0)
 (Aak (Aad fun S H k=>
 Aaa (Aar (g1 S) 0) fun t3=>
 lF tlo base H t3 fun t4 H1=>
 Aaa (b2 Abe t4 (tN 1)) fun t5=>
 Aaa (Aar (g1 S) 1) fun t6=>
 lF tlo base H1 t6 fun t7 H2=>
 Aaa (b2 Abe t7 (tN 1)) fun t8=>
 Aaa (b2 evMul t5 t8) fun t9=>
 k (z2 t9<| stN 3 S) H2)
 (Aam .ret)))
def F116:FnT:=fun call tlo l H=>Aaa (C116 call tlo (Aah H) (Aal l 0,Aal l 1,Aal l 2,()) H) fun p=>resE p.1 (Aap (Abw Abo [p.2.1.2.2.1]) (some (endT (Aah H) p.2.1.2.2.1 p.2.2)))
theorem F116_eq:FEq P TC 116 F116:=fun _ _ _ _=>by kernel_rfl
def C117 (call:Abc) (tlo base:Nat):Aba (TV×TV×TV×TV×TV×TV×TV×TV×TV×TV×TV×TV×TV×TV×TV×TV×TV×TV×TV×TV×TV×Unit):=
 (Aak (Aad fun S H k=>
 Aap (stor S.1)<|
 let t3:=(.ptr (Aah H) 0)
 let H0:=(Aaq H (.cells (Aas S.1)))
 k (z0 (hush S.1)<| z3 t3<| z4 nilT<| z5 (tB false)<| stN 21 S) H0)
 (Aak (Aad fun S H k=>
 Aaa (Aar (g3 S) 0) fun t20=>
 lF tlo base H t20 fun t21 H1=>
 Aaa (b2 Abe t21 (tN 1)) fun t22=>
 Aaa (b2 evRem (Aab (g2 S)) t22) fun t23=>
 Aaa (Aar (g3 S) 0) fun t25=>
 lF tlo base H1 t25 fun t26 H2=>
 Aaa (b2 Abe t26 (tN 1)) fun t27=>
 Aaa (b2 evQuo (Aab (Aae (g2 S))) t27) fun t28=>
 k (z2 (Aae (Aae (g2 S)))<| z6 t23<| z7 t28<| stN 21 S) H2)
 (Aak (Aak (Aad fun S H k=>
 Aaa (b2 (evLesser false) (Aab (g6 S)) (Aab (g7 S))) fun c3=>
 Aap (isV c3)<|
 Aaa (b2 Ace c3 (tN 1)) fun t32=>
 gV t32 false (Aab (Aae (g6 S))) H fun t34 H4=>
 gB t32 false (Aar (g3 S) 0) H4 fun t35 H5=>
 Abf (Aab t32) false (lF tlo base H5 t35 fun g6 H6=>Abm g6 H6) H5 fun t36 H7=>
 gB t32 false (b2 evGeq t34 t36) H7 fun t37 H8=>
 Aaa (Acb (Aab t32) (tB true) (Aaj t37)) fun t38=>
 gV t38 false (Aab (Aae (g7 S))) H8 fun t40 H9=>
 gB t38 false (Aar (g3 S) 1) H9 fun t41 H10=>
 Abf (Aab t38) false (lF tlo base H10 t41 fun g11 H11=>Abm g11 H11) H10 fun t42 H12=>
 gB t38 false (b2 evGeq t40 t42) H12 fun t43 H13=>
 Aaa (Acb (Aab t38) (tB true) (Aaj t43)) fun t44=>
 k (z6 (Aae (Aae (g6 S)))<| z7 (Aae (Aae (g7 S)))<| z16 t44<| stN 21 S) H13)
 (Abb (fun S=>some (g16 S))
 (Aak (Aad fun S H k=>
 k (z4 nilT<| z5 (tB false)<| stN 21 S) H)
 (Aam .ret))
 (Aam .normal)))
 (Aak (Aad fun S H k=>
 Aaa (b2 Acj (Aab (g7 S)) (tN 1)) fun t46=>
 Aaa (Aar (g3 S) 0) fun t47=>
 lF tlo base H t47 fun t48 H14=>
 Aaa (b2 evMul t46 t48) fun t49=>
 Aaa (b2 Abe t49 (Aab (g6 S))) fun t51=>
 Aaa (b2 Acj t51 (tN 1)) fun t52=>
 k (z6 (Aae (g6 S))<| z7 (Aae (g7 S))<| z8 t52<| stN 21 S) H14)
 (Aak (Aad fun S H k=>
 Aaa (b2 Abe (Aab (g8 S)) (tN 1)) fun t54=>
 Aaa (Aar (g3 S) 0) fun t56=>
 lF tlo base H t56 fun t57 H15=>
 Aaa (b2 Abe (Aab (Aae (g8 S))) t57) fun t58=>
 Aaa (Aar (g3 S) 0) fun t60=>
 lF tlo base H15 t60 fun t61 H16=>
 Aaa (b2 Abe (Aab (Aae (Aae (g8 S)))) t61) fun t62=>
 Aaa (b2 Abe t62 (tN 1)) fun t63=>
 k (z8 (Aae (Aae (Aae (g8 S))))<| z9 t54<| z10 t58<| z11 t63<| stN 21 S) H16)
 (Aak (Aak (Aad fun S H k=>
 Aaa (aggT [(0,1,(Aaj (g8 S))),(1,1,(Aaj (g9 S)))] zc71) fun t66=>
 Aaa (aggT [(0,1,(Aaj (g10 S))),(1,1,(Aaj (g11 S)))] zc71) fun t69=>
 Aaa (aggT [(0,2,t66),(2,2,t69)] zc172) fun t70=>
 Aaa (aggT [(0,1,(Aaj (Aaj (g8 S)))),(1,1,(Aaj (Aaj (g10 S))))] zc71) fun t73=>
 Aaa (aggT [(0,1,(Aaj (Aaj (g9 S)))),(1,1,(Aaj (Aaj (g11 S))))] zc71) fun t76=>
 Aaa (aggT [(0,2,t73),(2,2,t76)] zc172) fun t77=>
 Aaa (aggT [(0,4,t70),(4,4,t77)] zc173) fun t78=>
 k (z8 (Aaj (Aaj (g8 S)))<| z9 (Aaj (Aaj (g9 S)))<| z10 (Aaj (Aaj (g10 S)))<| z11 (Aaj (Aaj (g11 S)))<| z17 t78<| z18 (tN 0)<| stN 21 S) H)
 (Abd 0 (Ado (Aak (Aad fun S H k=>
 Aaa (b2 Ace (g18 S) (tN 2)) fun t80=>
 k (z19 t80<| stN 21 S) H)
 (Aak (Abb (fun S=>some (g19 S))
 (Aam .normal)
 (Aam (.exit 0)))
 (Aak (Abd 1 (Aak (Aad fun S H k=>
 Aaa (idxValT true 2 4 (Aaj (g17 S)) (g18 S)) fun t81=>
 let t15:=(.ptr (Aah H) 0)
 let H17:=(Aaq H (.cells zc172))
 Aaa (Aau tlo base 4 H17 t15 t81) fun H18=>
 k (z12 t15<| z17 (Aaj (g17 S))<| stN 21 S) H18)
 (Aak (Aad fun S H k=>
 Aaa (Abk 2 2 (g12 S) (tN 0)) fun t83=>
 lA tlo base 2 H t83 fun t84 H19=>
 Aaa (Aag call 135 [Aaj (Aab (g1 S)),Aaj t84] H19) fun t85=>
 Aaa (Abk 2 2 (g12 S) (tN 1)) fun t87=>
 lA tlo base 2 H19 t87 fun t88 H20=>
 Aaa (Aag call 135 [Aaj (Aab (Aae (g1 S))),Aaj t88] H20) fun t89=>
 k (z1 (Aae (Aae (g1 S)))<| z13 t85<| z14 t89<| stN 21 S) H20)
 (Aak (Aak (Aad fun S H k=>
 Aaa (b2 Ace (Aab (g13 S)) (tN 0)) fun t91=>
 gV t91 false (Aab (g14 S)) H fun t93 H21=>
 gB t91 false (b2 Ace t93 (tN 0)) H21 fun t94 H22=>
 Aaa (Acb (Aab t91) (tB true) (Aaj t94)) fun t95=>
 k (z13 (Aae (g13 S))<| z14 (Aae (g14 S))<| z20 t95<| stN 21 S) H22)
 (Abb (fun S=>some (g20 S))
 (Aam (.exit 1))
 (Aam .normal)))
 (Aak (Aad fun S H k=>
 Aaa (Aag call 143 [Aaj (Aab (g1 S))] H) fun t97=>
 k (z1 (Aae (g1 S))<| z15 t97<| stN 21 S) H)
 (Aak (Aad fun S H k=>
 Adh 2 true (g15 S) H fun c23 H23=>
 Adh 2 true (stale c23) H23 fun c24 H24=>
 Aaa (b2 Abe (Aab (stale (g9 S))) (Aab (stale (g10 S)))) fun t105=>
 Aaa (Abk 2 2 (stale (g12 S)) (tN 0)) fun t106=>
 Aaa (Abk 2 1 t106 (tN 1)) fun t107=>
 lF tlo base H24 t107 fun t108 H25=>
 Aaa (b2 Acj t105 t108) fun t109=>
 Aaa (aggT [(0,1,(Aaj (stale (g8 S)))),(1,1,t109)] zc71) fun t110=>
 Aaa (b2 Abe (Aab (Aae (stale (g9 S)))) (Aab (Aae (stale (g10 S))))) fun t113=>
 Aaa (Abk 2 2 (stale (g12 S)) (tN 1)) fun t114=>
 Aaa (Abk 2 1 t114 (tN 0)) fun t115=>
 lF tlo base H25 t115 fun t116 H26=>
 Aaa (b2 Acj t113 t116) fun t117=>
 Aaa (aggT [(0,1,t117),(1,1,(Aaj (stale (g11 S))))] zc71) fun t119=>
 Adh 2 true (stale c23) H26 fun c27 H27=>
 Aaa (Abn 2 c27 (stale (Aab (stale (g13 S))))) fun t120=>
 Aap (apartT [hdX (stale t115) (hdP H25 t115)] [hdX t120 (hdP H27 t120)])<|
 Aaa (Aau tlo base 2 H27 t120 (stale t110)) fun H28=>
 Adh 2 true (stale c24) H28 fun c29 H29=>
 Aaa (Abn 2 c29 (stale (Aab (stale (g14 S))))) fun t121=>
 Aaa (Aau tlo base 2 H29 t121 (stale t119)) fun H30=>
 k (z8 (Aaj (stale (g8 S)))<| z9 (Aae (Aae (stale (g9 S))))<| z10 (Aae (Aae (stale (g10 S))))<| z11 (Aaj (stale (g11 S)))<| z13 (Aae (stale (g13 S)))<| z14 (Aae (stale (g14 S)))<| z15 c24<| stN 21 S) H30)
 (Aak (Aad fun S H k=>
 Adh 2 true (g15 S) H fun c31 H31=>
 Adh 2 true c31 H31 fun c32 H32=>
 Abz call tlo 85 [c32,.fn (.func 164) [] []] H32 fun t123 H33=>
 k (z15 c31<| stN 21 S) H33)
 (Aak (Aad fun S H k=>
 k (z4 (g15 S)<| z5 (tB true)<| z15 (hush (g15 S))<| stN 21 S) H)
 (Aam .ret)))))))))
 (Aad fun S H k=>
 Aaa (b2 Abe (g18 S) (tN 1)) fun t125=>
 k (z18 t125<| stN 21 S) H)))) fuel)))
 (Aak (Aad fun S H k=>
 k (z4 nilT<| z5 (tB false)<| stN 21 S) H)
 (Aam .ret))))))))
def F117:FnT:=fun call tlo l H=>Aaa (C117 call tlo (Aah H) (Aal l 0,Aal l 1,Aal l 2,Aal l 3,Aal l 6,Aal l 7,Aal l 8,Aal l 9,Aal l 10,Aal l 11,Aal l 12,Aal l 13,Aal l 15,Aal l 16,Aal l 17,Aal l 18,Aal l 44,Aal l 78,Aal l 79,Aal l 80,Aal l 95,()) H) fun p=>resE p.1 (Aap (Abw Abo [p.2.1.2.2.2.2.1,p.2.1.2.2.2.2.2.1]) (some (endT (Aah H) (.tup [p.2.1.2.2.2.2.1,p.2.1.2.2.2.2.2.1]) p.2.2)))
theorem F117_eq:FEq P TC 117 F117:=fun _ _ _ _=>by kernel_rfl
def C119 (call:Abc) (tlo base:Nat):Aba (TV×TV×TV×TV×TV×TV×TV×TV×TV×TV×TV×TV×TV×TV×TV×TV×TV×TV×TV×TV×TV×Unit):=
 (Aak (Aad fun S H k=>
 Aap (stor S.1)<|
 let t2:=(.ptr (Aah H) 0)
 let H0:=(Aaq H (.cells (Aas S.1)))
 k (z0 (hush S.1)<| z2 t2<| z3 nilT<| z4 (tN 0)<| stN 21 S) H0)
 (Aak (Aad fun S H k=>
 lA tlo base 3 H (g2 S) fun t14 H1=>
 Aaa (Aag call 94 [Aaj t14] H1) fun t15=>
 Aaf (Abl (Aab t15) 0) fun c2=>
 Aaf (Abl (Aaz (Aab t15) 0) 1) fun c3=>
 let t6:=(.ptr (Aah H1) 0)
 let H4:=(Aaq H1 (.cells Acr))
 Aaa (Aau tlo base 19 H4 t6 c2) fun H5=>
 k (z5 t6<| z6 c3<| stN 21 S) H5)
 (Aak (Abd 0 (Aak (Aad fun S H k=>
 Aaa (neqT .int (Aab (g6 S)) (tN 0)) fun t20=>
 k (z6 (Aae (g6 S))<| z12 t20<| stN 21 S) H)
 (Abb (fun S=>some (g12 S))
 (Aak (Aad fun S H k=>
 k (z3 nilT<| z4 (g6 S)<| z6 (hush (g6 S))<| stN 21 S) H)
 (Aam .ret))
 (Aak (Aad fun S H k=>
 lA tlo base 19 H (g5 S) fun t23 H6=>
 Aaa (Aag call 128 [Aaj t23] H6) fun t24=>
 Aaa (b1 evNot t24) fun t25=>
 k (z13 t25<| stN 21 S) H6)
 (Abb (fun S=>some (g13 S))
 (Aak (Aad fun S H k=>
 k (z3 nilT<| z4 (tN 5)<| stN 21 S) H)
 (Aam .ret))
 (Aam .normal))))))
 (Aak (Aad fun S H k=>
 lA tlo base 19 H (g5 S) fun t26 H7=>
 Aaa (Aar (g5 S) 2) fun t27=>
 lF tlo base H7 t27 fun t28 H8=>
 Aaa (Aag call 97 [Aaj t26,Aaj t28] H8) fun t29=>
 k (z7 t29<| stN 21 S) H8)
 (Aak (Aak (Aad fun S H k=>
 Aaa (lenT (Aab (g7 S))) fun t31=>
 Aaa (b2 evMul (tN 2) t31) fun t32=>
 Aaa (Aar (g5 S) 2) fun t33=>
 lF tlo base H t33 fun t34 H9=>
 Aaa (Aag call 166 [Aaj t34] H9) fun t35=>
 Aaa (b2 Ace t32 t35) fun t36=>
 k (z7 (Aae (g7 S))<| z14 t36<| stN 21 S) H9)
 (Abb (fun S=>some (g14 S))
 (Aak (Aad fun S H k=>
 k (z3 nilT<| z4 (tN 12)<| stN 21 S) H)
 (Aam .ret))
 (Aam .normal)))
 (Aak (Aam .normal)
 (Aak (Aak (Aad fun S H k=>
 k (z15 (tN 0)<| stN 21 S) H)
 (Abd 1 (Ado (Aak (Aad fun S H k=>
 Aaa (b2 Ace (g15 S) (tN 256)) fun t38=>
 k (z16 t38<| stN 21 S) H)
 (Aak (Abb (fun S=>some (g16 S))
 (Aam .normal)
 (Aam (.exit 1)))
 (Aak (Abd 2 (Aak (Aad fun S H k=>
 sA tlo base 19 H (g5 S) fun t39 H10=>
 Abz call tlo 113 [Aaj t39,Aaj (Aaj (g7 S))] H10 fun t41 H11=>
 k (z7 (Aaj (g7 S))<| z8 t41<| stN 21 S) H11)
 (Aak (Aak (Aad fun S H k=>
 Aaa (lenT (Aab (g8 S))) fun t43=>
 k (z8 (Aae (g8 S))<| z17 t43<| z18 (tN 0)<| stN 21 S) H)
 (Abd 3 (Ado (Aak (Aad fun S H k=>
 Aaa (b2 Ace (g18 S) (g17 S)) fun t45=>
 k (z19 t45<| stN 21 S) H)
 (Aak (Abb (fun S=>some (g19 S))
 (Aam .normal)
 (Aam (.exit 3)))
 (Aak (Abd 4 (Aak (Aad fun S H k=>
 k (z9 (g18 S)<| z18 (hush (g18 S))<| stN 21 S) H)
 (Aak (Aad fun S H k=>
 lA tlo base 19 H (g5 S) fun t48 H12=>
 Aaa (Aag call 117 [Aaj t48,Aaj (Aab (g7 S)),Aaj (Aab (g9 S))] H12) fun t51=>
 Aaf (Abl (Aab t51) 0) fun c13=>
 Aaf (Abl (Aaz (Aab t51) 0) 1) fun c14=>
 k (z7 (Aae (g7 S))<| z9 (Aae (g9 S))<| z10 c13<| z11 c14<| stN 21 S) H12)
 (Aak (Aad fun S H k=>
 Abf (Aab (Aab (g11 S))) true ( Abm (Aab (g1 S)) H) H fun t56 H15=>
 Abf (Aab (Aab (g11 S))) true (sA tlo base 19 H15 (g5 S) fun g16 H16=>Abm g16 H16) H15 fun t57 H17=>
 Abf (Aab (Aab (g11 S))) true ( Abm (Aaj (g10 S)) H17) H17 fun t58 H18=>
 Aap (Abw noOwnO H18)<|
 Abf (Aab (Aab (g11 S))) true (Abz call (Aah H18) 113 [Aaj t57,Aaj t58] H18 fun g19 H19=>Abm g19 H19) H18 fun t59 H20=>
 Abf (Aab (Aab (g11 S))) true ( Abm (Aab (stale (g9 S))) H20) H20 fun t60 H21=>
 Abf (Aab (Aab (g11 S))) true (Aaa (Abn 1 t59 t60) fun g22=>Abm g22 H21) H21 fun t61 H22=>
 Abf (Aab (Aab (g11 S))) true (lF tlo base H22 t61 fun g23 H23=>Abm g23 H23) H22 fun t62 H24=>
 Abf (Aab (Aab (g11 S))) true (Aaa (b2 evMul (stale t56) t62) fun g25=>Abm g25 H24) H24 fun t63 H25=>
 Abf (Aab (Aab (g11 S))) true ( Abm (Aab (stale (Aae (g1 S)))) H25) H25 fun t64 H26=>
 Abf (Aab (Aab (g11 S))) true ( Abm (Aab (stale (g8 S))) H26) H26 fun t65 H27=>
 Abf (Aab (Aab (g11 S))) true ( Abm (Aab (Aae (stale (g9 S)))) H27) H27 fun t66 H28=>
 Abf (Aab (Aab (g11 S))) true (Aaa (Abn 1 t65 t66) fun g29=>Abm g29 H28) H28 fun t67 H29=>
 Abf (Aab (Aab (g11 S))) true (lF tlo base H29 t67 fun g30 H30=>Abm g30 H30) H29 fun t68 H31=>
 Abf (Aab (Aab (g11 S))) true (Aaa (b2 evMul t64 t68) fun g32=>Abm g32 H31) H31 fun t69 H32=>
 Abf (Aab (Aab (g11 S))) true (Aaa (b2 Ace t63 t69) fun g33=>Abm g33 H32) H32 fun t70 H33=>
 Aaa (Acb (stale (Aab (Aab (g11 S)))) (Aaj t70) (tB false)) fun t71=>
 k (z1 (Aae (stale (Aae (g1 S))))<| z8 (Aae (stale (g8 S)))<| z9 (Aae (Aae (stale (g9 S))))<| z10 (Aaj (g10 S))<| z11 (Aae (g11 S))<| z20 t71<| stN 21 S) H33)
 (Abb (fun S=>some (g20 S))
 (Aak (Aad fun S H k=>
 k (z7 (g10 S)<| z10 (hush (g10 S))<| stN 21 S) H)
 (Aam (.exit 2)))
 (Aam .normal))))))
 (Aad fun S H k=>
 Aaa (b2 Abe (g18 S) (tN 1)) fun t73=>
 k (z18 t73<| stN 21 S) H)))) fuel)))
 (Aam (.exit 1)))))
 (Aad fun S H k=>
 Aaa (b2 Abe (g15 S) (tN 1)) fun t74=>
 k (z15 t74<| stN 21 S) H)))) fuel)))
 (Aak (Aad fun S H k=>
 k (z3 (g7 S)<| z4 (tN 0)<| z7 (hush (g7 S))<| stN 21 S) H)
 (Aam .ret)))))))))
def F119:FnT:=fun call tlo l H=>Aaa (C119 call tlo (Aah H) (Aal l 0,Aal l 1,Aal l 2,Aal l 4,Aal l 5,Aal l 6,Aal l 7,Aal l 8,Aal l 9,Aal l 10,Aal l 11,Aal l 12,Aal l 18,Aal l 22,Aal l 36,Aal l 37,Aal l 38,Aal l 43,Aal l 44,Aal l 45,Aal l 71,()) H) fun p=>resE p.1 (Aap (Abw Abo [p.2.1.2.2.2.1,p.2.1.2.2.2.2.1]) (some (endT (Aah H) (.tup [p.2.1.2.2.2.1,p.2.1.2.2.2.2.1]) p.2.2)))
theorem F119_eq:FEq P TC 119 F119:=fun _ _ _ _=>by kernel_rfl
end
end Go.Proofs.YtgemobbfikjmoaaGreatDoor
namespace Go.Proofs.YtgemobbfikjmoaaGreatDoor
open Go Go.Ev
set_option maxRecDepth 1000000
set_option linter.unusedVariables false
noncomputable section
def C121 (call:Abc) (tlo base:Nat):Aba (TV×TV×TV×TV×TV×TV×TV×TV×TV×TV×TV×TV×TV×TV×TV×Unit):=
 (Aak (Aad fun S H k=>
 Aap (stor S.1)<|
 let t3:=(.ptr (Aah H) 0)
 let H0:=(Aaq H (.cells (Aas S.1)))
 let t6:=(.ptr (Aah H0) 0)
 let H1:=(Aaq H0 (.cells Acr))
 k (z0 (hush S.1)<| z3 t3<| z4 t6<| z5 nilT<| z6 nilT<| z7 (tN 0)<| stN 15 S) H1)
 (Aak (Aad fun S H k=>
 lA tlo base 3 H (g3 S) fun t16 H2=>
 Aaa (Aag call 111 [Aaj t16,Aaj (Aab (g1 S))] H2) fun t18=>
 Aaf (Abl (Aab t18) 0) fun c3=>
 Aaf (Abl (Aaz (Aab t18) 0) 1) fun c4=>
 Aaf (Abl (Aaz (Aaz (Aab t18) 0) 1) 2) fun c5=>
 let t10:=(.ptr (Aah H2) 0)
 let H6:=(Aaq H2 (.cells Acr))
 Aaa (Aau tlo base 19 H6 t10 c3) fun H7=>
 k (z1 (Aae (g1 S))<| z8 t10<| z9 c4<| z10 c5<| stN 15 S) H7)
 (Aak (Aak (Aad fun S H k=>
 Aaa (neqT .int (Aab (g10 S)) (tN 0)) fun t23=>
 k (z10 (Aae (g10 S))<| z12 t23<| stN 15 S) H)
 (Abb (fun S=>some (g12 S))
 (Aak (Aad fun S H k=>
 sA tlo base 19 H (g8 S) fun t24 H8=>
 Aaa (Aau tlo base 19 H8 (g4 S) t24) fun H9=>
 k (z5 nilT<| z6 nilT<| z7 (g10 S)<| z10 (hush (g10 S))<| stN 15 S) H9)
 (Aam .ret))
 (Aam .normal)))
 (Aak (Aad fun S H k=>
 lA tlo base 3 H (g3 S) fun t27 H10=>
 Aaa (Aag call 111 [Aaj t27,Aaj (Aab (g2 S))] H10) fun t29=>
 Aaf (Abl (Aab t29) 0) fun c11=>
 Aaf (Abl (Aaz (Aab t29) 0) 1) fun c12=>
 Aaf (Abl (Aaz (Aaz (Aab t29) 0) 1) 2) fun c13=>
 let t13:=(.ptr (Aah H10) 0)
 let H14:=(Aaq H10 (.cells Acr))
 Aaa (Aau tlo base 19 H14 t13 c11) fun H15=>
 k (z2 (Aae (g2 S))<| z10 c13<| z11 c12<| stN 15 S) H15)
 (Aak (Aak (Aad fun S H k=>
 Aaa (eqlT .int (Aab (g10 S)) (tN 0)) fun t34=>
 k (z10 (Aae (g10 S))<| z13 t34<| stN 15 S) H)
 (Abb (fun S=>some (g13 S))
 (Aad fun S H k=>
 lA tlo base 19 H (g8 S) fun t35 H16=>
 Aaa (Ada 1 [0,1] [Aaj (Aaj (g9 S)),Aaj (Aaj (g11 S))] (repG [.v (.int .u64 (.ofNat 0))] 2)) fun c17=>
 Aaa (Aag call 112 [Aaj t35,Aaj (.row .full (.own 101) 1 c17)] H16) fun t39=>
 k (z9 (Aaj (g9 S))<| z10 t39<| z11 (Aaj (g11 S))<| stN 15 S) H16)
 (Aam .normal)))
 (Aak (Aak (Aad fun S H k=>
 Aaa (neqT .int (Aab (g10 S)) (tN 0)) fun t41=>
 k (z10 (Aae (g10 S))<| z14 t41<| stN 15 S) H)
 (Abb (fun S=>some (g14 S))
 (Aak (Aad fun S H k=>
 sA tlo base 19 H (g8 S) fun t42 H18=>
 Aaa (Aau tlo base 19 H18 (g4 S) t42) fun H19=>
 k (z5 nilT<| z6 nilT<| z7 (g10 S)<| z10 (hush (g10 S))<| stN 15 S) H19)
 (Aam .ret))
 (Aam .normal)))
 (Aak (Aad fun S H k=>
 sA tlo base 19 H (g8 S) fun t44 H20=>
 sA tlo base 19 H20 (g8 S) fun t45 H21=>
 Aap (Abw noOwnO H21)<|
 Abz call (Aah H21) 113 [Aaj t45,Aaj (Aaj (g1 S))] H21 fun t47 H22=>
 sA tlo base 19 H22 (stale (g8 S)) fun t48 H23=>
 Aap (Abw noOwnO H23)<|
 Abz call (Aah H23) 113 [Aaj t48,Aaj (Aaj (stale (g2 S)))] H23 fun t50 H24=>
 Aaa (Aau tlo base 19 H24 (stale (g4 S)) (stale t44)) fun H25=>
 k (z1 (Aaj (g1 S))<| z2 (Aaj (stale (g2 S)))<| z5 (stale t47)<| z6 t50<| z7 (tN 0)<| stN 15 S) H25)
 (Aam .ret))))))))
def F121:FnT:=fun call tlo l H=>Aaa (C121 call tlo (Aah H) (Aal l 0,Aal l 1,Aal l 2,Aal l 3,Aal l 6,Aal l 7,Aal l 8,Aal l 9,Aal l 10,Aal l 11,Aal l 12,Aal l 14,Aal l 23,Aal l 34,Aal l 41,()) H) fun p=>resE p.1 (Abj .take tlo (Aah p.2.2) true 19 p.2.2 p.2.1.2.2.2.2.1 fun r0 h0=>Aap (Abw Abo [r0,p.2.1.2.2.2.2.2.1,p.2.1.2.2.2.2.2.2.1,p.2.1.2.2.2.2.2.2.2.1]) (some (endT (Aah H) (.tup [r0,p.2.1.2.2.2.2.2.1,p.2.1.2.2.2.2.2.2.1,p.2.1.2.2.2.2.2.2.2.1]) h0)))
theorem F121_eq:FEq P TC 121 F121:=fun _ _ _ _=>by kernel_rfl
def C124 (call:Abc) (tlo base:Nat):Aba (TV×TV×TV×TV×TV×TV×TV×TV×TV×TV×TV×TV×TV×TV×TV×TV×Unit):=
 (Aak (Aad fun S H k=>
 Aap (stor S.1)<|
 let t4:=(.ptr (Aah H) 0)
 let H0:=(Aaq H (.cells (Aas S.1)))
 k (z0 (hush S.1)<| z4 t4<| z5 nilT<| z6 (tN 0)<| stN 16 S) H0)
 (Aak (Aad fun S H k=>
 sA tlo base 3 H (g4 S) fun t16 H1=>
 Abz call tlo 121 [Aaj t16,Aaj (Aaj (g1 S)),Aaj (Aaj (g2 S))] H1 fun t19 H2=>
 Aaf (Abl (Aab t19) 0) fun c3=>
 Aaf (Abl (Aaz (Aab t19) 0) 1) fun c4=>
 Aaf (Abl (Aaz (Aaz (Aab t19) 0) 1) 2) fun c5=>
 Aaf (Abl (Aaz (Aaz (Aaz (Aab t19) 0) 1) 2) 3) fun c6=>
 let t10:=(.ptr (Aah H2) 0)
 let H7:=(Aaq H2 (.cells Acr))
 Aaa (Aau tlo base 19 H7 t10 c3) fun H8=>
 k (z1 (Aaj (g1 S))<| z2 (Aaj (g2 S))<| z7 t10<| z8 c4<| z9 c5<| z10 c6<| stN 16 S) H8)
 (Aak (Aak (Aad fun S H k=>
 Aaa (neqT .int (Aab (g10 S)) (tN 0)) fun t25=>
 k (z10 (Aae (g10 S))<| z12 t25<| stN 16 S) H)
 (Abb (fun S=>some (g12 S))
 (Aak (Aad fun S H k=>
 k (z5 nilT<| z6 (g10 S)<| z10 (hush (g10 S))<| stN 16 S) H)
 (Aam .ret))
 (Aam .normal)))
 (Aak (Aak (Aad fun S H k=>
 Aaa (lenT (Aab (g8 S))) fun t28=>
 k (z8 (Aae (g8 S))<| z13 t28<| z14 (tN 0)<| stN 16 S) H)
 (Abd 0 (Ado (Aak (Aad fun S H k=>
 Aaa (b2 Ace (g14 S) (g13 S)) fun t30=>
 k (z15 t30<| stN 16 S) H)
 (Aak (Abb (fun S=>some (g15 S))
 (Aam .normal)
 (Aam (.exit 0)))
 (Aak (Abd 1 (Aak (Aad fun S H k=>
 k (z11 (g14 S)<| z14 (hush (g14 S))<| stN 16 S) H)
 (Aad fun S H k=>
 Adh 1 false (g8 S) H fun c9 H9=>
 Aaa (Abn 1 (Aab (stale c9)) (Aab (Aae (stale (g11 S))))) fun t37=>
 sF tlo base H9 t37 fun t38 H10=>
 Aaa (Abn 1 (Aab (stale (g9 S))) (Aab (Aae (Aae (stale (g11 S)))))) fun t41=>
 sF tlo base H10 t41 fun t42 H11=>
 Adl TC call tlo (Aab (stale (g3 S))) [Aaj t38,Aaj t42] H11 fun t43 H12=>
 Adh 1 false (stale c9) H12 fun c13 H13=>
 Aaa (Abn 1 c13 (stale (Aab (stale (g11 S))))) fun t44=>
 Aaa (Aau tlo base 1 H13 t44 (stale t43)) fun H14=>
 k (z3 (Aae (stale (g3 S)))<| z8 (Aae (stale c9))<| z9 (Aae (stale (g9 S)))<| z11 (Aae (Aae (Aae (stale (g11 S)))))<| stN 16 S) H14)))
 (Aad fun S H k=>
 Aaa (b2 Abe (g14 S) (tN 1)) fun t45=>
 k (z14 t45<| stN 16 S) H)))) fuel)))
 (Aak (Aad fun S H k=>
 lA tlo base 19 H (g7 S) fun t46 H15=>
 Aaa (Aag call 169 [Aaj t46,Aaj (Aab (g8 S))] H15) fun t48=>
 k (z5 t48<| z6 (tN 0)<| z8 (Aae (g8 S))<| stN 16 S) H15)
 (Aam .ret))))))
def F124:FnT:=fun call tlo l H=>Aaa (C124 call tlo (Aah H) (Aal l 0,Aal l 1,Aal l 2,Aal l 3,Aal l 4,Aal l 8,Aal l 9,Aal l 10,Aal l 11,Aal l 12,Aal l 13,Aal l 14,Aal l 25,Aal l 28,Aal l 29,Aal l 30,()) H) fun p=>resE p.1 (Aap (Abw Abo [p.2.1.2.2.2.2.2.1,p.2.1.2.2.2.2.2.2.1]) (some (endT (Aah H) (.tup [p.2.1.2.2.2.2.2.1,p.2.1.2.2.2.2.2.2.1]) p.2.2)))
theorem F124_eq:FEq P TC 124 F124:=fun _ _ _ _=>by kernel_rfl
def C125 (call:Abc) (tlo base:Nat):Aba (TV×TV×TV×Unit):=
 (Aak (Aad fun S H k=>
 k (z2 (tN 0)<| stN 3 S) H)
 (Aak (Aad fun S H k=>
 Aaa (b2 (evLesser false) (Aab S.1) (Aab (g1 S))) fun c0=>
 Aap (isV c0)<|
 k (z0 (Aae S.1)<| z1 (Aae (g1 S))<| z2 c0<| stN 3 S) H)
 (Aam .ret)))
def F125:FnT:=fun call tlo l H=>Aaa (C125 call tlo (Aah H) (Aal l 0,Aal l 1,Aal l 4,()) H) fun p=>resE p.1 (Aap (Abw Abo [p.2.1.2.2.1]) (some (endT (Aah H) p.2.1.2.2.1 p.2.2)))
theorem F125_eq:FEq P TC 125 F125:=fun _ _ _ _=>by kernel_rfl
def C127 (call:Abc) (tlo base:Nat):Aba (TV×TV×TV×Unit):=
 (Aak (Aad fun S H k=>
 k (z2 (tN 0)<| stN 3 S) H)
 (Aak (Aad fun S H k=>
 Aaa (b2 (evLesser true) (Aab S.1) (Aab (g1 S))) fun c0=>
 Aap (isV c0)<|
 k (z0 (Aae S.1)<| z1 (Aae (g1 S))<| z2 c0<| stN 3 S) H)
 (Aam .ret)))
def F127:FnT:=fun call tlo l H=>Aaa (C127 call tlo (Aah H) (Aal l 0,Aal l 1,Aal l 4,()) H) fun p=>resE p.1 (Aap (Abw Abo [p.2.1.2.2.1]) (some (endT (Aah H) p.2.1.2.2.1 p.2.2)))
theorem F127_eq:FEq P TC 127 F127:=fun _ _ _ _=>by kernel_rfl
def C128 (call:Abc) (tlo base:Nat):Aba (TV×TV×TV×TV×TV×TV×TV×TV×TV×TV×TV×TV×TV×Unit):=
 (Aak (Aad fun S H k=>
 Aap (stor S.1)<|
 let t1:=(.ptr (Aah H) 0)
 let H0:=(Aaq H (.cells (Aas S.1)))
 k (z0 (hush S.1)<| z1 t1<| z2 (tB false)<| stN 13 S) H0)
 (Aak (Aad fun S H k=>
 Aaa (Aar (g1 S) 0) fun t9=>
 lF tlo base H t9 fun t10 H1=>
 Aaa (Aar (g1 S) 1) fun t11=>
 lF tlo base H1 t11 fun t12 H2=>
 Aaa (b2 evMul t10 t12) fun t13=>
 Aaa (b2 evShl (.v (.int .u64 (.ofNat 1))) t13) fun t14=>
 Aaa (b2 Acj t14 (.v (.int .u64 (.ofNat 1)))) fun t15=>
 Aaa (Aar (g1 S) 2) fun t16=>
 lF tlo base H2 t16 fun t17 H3=>
 Aaa (b2 Adc t15 t17) fun t18=>
 k (z3 t18<| z4 (.v (.int .u64 (.ofNat 0)))<| stN 13 S) H3)
 (Aak (Aak (Aad fun S H k=>
 Aaa (Aag call 100 [Aaj (Aab (g3 S))] H) fun t20=>
 Aaa (lenT t20) fun t21=>
 k (z3 (Aae (g3 S))<| z8 t20<| z9 t21<| z10 (tN 0)<| stN 13 S) H)
 (Abd 0 (Ado (Aak (Aad fun S H k=>
 Aaa (b2 Ace (g10 S) (g9 S)) fun t23=>
 k (z11 t23<| stN 13 S) H)
 (Aak (Abb (fun S=>some (g11 S))
 (Aam .normal)
 (Aam (.exit 0)))
 (Aak (Abd 1 (Aak (Aad fun S H k=>
 Aaa (Abn 1 (g8 S) (g10 S)) fun t24=>
 sF tlo base H t24 fun t25 H4=>
 k (z5 t25<| stN 13 S) H4)
 (Aak (Aad fun S H k=>
 Aaa (Aar (g1 S) 0) fun t27=>
 lF tlo base H t27 fun t28 H5=>
 Aaa (b2 evRem (Aab (g5 S)) t28) fun t29=>
 Aaa (Aar (g1 S) 0) fun t31=>
 lF tlo base H5 t31 fun t32 H6=>
 Aaa (b2 evQuo (Aab (Aae (g5 S))) t32) fun t33=>
 k (z5 (Aae (Aae (g5 S)))<| z6 t29<| z7 t33<| stN 13 S) H6)
 (Aak (Aad fun S H k=>
 Aaa (Aar (g1 S) 0) fun t36=>
 lF tlo base H t36 fun t37 H7=>
 Aaa (b2 Acj t37 (tN 1)) fun t38=>
 Aaa (b2 Acj t38 (Aab (Aae (g6 S)))) fun t40=>
 Aaa (Aar (g1 S) 1) fun t41=>
 lF tlo base H7 t41 fun t42 H8=>
 Aaa (b2 Acj t42 (tN 1)) fun t43=>
 Aaa (b2 Acj t43 (Aab (Aae (g7 S)))) fun t45=>
 Aaa (b2 (evLesser false) (Aab (g6 S)) (Aab (g7 S))) fun c9=>
 Aaa (b2 (evLesser false) c9 t40) fun c10=>
 Aaa (b2 (evLesser false) c10 t45) fun c11=>
 Aap (isV c11)<|
 Aaa (eqlT .int c11 (tN 0)) fun t47=>
 k (z6 (Aae (Aae (g6 S)))<| z7 (Aae (Aae (g7 S)))<| z12 t47<| stN 13 S) H8)
 (Abb (fun S=>some (g12 S))
 (Aad fun S H k=>
 Aaa (b2 evShl (.v (.int .u64 (.ofNat 1))) (Aab (g5 S))) fun t50=>
 Aaa (b2 evOr (Aab (g4 S)) t50) fun t51=>
 k (z4 t51<| z5 (Aae (g5 S))<| stN 13 S) H)
 (Aam .normal))))))
 (Aad fun S H k=>
 Aaa (b2 Abe (g10 S) (tN 1)) fun t52=>
 k (z10 t52<| stN 13 S) H)))) fuel)))
 (Aak (Aad fun S H k=>
 Aaa (Aar (g1 S) 2) fun t53=>
 lF tlo base H t53 fun t54 H12=>
 Aaa (neqT .int t54 (.v (.int .u64 (.ofNat 0)))) fun t55=>
 gB t55 true (Aar (g1 S) 2) H12 fun t57 H13=>
 Abf (Aab t55) true (lF tlo base H13 t57 fun g14 H14=>Abm g14 H14) H13 fun t58 H15=>
 gB t55 true (Aar (g1 S) 2) H15 fun t59 H16=>
 Abf (Aab t55) true (lF tlo base H16 t59 fun g17 H17=>Abm g17 H17) H16 fun t60 H18=>
 gB t55 true (b1 evNeg t60) H18 fun t61 H19=>
 gB t55 true (b2 evAnd t58 t61) H19 fun t62 H20=>
 gB t55 true (Aar (g1 S) 2) H20 fun t63 H21=>
 Abf (Aab t55) true (sF tlo base H21 t63 fun g22 H22=>Abm g22 H22) H21 fun t64 H23=>
 Abf (Aab t55) true (Aap (Abw pass [Aaj (g1 S)])<| Abm (.fn (.func 171) [] [Aaj (g1 S)]) H23) H23 fun t65 H24=>
 Aap (Abw noOwnO H24)<|
 Abf (Aab t55) true (Abz call (Aah H24) 170 [Aaj t62,Aaj t64,Aaj t65] H24 fun g25 H25=>Abm g25 H25) H24 fun t66 H26=>
 gB t55 true (Aar (stale (Aaj (g1 S))) 2) H26 fun t67 H27=>
 Abf (Aab t55) true (lF tlo base H27 t67 fun g28 H28=>Abm g28 H28) H27 fun t68 H29=>
 gB t55 true (eqlT .int t66 t68) H29 fun t69 H30=>
 Aaa (Acb (stale (Aab t55)) (Aaj t69) (tB false)) fun t70=>
 gV t70 true (Aaj (stale (g4 S))) H30 fun t72 H31=>
 gV t70 true (Aaj (stale (g3 S))) H31 fun t73 H32=>
 Abf (Aab t70) true (sA tlo base 19 H32 (stale (Aaj (g1 S))) fun g33 H33=>Abm g33 H33) H32 fun t74 H34=>
 Abf (Aab t70) true (Aap (Abw pass [Aaj t74])<| Abm (.fn (.func 172) [Aaj t74] []) H34) H34 fun t75 H35=>
 Abf (Aab t70) true (Abz call tlo 170 [Aaj t72,Aaj t73,Aaj t75] H35 fun g36 H36=>Abm g36 H36) H35 fun t76 H37=>
 gV t70 true (Aab (stale (Aaj (stale (g3 S))))) H37 fun t77 H38=>
 gB t70 true (eqlT .int t76 t77) H38 fun t78 H39=>
 Aaa (Acb (stale (Aab t70)) (Aaj t78) (tB false)) fun t79=>
 k (z1 (Aaj (g1 S))<| z2 t79<| z3 (Aae (stale (Aaj (stale (g3 S)))))<| z4 (Aaj (stale (g4 S)))<| stN 13 S) H39)
 (Aam .ret)))))
def F128:FnT:=fun call tlo l H=>Aaa (C128 call tlo (Aah H) (Aal l 0,Aal l 1,Aal l 2,Aal l 3,Aal l 4,Aal l 6,Aal l 7,Aal l 8,Aal l 20,Aal l 21,Aal l 22,Aal l 23,Aal l 47,()) H) fun p=>resE p.1 (Aap (Abw Abo [p.2.1.2.2.1]) (some (endT (Aah H) p.2.1.2.2.1 p.2.2)))
theorem F128_eq:FEq P TC 128 F128:=fun _ _ _ _=>by kernel_rfl
def C132 (call:Abc) (tlo base:Nat):Aba (TV×TV×TV×TV×TV×TV×TV×TV×Unit):=
 (Aak (Aad fun S H k=>
 Aap (stor S.1)<|
 let t3:=(.ptr (Aah H) 0)
 let H0:=(Aaq H (.cells (Aas S.1)))
 Aap (stor (g2 S))<|
 let t5:=(.ptr (Aah H0) 0)
 let H1:=(Aaq H0 (.cells (Aas (g2 S))))
 k (z0 (hush S.1)<| z2 (hush (g2 S))<| z3 t3<| z4 t5<| stN 8 S) H1)
 (Aak (Aad fun S H k=>
 lA tlo base 3 H (g3 S) fun t9 H2=>
 Aaa (Aag call 63 [Aaj t9] H2) fun t10=>
 let t6:=(.ptr (Aah H2) 0)
 let H3:=(Aaq H2 (.cells [nilT]))
 Aaa (Aau tlo base 1 H3 t6 t10) fun H4=>
 k (z5 t6<| stN 8 S) H4)
 (Aak (Aad fun S H k=>
 lA tlo base 3 H (g3 S) fun t11 H5=>
 Aaa (Aag call 56 [Aaj t11] H5) fun t12=>
 let t7:=(.ptr (Aah H5) 0)
 let H6:=(Aaq H5 (.cells [nilT]))
 Aaa (Aau tlo base 1 H6 t7 t12) fun H7=>
 k (z6 t7<| stN 8 S) H7)
 (Aak (Aad fun S H k=>
 let t8:=(.ptr (Aah H) 0)
 let H8:=(Aaq H (.cells [.v .nilFunc]))
 k (z7 t8<| stN 8 S) H8)
 (Aak (Aad fun S H k=>
 Aap (Abw pass [Aaj (g6 S),Aaj (g4 S),Aaj (g7 S),Aaj (g5 S)])<|
 Aaa (Aau tlo base 1 H (Aaj (g7 S)) (.fn (.func 175) [] [Aaj (g6 S),Aaj (g4 S),Aaj (g7 S),Aaj (g5 S)])) fun H9=>
 k (z4 (Aaj (g4 S))<| z5 (Aaj (g5 S))<| z6 (Aaj (g6 S))<| z7 (Aaj (g7 S))<| stN 8 S) H9)
 (Aad fun S H k=>
 lF tlo base H (g7 S) fun t14 H10=>
 Adl TC call tlo t14 [tN 0,Aaj (Aaj (g1 S)),.v (.int .u64 (.ofNat 0)),nilT] H10 fun t16 H11=>
 k (z1 (Aaj (g1 S))<| stN 8 S) H11))))))
def F132:FnT:=fun call tlo l H=>Aaa (C132 call tlo (Aah H) (Aal l 0,Aal l 1,Aal l 2,Aal l 3,Aal l 5,Aal l 6,Aal l 7,Aal l 8,()) H) fun p=>resE p.1 (Aap (Abw Abo []) (some (endT (Aah H) (.tup []) p.2.2)))
theorem F132_eq:FEq P TC 132 F132:=fun _ _ _ _=>by kernel_rfl
def C133 (call:Abc) (tlo base:Nat):Aba (TV×TV×Unit):=
 (Aad fun S H k=>
 Abj .take tlo base false 1 H (g1 S) fun t3 H0=>
 Aaa (Ada 1 [0] [Aaj (Aaj S.1)] (repG [nilT] 1)) fun c1=>
 Acq tlo H0 31 1 24 t3 (.row .full (.own 31) 1 c1) fun t6 H2=>
 Aaa (Aau tlo base 1 H2 (stale (g1 S)) t6) fun H3=>
 k (z0 (Aaj S.1)<| stN 2 S) H3)
def F133:FnT:=fun call tlo l H=>Aaa (C133 call tlo (Aah H) (Aal l 0,Aal l 1,()) H) fun p=>resE p.1 (Aap (Abw Abo []) (some (endT (Aah H) (.tup []) p.2.2)))
theorem F133_eq:FEq P TC 133 F133:=fun _ _ _ _=>by kernel_rfl
def C134 (call:Abc) (tlo base:Nat):Aba (TV×TV×TV×TV×TV×TV×TV×TV×Unit):=
 (Aak (Aad fun S H k=>
 k (z2 (tN 0)<| stN 8 S) H)
 (Aak (Aak (Aad fun S H k=>
 Aaa (lenT (Aab S.1)) fun t7=>
 k (z0 (Aae S.1)<| z4 t7<| z5 (tN 0)<| stN 8 S) H)
 (Abd 0 (Ado (Aak (Aad fun S H k=>
 Aaa (b2 Ace (g5 S) (g4 S)) fun t9=>
 k (z6 t9<| stN 8 S) H)
 (Aak (Abb (fun S=>some (g6 S))
 (Aam .normal)
 (Aam (.exit 0)))
 (Aak (Abd 1 (Aak (Aad fun S H k=>
 k (z3 (g5 S)<| z5 (hush (g5 S))<| stN 8 S) H)
 (Aak (Aad fun S H k=>
 Aaa (Abn 2 (Aab S.1) (Aab (g3 S))) fun t14=>
 sA tlo base 2 H t14 fun t15 H0=>
 Adl TC call tlo (Aab (g1 S)) [Aaj t15] H0 fun t16 H1=>
 k (z0 (Aae S.1)<| z1 (Aae (g1 S))<| z3 (Aae (g3 S))<| z7 t16<| stN 8 S) H1)
 (Abb (fun S=>some (g7 S))
 (Aak (Aad fun S H k=>
 k (z2 (g3 S)<| z3 (hush (g3 S))<| stN 8 S) H)
 (Aam .ret))
 (Aam .normal)))))
 (Aad fun S H k=>
 Aaa (b2 Abe (g5 S) (tN 1)) fun t18=>
 k (z5 t18<| stN 8 S) H)))) fuel)))
 (Aak (Aad fun S H k=>
 k (z2 (.v (.int .i64 (.negSucc 0)))<| stN 8 S) H)
 (Aam .ret))))
def F134:FnT:=fun call tlo l H=>Aaa (C134 call tlo (Aah H) (Aal l 0,Aal l 1,Aal l 4,Aal l 5,Aal l 7,Aal l 8,Aal l 9,Aal l 16,()) H) fun p=>resE p.1 (Aap (Abw Abo [p.2.1.2.2.1]) (some (endT (Aah H) p.2.1.2.2.1 p.2.2)))
theorem F134_eq:FEq P TC 134 F134:=fun _ _ _ _=>by kernel_rfl
def C135 (call:Abc) (tlo base:Nat):Aba (TV×TV×TV×TV×TV×TV×TV×TV×TV×Unit):=
 (Aak (Aad fun S H k=>
 Aap (stor (g1 S))<|
 let t3:=(.ptr (Aah H) 0)
 let H0:=(Aaq H (.cells (Aas (g1 S))))
 k (z1 (hush (g1 S))<| z2 t3<| z3 (tN 0)<| stN 9 S) H0)
 (Aak (Aak (Aad fun S H k=>
 Aaa (lenT (Aab S.1)) fun t7=>
 k (z0 (Aae S.1)<| z5 t7<| z6 (tN 0)<| stN 9 S) H)
 (Abd 0 (Ado (Aak (Aad fun S H k=>
 Aaa (b2 Ace (g6 S) (g5 S)) fun t9=>
 k (z7 t9<| stN 9 S) H)
 (Aak (Abb (fun S=>some (g7 S))
 (Aam .normal)
 (Aam (.exit 0)))
 (Aak (Abd 1 (Aak (Aad fun S H k=>
 k (z4 (g6 S)<| z6 (hush (g6 S))<| stN 9 S) H)
 (Aak (Aad fun S H k=>
 lA tlo base 2 H (g2 S) fun t11 H1=>
 Aaa (Abn 2 (Aab S.1) (Aab (g4 S))) fun t14=>
 lA tlo base 2 H1 t14 fun t15 H2=>
 Aaa (eqlT (.ints 2) t11 t15) fun t16=>
 k (z0 (Aae S.1)<| z4 (Aae (g4 S))<| z8 t16<| stN 9 S) H2)
 (Abb (fun S=>some (g8 S))
 (Aak (Aad fun S H k=>
 k (z3 (g4 S)<| z4 (hush (g4 S))<| stN 9 S) H)
 (Aam .ret))
 (Aam .normal)))))
 (Aad fun S H k=>
 Aaa (b2 Abe (g6 S) (tN 1)) fun t18=>
 k (z6 t18<| stN 9 S) H)))) fuel)))
 (Aak (Aad fun S H k=>
 k (z3 (.v (.int .i64 (.negSucc 0)))<| stN 9 S) H)
 (Aam .ret))))
def F135:FnT:=fun call tlo l H=>Aaa (C135 call tlo (Aah H) (Aal l 0,Aal l 1,Aal l 3,Aal l 4,Aal l 5,Aal l 7,Aal l 8,Aal l 9,Aal l 16,()) H) fun p=>resE p.1 (Aap (Abw Abo [p.2.1.2.2.2.1]) (some (endT (Aah H) p.2.1.2.2.2.1 p.2.2)))
theorem F135_eq:FEq P TC 135 F135:=fun _ _ _ _=>by kernel_rfl
def C136 (call:Abc) (tlo base:Nat):Aba (TV×TV×TV×TV×TV×TV×TV×TV×TV×TV×Unit):=
 (Aak (Aad fun S H k=>
 k (z1 nilT<| stN 10 S) H)
 (Aak (Aak (Aad fun S H k=>
 Aaa (lenT (Aab S.1)) fun t7=>
 Aaa (b2 Ace t7 (tN 2)) fun t8=>
 k (z0 (Aae S.1)<| z5 t8<| stN 10 S) H)
 (Abb (fun S=>some (g5 S))
 (Aak (Aad fun S H k=>
 k (z0 (hush S.1)<| z1 S.1<| stN 10 S) H)
 (Aam .ret))
 (Aam .normal)))
 (Aak (Aak (Aad fun S H k=>
 k (z2 (tN 1)<| stN 10 S) H)
 (Abd 0 (Ado (Aak (Aak (Aad fun S H k=>
 Aaa (lenT (Aab S.1)) fun t12=>
 Aaa (b2 Ace (Aab (g2 S)) t12) fun t13=>
 k (z0 (Aae S.1)<| z2 (Aae (g2 S))<| z6 t13<| stN 10 S) H)
 (Abb (fun S=>some (g6 S))
 (Aam .normal)
 (Aam (.exit 0))))
 (Aak (Abd 1 (Aak (Aad fun S H k=>
 Aaa (Abn 2 (Aab S.1) (Aab (g2 S))) fun t18=>
 lA tlo base 2 H t18 fun t19 H0=>
 Aaa (b2 Acj (Aab (Aae (g2 S))) (tN 1)) fun t22=>
 Aaa (Abn 2 (Aab (Aae S.1)) t22) fun t23=>
 lA tlo base 2 H0 t23 fun t24 H1=>
 Aaa (eqlT (.ints 2) t19 t24) fun t25=>
 k (z0 (Aae (Aae S.1))<| z2 (Aae (Aae (g2 S)))<| z7 t25<| stN 10 S) H1)
 (Abb (fun S=>some (g7 S))
 (Aak (Aad fun S H k=>
 Aaa (cutT 2 (Aab S.1) (some (Aab (g2 S))) none none) fun t28=>
 k (z0 (Aae S.1)<| z2 (Aae (g2 S))<| z3 t28<| stN 10 S) H)
 (Aak (Aak (Aad fun S H k=>
 k (z4 (tN 1)<| stN 10 S) H)
 (Abd 2 (Ado (Aak (Aak (Aad fun S H k=>
 Aaa (lenT (Aab (g3 S))) fun t31=>
 Aaa (b2 Ace (Aab (g4 S)) t31) fun t32=>
 k (z3 (Aae (g3 S))<| z4 (Aae (g4 S))<| z8 t32<| stN 10 S) H)
 (Abb (fun S=>some (g8 S))
 (Aam .normal)
 (Aam (.exit 2))))
 (Aak (Abd 3 (Aak (Aad fun S H k=>
 Aaa (Abn 2 (Aab (g3 S)) (Aab (g4 S))) fun t37=>
 lA tlo base 2 H t37 fun t38 H2=>
 Aaa (b2 Acj (Aab (Aae (g4 S))) (tN 1)) fun t41=>
 Aaa (Abn 2 (Aab (Aae (g3 S))) t41) fun t42=>
 lA tlo base 2 H2 t42 fun t43 H3=>
 Aaa (neqT (.ints 2) t38 t43) fun t44=>
 k (z3 (Aae (Aae (g3 S)))<| z4 (Aae (Aae (g4 S)))<| z9 t44<| stN 10 S) H3)
 (Abb (fun S=>some (g9 S))
 (Aak (Aad fun S H k=>
 Adh 2 true S.1 H fun c4 H4=>
 Aaa (Abn 2 (Aab (stale (g3 S))) (Aab (stale (g4 S)))) fun t49=>
 sA tlo base 2 H4 t49 fun t50 H5=>
 Adh 2 true c4 H5 fun c6 H6=>
 Aaa (Abn 2 c6 (Aab (stale (g2 S)))) fun t51=>
 Aaa (Aau tlo base 2 H6 t51 (stale t50)) fun H7=>
 k (z0 c4<| z2 (Aae (stale (g2 S)))<| z3 (Aae (stale (g3 S)))<| z4 (Aae (stale (g4 S)))<| stN 10 S) H7)
 (Aad fun S H k=>
 Aaa (b2 Abe (Aab (g2 S)) (tN 1)) fun t53=>
 k (z2 t53<| stN 10 S) H))
 (Aam .normal))))
 (Aad fun S H k=>
 Aaa (b2 Abe (Aab (g4 S)) (tN 1)) fun t34=>
 k (z4 t34<| stN 10 S) H))) fuel)))
 (Aak (Aad fun S H k=>
 Aaa (cutT 2 (Aab S.1) (some (Aab (g2 S))) none none) fun t56=>
 Adh 2 true t56 H fun c8 H8=>
 Aap (vecIs c8 2)<|
 Aaa (clearT tlo H8 zc71 c8) fun H9=>
 k (z0 (Aae S.1)<| z2 (Aae (g2 S))<| stN 10 S) H9)
 (Aak (Aad fun S H k=>
 Aaa (cutT 2 (Aab S.1) none (some (Aab (g2 S))) none) fun t59=>
 k (z0 (Aae S.1)<| z1 t59<| z2 (Aae (g2 S))<| stN 10 S) H)
 (Aam .ret)))))
 (Aam .normal))))
 (Aad fun S H k=>
 Aaa (b2 Abe (Aab (g2 S)) (tN 1)) fun t15=>
 k (z2 t15<| stN 10 S) H))) fuel)))
 (Aak (Aad fun S H k=>
 k (z0 (hush S.1)<| z1 S.1<| stN 10 S) H)
 (Aam .ret)))))
def F136:FnT:=fun call tlo l H=>Aaa (C136 call tlo (Aah H) (Aal l 0,Aal l 2,Aal l 3,Aal l 4,Aal l 5,Aal l 8,Aal l 13,Aal l 25,Aal l 32,Aal l 44,()) H) fun p=>resE p.1 (Aap (Abw Abo [p.2.1.2.1]) (some (endT (Aah H) p.2.1.2.1 p.2.2)))
theorem F136_eq:FEq P TC 136 F136:=fun _ _ _ _=>by kernel_rfl
def C137 (call:Abc) (tlo base:Nat):Aba (TV×TV×TV×TV×TV×TV×TV×TV×Unit):=
 (Aak (Aad fun S H k=>
 k (z2 (tN 0)<| stN 8 S) H)
 (Aak (Aak (Aad fun S H k=>
 Aaa (lenT (Aab S.1)) fun t7=>
 k (z0 (Aae S.1)<| z4 t7<| z5 (tN 0)<| stN 8 S) H)
 (Abd 0 (Ado (Aak (Aad fun S H k=>
 Aaa (b2 Ace (g5 S) (g4 S)) fun t9=>
 k (z6 t9<| stN 8 S) H)
 (Aak (Abb (fun S=>some (g6 S))
 (Aam .normal)
 (Aam (.exit 0)))
 (Aak (Abd 1 (Aak (Aad fun S H k=>
 k (z3 (g5 S)<| z5 (hush (g5 S))<| stN 8 S) H)
 (Aak (Aad fun S H k=>
 Aaa (Abn 1 (Aab S.1) (Aab (g3 S))) fun t14=>
 lF tlo base H t14 fun t15 H0=>
 Aaa (eqlT .int (Aab (g1 S)) t15) fun t16=>
 k (z0 (Aae S.1)<| z1 (Aae (g1 S))<| z3 (Aae (g3 S))<| z7 t16<| stN 8 S) H0)
 (Abb (fun S=>some (g7 S))
 (Aak (Aad fun S H k=>
 k (z2 (g3 S)<| z3 (hush (g3 S))<| stN 8 S) H)
 (Aam .ret))
 (Aam .normal)))))
 (Aad fun S H k=>
 Aaa (b2 Abe (g5 S) (tN 1)) fun t18=>
 k (z5 t18<| stN 8 S) H)))) fuel)))
 (Aak (Aad fun S H k=>
 k (z2 (.v (.int .i64 (.negSucc 0)))<| stN 8 S) H)
 (Aam .ret))))
def F137:FnT:=fun call tlo l H=>Aaa (C137 call tlo (Aah H) (Aal l 0,Aal l 1,Aal l 4,Aal l 5,Aal l 7,Aal l 8,Aal l 9,Aal l 16,()) H) fun p=>resE p.1 (Aap (Abw Abo [p.2.1.2.2.1]) (some (endT (Aah H) p.2.1.2.2.1 p.2.2)))
theorem F137_eq:FEq P TC 137 F137:=fun _ _ _ _=>by kernel_rfl
def C138 (call:Abc) (tlo base:Nat):Aba (TV×TV×TV×TV×TV×TV×TV×TV×Unit):=
 (Aak (Aad fun S H k=>
 k (z2 (tN 0)<| stN 8 S) H)
 (Aak (Aak (Aad fun S H k=>
 Aaa (lenT (Aab S.1)) fun t7=>
 k (z0 (Aae S.1)<| z4 t7<| z5 (tN 0)<| stN 8 S) H)
 (Abd 0 (Ado (Aak (Aad fun S H k=>
 Aaa (b2 Ace (g5 S) (g4 S)) fun t9=>
 k (z6 t9<| stN 8 S) H)
 (Aak (Abb (fun S=>some (g6 S))
 (Aam .normal)
 (Aam (.exit 0)))
 (Aak (Abd 1 (Aak (Aad fun S H k=>
 k (z3 (g5 S)<| z5 (hush (g5 S))<| stN 8 S) H)
 (Aak (Aad fun S H k=>
 Aaa (Abn 1 (Aab S.1) (Aab (g3 S))) fun t14=>
 sF tlo base H t14 fun t15 H0=>
 Adl TC call tlo (Aab (g1 S)) [Aaj t15] H0 fun t16 H1=>
 k (z0 (Aae S.1)<| z1 (Aae (g1 S))<| z3 (Aae (g3 S))<| z7 t16<| stN 8 S) H1)
 (Abb (fun S=>some (g7 S))
 (Aak (Aad fun S H k=>
 k (z2 (g3 S)<| z3 (hush (g3 S))<| stN 8 S) H)
 (Aam .ret))
 (Aam .normal)))))
 (Aad fun S H k=>
 Aaa (b2 Abe (g5 S) (tN 1)) fun t18=>
 k (z5 t18<| stN 8 S) H)))) fuel)))
 (Aak (Aad fun S H k=>
 k (z2 (.v (.int .i64 (.negSucc 0)))<| stN 8 S) H)
 (Aam .ret))))
def F138:FnT:=fun call tlo l H=>Aaa (C138 call tlo (Aah H) (Aal l 0,Aal l 1,Aal l 4,Aal l 5,Aal l 7,Aal l 8,Aal l 9,Aal l 16,()) H) fun p=>resE p.1 (Aap (Abw Abo [p.2.1.2.2.1]) (some (endT (Aah H) p.2.1.2.2.1 p.2.2)))
theorem F138_eq:FEq P TC 138 F138:=fun _ _ _ _=>by kernel_rfl
def C143 (call:Abc) (tlo base:Nat):Aba (TV×TV×TV×Unit):=
 (Aak (Aad fun S H k=>
 k (z1 nilT<| stN 3 S) H)
 (Aak (Aak (Aad fun S H k=>
 Aaa (eqlT .slice (Aab S.1) nilT) fun t4=>
 k (z0 (Aae S.1)<| z2 t4<| stN 3 S) H)
 (Abb (fun S=>some (g2 S))
 (Aak (Aad fun S H k=>
 k (z1 nilT<| stN 3 S) H)
 (Aam .ret))
 (Aam .normal)))
 (Aak (Aad fun S H k=>
 Aaa (Ada 2 [] [] (repG [.agg zc71] 0)) fun c0=>
 Acq tlo H 71 2 16 (.row .full (.own 71) 2 c0) (Aab S.1) fun t7 H1=>
 k (z0 (Aae S.1)<| z1 t7<| stN 3 S) H1)
 (Aam .ret))))
def F143:FnT:=fun call tlo l H=>Aaa (C143 call tlo (Aah H) (Aal l 0,Aal l 2,Aal l 4,()) H) fun p=>resE p.1 (Aap (Abw Abo [p.2.1.2.1]) (some (endT (Aah H) p.2.1.2.1 p.2.2)))
theorem F143_eq:FEq P TC 143 F143:=fun _ _ _ _=>by kernel_rfl
def C147 (call:Abc) (tlo base:Nat):Aba (TV×TV×TV×TV×TV×TV×TV×TV×TV×TV×Unit):=
 (Aak (Aad fun S H k=>
 k (z2 (tN 0)<| stN 10 S) H)
 (Aak (Aad fun S H k=>
 Aaa (Aag call 176 [Aaj (Aab S.1)] H) fun t8=>
 k (z0 (Aae S.1)<| z3 t8<| stN 10 S) H)
 (Aak (Aad fun S H k=>
 Aaa (Aag call 176 [Aaj (Aab (g1 S))] H) fun t10=>
 k (z1 (Aae (g1 S))<| z4 t10<| stN 10 S) H)
 (Aak (Aak (Aad fun S H k=>
 k (z3 (Aaj (g3 S))<| z5 (Aaj (g3 S))<| stN 10 S) H)
 (Abb (fun S=>some (g5 S))
 (Aak (Aak (Aad fun S H k=>
 k (z4 (Aaj (g4 S))<| z6 (Aaj (g4 S))<| stN 10 S) H)
 (Abb (fun S=>some (g6 S))
 (Aak (Aad fun S H k=>
 k (z2 (tN 0)<| stN 10 S) H)
 (Aam .ret))
 (Aam .normal)))
 (Aak (Aad fun S H k=>
 k (z2 (.v (.int .i64 (.negSucc 0)))<| stN 10 S) H)
 (Aam .ret)))
 (Aam .normal)))
 (Aak (Aak (Aad fun S H k=>
 k (z4 (Aaj (g4 S))<| z7 (Aaj (g4 S))<| stN 10 S) H)
 (Abb (fun S=>some (g7 S))
 (Aak (Aad fun S H k=>
 k (z2 (tN 1)<| stN 10 S) H)
 (Aam .ret))
 (Aam .normal)))
 (Aak (Aak (Aad fun S H k=>
 Aaa (b2 Ace (Aab S.1) (Aab (g1 S))) fun t16=>
 k (z0 (Aae S.1)<| z1 (Aae (g1 S))<| z8 t16<| stN 10 S) H)
 (Abb (fun S=>some (g8 S))
 (Aak (Aad fun S H k=>
 k (z2 (.v (.int .i64 (.negSucc 0)))<| stN 10 S) H)
 (Aam .ret))
 (Aam .normal)))
 (Aak (Aak (Aad fun S H k=>
 Aaa (b2 evGtr (Aab S.1) (Aab (g1 S))) fun t19=>
 k (z0 (Aae S.1)<| z1 (Aae (g1 S))<| z9 t19<| stN 10 S) H)
 (Abb (fun S=>some (g9 S))
 (Aak (Aad fun S H k=>
 k (z2 (tN 1)<| stN 10 S) H)
 (Aam .ret))
 (Aam .normal)))
 (Aak (Aad fun S H k=>
 k (z2 (tN 0)<| stN 10 S) H)
 (Aam .ret)))))))))
def F147:FnT:=fun call tlo l H=>Aaa (C147 call tlo (Aah H) (Aal l 0,Aal l 1,Aal l 4,Aal l 5,Aal l 6,Aal l 11,Aal l 12,Aal l 13,Aal l 16,Aal l 19,()) H) fun p=>resE p.1 (Aap (Abw Abo [p.2.1.2.2.1]) (some (endT (Aah H) p.2.1.2.2.1 p.2.2)))
theorem F147_eq:FEq P TC 147 F147:=fun _ _ _ _=>by kernel_rfl
def C148 (call:Abc) (tlo base:Nat):Aba (TV×TV×TV×TV×Unit):=
 (Aak (Aad fun S H k=>
 Aap (stor S.1)<|
 let t2:=(.ptr (Aah H) 0)
 let H0:=(Aaq H (.cells (Aas S.1)))
 k (z0 (hush S.1)<| z2 t2<| z3 (tB false)<| stN 4 S) H0)
 (Aak (Aad fun S H k=>
 lF tlo base H (g1 S) fun t4 H1=>
 Aaa (Abk 2 1 (g2 S) (tN 0)) fun t5=>
 lF tlo base H1 t5 fun t6 H2=>
 Aaa (Aag call 64 [Aaj t4,Aaj t6] H2) fun t7=>
 Aaa (b1 evNot t7) fun t8=>
 Abf (Aab t8) true (lF tlo base H2 (g1 S) fun g3 H3=>Abm g3 H3) H2 fun t10 H4=>
 gB t8 true (Abk 2 1 (g2 S) (tN 1)) H4 fun t11 H5=>
 Abf (Aab t8) true (lF tlo base H5 t11 fun g6 H6=>Abm g6 H6) H5 fun t12 H7=>
 gB t8 true (Aag call 64 [Aaj t10,Aaj t12] H7) H7 fun t13 H8=>
 gB t8 true (b1 evNot t13) H8 fun t14 H9=>
 Aaa (Acb (Aab t8) (Aaj t14) (tB false)) fun t15=>
 k (z3 t15<| stN 4 S) H9)
 (Aam .ret)))
def F148:FnT:=fun call tlo l H=>Aaa (C148 call tlo (Aah H) (Aal l 0,Aal l 1,Aal l 2,Aal l 3,()) H) fun p=>resE p.1 (Aap (Abw Abo [p.2.1.2.2.2.1]) (some (endT (Aah H) p.2.1.2.2.2.1 p.2.2)))
theorem F148_eq:FEq P TC 148 F148:=fun _ _ _ _=>by kernel_rfl
def C150 (call:Abc) (tlo base:Nat):Aba (TV×TV×Unit):=
 (Aak (Aad fun S H k=>
 k (z1 (tN 0)<| stN 2 S) H)
 (Aak (Abb (fun S=>some (tB false))
 (Aak (Aad fun S H k=>
 Aaa (b1 (evConv .u32) (Aab S.1)) fun t4=>
 Aaa (Aag call 186 [Aaj t4] H) fun t5=>
 k (z0 (Aae S.1)<| z1 t5<| stN 2 S) H)
 (Aam .ret))
 (Aam .normal))
 (Aak (Aad fun S H k=>
 Aaa (Aag call 187 [Aaj (Aab S.1)] H) fun t7=>
 k (z0 (Aae S.1)<| z1 t7<| stN 2 S) H)
 (Aam .ret))))
def F150:FnT:=fun call tlo l H=>Aaa (C150 call tlo (Aah H) (Aal l 0,Aal l 2,()) H) fun p=>resE p.1 (Aap (Abw Abo [p.2.1.2.1]) (some (endT (Aah H) p.2.1.2.1 p.2.2)))
theorem F150_eq:FEq P TC 150 F150:=fun _ _ _ _=>by kernel_rfl
end
end Go.Proofs.YtgemobbfikjmoaaGreatDoor
namespace Go.Proofs.YtgemobbfikjmoaaGreatDoor
open Go Go.Ev
set_option maxRecDepth 1000000
set_option linter.unusedVariables false
noncomputable section
def C151 (call:Abc) (tlo base:Nat):Aba (TV×TV×TV×TV×TV×TV×TV×TV×TV×TV×TV×TV×TV×TV×TV×TV×TV×TV×TV×TV×TV×TV×TV×TV×Unit):=
 (Aak (Aad fun S H k=>
 k (z5 (tB true)<| stN 24 S) H)
 (Aak (Aad fun S H k=>
 k (z6 (tB true)<| stN 24 S) H)
 (Abd 0 (Ado (Abd 1 (Aak (Aad fun S H k=>
 Aaa (b2 Acj (Aab (g2 S)) (Aab (g1 S))) fun t23=>
 k (z1 (Aae (g1 S))<| z2 (Aae (g2 S))<| z7 t23<| stN 24 S) H)
 (Aak (Aak (Aad fun S H k=>
 Aaa (b2 evLeq (Aab (g7 S)) (tN 12)) fun t25=>
 k (z7 (Aae (g7 S))<| z16 t25<| stN 24 S) H)
 (Abb (fun S=>some (g16 S))
 (Aak (Aad fun S H k=>
 Adh 2 true S.1 H fun c0 H0=>
 Adh 2 true c0 H0 fun c1 H1=>
 Abz call tlo 188 [c1,Aaj (Aaj (stale (g1 S))),Aaj (Aaj (stale (g2 S))),Aaj (Aaj (stale (g4 S)))] H1 fun t30 H2=>
 k (z0 c0<| z1 (Aaj (stale (g1 S)))<| z2 (Aaj (stale (g2 S)))<| z4 (Aaj (stale (g4 S)))<| stN 24 S) H2)
 (Aam .ret))
 (Aam .normal)))
 (Aak (Aak (Aad fun S H k=>
 Aaa (eqlT .int (Aab (g3 S)) (tN 0)) fun t32=>
 k (z3 (Aae (g3 S))<| z17 t32<| stN 24 S) H)
 (Abb (fun S=>some (g17 S))
 (Aak (Aad fun S H k=>
 Adh 2 true S.1 H fun c3 H3=>
 Adh 2 true c3 H3 fun c4 H4=>
 Abz call tlo 189 [c4,Aaj (Aaj (stale (g1 S))),Aaj (Aaj (stale (g2 S))),Aaj (Aaj (stale (g4 S)))] H4 fun t37 H5=>
 k (z0 c3<| z1 (Aaj (stale (g1 S)))<| z2 (Aaj (stale (g2 S)))<| z4 (Aaj (stale (g4 S)))<| stN 24 S) H5)
 (Aam .ret))
 (Aam .normal)))
 (Aak (Aak (Aad fun S H k=>
 Aaa (b1 evNot (Aab (g5 S))) fun t39=>
 k (z5 (Aae (g5 S))<| z18 t39<| stN 24 S) H)
 (Abb (fun S=>some (g18 S))
 (Aak (Aad fun S H k=>
 Adh 2 true S.1 H fun c6 H6=>
 Adh 2 true c6 H6 fun c7 H7=>
 Abz call tlo 190 [c7,Aaj (Aaj (stale (g1 S))),Aaj (Aaj (stale (g2 S))),Aaj (Aaj (stale (g4 S)))] H7 fun t44 H8=>
 k (z0 c6<| z1 (Aaj (stale (g1 S)))<| z2 (Aaj (stale (g2 S)))<| z4 (Aaj (stale (g4 S)))<| stN 24 S) H8)
 (Aad fun S H k=>
 Aaa (b2 Acj (Aab (g3 S)) (tN 1)) fun t46=>
 k (z3 t46<| stN 24 S) H))
 (Aam .normal)))
 (Aak (Aad fun S H k=>
 Abz call tlo 191 [Aaj (Aaj S.1),Aaj (Aaj (g1 S)),Aaj (Aaj (g2 S)),Aaj (Aaj (g4 S))] H fun t52 H9=>
 Aaf (Abl (Aab t52) 0) fun c10=>
 Aaf (Abl (Aaz (Aab t52) 0) 1) fun c11=>
 k (z0 (Aaj S.1)<| z1 (Aaj (g1 S))<| z2 (Aaj (g2 S))<| z4 (Aaj (g4 S))<| z8 c10<| z9 c11<| stN 24 S) H9)
 (Aak (Aak (Aad fun S H k=>
 Aaa (eqlT .int (Aab (g9 S)) (tN 2)) fun t56=>
 k (z9 (Aae (g9 S))<| z19 t56<| stN 24 S) H)
 (Abb (fun S=>some (g19 S))
 (Aak (Aad fun S H k=>
 Adh 2 true S.1 H fun c12 H12=>
 Adh 2 true c12 H12 fun c13 H13=>
 Abz call tlo 192 [c13,Aaj (Aaj (stale (g1 S))),Aaj (Aaj (stale (g2 S))),Aaj (Aaj (stale (g4 S)))] H13 fun t61 H14=>
 k (z0 c12<| z1 (Aaj (stale (g1 S)))<| z2 (Aaj (stale (g2 S)))<| z4 (Aaj (stale (g4 S)))<| stN 24 S) H14)
 (Aak (Aad fun S H k=>
 Aaa (b2 Acj (Aab (g2 S)) (tN 1)) fun t63=>
 Aaa (b2 Acj (Aab (g8 S)) (Aab (g1 S))) fun t66=>
 Aaa (b2 Acj t63 t66) fun t67=>
 k (z1 (Aae (g1 S))<| z2 (Aae (g2 S))<| z8 t67<| stN 24 S) H)
 (Aad fun S H k=>
 k (z9 (tN 1)<| stN 24 S) H)))
 (Aam .normal)))
 (Aak (Aak (Aad fun S H k=>
 Abf (Aab (Aab (g5 S))) true ( Abm (Aaj (g6 S)) H) H fun t70 H15=>
 Aaa (Acb (Aab (Aab (g5 S))) (Aaj t70) (tB false)) fun t71=>
 gV t71 true (Aab (g9 S)) H15 fun t73 H16=>
 gB t71 true (eqlT .int t73 (tN 1)) H16 fun t74 H17=>
 Aaa (Acb (Aab t71) (Aaj t74) (tB false)) fun t75=>
 k (z5 (Aae (g5 S))<| z6 (Aaj (g6 S))<| z9 (Aae (g9 S))<| z20 t75<| stN 24 S) H17)
 (Abb (fun S=>some (g20 S))
 (Aak (Aad fun S H k=>
 Adh 2 true S.1 H fun c18 H18=>
 Adh 2 true c18 H18 fun c19 H19=>
 Abz call tlo 193 [c19,Aaj (Aaj (stale (g1 S))),Aaj (Aaj (stale (g2 S))),Aaj (Aaj (stale (g4 S)))] H19 fun t80 H20=>
 k (z0 c18<| z1 (Aaj (stale (g1 S)))<| z2 (Aaj (stale (g2 S)))<| z4 (Aaj (stale (g4 S)))<| z21 t80<| stN 24 S) H20)
 (Abb (fun S=>some (g21 S))
 (Aam .ret)
 (Aam .normal)))
 (Aam .normal)))
 (Aak (Aak (Aad fun S H k=>
 Aaa (b2 evGtr (Aab (g1 S)) (tN 0)) fun t82=>
 gV t82 true (Aab (g4 S)) H fun t84 H21=>
 gV t82 true (Aab S.1) H21 fun t85 H22=>
 gV t82 true (Aab (Aae (g1 S))) H22 fun t86 H23=>
 gB t82 true (b2 Acj t86 (tN 1)) H23 fun t87 H24=>
 gB t82 true (Abn 2 t85 t87) H24 fun t88 H25=>
 Abf (Aab t82) true (sA tlo base 2 H25 t88 fun g26 H26=>Abm g26 H26) H25 fun t89 H27=>
 gV t82 true (Aab (Aae S.1)) H27 fun t90 H28=>
 gV t82 true (Aab (g8 S)) H28 fun t91 H29=>
 gB t82 true (Abn 2 t90 t91) H29 fun t92 H30=>
 Abf (Aab t82) true (sA tlo base 2 H30 t92 fun g31 H31=>Abm g31 H31) H30 fun t93 H32=>
 Abf (Aab t82) true (Adl TC call tlo t84 [Aaj t89,Aaj t93] H32 fun g33 H33=>Abm g33 H33) H32 fun t94 H34=>
 gB t82 true (b2 Ace t94 (tN 0)) H34 fun t95 H35=>
 gB t82 true (b1 evNot t95) H35 fun t96 H36=>
 Aaa (Acb (stale (Aab t82)) (Aaj t96) (tB false)) fun t97=>
 k (z0 (Aae (Aae S.1))<| z1 (Aae (Aae (g1 S)))<| z4 (Aae (g4 S))<| z8 (Aae (g8 S))<| z22 t97<| stN 24 S) H36)
 (Abb (fun S=>some (g22 S))
 (Aak (Aad fun S H k=>
 Adh 2 true S.1 H fun c37 H37=>
 Adh 2 true c37 H37 fun c38 H38=>
 Abz call tlo 194 [c38,Aaj (Aaj (stale (g1 S))),Aaj (Aaj (stale (g2 S))),Aaj (Aaj (stale (g8 S))),Aaj (Aaj (stale (g4 S)))] H38 fun t103 H39=>
 k (z0 c37<| z1 (Aaj (stale (g1 S)))<| z2 (Aaj (stale (g2 S)))<| z4 (Aaj (stale (g4 S)))<| z8 (Aaj (stale (g8 S)))<| z10 t103<| stN 24 S) H39)
 (Aak (Aad fun S H k=>
 k (z1 (g10 S)<| z10 (hush (g10 S))<| stN 24 S) H)
 (Aam (.exit 1))))
 (Aam .normal)))
 (Aak (Aad fun S H k=>
 Adh 2 true S.1 H fun c40 H40=>
 Adh 2 true c40 H40 fun c41 H41=>
 Abz call tlo 195 [c41,Aaj (Aaj (stale (g1 S))),Aaj (Aaj (stale (g2 S))),Aaj (Aaj (stale (g8 S))),Aaj (Aaj (stale (g4 S)))] H41 fun t111 H42=>
 Aaf (Abl (Aab t111) 0) fun c43=>
 Aaf (Abl (Aaz (Aab t111) 0) 1) fun c44=>
 k (z0 c40<| z1 (Aaj (stale (g1 S)))<| z2 (Aaj (stale (g2 S)))<| z4 (Aaj (stale (g4 S)))<| z8 (Aaj (stale (g8 S)))<| z11 c43<| z12 c44<| stN 24 S) H42)
 (Aak (Aad fun S H k=>
 k (z6 (g12 S)<| z12 (hush (g12 S))<| stN 24 S) H)
 (Aak (Aad fun S H k=>
 Aaa (b2 Acj (Aab (g11 S)) (Aab (g1 S))) fun t117=>
 Aaa (b2 Acj (Aab (g2 S)) (Aab (Aae (g11 S)))) fun t120=>
 k (z1 (Aae (g1 S))<| z2 (Aae (g2 S))<| z11 (Aae (Aae (g11 S)))<| z13 t117<| z14 t120<| stN 24 S) H)
 (Aak (Aad fun S H k=>
 Aaa (b2 evQuo (Aab (g7 S)) (tN 8)) fun t122=>
 k (z7 (Aae (g7 S))<| z15 t122<| stN 24 S) H)
 (Aak (Aad fun S H k=>
 Aaa (b2 Ace (Aab (g13 S)) (Aab (g14 S))) fun t125=>
 k (z13 (Aae (g13 S))<| z14 (Aae (g14 S))<| z23 t125<| stN 24 S) H)
 (Abb (fun S=>some (g23 S))
 (Aak (Aad fun S H k=>
 Aaa (b2 evGeq (Aab (g13 S)) (Aab (g15 S))) fun t128=>
 k (z5 t128<| z13 (Aae (g13 S))<| z15 (Aae (g15 S))<| stN 24 S) H)
 (Aak (Aad fun S H k=>
 Adh 2 true S.1 H fun c45 H45=>
 Adh 2 true c45 H45 fun c46 H46=>
 Abz call tlo 151 [c46,Aaj (Aaj (stale (g1 S))),Aaj (Aaj (stale (g11 S))),Aaj (Aaj (stale (g3 S))),Aaj (Aaj (stale (g4 S)))] H46 fun t134 H47=>
 k (z0 c45<| z1 (Aaj (stale (g1 S)))<| z3 (Aaj (stale (g3 S)))<| z4 (Aaj (stale (g4 S)))<| z11 (Aaj (stale (g11 S)))<| stN 24 S) H47)
 (Aad fun S H k=>
 Aaa (b2 Abe (Aab (g11 S)) (tN 1)) fun t136=>
 k (z1 t136<| z11 (Aae (g11 S))<| stN 24 S) H)))
 (Aak (Aad fun S H k=>
 Aaa (b2 evGeq (Aab (g14 S)) (Aab (g15 S))) fun t139=>
 k (z5 t139<| z14 (Aae (g14 S))<| z15 (Aae (g15 S))<| stN 24 S) H)
 (Aak (Aad fun S H k=>
 Adh 2 true S.1 H fun c48 H48=>
 Aaa (b2 Abe (Aab (stale (g11 S))) (tN 1)) fun t142=>
 Adh 2 true c48 H48 fun c49 H49=>
 Abz call tlo 151 [c49,Aaj t142,Aaj (Aaj (stale (g2 S))),Aaj (Aaj (stale (g3 S))),Aaj (Aaj (stale (g4 S)))] H49 fun t146 H50=>
 k (z0 c48<| z2 (Aaj (stale (g2 S)))<| z3 (Aaj (stale (g3 S)))<| z4 (Aaj (stale (g4 S)))<| z11 (Aae (stale (g11 S)))<| stN 24 S) H50)
 (Aad fun S H k=>
 k (z2 (g11 S)<| z11 (hush (g11 S))<| stN 24 S) H)))))))))))))))))) fuel))))
def F151:FnT:=fun call tlo l H=>Aaa (C151 call tlo (Aah H) (Aal l 0,Aal l 1,Aal l 2,Aal l 3,Aal l 4,Aal l 10,Aal l 11,Aal l 12,Aal l 13,Aal l 14,Aal l 15,Aal l 16,Aal l 17,Aal l 18,Aal l 19,Aal l 20,Aal l 25,Aal l 32,Aal l 39,Aal l 56,Aal l 75,Aal l 80,Aal l 97,Aal l 125,()) H) fun p=>resE p.1 (Aap (Abw Abo []) (some (endT (Aah H) (.tup []) p.2.2)))
theorem F151_eq:FEq P TC 151 F151:=fun _ _ _ _=>by kernel_rfl
def C152 (call:Abc) (tlo base:Nat):Aba (TV×TV×TV×TV×Unit):=
 (Aak (Aad fun S H k=>
 Aaa (nilCkT (Aab S.1)) fun t7=>
 Aaa (Aar t7 2) fun t8=>
 lF tlo base H t8 fun t9 H0=>
 Aaa (b2 evShr t9 (Aab (g1 S))) fun t11=>
 Aaa (b2 evAnd t11 (.v (.int .u64 (.ofNat 1)))) fun t12=>
 Aaa (eqlT .int t12 (.v (.int .u64 (.ofNat 1)))) fun t13=>
 gV t13 true (Aab (Aae S.1)) H0 fun t15 H1=>
 gB t13 true (nilCkT t15) H1 fun t16 H2=>
 gB t13 true (Aar t16 2) H2 fun t17 H3=>
 Abf (Aab t13) true (lF tlo base H3 t17 fun g4 H4=>Abm g4 H4) H3 fun t18 H5=>
 gV t13 true (Aab (g2 S)) H5 fun t19 H6=>
 gB t13 true (b2 evShr t18 t19) H6 fun t20 H7=>
 gB t13 true (b2 evAnd t20 (.v (.int .u64 (.ofNat 1)))) H7 fun t21 H8=>
 gB t13 true (eqlT .int t21 (.v (.int .u64 (.ofNat 1)))) H8 fun t22 H9=>
 Aaa (Acb (Aab t13) (Aaj t22) (tB false)) fun t23=>
 k (z0 (Aae (Aae S.1))<| z1 (Aae (g1 S))<| z2 (Aae (g2 S))<| z3 t23<| stN 4 S) H9)
 (Abb (fun S=>some (g3 S))
 (Aak (Aad fun S H k=>
 Aaa (nilCkT (Aab S.1)) fun t26=>
 Aaa (Aar t26 3) fun t27=>
 Aaa (Abk 16 1 t27 (Aab (g1 S))) fun t28=>
 lF tlo base H t28 fun t29 H10=>
 Aaa (b2 evShl (.v (.int .u64 (.ofNat 1))) (Aab (g2 S))) fun t31=>
 Aaa (b2 evOr t29 t31) fun t32=>
 Aaa (nilCkT (Aab S.1)) fun t33=>
 Aaa (Aar t33 3) fun t34=>
 Adh 0 false t34 H10 fun c11 H11=>
 Aaa (Abk 16 1 c11 (Aab (g1 S))) fun t35=>
 Aaa (Aau tlo base 1 H11 t35 (stale t32)) fun H12=>
 k (z0 (Aae S.1)<| z1 (Aae (g1 S))<| z2 (Aae (g2 S))<| stN 4 S) H12)
 (Aad fun S H k=>
 Aaa (nilCkT (Aab S.1)) fun t38=>
 Aaa (Aar t38 3) fun t39=>
 Aaa (Abk 16 1 t39 (Aab (g2 S))) fun t40=>
 lF tlo base H t40 fun t41 H13=>
 Aaa (b2 evShl (.v (.int .u64 (.ofNat 1))) (Aab (g1 S))) fun t43=>
 Aaa (b2 evOr t41 t43) fun t44=>
 Aaa (nilCkT (Aab S.1)) fun t45=>
 Aaa (Aar t45 3) fun t46=>
 Adh 0 false t46 H13 fun c14 H14=>
 Aaa (Abk 16 1 c14 (Aab (g2 S))) fun t47=>
 Aaa (Aau tlo base 1 H14 t47 (stale t44)) fun H15=>
 k (z0 (Aae S.1)<| z1 (Aae (g1 S))<| z2 (Aae (g2 S))<| stN 4 S) H15))
 (Aam .normal)))
def F152:FnT:=fun call tlo l H=>Aaa (C152 call tlo (Aah H) (Aal l 0,Aal l 1,Aal l 2,Aal l 23,()) H) fun p=>resE p.1 (Aap (Abw Abo []) (some (endT (Aah H) (.tup []) p.2.2)))
theorem F152_eq:FEq P TC 152 F152:=fun _ _ _ _=>by kernel_rfl
def C153 (call:Abc) (tlo base:Nat):Aba (TV×TV×TV×TV×TV×TV×TV×TV×TV×TV×TV×TV×TV×TV×Unit):=
 (Aak (Aad fun S H k=>
 k (z6 (tB false)<| stN 14 S) H)
 (Aak (Aam .normal)
 (Aak (Aak (Aad fun S H k=>
 Aaa (Aar (g1 S) 3) fun t11=>
 Aaa (Abk 16 1 t11 (Aab S.1)) fun t12=>
 lF tlo base H t12 fun t13 H0=>
 lF tlo base H0 (g2 S) fun t14 H1=>
 Aaa (b2 evAnd t13 t14) fun t15=>
 Aaa (Aag call 100 [Aaj t15] H1) fun t16=>
 Aaa (lenT t16) fun t17=>
 k (z0 (Aae S.1)<| z8 t16<| z9 t17<| z10 (tN 0)<| stN 14 S) H1)
 (Abd 0 (Ado (Aak (Aad fun S H k=>
 Aaa (b2 Ace (g10 S) (g9 S)) fun t19=>
 k (z11 t19<| stN 14 S) H)
 (Aak (Abb (fun S=>some (g11 S))
 (Aam .normal)
 (Aam (.exit 0)))
 (Aak (Abd 1 (Aak (Aad fun S H k=>
 Aaa (Abn 1 (g8 S) (g10 S)) fun t20=>
 sF tlo base H t20 fun t21 H2=>
 k (z7 t21<| stN 14 S) H2)
 (Aak (Aak (Aad fun S H k=>
 lF tlo base H (g3 S) fun t22 H3=>
 Aaa (b2 evShr t22 (Aab (g7 S))) fun t24=>
 Aaa (b2 evAnd t24 (.v (.int .u64 (.ofNat 1)))) fun t25=>
 Aaa (eqlT .int t25 (.v (.int .u64 (.ofNat 1)))) fun t26=>
 k (z7 (Aae (g7 S))<| z12 t26<| stN 14 S) H3)
 (Abb (fun S=>some (g12 S))
 (Aam (.exit 1))
 (Aam .normal)))
 (Aak (Aad fun S H k=>
 lF tlo base H (g3 S) fun t27 H4=>
 Aaa (b2 evShl (.v (.int .u64 (.ofNat 1))) (Aab (g7 S))) fun t29=>
 Aaa (b2 evOr t27 t29) fun t30=>
 Aaa (Aau tlo base 1 H4 (g3 S) t30) fun H5=>
 k (z7 (Aae (g7 S))<| stN 14 S) H5)
 (Aak (Aad fun S H k=>
 Aaa (Abk 16 1 (g4 S) (Aab (g7 S))) fun t32=>
 lF tlo base H t32 fun t33 H6=>
 Aaa (b2 Ace t33 (tN 0)) fun t34=>
 Abf (Aab t34) false (lF tlo base H6 (g5 S) fun g7 H7=>Abm g7 H7) H6 fun t36 H8=>
 gV t34 false (Aab (Aae (g7 S))) H8 fun t37 H9=>
 gB t34 false (Abk 16 1 (g4 S) t37) H9 fun t38 H10=>
 Abf (Aab t34) false (sF tlo base H10 t38 fun g11 H11=>Abm g11 H11) H10 fun t39 H12=>
 Abf (Aab t34) false (Adl TC call tlo t36 [Aaj t39] H12 fun g13 H13=>Abm g13 H13) H12 fun t40 H14=>
 Aaa (Acb (stale (Aab t34)) (tB true) (Aaj t40)) fun t41=>
 k (z7 (Aae (Aae (g7 S)))<| z13 t41<| stN 14 S) H14)
 (Abb (fun S=>some (g13 S))
 (Aak (Aad fun S H k=>
 Adh 0 false (g4 S) H fun c15 H15=>
 Aaa (Abk 16 1 c15 (Aab (g7 S))) fun t44=>
 Aaa (Aau tlo base 1 H15 t44 (stale (Aaj S.1))) fun H16=>
 k (z0 (Aaj S.1)<| z4 c15<| z7 (Aae (g7 S))<| stN 14 S) H16)
 (Aak (Aad fun S H k=>
 k (z6 (tB true)<| stN 14 S) H)
 (Aam .ret)))
 (Aam .normal)))))))
 (Aad fun S H k=>
 Aaa (b2 Abe (g10 S) (tN 1)) fun t45=>
 k (z10 t45<| stN 14 S) H)))) fuel)))
 (Aak (Aad fun S H k=>
 k (z6 (tB false)<| stN 14 S) H)
 (Aam .ret)))))
def F153:FnT:=fun call tlo l H=>Aaa (C153 call tlo (Aah H) (Aal l 0,Aal l 1,Aal l 2,Aal l 3,Aal l 4,Aal l 5,Aal l 7,Aal l 9,Aal l 16,Aal l 17,Aal l 18,Aal l 19,Aal l 26,Aal l 41,()) H) fun p=>resE p.1 (Aap (Abw Abo [p.2.1.2.2.2.2.2.2.1]) (some (endT (Aah H) p.2.1.2.2.2.2.2.2.1 p.2.2)))
theorem F153_eq:FEq P TC 153 F153:=fun _ _ _ _=>by kernel_rfl
def C154 (call:Abc) (tlo base:Nat):Aba (TV×TV×TV×TV×Unit):=
 (Aak (Aad fun S H k=>
 Aap (stor S.1)<|
 let t2:=(.ptr (Aah H) 0)
 let H0:=(Aaq H (.cells (Aas S.1)))
 k (z0 (hush S.1)<| z2 t2<| z3 (tB false)<| stN 4 S) H0)
 (Aak (Aad fun S H k=>
 Aaa (Aar (g2 S) 0) fun t6=>
 lF tlo base H t6 fun t7 H1=>
 Aaa (b2 evRem (Aab (g1 S)) t7) fun t8=>
 Aaa (Aar (g2 S) 0) fun t10=>
 lF tlo base H1 t10 fun t11 H2=>
 Aaa (b2 evQuo (Aab (Aae (g1 S))) t11) fun t12=>
 Aaa (b2 Abe t8 t12) fun t13=>
 Aaa (b2 evRem t13 (tN 2)) fun t14=>
 Aaa (eqlT .int t14 (tN 1)) fun t15=>
 k (z1 (Aae (Aae (g1 S)))<| z3 t15<| stN 4 S) H2)
 (Aam .ret)))
def F154:FnT:=fun call tlo l H=>Aaa (C154 call tlo (Aah H) (Aal l 0,Aal l 1,Aal l 2,Aal l 4,()) H) fun p=>resE p.1 (Aap (Abw Abo [p.2.1.2.2.2.1]) (some (endT (Aah H) p.2.1.2.2.2.1 p.2.2)))
theorem F154_eq:FEq P TC 154 F154:=fun _ _ _ _=>by kernel_rfl
def C156 (call:Abc) (tlo base:Nat):Aba (TV×TV×Unit):=
 (Aak (Aad fun S H k=>
 k (z1 (tN 0)<| stN 2 S) H)
 (Aak (Abb (fun S=>some (tB false))
 (Aak (Aad fun S H k=>
 Aaa (b1 (evConv .u32) (Aab S.1)) fun t4=>
 Aaa (Aag call 196 [Aaj t4] H) fun t5=>
 k (z0 (Aae S.1)<| z1 t5<| stN 2 S) H)
 (Aam .ret))
 (Aam .normal))
 (Aak (Aad fun S H k=>
 Aaa (Aag call 197 [Aaj (Aab S.1)] H) fun t7=>
 k (z0 (Aae S.1)<| z1 t7<| stN 2 S) H)
 (Aam .ret))))
def F156:FnT:=fun call tlo l H=>Aaa (C156 call tlo (Aah H) (Aal l 0,Aal l 2,()) H) fun p=>resE p.1 (Aap (Abw Abo [p.2.1.2.1]) (some (endT (Aah H) p.2.1.2.1 p.2.2)))
theorem F156_eq:FEq P TC 156 F156:=fun _ _ _ _=>by kernel_rfl
def C157 (call:Abc) (tlo base:Nat):Aba (TV×TV×TV×Unit):=
 (Aak (Aad fun S H k=>
 k (z2 (tB false)<| stN 3 S) H)
 (Aak (Aad fun S H k=>
 Abz call tlo 198 [Aaj (Aaj S.1),Aaj (Aaj (g1 S))] H fun t7 H0=>
 Aaa (b2 evGeq t7 (tN 0)) fun t8=>
 k (z0 (Aaj S.1)<| z1 (Aaj (g1 S))<| z2 t8<| stN 3 S) H0)
 (Aam .ret)))
def F157:FnT:=fun call tlo l H=>Aaa (C157 call tlo (Aah H) (Aal l 0,Aal l 1,Aal l 4,()) H) fun p=>resE p.1 (Aap (Abw Abo [p.2.1.2.2.1]) (some (endT (Aah H) p.2.1.2.2.1 p.2.2)))
theorem F157_eq:FEq P TC 157 F157:=fun _ _ _ _=>by kernel_rfl
def C158 (call:Abc) (tlo base:Nat):Aba (TV×TV×TV×Unit):=
 (Aak (Aad fun S H k=>
 k (z2 (tB false)<| stN 3 S) H)
 (Aak (Aad fun S H k=>
 Aaa (Aar (g1 S) 2) fun t5=>
 lF tlo base H t5 fun t6 H0=>
 Aaa (neqT .int (Aab S.1) t6) fun t7=>
 k (z0 (Aae S.1)<| z2 t7<| stN 3 S) H0)
 (Aam .ret)))
def F158:FnT:=fun call tlo l H=>Aaa (C158 call tlo (Aah H) (Aal l 0,Aal l 1,Aal l 3,()) H) fun p=>resE p.1 (Aap (Abw Abo [p.2.1.2.2.1]) (some (endT (Aah H) p.2.1.2.2.1 p.2.2)))
theorem F158_eq:FEq P TC 158 F158:=fun _ _ _ _=>by kernel_rfl
def C159 (call:Abc) (tlo base:Nat):Aba (TV×TV×TV×TV×TV×TV×TV×TV×TV×TV×TV×Unit):=
 (Aak (Aad fun S H k=>
 lA tlo base 19 H (g4 S) fun t17 H0=>
 Aaa (Aag call 160 [Aaj t17,Aaj (Aab (g1 S)),Aaj (Aab (g2 S))] H0) fun t20=>
 Aaf (Abl (Aab t20) 0) fun c1=>
 Aaf (Abl (Aaz (Aab t20) 0) 1) fun c2=>
 k (z1 (Aae (g1 S))<| z2 (Aae (g2 S))<| z8 c1<| z9 c2<| stN 11 S) H0)
 (Aak (Aad fun S H k=>
 Aaa (b2 (evLesser true) (Aab (g8 S)) (Aab (g9 S))) fun c3=>
 Aap (isV c3)<|
 Aaa (b2 evGeq c3 (tN 0)) fun t26=>
 Abf (Aab t26) true (lF tlo base H (g5 S) fun g4 H4=>Abm g4 H4) H fun t28 H5=>
 gV t26 true (Aab S.1) H5 fun t29 H6=>
 gB t26 true (Abn 1 t28 t29) H6 fun t30 H7=>
 Abf (Aab t26) true (lF tlo base H7 t30 fun g8 H8=>Abm g8 H8) H7 fun t31 H9=>
 gB t26 true (b1 evNot t31) H9 fun t32 H10=>
 Aaa (Acb (Aab t26) (Aaj t32) (tB false)) fun t33=>
 Abf (Aab t33) true (lF tlo base H10 (g6 S) fun g11 H11=>Abm g11 H11) H10 fun t35 H12=>
 gV t33 true (Aaj (Aae (g8 S))) H12 fun t36 H13=>
 gV t33 true (Aaj (Aae (g9 S))) H13 fun t37 H14=>
 gB t33 true (aggT [(0,1,t36),(1,1,t37)] zc71) H14 fun t38 H15=>
 gB t33 true (Aag call 62 [Aaj t35,Aaj t38] H15) H15 fun t39 H16=>
 gB t33 true (b1 evNot t39) H16 fun t40 H17=>
 Aaa (Acb (Aab t33) (Aaj t40) (tB false)) fun t41=>
 k (z0 (Aae S.1)<| z8 (Aaj (Aae (g8 S)))<| z9 (Aaj (Aae (g9 S)))<| z10 t41<| stN 11 S) H17)
 (Abb (fun S=>some (g10 S))
 (Aad fun S H k=>
 lF tlo base H (g7 S) fun t42 H18=>
 Adl TC call tlo t42 [Aaj (Aaj S.1),Aaj (Aaj (g3 S))] H18 fun t45 H19=>
 k (z0 (Aaj S.1)<| z3 (Aaj (g3 S))<| stN 11 S) H19)
 (Aam .normal))))
def F159:FnT:=fun call tlo l H=>Aaa (C159 call tlo (Aah H) (Aal l 1,Aal l 2,Aal l 3,Aal l 4,Aal l 5,Aal l 6,Aal l 7,Aal l 8,Aal l 14,Aal l 15,Aal l 41,()) H) fun p=>resE p.1 (Aap (Abw Abo []) (some (endT (Aah H) (.tup []) p.2.2)))
theorem F159_eq:FEq P TC 159 F159:=fun _ _ _ _=>by kernel_rfl
def C160 (call:Abc) (tlo base:Nat):Aba (TV×TV×TV×TV×TV×TV×TV×TV×TV×TV×Unit):=
 (Aak (Aad fun S H k=>
 Aap (stor S.1)<|
 let t3:=(.ptr (Aah H) 0)
 let H0:=(Aaq H (.cells (Aas S.1)))
 k (z0 (hush S.1)<| z3 t3<| z4 (tN 0)<| z5 (tN 0)<| stN 10 S) H0)
 (Aak (Aad fun S H k=>
 Aaa (Aar (g3 S) 0) fun t12=>
 lF tlo base H t12 fun t13 H1=>
 Aaa (b2 Abe t13 (tN 1)) fun t14=>
 Aaa (b2 evRem (Aab (g1 S)) t14) fun t15=>
 Aaa (Aar (g3 S) 0) fun t17=>
 lF tlo base H1 t17 fun t18 H2=>
 Aaa (b2 Abe t18 (tN 1)) fun t19=>
 Aaa (b2 evQuo (Aab (Aae (g1 S))) t19) fun t20=>
 k (z1 (Aae (Aae (g1 S)))<| z6 t15<| z7 t20<| stN 10 S) H2)
 (Aak (Aad fun S H k=>
 Aap (Abw pass [Aaj (g3 S)])<|
 k (z3 (Aaj (g3 S))<| z8 (.fn (.func 199) [] [Aaj (g3 S)])<| stN 10 S) H)
 (Aak (Aak (Aad fun S H k=>
 k (z2 (Aaj (g2 S))<| z9 (Aaj (g2 S))<| stN 10 S) H)
 (Abb (fun S=>some (g9 S))
 (Aak (Aad fun S H k=>
 Aaa (b2 Acj (Aab (g6 S)) (tN 1)) fun t25=>
 Adl TC call tlo (Aab (g8 S)) [Aaj t25,Aaj (Aaj (g7 S))] H fun t27 H3=>
 Adl TC call tlo (Aab (stale (Aae (g8 S)))) [Aaj (Aaj (stale (Aae (g6 S)))),Aaj (Aaj (stale (Aaj (g7 S))))] H3 fun t31 H4=>
 k (z4 (stale t27)<| z5 t31<| z6 (Aaj (stale (Aae (g6 S))))<| z7 (Aaj (stale (Aaj (g7 S))))<| z8 (Aae (stale (Aae (g8 S))))<| stN 10 S) H4)
 (Aam .ret))
 (Aam .normal)))
 (Aak (Aad fun S H k=>
 Aaa (b2 Acj (Aab (g7 S)) (tN 1)) fun t35=>
 Adl TC call tlo (Aab (g8 S)) [Aaj (Aaj (g6 S)),Aaj t35] H fun t36 H5=>
 Adl TC call tlo (Aab (stale (Aae (g8 S)))) [Aaj (Aaj (stale (Aaj (g6 S)))),Aaj (Aaj (stale (Aae (g7 S))))] H5 fun t40 H6=>
 k (z4 (stale t36)<| z5 t40<| z6 (Aaj (stale (Aaj (g6 S))))<| z7 (Aaj (stale (Aae (g7 S))))<| z8 (Aae (stale (Aae (g8 S))))<| stN 10 S) H6)
 (Aam .ret))))))
def F160:FnT:=fun call tlo l H=>Aaa (C160 call tlo (Aah H) (Aal l 0,Aal l 1,Aal l 2,Aal l 3,Aal l 6,Aal l 7,Aal l 8,Aal l 9,Aal l 10,Aal l 22,()) H) fun p=>resE p.1 (Aap (Abw Abo [p.2.1.2.2.2.2.1,p.2.1.2.2.2.2.2.1]) (some (endT (Aah H) (.tup [p.2.1.2.2.2.2.1,p.2.1.2.2.2.2.2.1]) p.2.2)))
theorem F160_eq:FEq P TC 160 F160:=fun _ _ _ _=>by kernel_rfl
def C161 (call:Abc) (tlo base:Nat):Aba (TV×TV×TV×TV×TV×TV×TV×TV×TV×TV×TV×TV×Unit):=
 (Aak (Aad fun S H k=>
 Abj (.thaw 1 false) tlo base false 1 H (g2 S) fun t10 H0=>
 Abj (.thaw 1 false) tlo base false 1 H0 (stale (g3 S)) fun t12 H1=>
 Adh 1 false (stale t10) H1 fun c2 H2=>
 Aaa (Abn 1 c2 (stale (Aab (stale S.1)))) fun t15=>
 Aap (apartT [hdX (stale (g3 S)) (hdP H (g3 S))] [hdX t15 (hdP H2 t15)])<|
 Aaa (Aau tlo base 1 H2 t15 (stale (Aaj (stale (g1 S))))) fun H3=>
 Adh 1 false (stale t12) H3 fun c4 H4=>
 Aaa (Abn 1 c4 (stale (Aab (stale (Aae (stale S.1)))))) fun t16=>
 Aaa (Aau tlo base 1 H4 t16 (tB true)) fun H5=>
 k (z0 (Aae (stale (Aae (stale S.1))))<| z1 (Aaj (stale (g1 S)))<| stN 12 S) H5)
 (Aak (Aad fun S H k=>
 Aaa (Aar (g4 S) 0) fun t18=>
 lF tlo base H t18 fun t19 H6=>
 Aaa (b2 Abe t19 (tN 1)) fun t20=>
 Aaa (b2 evRem (Aab S.1) t20) fun t21=>
 Aaa (Aar (g4 S) 0) fun t23=>
 lF tlo base H6 t23 fun t24 H7=>
 Aaa (b2 Abe t24 (tN 1)) fun t25=>
 Aaa (b2 evQuo (Aab (Aae S.1)) t25) fun t26=>
 k (z0 (Aae (Aae S.1))<| z6 t21<| z7 t26<| stN 12 S) H7)
 (Aak (Aak (Aad fun S H k=>
 Aaa (Aar (g4 S) 0) fun t28=>
 lF tlo base H t28 fun t29 H8=>
 Aaa (b2 Ace (Aab (g6 S)) t29) fun t30=>
 k (z6 (Aae (g6 S))<| z8 t30<| stN 12 S) H8)
 (Abb (fun S=>some (g8 S))
 (Aad fun S H k=>
 lF tlo base H (g5 S) fun t31 H9=>
 Aaa (b2 Abe (Aab (Aaj S.1)) (tN 1)) fun t34=>
 lA tlo base 19 H9 (g4 S) fun t37 H10=>
 Aaa (Aag call 162 [Aaj t37,Aaj (Aab (Aaj (Aae (Aaj S.1))))] H10) fun t39=>
 Aaa (b2 Abe (Aab (g1 S)) t39) fun t40=>
 Adl TC call tlo t31 [Aaj (Aaj S.1),Aaj t34,Aaj (Aaj (Aae (Aaj S.1))),tB false,Aaj t40] H10 fun t41 H11=>
 k (z0 (Aae (Aaj (Aae (Aaj S.1))))<| z1 (Aae (g1 S))<| stN 12 S) H11)
 (Aam .normal)))
 (Aak (Aak (Aad fun S H k=>
 Aaa (Aar (g4 S) 1) fun t43=>
 lF tlo base H t43 fun t44 H12=>
 Aaa (b2 Ace (Aab (g7 S)) t44) fun t45=>
 k (z7 (Aae (g7 S))<| z9 t45<| stN 12 S) H12)
 (Abb (fun S=>some (g9 S))
 (Aad fun S H k=>
 lF tlo base H (g5 S) fun t46 H13=>
 Aaa (Aar (g4 S) 0) fun t49=>
 lF tlo base H13 t49 fun t50 H14=>
 Aaa (b2 Abe (Aab (Aaj S.1)) t50) fun t51=>
 Aaa (b2 Abe t51 (tN 1)) fun t52=>
 lA tlo base 19 H14 (g4 S) fun t55 H15=>
 Aaa (Aag call 162 [Aaj t55,Aaj (Aab (Aaj (Aae (Aaj S.1))))] H15) fun t57=>
 Aaa (b2 Acj (Aab (g1 S)) t57) fun t58=>
 Adl TC call tlo t46 [Aaj (Aaj S.1),Aaj t52,Aaj (Aaj (Aae (Aaj S.1))),tB true,Aaj t58] H15 fun t59 H16=>
 k (z0 (Aae (Aaj (Aae (Aaj S.1))))<| z1 (Aae (g1 S))<| stN 12 S) H16)
 (Aam .normal)))
 (Aak (Aak (Aad fun S H k=>
 Aaa (b2 evGtr (Aab (g6 S)) (tN 0)) fun t61=>
 k (z6 (Aae (g6 S))<| z10 t61<| stN 12 S) H)
 (Abb (fun S=>some (g10 S))
 (Aad fun S H k=>
 lF tlo base H (g5 S) fun t62 H17=>
 Aaa (b2 Acj (Aab (Aaj S.1)) (tN 1)) fun t65=>
 Aaa (b2 Acj (Aab (Aae (Aaj S.1))) (tN 1)) fun t67=>
 lA tlo base 19 H17 (g4 S) fun t69 H18=>
 Aaa (b2 Acj (Aab (Aae (Aae (Aaj S.1)))) (tN 1)) fun t71=>
 Aaa (Aag call 162 [Aaj t69,Aaj t71] H18) fun t72=>
 Aaa (b2 Acj (Aab (g1 S)) t72) fun t73=>
 Adl TC call tlo t62 [Aaj (Aaj S.1),Aaj t65,Aaj t67,tB false,Aaj t73] H18 fun t74 H19=>
 k (z0 (Aae (Aae (Aae (Aaj S.1))))<| z1 (Aae (g1 S))<| stN 12 S) H19)
 (Aam .normal)))
 (Aak (Aad fun S H k=>
 Aaa (b2 evGtr (Aab (g7 S)) (tN 0)) fun t76=>
 k (z7 (Aae (g7 S))<| z11 t76<| stN 12 S) H)
 (Abb (fun S=>some (g11 S))
 (Aad fun S H k=>
 lF tlo base H (g5 S) fun t77 H20=>
 Aaa (Aar (g4 S) 0) fun t80=>
 lF tlo base H20 t80 fun t81 H21=>
 Aaa (b2 Acj (Aab (Aaj S.1)) t81) fun t82=>
 Aaa (b2 Acj t82 (tN 1)) fun t83=>
 Aaa (Aar (g4 S) 0) fun t85=>
 lF tlo base H21 t85 fun t86 H22=>
 Aaa (b2 Acj (Aab (Aae (Aaj S.1))) t86) fun t87=>
 Aaa (b2 Acj t87 (tN 1)) fun t88=>
 lA tlo base 19 H22 (g4 S) fun t90 H23=>
 Aaa (Aar (g4 S) 0) fun t92=>
 lF tlo base H23 t92 fun t93 H24=>
 Aaa (b2 Acj (Aab (Aae (Aae (Aaj S.1)))) t93) fun t94=>
 Aaa (b2 Acj t94 (tN 1)) fun t95=>
 Aaa (Aag call 162 [Aaj t90,Aaj t95] H24) fun t96=>
 Aaa (b2 Abe (Aab (g1 S)) t96) fun t97=>
 Adl TC call tlo t77 [Aaj (Aaj S.1),Aaj t83,Aaj t88,tB true,Aaj t97] H24 fun t98 H25=>
 k (z0 (Aae (Aae (Aae (Aaj S.1))))<| z1 (Aae (g1 S))<| stN 12 S) H25)
 (Aam .normal))))))))
def F161:FnT:=fun call tlo l H=>Aaa (C161 call tlo (Aah H) (Aal l 0,Aal l 1,Aal l 2,Aal l 3,Aal l 4,Aal l 5,Aal l 8,Aal l 9,Aal l 30,Aal l 45,Aal l 61,Aal l 76,()) H) fun p=>resE p.1 (Aap (Abw Abo []) (some (endT (Aah H) (.tup []) p.2.2)))
theorem F161_eq:FEq P TC 161 F161:=fun _ _ _ _=>by kernel_rfl
def C162 (call:Abc) (tlo base:Nat):Aba (TV×TV×TV×TV×Unit):=
 (Aak (Aad fun S H k=>
 Aap (stor S.1)<|
 let t2:=(.ptr (Aah H) 0)
 let H0:=(Aaq H (.cells (Aas S.1)))
 k (z0 (hush S.1)<| z2 t2<| z3 (tN 0)<| stN 4 S) H0)
 (Aak (Aad fun S H k=>
 Aaa (Aar (g2 S) 0) fun t6=>
 lF tlo base H t6 fun t7 H1=>
 Aaa (b2 Abe t7 (tN 1)) fun t8=>
 Aaa (b2 evRem (Aab (g1 S)) t8) fun t9=>
 Aaa (Aar (g2 S) 0) fun t11=>
 lF tlo base H1 t11 fun t12 H2=>
 Aaa (b2 Abe t12 (tN 1)) fun t13=>
 Aaa (b2 evQuo (Aab (Aae (g1 S))) t13) fun t14=>
 Aaa (b2 Abe t9 t14) fun t15=>
 Aaa (b2 evRem t15 (tN 2)) fun t16=>
 Aaa (b2 evMul (tN 2) t16) fun t17=>
 Aaa (b2 Acj (tN 1) t17) fun t18=>
 k (z1 (Aae (Aae (g1 S)))<| z3 t18<| stN 4 S) H2)
 (Aam .ret)))
def F162:FnT:=fun call tlo l H=>Aaa (C162 call tlo (Aah H) (Aal l 0,Aal l 1,Aal l 2,Aal l 4,()) H) fun p=>resE p.1 (Aap (Abw Abo [p.2.1.2.2.2.1]) (some (endT (Aah H) p.2.1.2.2.2.1 p.2.2)))
theorem F162_eq:FEq P TC 162 F162:=fun _ _ _ _=>by kernel_rfl
def C164 (call:Abc) (tlo base:Nat):Aba (TV×TV×TV×TV×TV×Unit):=
 (Aak (Aad fun S H k=>
 Aap (stor S.1)<|
 let t2:=(.ptr (Aah H) 0)
 let H0:=(Aaq H (.cells (Aas S.1)))
 Aap (stor (g1 S))<|
 let t3:=(.ptr (Aah H0) 0)
 let H1:=(Aaq H0 (.cells (Aas (g1 S))))
 k (z0 (hush S.1)<| z1 (hush (g1 S))<| z2 t2<| z3 t3<| z4 (tN 0)<| stN 5 S) H1)
 (Aak (Aad fun S H k=>
 Aaa (cutArrT false 1 2 (g2 S) none none none) fun t5=>
 Aaa (cutArrT false 1 2 (g3 S) none none none) fun t6=>
 Aaa (Aag call 78 [Aaj t5,Aaj t6] H) fun t7=>
 k (z4 t7<| stN 5 S) H)
 (Aam .ret)))
def F164:FnT:=fun call tlo l H=>Aaa (C164 call tlo (Aah H) (Aal l 0,Aal l 1,Aal l 2,Aal l 3,Aal l 4,()) H) fun p=>resE p.1 (Aap (Abw Abo [p.2.1.2.2.2.2.1]) (some (endT (Aah H) p.2.1.2.2.2.2.1 p.2.2)))
theorem F164_eq:FEq P TC 164 F164:=fun _ _ _ _=>by kernel_rfl
def C166 (call:Abc) (tlo base:Nat):Aba (TV×TV×Unit):=
 (Aak (Aad fun S H k=>
 k (z1 (tN 0)<| stN 2 S) H)
 (Aak (Abb (fun S=>some (tB false))
 (Aak (Aad fun S H k=>
 Aaa (b1 (evConv .u32) (Aab S.1)) fun t4=>
 Aaa (Aag call 201 [Aaj t4] H) fun t5=>
 k (z0 (Aae S.1)<| z1 t5<| stN 2 S) H)
 (Aam .ret))
 (Aam .normal))
 (Aak (Aad fun S H k=>
 Aaa (Aag call 202 [Aaj (Aab S.1)] H) fun t7=>
 k (z0 (Aae S.1)<| z1 t7<| stN 2 S) H)
 (Aam .ret))))
def F166:FnT:=fun call tlo l H=>Aaa (C166 call tlo (Aah H) (Aal l 0,Aal l 2,()) H) fun p=>resE p.1 (Aap (Abw Abo [p.2.1.2.1]) (some (endT (Aah H) p.2.1.2.1 p.2.2)))
theorem F166_eq:FEq P TC 166 F166:=fun _ _ _ _=>by kernel_rfl
def C169 (call:Abc) (tlo base:Nat):Aba (TV×TV×TV×TV×TV×TV×TV×TV×TV×TV×TV×TV×TV×TV×TV×Unit):=
 (Aak (Aad fun S H k=>
 Aap (stor S.1)<|
 let t2:=(.ptr (Aah H) 0)
 let H0:=(Aaq H (.cells (Aas S.1)))
 k (z0 (hush S.1)<| z2 t2<| z3 nilT<| stN 15 S) H0)
 (Aak (Aad fun S H k=>
 k (z4 nilT<| stN 15 S) H)
 (Aak (Aak (Aad fun S H k=>
 Aaa (Aar (g2 S) 2) fun t11=>
 lF tlo base H t11 fun t12 H1=>
 Aaa (Aag call 100 [Aaj t12] H1) fun t13=>
 Aaa (lenT t13) fun t14=>
 k (z9 t13<| z10 t14<| z11 (tN 0)<| stN 15 S) H1)
 (Abd 0 (Ado (Aak (Aad fun S H k=>
 Aaa (b2 Ace (g11 S) (g10 S)) fun t16=>
 k (z12 t16<| stN 15 S) H)
 (Aak (Abb (fun S=>some (g12 S))
 (Aam .normal)
 (Aam (.exit 0)))
 (Aak (Abd 1 (Aak (Aad fun S H k=>
 Aaa (Abn 1 (g9 S) (g11 S)) fun t17=>
 sF tlo base H t17 fun t18 H2=>
 k (z5 t18<| stN 15 S) H2)
 (Aak (Aad fun S H k=>
 Aaa (Aar (g2 S) 0) fun t20=>
 lF tlo base H t20 fun t21 H3=>
 Aaa (b2 evQuo (Aab (g5 S)) t21) fun t22=>
 Aaa (b2 Abe t22 (tN 1)) fun t23=>
 Aaa (Aar (g2 S) 0) fun t24=>
 lF tlo base H3 t24 fun t25 H4=>
 Aaa (b2 Abe t25 (tN 1)) fun t26=>
 Aaa (b2 evMul t23 t26) fun t27=>
 Aaa (Aar (g2 S) 0) fun t29=>
 lF tlo base H4 t29 fun t30 H5=>
 Aaa (b2 evRem (Aab (Aae (g5 S))) t30) fun t31=>
 Aaa (b2 Abe t27 t31) fun t32=>
 Aaa (b2 Abe t32 (tN 1)) fun t33=>
 k (z5 (Aae (Aae (g5 S)))<| z6 t33<| stN 15 S) H5)
 (Aak (Aad fun S H k=>
 Aaa (Abn 1 (Aab (g1 S)) (Aab (g6 S))) fun t36=>
 lF tlo base H t36 fun t37 H6=>
 Aaa (Aar (g2 S) 0) fun t40=>
 lF tlo base H6 t40 fun t41 H7=>
 Aaa (b2 Acj (Aab (Aae (g6 S))) t41) fun t42=>
 Aaa (b2 Acj t42 (tN 1)) fun t43=>
 Aaa (Abn 1 (Aab (Aae (g1 S))) t43) fun t44=>
 lF tlo base H7 t44 fun t45 H8=>
 Aaa (b2 Acj t37 t45) fun t46=>
 Aaa (Abn 1 (Aab (Aae (Aae (g1 S)))) (Aab (Aae (Aae (g6 S))))) fun t49=>
 lF tlo base H8 t49 fun t50 H9=>
 Aaa (b2 Acj (Aab (Aae (Aae (Aae (g6 S))))) (tN 1)) fun t53=>
 Aaa (Abn 1 (Aab (Aae (Aae (Aae (g1 S))))) t53) fun t54=>
 lF tlo base H9 t54 fun t55 H10=>
 Aaa (b2 Acj t50 t55) fun t56=>
 k (z1 (Aae (Aae (Aae (Aae (g1 S)))))<| z6 (Aae (Aae (Aae (Aae (g6 S)))))<| z7 t46<| z8 t56<| stN 15 S) H10)
 (Aak (Aak (Aad fun S H k=>
 Aaa (Aar (g2 S) 3) fun t58=>
 Aaa (Abk 16 1 t58 (Aab (g5 S))) fun t59=>
 lF tlo base H t59 fun t60 H11=>
 Aaa (b2 Abe (Aab (Aae (g5 S))) (tN 1)) fun t62=>
 Aaa (b2 evShr t60 t62) fun t63=>
 Aaa (b2 evAnd t63 (.v (.int .u64 (.ofNat 1)))) fun t64=>
 Aaa (eqlT .int t64 (.v (.int .u64 (.ofNat 1)))) fun t65=>
 gV t65 true (Aab (Aae (Aae (g5 S)))) H11 fun t67 H12=>
 gB t65 true (Aar (g2 S) 0) H12 fun t68 H13=>
 Abf (Aab t65) true (lF tlo base H13 t68 fun g14 H14=>Abm g14 H14) H13 fun t69 H15=>
 gB t65 true (b2 evRem t67 t69) H15 fun t70 H16=>
 gB t65 true (Aar (g2 S) 0) H16 fun t71 H17=>
 Abf (Aab t65) true (lF tlo base H17 t71 fun g18 H18=>Abm g18 H18) H17 fun t72 H19=>
 gB t65 true (b2 Acj t72 (tN 1)) H19 fun t73 H20=>
 gB t65 true (b2 Ace t70 t73) H20 fun t74 H21=>
 Aaa (Acb (Aab t65) (Aaj t74) (tB false)) fun t75=>
 gV t75 true (Aab (g7 S)) H21 fun t77 H22=>
 gV t75 true (Aab (Aae (g7 S))) H22 fun t78 H23=>
 gB t75 true (b2 evMul t77 t78) H23 fun t79 H24=>
 gB t75 true (b2 evGtr t79 (tN 1)) H24 fun t80 H25=>
 Aaa (Acb (Aab t75) (Aaj t80) (tB false)) fun t81=>
 k (z5 (Aae (Aae (Aae (g5 S))))<| z7 (Aae (Aae (g7 S)))<| z13 t81<| stN 15 S) H25)
 (Abb (fun S=>some (g13 S))
 (Aad fun S H k=>
 Aaa (b2 Abe (Aab (Aaj (g5 S))) (tN 1)) fun t85=>
 Aaa (aggT [(0,1,(Aaj (g5 S))),(1,1,t85)] zc71) fun t86=>
 Aaa (Ada 2 [0] [Aaj t86] (repG [.agg zc71] 1)) fun c26=>
 Acq tlo H 71 2 16 (g4 S) (.row .full (.own 71) 2 c26) fun t88 H27=>
 k (z4 t88<| z5 (Aae (Aaj (g5 S)))<| stN 15 S) H27)
 (Aam .normal)))
 (Aak (Aad fun S H k=>
 Aaa (Aar (g2 S) 3) fun t90=>
 Aaa (Abk 16 1 t90 (Aab (g5 S))) fun t91=>
 lF tlo base H t91 fun t92 H28=>
 Aaa (Aar (g2 S) 0) fun t94=>
 lF tlo base H28 t94 fun t95 H29=>
 Aaa (b2 Abe (Aab (Aae (g5 S))) t95) fun t96=>
 Aaa (b2 evShr t92 t96) fun t97=>
 Aaa (b2 evAnd t97 (.v (.int .u64 (.ofNat 1)))) fun t98=>
 Aaa (eqlT .int t98 (.v (.int .u64 (.ofNat 1)))) fun t99=>
 gV t99 true (Aab (g8 S)) H29 fun t101 H30=>
 gV t99 true (Aab (Aae (g8 S))) H30 fun t102 H31=>
 gB t99 true (b2 evMul t101 t102) H31 fun t103 H32=>
 gB t99 true (b2 evGtr t103 (tN 1)) H32 fun t104 H33=>
 Aaa (Acb (Aab t99) (Aaj t104) (tB false)) fun t105=>
 k (z5 (Aae (Aae (g5 S)))<| z8 (Aae (Aae (g8 S)))<| z14 t105<| stN 15 S) H33)
 (Abb (fun S=>some (g14 S))
 (Aad fun S H k=>
 Aaa (Aar (g2 S) 0) fun t109=>
 lF tlo base H t109 fun t110 H34=>
 Aaa (b2 Abe (Aab (Aaj (g5 S))) t110) fun t111=>
 Aaa (aggT [(0,1,(Aaj (g5 S))),(1,1,t111)] zc71) fun t112=>
 Aaa (Ada 2 [0] [Aaj t112] (repG [.agg zc71] 1)) fun c35=>
 Acq tlo H34 71 2 16 (g4 S) (.row .full (.own 71) 2 c35) fun t114 H36=>
 k (z4 t114<| z5 (Aae (Aaj (g5 S)))<| stN 15 S) H36)
 (Aam .normal))))))))
 (Aad fun S H k=>
 Aaa (b2 Abe (g11 S) (tN 1)) fun t115=>
 k (z11 t115<| stN 15 S) H)))) fuel)))
 (Aak (Aad fun S H k=>
 k (z3 (g4 S)<| z4 (hush (g4 S))<| stN 15 S) H)
 (Aam .ret)))))
def F169:FnT:=fun call tlo l H=>Aaa (C169 call tlo (Aah H) (Aal l 0,Aal l 1,Aal l 2,Aal l 4,Aal l 5,Aal l 7,Aal l 8,Aal l 9,Aal l 10,Aal l 13,Aal l 14,Aal l 15,Aal l 16,Aal l 81,Aal l 105,()) H) fun p=>resE p.1 (Aap (Abw Abo [p.2.1.2.2.2.1]) (some (endT (Aah H) p.2.1.2.2.2.1 p.2.2)))
theorem F169_eq:FEq P TC 169 F169:=fun _ _ _ _=>by kernel_rfl
def C170 (call:Abc) (tlo base:Nat):Aba (TV×TV×TV×TV×TV×TV×TV×TV×TV×TV×TV×Unit):=
 (Aak (Aad fun S H k=>
 k (z3 (.v (.int .u64 (.ofNat 0)))<| stN 11 S) H)
 (Abd 0 (Ado (Abd 1 (Aak (Aad fun S H k=>
 k (z0 (hush S.1)<| z4 S.1<| stN 11 S) H)
 (Aak (Aak (Aad fun S H k=>
 Aaa (Aag call 100 [Aaj (Aab S.1)] H) fun t12=>
 Aaa (lenT t12) fun t13=>
 k (z0 (Aae S.1)<| z6 t12<| z7 t13<| z8 (tN 0)<| stN 11 S) H)
 (Abd 2 (Ado (Aak (Aad fun S H k=>
 Aaa (b2 Ace (g8 S) (g7 S)) fun t15=>
 k (z9 t15<| stN 11 S) H)
 (Aak (Abb (fun S=>some (g9 S))
 (Aam .normal)
 (Aam (.exit 2)))
 (Aak (Abd 3 (Aak (Aad fun S H k=>
 Aaa (Abn 1 (g6 S) (g8 S)) fun t16=>
 sF tlo base H t16 fun t17 H0=>
 k (z5 t17<| stN 11 S) H0)
 (Aad fun S H k=>
 Adl TC call tlo (Aab (g2 S)) [Aaj (Aaj (g5 S))] H fun t21 H1=>
 Aaa (b2 evAnd t21 (Aab (stale (g1 S)))) fun t23=>
 Aaa (b2 evOr (stale (Aab (g4 S))) t23) fun t24=>
 k (z1 (Aae (stale (g1 S)))<| z2 (Aae (g2 S))<| z4 t24<| z5 (Aaj (g5 S))<| stN 11 S) H1)))
 (Aad fun S H k=>
 Aaa (b2 Abe (g8 S) (tN 1)) fun t25=>
 k (z8 t25<| stN 11 S) H)))) fuel)))
 (Aak (Aak (Aad fun S H k=>
 Aaa (eqlT .int (Aab (g4 S)) (Aab S.1)) fun t28=>
 k (z0 (Aae S.1)<| z4 (Aae (g4 S))<| z10 t28<| stN 11 S) H)
 (Abb (fun S=>some (g10 S))
 (Aak (Aad fun S H k=>
 k (z3 (g4 S)<| z4 (hush (g4 S))<| stN 11 S) H)
 (Aam .ret))
 (Aam .normal)))
 (Aad fun S H k=>
 k (z0 (g4 S)<| z4 (hush (g4 S))<| stN 11 S) H))))) fuel)))
def F170:FnT:=fun call tlo l H=>Aaa (C170 call tlo (Aah H) (Aal l 0,Aal l 1,Aal l 2,Aal l 6,Aal l 7,Aal l 9,Aal l 12,Aal l 13,Aal l 14,Aal l 15,Aal l 28,()) H) fun p=>resE p.1 (Aap (Abw Abo [p.2.1.2.2.2.1]) (some (endT (Aah H) p.2.1.2.2.2.1 p.2.2)))
theorem F170_eq:FEq P TC 170 F170:=fun _ _ _ _=>by kernel_rfl
def C171 (call:Abc) (tlo base:Nat):Aba (TV×TV×TV×Unit):=
 (Aak (Aad fun S H k=>
 k (z2 (.v (.int .u64 (.ofNat 0)))<| stN 3 S) H)
 (Aak (Aad fun S H k=>
 Aaa (Aar (g1 S) 3) fun t5=>
 Aaa (Abk 16 1 t5 (Aab S.1)) fun t6=>
 sF tlo base H t6 fun t7 H0=>
 k (z0 (Aae S.1)<| z2 t7<| stN 3 S) H0)
 (Aam .ret)))
def F171:FnT:=fun call tlo l H=>Aaa (C171 call tlo (Aah H) (Aal l 0,Aal l 1,Aal l 3,()) H) fun p=>resE p.1 (Aap (Abw Abo [p.2.1.2.2.1]) (some (endT (Aah H) p.2.1.2.2.1 p.2.2)))
theorem F171_eq:FEq P TC 171 F171:=fun _ _ _ _=>by kernel_rfl
def C172 (call:Abc) (tlo base:Nat):Aba (TV×TV×TV×TV×TV×TV×TV×TV×TV×TV×TV×Unit):=
 (Aak (Aad fun S H k=>
 Aap (stor S.1)<|
 let t2:=(.ptr (Aah H) 0)
 let H0:=(Aaq H (.cells (Aas S.1)))
 k (z0 (hush S.1)<| z2 t2<| z3 (.v (.int .u64 (.ofNat 0)))<| stN 11 S) H0)
 (Aak (Aad fun S H k=>
 Aaa (Aar (g2 S) 0) fun t9=>
 lF tlo base H t9 fun t10 H1=>
 Aaa (b2 evRem (Aab (g1 S)) t10) fun t11=>
 Aaa (Aar (g2 S) 0) fun t13=>
 lF tlo base H1 t13 fun t14 H2=>
 Aaa (b2 evQuo (Aab (Aae (g1 S))) t14) fun t15=>
 k (z1 (Aae (Aae (g1 S)))<| z4 t11<| z5 t15<| stN 11 S) H2)
 (Aak (Aad fun S H k=>
 k (z6 (.v (.int .u64 (.ofNat 0)))<| stN 11 S) H)
 (Aak (Aak (Aad fun S H k=>
 Aaa (b2 evGtr (Aab (g4 S)) (tN 0)) fun t17=>
 k (z4 (Aae (g4 S))<| z7 t17<| stN 11 S) H)
 (Abb (fun S=>some (g7 S))
 (Aad fun S H k=>
 Aaa (b2 Acj (Aab (g1 S)) (tN 1)) fun t20=>
 Aaa (b2 evShl (.v (.int .u64 (.ofNat 1))) t20) fun t21=>
 Aaa (b2 evOr (Aab (g6 S)) t21) fun t22=>
 k (z1 (Aae (g1 S))<| z6 t22<| stN 11 S) H)
 (Aam .normal)))
 (Aak (Aak (Aad fun S H k=>
 Aaa (Aar (g2 S) 0) fun t24=>
 lF tlo base H t24 fun t25 H3=>
 Aaa (b2 Acj t25 (tN 1)) fun t26=>
 Aaa (b2 Ace (Aab (g4 S)) t26) fun t27=>
 k (z4 (Aae (g4 S))<| z8 t27<| stN 11 S) H3)
 (Abb (fun S=>some (g8 S))
 (Aad fun S H k=>
 Aaa (b2 Abe (Aab (g1 S)) (tN 1)) fun t30=>
 Aaa (b2 evShl (.v (.int .u64 (.ofNat 1))) t30) fun t31=>
 Aaa (b2 evOr (Aab (g6 S)) t31) fun t32=>
 k (z1 (Aae (g1 S))<| z6 t32<| stN 11 S) H)
 (Aam .normal)))
 (Aak (Aak (Aad fun S H k=>
 Aaa (b2 evGtr (Aab (g5 S)) (tN 0)) fun t34=>
 k (z5 (Aae (g5 S))<| z9 t34<| stN 11 S) H)
 (Abb (fun S=>some (g9 S))
 (Aad fun S H k=>
 Aaa (Aar (g2 S) 0) fun t37=>
 lF tlo base H t37 fun t38 H4=>
 Aaa (b2 Acj (Aab (g1 S)) t38) fun t39=>
 Aaa (b2 evShl (.v (.int .u64 (.ofNat 1))) t39) fun t40=>
 Aaa (b2 evOr (Aab (g6 S)) t40) fun t41=>
 k (z1 (Aae (g1 S))<| z6 t41<| stN 11 S) H4)
 (Aam .normal)))
 (Aak (Aak (Aad fun S H k=>
 Aaa (Aar (g2 S) 1) fun t43=>
 lF tlo base H t43 fun t44 H5=>
 Aaa (b2 Acj t44 (tN 1)) fun t45=>
 Aaa (b2 Ace (Aab (g5 S)) t45) fun t46=>
 k (z5 (Aae (g5 S))<| z10 t46<| stN 11 S) H5)
 (Abb (fun S=>some (g10 S))
 (Aad fun S H k=>
 Aaa (Aar (g2 S) 0) fun t49=>
 lF tlo base H t49 fun t50 H6=>
 Aaa (b2 Abe (Aab (g1 S)) t50) fun t51=>
 Aaa (b2 evShl (.v (.int .u64 (.ofNat 1))) t51) fun t52=>
 Aaa (b2 evOr (Aab (g6 S)) t52) fun t53=>
 k (z1 (Aae (g1 S))<| z6 t53<| stN 11 S) H6)
 (Aam .normal)))
 (Aak (Aad fun S H k=>
 k (z3 (g6 S)<| z6 (hush (g6 S))<| stN 11 S) H)
 (Aam .ret)))))))))
def F172:FnT:=fun call tlo l H=>Aaa (C172 call tlo (Aah H) (Aal l 0,Aal l 1,Aal l 2,Aal l 4,Aal l 5,Aal l 6,Aal l 7,Aal l 17,Aal l 27,Aal l 34,Aal l 46,()) H) fun p=>resE p.1 (Aap (Abw Abo [p.2.1.2.2.2.1]) (some (endT (Aah H) p.2.1.2.2.2.1 p.2.2)))
theorem F172_eq:FEq P TC 172 F172:=fun _ _ _ _=>by kernel_rfl
def C175 (call:Abc) (tlo base:Nat):Aba (TV×TV×TV×TV×TV×TV×TV×TV×TV×TV×TV×TV×TV×TV×TV×TV×TV×TV×TV×Unit):=
 (Aak (Aak (Aad fun S H k=>
 lF tlo base H (g4 S) fun t16 H0=>
 Aaa (lenT t16) fun t17=>
 Aaa (eqlT .int (Aab S.1) t17) fun t18=>
 k (z0 (Aae S.1)<| z10 t18<| stN 19 S) H0)
 (Abb (fun S=>some (g10 S))
 (Aak (Aak (Aad fun S H k=>
 Aaa (eqlT .int (Aab (g1 S)) (tN 0)) fun t20=>
 k (z1 (Aae (g1 S))<| z11 t20<| stN 19 S) H)
 (Abb (fun S=>some (g11 S))
 (Aad fun S H k=>
 lF tlo base H (g5 S) fun t21 H1=>
 Adl TC call tlo t21 [Aaj (Aaj (g3 S))] H1 fun t23 H2=>
 k (z3 (Aaj (g3 S))<| stN 19 S) H2)
 (Aam .normal)))
 (Aam .ret))
 (Aam .normal)))
 (Aak (Aad fun S H k=>
 lF tlo base H (g4 S) fun t24 H3=>
 Aaa (Abn 1 t24 (Aab S.1)) fun t26=>
 sF tlo base H3 t26 fun t27 H4=>
 k (z0 (Aae S.1)<| z8 t27<| stN 19 S) H4)
 (Aak (Aak (Aad fun S H k=>
 Aaa (b2 evShr (Aab (g2 S)) (Aab (g8 S))) fun t30=>
 Aaa (b2 evAnd t30 (.v (.int .u64 (.ofNat 1)))) fun t31=>
 Aaa (eqlT .int t31 (.v (.int .u64 (.ofNat 1)))) fun t32=>
 k (z2 (Aae (g2 S))<| z8 (Aae (g8 S))<| z12 t32<| stN 19 S) H)
 (Abb (fun S=>some (g12 S))
 (Aak (Aad fun S H k=>
 lF tlo base H (g6 S) fun t33 H5=>
 Aaa (b2 Abe (Aab S.1) (tN 1)) fun t35=>
 Adl TC call tlo t33 [Aaj t35,Aaj (Aaj (g1 S)),Aaj (Aaj (g2 S)),Aaj (Aaj (g3 S))] H5 fun t39 H6=>
 k (z0 (Aae S.1)<| z1 (Aaj (g1 S))<| z2 (Aaj (g2 S))<| z3 (Aaj (g3 S))<| stN 19 S) H6)
 (Aam .ret))
 (Aam .normal)))
 (Aak (Aak (Aad fun S H k=>
 sF tlo base H (g7 S) fun t40 H7=>
 Aaa (lenT t40) fun t41=>
 k (z13 t40<| z14 t41<| z15 (tN 0)<| stN 19 S) H7)
 (Abd 0 (Ado (Aak (Aad fun S H k=>
 Aaa (b2 Ace (g15 S) (g14 S)) fun t43=>
 k (z16 t43<| stN 19 S) H)
 (Aak (Abb (fun S=>some (g16 S))
 (Aam .normal)
 (Aam (.exit 0)))
 (Aak (Abd 1 (Aak (Aad fun S H k=>
 Aaa (Abn 2 (g13 S) (g15 S)) fun t44=>
 sA tlo base 2 H t44 fun t45 H8=>
 let t14:=(.ptr (Aah H8) 0)
 let H9:=(Aaq H8 (.cells zc71))
 Aaa (Aau tlo base 2 H9 t14 t45) fun H10=>
 k (z9 t14<| stN 19 S) H10)
 (Aak (Aad fun S H k=>
 Aaa (Abk 2 1 (g9 S) (tN 0)) fun t46=>
 lF tlo base H t46 fun t47 H11=>
 Aaa (eqlT .int t47 (Aab (g8 S))) fun t49=>
 gV t49 true (Aab (g2 S)) H11 fun t51 H12=>
 gB t49 true (Abk 2 1 (g9 S) (tN 1)) H12 fun t52 H13=>
 Abf (Aab t49) true (lF tlo base H13 t52 fun g14 H14=>Abm g14 H14) H13 fun t53 H15=>
 gB t49 true (b2 evShr t51 t53) H15 fun t54 H16=>
 gB t49 true (b2 evAnd t54 (.v (.int .u64 (.ofNat 1)))) H16 fun t55 H17=>
 gB t49 true (eqlT .int t55 (.v (.int .u64 (.ofNat 0)))) H17 fun t56 H18=>
 Aaa (Acb (Aab t49) (Aaj t56) (tB false)) fun t57=>
 k (z2 (Aae (g2 S))<| z8 (Aae (g8 S))<| z17 t57<| stN 19 S) H18)
 (Abb (fun S=>some (g17 S))
 (Aad fun S H k=>
 lF tlo base H (g6 S) fun t58 H19=>
 Aaa (b2 Abe (Aab S.1) (tN 1)) fun t60=>
 Aaa (b2 evShl (.v (.int .u64 (.ofNat 1))) (Aab (g8 S))) fun t64=>
 Aaa (b2 evOr (Aab (g2 S)) t64) fun t65=>
 Aaa (Abk 2 1 (g9 S) (tN 1)) fun t66=>
 lF tlo base H19 t66 fun t67 H20=>
 Aaa (b2 evShl (.v (.int .u64 (.ofNat 1))) t67) fun t68=>
 Aaa (b2 evOr t65 t68) fun t69=>
 Aaa (lenT (Aab (Aae (g3 S)))) fun t72=>
 Aaa (lenT (Aab (Aae (Aae (g3 S))))) fun t74=>
 Aaa (cutT 2 (Aab (g3 S)) none (some t72) (some t74)) fun t75=>
 sA tlo base 2 H20 (g9 S) fun t76 H21=>
 Aaa (Ada 2 [0] [Aaj t76] (repG [.agg zc71] 1)) fun c22=>
 Aap (apartT [hdX (g6 S) (hdP H (g6 S)),hdX t66 (hdP H19 t66)] [hdX t75 (hdP H20 t75),hdX (.row .full (.own 71) 2 c22) (hdP H21 (.row .full (.own 71) 2 c22))])<|
 Acq tlo H21 71 2 16 t75 (.row .full (.own 71) 2 c22) fun t78 H23=>
 Adl TC call tlo (stale t58) [Aaj (stale t60),Aaj (stale (Aaj (g1 S))),Aaj (stale t69),Aaj t78] H23 fun t79 H24=>
 k (z0 (Aae S.1)<| z1 (Aaj (g1 S))<| z2 (Aae (g2 S))<| z3 (Aae (Aae (Aae (g3 S))))<| z8 (Aae (g8 S))<| stN 19 S) H24)
 (Aam .normal)))))
 (Aad fun S H k=>
 Aaa (b2 Abe (g15 S) (tN 1)) fun t80=>
 k (z15 t80<| stN 19 S) H)))) fuel)))
 (Aak (Aad fun S H k=>
 Aaa (b2 evGtr (Aab (g1 S)) (tN 0)) fun t82=>
 k (z1 (Aae (g1 S))<| z18 t82<| stN 19 S) H)
 (Abb (fun S=>some (g18 S))
 (Aad fun S H k=>
 lF tlo base H (g6 S) fun t83 H25=>
 Aaa (b2 Abe (Aab S.1) (tN 1)) fun t85=>
 Aaa (b2 Acj (Aab (g1 S)) (tN 1)) fun t87=>
 Adl TC call tlo t83 [Aaj t85,Aaj t87,Aaj (Aaj (g2 S)),Aaj (Aaj (g3 S))] H25 fun t90 H26=>
 k (z0 (Aae S.1)<| z1 (Aae (g1 S))<| z2 (Aaj (g2 S))<| z3 (Aaj (g3 S))<| stN 19 S) H26)
 (Aam .normal)))))))
def F175:FnT:=fun call tlo l H=>Aaa (C175 call tlo (Aah H) (Aal l 0,Aal l 1,Aal l 2,Aal l 3,Aal l 4,Aal l 5,Aal l 6,Aal l 7,Aal l 12,Aal l 14,Aal l 18,Aal l 20,Aal l 32,Aal l 40,Aal l 41,Aal l 42,Aal l 43,Aal l 57,Aal l 82,()) H) fun p=>resE p.1 (Aap (Abw Abo []) (some (endT (Aah H) (.tup []) p.2.2)))
theorem F175_eq:FEq P TC 175 F175:=fun _ _ _ _=>by kernel_rfl
def C176 (call:Abc) (tlo base:Nat):Aba (TV×TV×Unit):=
 (Aak (Aad fun S H k=>
 k (z1 (tB false)<| stN 2 S) H)
 (Aak (Aad fun S H k=>
 Aaa (neqT .int (Aab S.1) (Aab (Aae S.1))) fun t5=>
 k (z0 (Aae (Aae S.1))<| z1 t5<| stN 2 S) H)
 (Aam .ret)))
def F176:FnT:=fun call tlo l H=>Aaa (C176 call tlo (Aah H) (Aal l 0,Aal l 2,()) H) fun p=>resE p.1 (Aap (Abw Abo [p.2.1.2.1]) (some (endT (Aah H) p.2.1.2.1 p.2.2)))
theorem F176_eq:FEq P TC 176 F176:=fun _ _ _ _=>by kernel_rfl
end
end Go.Proofs.YtgemobbfikjmoaaGreatDoor
namespace Go.Proofs.YtgemobbfikjmoaaGreatDoor
open Go Go.Ev
set_option maxRecDepth 1000000
set_option linter.unusedVariables false
noncomputable section
def C186 (call:Abc) (tlo base:Nat):Aba (TV×TV×TV×TV×Unit):=
 (Aak (Aad fun S H k=>
 k (z1 (tN 0)<| stN 4 S) H)
 (Aak (Aak (Aad fun S H k=>
 Aaa (b2 evGeq (Aab S.1) (.v (.int .u32 (.ofNat 65536)))) fun t4=>
 k (z0 (Aae S.1)<| z2 t4<| stN 4 S) H)
 (Abb (fun S=>some (g2 S))
 (Aak (Aad fun S H k=>
 Aaa (b2 evShr (Aab S.1) (.v (.int .u64 (.ofNat 16)))) fun t6=>
 k (z0 t6<| stN 4 S) H)
 (Aad fun S H k=>
 k (z1 (tN 16)<| stN 4 S) H))
 (Aam .normal)))
 (Aak (Aak (Aad fun S H k=>
 Aaa (b2 evGeq (Aab S.1) (.v (.int .u32 (.ofNat 256)))) fun t8=>
 k (z0 (Aae S.1)<| z3 t8<| stN 4 S) H)
 (Abb (fun S=>some (g3 S))
 (Aak (Aad fun S H k=>
 Aaa (b2 evShr (Aab S.1) (.v (.int .u64 (.ofNat 8)))) fun t10=>
 k (z0 t10<| stN 4 S) H)
 (Aad fun S H k=>
 Aaa (b2 Abe (Aab (g1 S)) (tN 8)) fun t12=>
 k (z1 t12<| stN 4 S) H))
 (Aam .normal)))
 (Aak (Aad fun S H k=>
 Aaa (b1 (evConv .u8) (Aab S.1)) fun t15=>
 Aaa (idxStrT (.v str0) t15) fun t16=>
 Aaa (b1 (evConv .i64) t16) fun t17=>
 Aaa (b2 Abe (Aab (g1 S)) t17) fun t18=>
 k (z0 (Aae S.1)<| z1 t18<| stN 4 S) H)
 (Aam .ret)))))
def F186:FnT:=fun call tlo l H=>Aaa (C186 call tlo (Aah H) (Aal l 0,Aal l 2,Aal l 4,Aal l 8,()) H) fun p=>resE p.1 (Aap (Abw Abo [p.2.1.2.1]) (some (endT (Aah H) p.2.1.2.1 p.2.2)))
theorem F186_eq:FEq P TC 186 F186:=fun _ _ _ _=>by kernel_rfl
def C187 (call:Abc) (tlo base:Nat):Aba (TV×TV×TV×TV×TV×Unit):=
 (Aak (Aad fun S H k=>
 k (z1 (tN 0)<| stN 5 S) H)
 (Aak (Aak (Aad fun S H k=>
 Aaa (b2 evGeq (Aab S.1) (.v (.int .u64 (.ofNat 4294967296)))) fun t4=>
 k (z0 (Aae S.1)<| z2 t4<| stN 5 S) H)
 (Abb (fun S=>some (g2 S))
 (Aak (Aad fun S H k=>
 Aaa (b2 evShr (Aab S.1) (.v (.int .u64 (.ofNat 32)))) fun t6=>
 k (z0 t6<| stN 5 S) H)
 (Aad fun S H k=>
 k (z1 (tN 32)<| stN 5 S) H))
 (Aam .normal)))
 (Aak (Aak (Aad fun S H k=>
 Aaa (b2 evGeq (Aab S.1) (.v (.int .u64 (.ofNat 65536)))) fun t8=>
 k (z0 (Aae S.1)<| z3 t8<| stN 5 S) H)
 (Abb (fun S=>some (g3 S))
 (Aak (Aad fun S H k=>
 Aaa (b2 evShr (Aab S.1) (.v (.int .u64 (.ofNat 16)))) fun t10=>
 k (z0 t10<| stN 5 S) H)
 (Aad fun S H k=>
 Aaa (b2 Abe (Aab (g1 S)) (tN 16)) fun t12=>
 k (z1 t12<| stN 5 S) H))
 (Aam .normal)))
 (Aak (Aak (Aad fun S H k=>
 Aaa (b2 evGeq (Aab S.1) (.v (.int .u64 (.ofNat 256)))) fun t14=>
 k (z0 (Aae S.1)<| z4 t14<| stN 5 S) H)
 (Abb (fun S=>some (g4 S))
 (Aak (Aad fun S H k=>
 Aaa (b2 evShr (Aab S.1) (.v (.int .u64 (.ofNat 8)))) fun t16=>
 k (z0 t16<| stN 5 S) H)
 (Aad fun S H k=>
 Aaa (b2 Abe (Aab (g1 S)) (tN 8)) fun t18=>
 k (z1 t18<| stN 5 S) H))
 (Aam .normal)))
 (Aak (Aad fun S H k=>
 Aaa (b1 (evConv .u8) (Aab S.1)) fun t21=>
 Aaa (idxStrT (.v str0) t21) fun t22=>
 Aaa (b1 (evConv .i64) t22) fun t23=>
 Aaa (b2 Abe (Aab (g1 S)) t23) fun t24=>
 k (z0 (Aae S.1)<| z1 t24<| stN 5 S) H)
 (Aam .ret))))))
def F187:FnT:=fun call tlo l H=>Aaa (C187 call tlo (Aah H) (Aal l 0,Aal l 2,Aal l 4,Aal l 8,Aal l 14,()) H) fun p=>resE p.1 (Aap (Abw Abo [p.2.1.2.1]) (some (endT (Aah H) p.2.1.2.1 p.2.2)))
theorem F187_eq:FEq P TC 187 F187:=fun _ _ _ _=>by kernel_rfl
def C188 (call:Abc) (tlo base:Nat):Aba (TV×TV×TV×TV×TV×TV×TV×TV×Unit):=
 (Aak (Aad fun S H k=>
 Aaa (b2 Abe (Aab (g1 S)) (tN 1)) fun t11=>
 k (z1 (Aae (g1 S))<| z4 t11<| stN 8 S) H)
 (Abd 0 (Ado (Aak (Aak (Aad fun S H k=>
 Aaa (b2 Ace (Aab (g4 S)) (Aab (g2 S))) fun t14=>
 k (z2 (Aae (g2 S))<| z4 (Aae (g4 S))<| z6 t14<| stN 8 S) H)
 (Abb (fun S=>some (g6 S))
 (Aam .normal)
 (Aam (.exit 0))))
 (Aak (Abd 1 (Aak (Aad fun S H k=>
 k (z4 (hush (g4 S))<| z5 (g4 S)<| stN 8 S) H)
 (Abd 2 (Ado (Aak (Aak (Aad fun S H k=>
 Aaa (b2 evGtr (Aab (g5 S)) (Aab (g1 S))) fun t20=>
 gV t20 true (Aab (g3 S)) H fun t22 H0=>
 gV t20 true (Aab S.1) H0 fun t23 H1=>
 gV t20 true (Aab (Aae (g5 S))) H1 fun t24 H2=>
 gB t20 true (Abn 2 t23 t24) H2 fun t25 H3=>
 Abf (Aab t20) true (sA tlo base 2 H3 t25 fun g4 H4=>Abm g4 H4) H3 fun t26 H5=>
 gV t20 true (Aab (Aae S.1)) H5 fun t27 H6=>
 gV t20 true (Aab (Aae (Aae (g5 S)))) H6 fun t28 H7=>
 gB t20 true (b2 Acj t28 (tN 1)) H7 fun t29 H8=>
 gB t20 true (Abn 2 t27 t29) H8 fun t30 H9=>
 Abf (Aab t20) true (sA tlo base 2 H9 t30 fun g10 H10=>Abm g10 H10) H9 fun t31 H11=>
 Abf (Aab t20) true (Adl TC call tlo t22 [Aaj t26,Aaj t31] H11 fun g12 H12=>Abm g12 H12) H11 fun t32 H13=>
 gB t20 true (b2 Ace t32 (tN 0)) H13 fun t33 H14=>
 Aaa (Acb (stale (Aab t20)) (Aaj t33) (tB false)) fun t34=>
 k (z0 (Aae (Aae S.1))<| z1 (Aae (g1 S))<| z3 (Aae (g3 S))<| z5 (Aae (Aae (Aae (g5 S))))<| z7 t34<| stN 8 S) H14)
 (Abb (fun S=>some (g7 S))
 (Aam .normal)
 (Aam (.exit 2))))
 (Aak (Abd 3 (Aad fun S H k=>
 Adh 2 true S.1 H fun c15 H15=>
 Adh 2 true (stale c15) H15 fun c16 H16=>
 Aaa (b2 Acj (Aab (stale (Aae (stale (g5 S))))) (tN 1)) fun t41=>
 Aaa (b2 Acj (Aab (Aae (stale (Aae (stale (g5 S)))))) (tN 1)) fun t44=>
 Aaa (Abn 2 (Aab (stale c16)) t44) fun t45=>
 sA tlo base 2 H16 t45 fun t46 H17=>
 Aaa (Abn 2 (Aab (Aae (stale c16))) (Aab (Aae (Aae (stale (Aae (stale (g5 S)))))))) fun t49=>
 sA tlo base 2 H17 t49 fun t50 H18=>
 Adh 2 true (stale c15) H18 fun c19 H19=>
 Aaa (Abn 2 c19 (stale (Aab (stale (g5 S))))) fun t51=>
 Aaa (Aau tlo base 2 H19 t51 (stale t46)) fun H20=>
 Adh 2 true (stale c16) H20 fun c21 H21=>
 Aaa (Abn 2 c21 (stale t41)) fun t52=>
 Aaa (Aau tlo base 2 H21 t52 (stale t50)) fun H22=>
 k (z0 (Aae (Aae (stale c16)))<| z5 (Aae (Aae (Aae (stale (Aae (stale (g5 S)))))))<| stN 8 S) H22))
 (Aad fun S H k=>
 Aaa (b2 Acj (Aab (g5 S)) (tN 1)) fun t36=>
 k (z5 t36<| stN 8 S) H))) fuel))))
 (Aad fun S H k=>
 Aaa (b2 Abe (Aab (g4 S)) (tN 1)) fun t16=>
 k (z4 t16<| stN 8 S) H))) fuel)))
def F188:FnT:=fun call tlo l H=>Aaa (C188 call tlo (Aah H) (Aal l 0,Aal l 1,Aal l 2,Aal l 3,Aal l 8,Aal l 9,Aal l 14,Aal l 34,()) H) fun p=>resE p.1 (Aap (Abw Abo []) (some (endT (Aah H) (.tup []) p.2.2)))
theorem F188_eq:FEq P TC 188 F188:=fun _ _ _ _=>by kernel_rfl
def C196 (call:Abc) (tlo base:Nat):Aba (TV×TV×TV×Unit):=
 (Aak (Aad fun S H k=>
 k (z1 (tN 0)<| stN 3 S) H)
 (Aak (Aak (Aad fun S H k=>
 Aaa (eqlT .int (Aab S.1) (.v (.int .u32 (.ofNat 0)))) fun t4=>
 k (z0 (Aae S.1)<| z2 t4<| stN 3 S) H)
 (Abb (fun S=>some (g2 S))
 (Aak (Aad fun S H k=>
 k (z1 (tN 32)<| stN 3 S) H)
 (Aam .ret))
 (Aam .normal)))
 (Aak (Aad fun S H k=>
 Aaa (b1 evNeg (Aab (Aae S.1))) fun t7=>
 Aaa (b2 evAnd (Aab S.1) t7) fun t8=>
 Aaa (b2 evMul t8 (.v (.int .u32 (.ofNat 125613361)))) fun t9=>
 Aaa (b2 evShr t9 (.v (.int .u64 (.ofNat 27)))) fun t10=>
 Aaa (Abk 32 1 (.el .set tab0 0) t10) fun t11=>
 lF tlo base H t11 fun t12 H0=>
 Aaa (b1 (evConv .i64) t12) fun t13=>
 k (z0 (Aae (Aae S.1))<| z1 t13<| stN 3 S) H0)
 (Aam .ret))))
def F196:FnT:=fun call tlo l H=>Aaa (C196 call tlo (Aah H) (Aal l 0,Aal l 2,Aal l 4,()) H) fun p=>resE p.1 (Aap (Abw Abo [p.2.1.2.1]) (some (endT (Aah H) p.2.1.2.1 p.2.2)))
theorem F196_eq:FEq P TC 196 F196:=fun _ _ _ _=>by kernel_rfl
def C197 (call:Abc) (tlo base:Nat):Aba (TV×TV×TV×Unit):=
 (Aak (Aad fun S H k=>
 k (z1 (tN 0)<| stN 3 S) H)
 (Aak (Aak (Aad fun S H k=>
 Aaa (eqlT .int (Aab S.1) (.v (.int .u64 (.ofNat 0)))) fun t4=>
 k (z0 (Aae S.1)<| z2 t4<| stN 3 S) H)
 (Abb (fun S=>some (g2 S))
 (Aak (Aad fun S H k=>
 k (z1 (tN 64)<| stN 3 S) H)
 (Aam .ret))
 (Aam .normal)))
 (Aak (Aad fun S H k=>
 Aaa (b1 evNeg (Aab (Aae S.1))) fun t7=>
 Aaa (b2 evAnd (Aab S.1) t7) fun t8=>
 Aaa (b2 evMul t8 (.v (.int .u64 (.ofNat 285870213051353865)))) fun t9=>
 Aaa (b2 evShr t9 (.v (.int .u64 (.ofNat 58)))) fun t10=>
 Aaa (Abk 64 1 (.el .set tab1 0) t10) fun t11=>
 lF tlo base H t11 fun t12 H0=>
 Aaa (b1 (evConv .i64) t12) fun t13=>
 k (z0 (Aae (Aae S.1))<| z1 t13<| stN 3 S) H0)
 (Aam .ret))))
def F197:FnT:=fun call tlo l H=>Aaa (C197 call tlo (Aah H) (Aal l 0,Aal l 2,Aal l 4,()) H) fun p=>resE p.1 (Aap (Abw Abo [p.2.1.2.1]) (some (endT (Aah H) p.2.1.2.1 p.2.2)))
theorem F197_eq:FEq P TC 197 F197:=fun _ _ _ _=>by kernel_rfl
def C198 (call:Abc) (tlo base:Nat):Aba (TV×TV×TV×TV×TV×TV×TV×TV×Unit):=
 (Aak (Aad fun S H k=>
 k (z2 (tN 0)<| stN 8 S) H)
 (Aak (Aak (Aad fun S H k=>
 Aaa (lenT (Aab S.1)) fun t7=>
 k (z0 (Aae S.1)<| z4 t7<| z5 (tN 0)<| stN 8 S) H)
 (Abd 0 (Ado (Aak (Aad fun S H k=>
 Aaa (b2 Ace (g5 S) (g4 S)) fun t9=>
 k (z6 t9<| stN 8 S) H)
 (Aak (Abb (fun S=>some (g6 S))
 (Aam .normal)
 (Aam (.exit 0)))
 (Aak (Abd 1 (Aak (Aad fun S H k=>
 k (z3 (g5 S)<| z5 (hush (g5 S))<| stN 8 S) H)
 (Aak (Aad fun S H k=>
 Aaa (Abn 1 (Aab S.1) (Aab (g3 S))) fun t14=>
 sF tlo base H t14 fun t15 H0=>
 Adl TC call tlo (Aab (g1 S)) [Aaj t15] H0 fun t16 H1=>
 k (z0 (Aae S.1)<| z1 (Aae (g1 S))<| z3 (Aae (g3 S))<| z7 t16<| stN 8 S) H1)
 (Abb (fun S=>some (g7 S))
 (Aak (Aad fun S H k=>
 k (z2 (g3 S)<| z3 (hush (g3 S))<| stN 8 S) H)
 (Aam .ret))
 (Aam .normal)))))
 (Aad fun S H k=>
 Aaa (b2 Abe (g5 S) (tN 1)) fun t18=>
 k (z5 t18<| stN 8 S) H)))) fuel)))
 (Aak (Aad fun S H k=>
 k (z2 (.v (.int .i64 (.negSucc 0)))<| stN 8 S) H)
 (Aam .ret))))
def F198:FnT:=fun call tlo l H=>Aaa (C198 call tlo (Aah H) (Aal l 0,Aal l 1,Aal l 4,Aal l 5,Aal l 7,Aal l 8,Aal l 9,Aal l 16,()) H) fun p=>resE p.1 (Aap (Abw Abo [p.2.1.2.2.1]) (some (endT (Aah H) p.2.1.2.2.1 p.2.2)))
theorem F198_eq:FEq P TC 198 F198:=fun _ _ _ _=>by kernel_rfl
def C199 (call:Abc) (tlo base:Nat):Aba (TV×TV×TV×TV×TV×Unit):=
 (Aak (Aad fun S H k=>
 k (z3 (tN 0)<| stN 5 S) H)
 (Aak (Aak (Aad fun S H k=>
 Aaa (b2 (evLesser false) (Aab S.1) (Aab (g1 S))) fun c0=>
 Aap (isV c0)<|
 Aaa (b2 Ace c0 (tN 0)) fun t9=>
 gV t9 false (Aab (Aae S.1)) H fun t11 H1=>
 gB t9 false (Aar (g2 S) 0) H1 fun t12 H2=>
 Abf (Aab t9) false (lF tlo base H2 t12 fun g3 H3=>Abm g3 H3) H2 fun t13 H4=>
 gB t9 false (b2 evGeq t11 t13) H4 fun t14 H5=>
 Aaa (Acb (Aab t9) (tB true) (Aaj t14)) fun t15=>
 gV t15 false (Aab (Aae (g1 S))) H5 fun t17 H6=>
 gB t15 false (Aar (g2 S) 1) H6 fun t18 H7=>
 Abf (Aab t15) false (lF tlo base H7 t18 fun g8 H8=>Abm g8 H8) H7 fun t19 H9=>
 gB t15 false (b2 evGeq t17 t19) H9 fun t20 H10=>
 Aaa (Acb (Aab t15) (tB true) (Aaj t20)) fun t21=>
 gB t21 false (Aar (g2 S) 2) H10 fun t23 H11=>
 Abf (Aab t21) false (lF tlo base H11 t23 fun g12 H12=>Abm g12 H12) H11 fun t24 H13=>
 gV t21 false (Aab (Aae (Aae (g1 S)))) H13 fun t25 H14=>
 gB t21 false (Aar (g2 S) 0) H14 fun t26 H15=>
 Abf (Aab t21) false (lF tlo base H15 t26 fun g16 H16=>Abm g16 H16) H15 fun t27 H17=>
 gB t21 false (b2 evMul t25 t27) H17 fun t28 H18=>
 gV t21 false (Aab (Aae (Aae S.1))) H18 fun t29 H19=>
 gB t21 false (b2 Abe t28 t29) H19 fun t30 H20=>
 gB t21 false (b2 evShr t24 t30) H20 fun t31 H21=>
 gB t21 false (b2 evAnd t31 (.v (.int .u64 (.ofNat 1)))) H21 fun t32 H22=>
 gB t21 false (eqlT .int t32 (.v (.int .u64 (.ofNat 0)))) H22 fun t33 H23=>
 Aaa (Acb (Aab t21) (tB true) (Aaj t33)) fun t34=>
 k (z0 (Aae (Aae (Aae S.1)))<| z1 (Aae (Aae (Aae (g1 S))))<| z4 t34<| stN 5 S) H23)
 (Abb (fun S=>some (g4 S))
 (Aak (Aad fun S H k=>
 k (z3 (.v (.int .i64 (.negSucc 0)))<| stN 5 S) H)
 (Aam .ret))
 (Aam .normal)))
 (Aak (Aad fun S H k=>
 Aaa (Aar (g2 S) 0) fun t36=>
 lF tlo base H t36 fun t37 H24=>
 Aaa (b2 evMul (Aab (g1 S)) t37) fun t38=>
 Aaa (b2 Abe t38 (Aab S.1)) fun t40=>
 k (z0 (Aae S.1)<| z1 (Aae (g1 S))<| z3 t40<| stN 5 S) H24)
 (Aam .ret))))
def F199:FnT:=fun call tlo l H=>Aaa (C199 call tlo (Aah H) (Aal l 0,Aal l 1,Aal l 2,Aal l 5,Aal l 34,()) H) fun p=>resE p.1 (Aap (Abw Abo [p.2.1.2.2.2.1]) (some (endT (Aah H) p.2.1.2.2.2.1 p.2.2)))
theorem F199_eq:FEq P TC 199 F199:=fun _ _ _ _=>by kernel_rfl
def C201 (call:Abc) (tlo base:Nat):Aba (TV×TV×Unit):=
 (Aak (Aad fun S H k=>
 k (z1 (tN 0)<| stN 2 S) H)
 (Aak (Aad fun S H k=>
 Aaa (b2 evShr (Aab S.1) (.v (.int .u64 (.ofNat 24)))) fun t4=>
 Aaa (idxStrT (.v str1) t4) fun t5=>
 Aaa (b2 evShr (Aab (Aae S.1)) (.v (.int .u64 (.ofNat 16)))) fun t7=>
 Aaa (b2 evAnd t7 (.v (.int .u32 (.ofNat 255)))) fun t8=>
 Aaa (idxStrT (.v str1) t8) fun t9=>
 Aaa (b2 Abe t5 t9) fun t10=>
 Aaa (b2 evShr (Aab (Aae (Aae S.1))) (.v (.int .u64 (.ofNat 8)))) fun t12=>
 Aaa (b2 evAnd t12 (.v (.int .u32 (.ofNat 255)))) fun t13=>
 Aaa (idxStrT (.v str1) t13) fun t14=>
 Aaa (b2 Abe t10 t14) fun t15=>
 Aaa (b2 evAnd (Aab (Aae (Aae (Aae S.1)))) (.v (.int .u32 (.ofNat 255)))) fun t17=>
 Aaa (idxStrT (.v str1) t17) fun t18=>
 Aaa (b2 Abe t15 t18) fun t19=>
 Aaa (b1 (evConv .i64) t19) fun t20=>
 k (z0 (Aae (Aae (Aae (Aae S.1))))<| z1 t20<| stN 2 S) H)
 (Aam .ret)))
def F201:FnT:=fun call tlo l H=>Aaa (C201 call tlo (Aah H) (Aal l 0,Aal l 2,()) H) fun p=>resE p.1 (Aap (Abw Abo [p.2.1.2.1]) (some (endT (Aah H) p.2.1.2.1 p.2.2)))
theorem F201_eq:FEq P TC 201 F201:=fun _ _ _ _=>by kernel_rfl
def C202 (call:Abc) (tlo base:Nat):Aba (TV×TV×Unit):=
 (Aak (Aad fun S H k=>
 k (z1 (tN 0)<| stN 2 S) H)
 (Aak (Aad fun S H k=>
 Aaa (b2 evShr (Aab S.1) (.v (.int .u64 (.ofNat 1)))) fun t4=>
 Aaa (b2 evAnd t4 (.v (.int .u64 (.ofNat 6148914691236517205)))) fun t5=>
 Aaa (b2 evAnd (Aab (Aae S.1)) (.v (.int .u64 (.ofNat 6148914691236517205)))) fun t7=>
 Aaa (b2 Abe t5 t7) fun t8=>
 k (z0 t8<| stN 2 S) H)
 (Aak (Aad fun S H k=>
 Aaa (b2 evShr (Aab S.1) (.v (.int .u64 (.ofNat 2)))) fun t10=>
 Aaa (b2 evAnd t10 (.v (.int .u64 (.ofNat 3689348814741910323)))) fun t11=>
 Aaa (b2 evAnd (Aab (Aae S.1)) (.v (.int .u64 (.ofNat 3689348814741910323)))) fun t13=>
 Aaa (b2 Abe t11 t13) fun t14=>
 k (z0 t14<| stN 2 S) H)
 (Aak (Aad fun S H k=>
 Aaa (b2 evShr (Aab S.1) (.v (.int .u64 (.ofNat 4)))) fun t16=>
 Aaa (b2 Abe t16 (Aab (Aae S.1))) fun t18=>
 Aaa (b2 evAnd t18 (.v (.int .u64 (.ofNat 1085102592571150095)))) fun t19=>
 k (z0 t19<| stN 2 S) H)
 (Aak (Aad fun S H k=>
 Aaa (b2 evShr (Aab (Aae S.1)) (.v (.int .u64 (.ofNat 8)))) fun t22=>
 Aaa (b2 Abe (Aab S.1) t22) fun t23=>
 k (z0 t23<| stN 2 S) H)
 (Aak (Aad fun S H k=>
 Aaa (b2 evShr (Aab (Aae S.1)) (.v (.int .u64 (.ofNat 16)))) fun t26=>
 Aaa (b2 Abe (Aab S.1) t26) fun t27=>
 k (z0 t27<| stN 2 S) H)
 (Aak (Aad fun S H k=>
 Aaa (b2 evShr (Aab (Aae S.1)) (.v (.int .u64 (.ofNat 32)))) fun t30=>
 Aaa (b2 Abe (Aab S.1) t30) fun t31=>
 k (z0 t31<| stN 2 S) H)
 (Aak (Aad fun S H k=>
 Aaa (b1 (evConv .i64) (Aab S.1)) fun t33=>
 Aaa (b2 evAnd t33 (tN 127)) fun t34=>
 k (z0 (Aae S.1)<| z1 t34<| stN 2 S) H)
 (Aam .ret)))))))))
def F202:FnT:=fun call tlo l H=>Aaa (C202 call tlo (Aah H) (Aal l 0,Aal l 2,()) H) fun p=>resE p.1 (Aap (Abw Abo [p.2.1.2.1]) (some (endT (Aah H) p.2.1.2.1 p.2.2)))
theorem F202_eq:FEq P TC 202 F202:=fun _ _ _ _=>by kernel_rfl
end
end Go.Proofs.YtgemobbfikjmoaaGreatDoor
namespace Go.Proofs.YtgemobbfikjmoaaGreatDoor
open Go Go.Ev
set_option maxRecDepth 1000000
set_option linter.unusedVariables false
end Go.Proofs.YtgemobbfikjmoaaGreatDoor
namespace Go.Proofs.YtgemobbfikjmoaaGreatDoor
open Go Go.Ev
set_option maxRecDepth 1000000
noncomputable section
def rows:List (Nat×(Abc→Abc)):=[
 rowF 12 F12,rowF 15 F15,rowF 16 F16,rowF 18 F18,rowF 20 F20,rowF 21 F21,rowF 23 F23,rowF 25 F25,rowF 27 F27,rowF 28 F28,rowF 30 F30,rowF 32 F32,rowF 34 F34,rowF 36 F36,rowF 38 F38,rowF 40 F40,rowF 42 F42,rowF 44 F44,rowF 46 F46,rowF 48 F48,rowF 50 F50,rowF 52 F52,rowF 54 F54,rowF 55 F55,rowF 56 F56,rowF 59 F59,rowF 62 F62,rowF 63 F63,rowF 64 F64,rowF 78 F78,rowF 79 F79,rowF 85 F85,rowF 87 F87,rowF 88 F88,rowF 89 F89,rowF 90 F90,rowF 91 F91,rowF 92 F92,rowF 93 F93,rowF 94 F94,rowF 95 F95,rowF 97 F97,rowF 98 F98,rowF 99 F99,rowF 100 F100,rowF 101 F101,rowF 104 F104,rowF 105 F105,rowF 111 F111,rowF 112 F112,rowF 113 F113,rowF 116 F116,rowF 117 F117,rowF 119 F119,rowF 121 F121,rowF 124 F124,rowF 125 F125,rowF 127 F127,rowF 128 F128,rowF 132 F132,rowF 133 F133,rowF 134 F134,rowF 135 F135,rowF 136 F136,rowF 137 F137,rowF 138 F138,rowF 143 F143,rowF 147 F147,rowF 148 F148,rowF 150 F150,rowF 151 F151,rowF 152 F152,rowF 153 F153,rowF 154 F154,rowF 156 F156,rowF 157 F157,rowF 158 F158,rowF 159 F159,rowF 160 F160,rowF 161 F161,rowF 162 F162,rowF 164 F164,rowF 166 F166,rowF 169 F169,rowF 170 F170,rowF 171 F171,rowF 172 F172,rowF 175 F175,rowF 176 F176,rowF 186 F186,rowF 187 F187,rowF 188 F188,rowF 196 F196,rowF 197 F197,rowF 198 F198,rowF 199 F199,rowF 201 F201,rowF 202 F202]
def table:Tr (Abc→Abc):=tableT rows .leaf
theorem rows_ok:∀ r∈rows,∀ call tlo args H,r.2 call tlo r.1 args H=fnT P TC call tlo r.1 args H:=by
 simp only [rows,List.forall_mem_cons]
 refine ⟨fun c t a H=>(F12_eq c t a H).symm,fun c t a H=>(F15_eq c t a H).symm,fun c t a H=>(F16_eq c t a H).symm,fun c t a H=>(F18_eq c t a H).symm,fun c t a H=>(F20_eq c t a H).symm,fun c t a H=>(F21_eq c t a H).symm,fun c t a H=>(F23_eq c t a H).symm,fun c t a H=>(F25_eq c t a H).symm,fun c t a H=>(F27_eq c t a H).symm,fun c t a H=>(F28_eq c t a H).symm,fun c t a H=>(F30_eq c t a H).symm,fun c t a H=>(F32_eq c t a H).symm,fun c t a H=>(F34_eq c t a H).symm,fun c t a H=>(F36_eq c t a H).symm,fun c t a H=>(F38_eq c t a H).symm,fun c t a H=>(F40_eq c t a H).symm,fun c t a H=>(F42_eq c t a H).symm,fun c t a H=>(F44_eq c t a H).symm,fun c t a H=>(F46_eq c t a H).symm,fun c t a H=>(F48_eq c t a H).symm,fun c t a H=>(F50_eq c t a H).symm,fun c t a H=>(F52_eq c t a H).symm,fun c t a H=>(F54_eq c t a H).symm,fun c t a H=>(F55_eq c t a H).symm,fun c t a H=>(F56_eq c t a H).symm,fun c t a H=>(F59_eq c t a H).symm,fun c t a H=>(F62_eq c t a H).symm,fun c t a H=>(F63_eq c t a H).symm,fun c t a H=>(F64_eq c t a H).symm,fun c t a H=>(F78_eq c t a H).symm,fun c t a H=>(F79_eq c t a H).symm,fun c t a H=>(F85_eq c t a H).symm,fun c t a H=>(F87_eq c t a H).symm,fun c t a H=>(F88_eq c t a H).symm,fun c t a H=>(F89_eq c t a H).symm,fun c t a H=>(F90_eq c t a H).symm,fun c t a H=>(F91_eq c t a H).symm,fun c t a H=>(F92_eq c t a H).symm,fun c t a H=>(F93_eq c t a H).symm,fun c t a H=>(F94_eq c t a H).symm,fun c t a H=>(F95_eq c t a H).symm,fun c t a H=>(F97_eq c t a H).symm,fun c t a H=>(F98_eq c t a H).symm,fun c t a H=>(F99_eq c t a H).symm,fun c t a H=>(F100_eq c t a H).symm,fun c t a H=>(F101_eq c t a H).symm,fun c t a H=>(F104_eq c t a H).symm,fun c t a H=>(F105_eq c t a H).symm,fun c t a H=>(F111_eq c t a H).symm,fun c t a H=>(F112_eq c t a H).symm,fun c t a H=>(F113_eq c t a H).symm,fun c t a H=>(F116_eq c t a H).symm,fun c t a H=>(F117_eq c t a H).symm,fun c t a H=>(F119_eq c t a H).symm,fun c t a H=>(F121_eq c t a H).symm,fun c t a H=>(F124_eq c t a H).symm,fun c t a H=>(F125_eq c t a H).symm,fun c t a H=>(F127_eq c t a H).symm,fun c t a H=>(F128_eq c t a H).symm,fun c t a H=>(F132_eq c t a H).symm,fun c t a H=>(F133_eq c t a H).symm,fun c t a H=>(F134_eq c t a H).symm,fun c t a H=>(F135_eq c t a H).symm,fun c t a H=>(F136_eq c t a H).symm,fun c t a H=>(F137_eq c t a H).symm,fun c t a H=>(F138_eq c t a H).symm,fun c t a H=>(F143_eq c t a H).symm,fun c t a H=>(F147_eq c t a H).symm,fun c t a H=>(F148_eq c t a H).symm,fun c t a H=>(F150_eq c t a H).symm,fun c t a H=>(F151_eq c t a H).symm,fun c t a H=>(F152_eq c t a H).symm,fun c t a H=>(F153_eq c t a H).symm,fun c t a H=>(F154_eq c t a H).symm,fun c t a H=>(F156_eq c t a H).symm,fun c t a H=>(F157_eq c t a H).symm,fun c t a H=>(F158_eq c t a H).symm,fun c t a H=>(F159_eq c t a H).symm,fun c t a H=>(F160_eq c t a H).symm,fun c t a H=>(F161_eq c t a H).symm,fun c t a H=>(F162_eq c t a H).symm,fun c t a H=>(F164_eq c t a H).symm,fun c t a H=>(F166_eq c t a H).symm,fun c t a H=>(F169_eq c t a H).symm,fun c t a H=>(F170_eq c t a H).symm,fun c t a H=>(F171_eq c t a H).symm,fun c t a H=>(F172_eq c t a H).symm,fun c t a H=>(F175_eq c t a H).symm,fun c t a H=>(F176_eq c t a H).symm,fun c t a H=>(F186_eq c t a H).symm,fun c t a H=>(F187_eq c t a H).symm,fun c t a H=>(F188_eq c t a H).symm,fun c t a H=>(F196_eq c t a H).symm,fun c t a H=>(F197_eq c t a H).symm,fun c t a H=>(F198_eq c t a H).symm,fun c t a H=>(F199_eq c t a H).symm,fun c t a H=>(F201_eq c t a H).symm,fun c t a H=>(F202_eq c t a H).symm,by simp⟩
end
end Go.Proofs.YtgemobbfikjmoaaGreatDoor
