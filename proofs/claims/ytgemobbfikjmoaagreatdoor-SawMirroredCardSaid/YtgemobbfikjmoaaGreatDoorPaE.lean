/- The functions' texts for the second evaluator, each with its proof.
   Conditions: none beyond the given statement's own. -/
import Derived.Test.YtgemobbfikjmoaaGreatDoorPaD
import Derived.Test.YtgemobbfikjmoaaGreatDoorProg
import Derived.KernelRfl
set_option linter.unusedVariables false
set_option linter.unusedSimpArgs false
set_option linter.defProp false
namespace Go.Proofs.YtgemobbfikjmoaaGreatDoor
open Go Go.Ev
set_option maxRecDepth 1000000
noncomputable section
noncomputable abbrev P:Program:=Go.Proofs.Tryz.prog
def fuel:Nat:=100000
def keeps:List (List Tmp):=[[],[],[],[],[],[],[],[],[],[],[],[],[],[],[0,1,2,3,6,7,8,9,11,12,13,14,15,16,17,18,19,20,21,22,23,25,26,27,28,29,30,31,41,42,43,44,127,128,129,130,131,152,162],[0,1,2,3,4,5,6,7,8,9,10,11,12,13,14,15,16,17,18,19,20,21,22,83,150],[0,1,2,3,4,5,12],[],[0,1,2,3,4,5,12],[],[0,1,4,5,10,14,25],[0,1,2,3,4,5,12],[],[0,1,2,3,4,5,6,13],[],[0,1,2,3,4,5,6,13],[],[0,1,4,5,10,14,25],[0,1,2,3,4,5,6,7,9,16,22,23,24,25,37],[],[0,1,2,3,6,7,8,9,10,12,14,20,24,29,30,31,32,35,47,51,65,66,67,68,77,82],[],[0,1,2,4,5,6,7,8,17,23],[],[0,1,2,3,6,7,8,10,11,12,20,24,41],[],[0,1,2,3],[],[0,1,2,3],[],[0,1,2,3,6,7,9,10,11,12,13,24,25,26],[],[0,1,2,3,6,7],[],[0,1,2,3,6,7],[],[0,1,2,3,4,5,12],[],[0,1,2,3,4,5,12],[],[],[],[0,1,2,4,7],[],[0,1,2,4,5,6,28,29,30,47],[],[0,1,2,3,4,9,10,11,17],[],[],[],[],[],[0,1,3,4],[0,1,2,3,4,6,9,10,11,12,28,41],[0,1,4],[0,1,4],[],[0,1,2,3,4,5,6,7,8,9,14,23,24,25,29],[0,1,2,3],[],[],[],[],[],[],[],[],[],[0,1,4,5,6,7,8,9,10,11,12,19,28,35],[],[],[],[0,1,3],[0,2],[0,1,3,4,6,7,8,9,10,11,12],[0,1,4],[0,1,2,3,4],[0],[0],[0],[0],[0,1,2,6],[0,2,3,4,9],[0,2],[0,1,2,3,4,5,6,8,9,10,30,52,53,54,55,58,67,80,81,82,88,96],[0,1,2,3,4,5,6,7,8,9,11,12,13,20,21,22,23,28,31],[],[0,1,2,4,5,6,7,9,14,27,28,29,30,41],[0,1,2,3,6,7,8,9,10,11,13,14,16,24,42,43,44,45,59,66],[0,1,4,5,6,7,12,19,29],[0,2,3,5],[0,1,2,4],[],[],[0,1,4,5,6,7,12,19,29],[0,1,2,3,4,5],[],[],[],[],[],[0,1,2,4,5,6,7,8,9,10,11,12,13,14,21,29,30,31,32,41,58,76,97,104],[0,1,2,4,5,9],[0,1,2,3,4,5,6,7,8,9],[],[],[0,1,2],[0,1,2,3,6,7,8,9,10,11,12,13,15,16,17,18,44,78,79,80,95],[],[0,1,2,4,5,6,7,8,9,10,11,12,18,22,36,37,38,43,44,45,71],[],[0,1,2,3,6,7,8,9,10,11,12,14,23,34,41],[],[],[0,1,2,3,4,8,9,10,11,12,13,14,25,28,29,30],[0,1,4],[],[0,1,4],[0,1,2,3,4,6,7,8,20,21,22,23,47],[],[],[],[0,1,2,3,5,6,7,8],[0,1],[0,1,4,5,7,8,9,16],[0,1,3,4,5,7,8,9,16],[0,2,3,4,5,8,13,25,32,44],[0,1,4,5,7,8,9,16],[0,1,4,5,7,8,9,16],[0,1,2,4],[0,1,2,4],[0,1,3,4,5,7,8,9,15,18,19,20,21,57],[0,1],[0,2,4],[],[],[],[0,1,4,5,6,11,12,13,16,19],[],[0,1,2,3,8,9,10,11,12,13,14,15,16,17,18,23,29,35,50,68,72,87,113],[0,2],[0,1,2,3,4,10,11,12,13,14,15,16,17,18,19,20,25,32,39,56,75,80,97,125],[0,1,2,23],[0,1,2,3,4,5,7,9,16,17,18,19,26,41],[0,1,2,4],[],[0,2],[0,1,4],[0,1,3],[1,2,3,4,5,6,7,8,14,15,41],[0,1,2,3,6,7,8,9,10,22],[0,1,2,3,4,5,8,9,30,45,61,76],[0,1,2,4],[],[0,1,2,3,4],[],[0,2],[],[],[0,1,2,4,5,7,8,9,10,13,14,15,16,81,105],[0,1,2,6,7,9,12,13,14,15,28],[0,1,3],[0,1,2,4,5,6,7,17,27,34,46],[],[],[0,1,2,3,4,5,6,7,12,14,18,20,32,40,41,42,43,57,82],[0,2],[0,1,2,6,7,12,30],[],[],[],[],[],[0,1,4],[],[],[0,2,4,8],[0,2,4,8,14],[0,1,2,3,8,9,14,34],[],[],[],[],[],[],[],[0,2,4],[0,2,4],[0,1,4,5,7,8,9,16],[0,1,2,5,34],[],[0,2],[0,2],[],[],[],[],[],[],[],[],[],[],[],[],[],[],[],[],[],[],[],[],[],[],[],[],[],[],[],[],[],[],[]]
def trees:List Bool:=[false,false,false,true,true,true,true,true,true,true,true,true,true,true,true,true,true,true,true,true,true,true,true,true,true,true,true,true,true,true,true,true,true,true,true,true,true,true,true,true,true,true,true,true,true,true,true,true,true,true,true,true,true,true,true,true,true,false,false,false,false,false,true,true,true,false,false,true,true,false,false,false,false,true,false,false,false,false,true,true,false,false,false,false,false,false,true,true,true,true,true,true,true,true,true,true,true,true,false,false,true,false,true,true,false,false,true,true,true,true,true,true,true,false,true,false,true,true,true,true,true,false,false,true,true,true,true,true,true,true,true,true,false,false,false,true,false,true,false,false,false,false,false,true,false,true,false,true,false,false,true,false,false,false,true,true,true,false,false,false,true,false,true,true,true,true,true,true,true,true,false,false,true,true,true,false,true,false,false,false,true,false,false,true,false,false,true,true,false,false,false,false,false,false,false,false,true,true,false,false,true,true,true,false,true,false,false,false,false,false,false,false,false,false,false,false,false,false,false,false,false,false,false,false,false,false,false,false,false,false,false,false,false,false]
def thawl:List Bool:=[false,false,false,false,false,false,false,false,false,false,false,false,false,false,false,false,false,false,false,false,false,false,false,false,false,false,false,false,false,false,false,false,false,false,false,false,false,false,false,false,false,false,false,false,false,false,false,false,false,false,false,false,false,false,false,false,false,false,false,false,false,false,false,false,false,false,false,false,false,false,false,false,false,false,false,false,false,false,false,false,false,true,false,true,false,true,false,false,false,false,false,false,false,false,false,false,false,false,false,true,false,false,false,false,true,false,false,false,false,false,false,false,false,false,false,false,false,false,false,false,false,false,false,false,false,false,false,false,false,false,false,false,false,false,false,false,true,false,false,false,false,false,false,false,false,false,false,false,false,true,false,true,false,false,false,false,false,false,false,false,false,false,false,false,false,false,false,false,false,false,false,false,false,false,false,false,false,true,true,true,false,true,true,false,true,true,false,false,true,true,true,false,true,true,true,true,false,false,false,false,false,false,false,true,false,false,false,false,true,false,false,false,false,false,false,false,false,false,false,false,false,false,false,false,false,false,false,false,false,false,false,false,false,false]
def deepl:List Nat:=[55,68,96,107,155]
noncomputable abbrev tab0:List TV:=Tv sk
noncomputable abbrev tab1:List TV:=Tv qf
def TC:TC:=⟨fuel,λf=>(nth keeps f).getD [],λf=>(nth trees f).getD false,λf=>(nth thawl f).getD false,twoT,λf=>Kk (Nat.beq f) deepl⟩
def Uz:List TV:=[(.v (.int .i64 (.ofNat 0))),(.v (.int .i64 (.ofNat 0))),Xp]
def Vy:List TV:=[(.v (.int .i64 (.ofNat 0))),(.v (.int .i64 (.ofNat 0)))]
def Xf:List TV:=[(.v (.int .i64 (.ofNat 0))),(.v (.int .i64 (.ofNat 0))),(.v (.int .u64 (.ofNat 0))),(.v (.int .u64 (.ofNat 0))),(.v (.int .u64 (.ofNat 0))),(.v (.int .u64 (.ofNat 0))),(.v (.int .u64 (.ofNat 0))),(.v (.int .u64 (.ofNat 0))),(.v (.int .u64 (.ofNat 0))),(.v (.int .u64 (.ofNat 0))),(.v (.int .u64 (.ofNat 0))),(.v (.int .u64 (.ofNat 0))),(.v (.int .u64 (.ofNat 0))),(.v (.int .u64 (.ofNat 0))),(.v (.int .u64 (.ofNat 0))),(.v (.int .u64 (.ofNat 0))),(.v (.int .u64 (.ofNat 0))),(.v (.int .u64 (.ofNat 0))),(.v (.int .u64 (.ofNat 0)))]
def zc158:List TV:=[(.v (.int .i64 (.ofNat 0))),(.v (.int .i64 (.ofNat 0))),(.v (.int .i64 (.ofNat 0))),(.v (.int .i64 (.ofNat 0))),(.v (.int .i64 (.ofNat 0))),(.v (.int .i64 (.ofNat 0))),(.v (.int .i64 (.ofNat 0))),(.v (.int .i64 (.ofNat 0))),(.v (.int .i64 (.ofNat 0))),(.v (.int .i64 (.ofNat 0))),(.v (.int .i64 (.ofNat 0))),(.v (.int .i64 (.ofNat 0))),(.v (.int .i64 (.ofNat 0))),(.v (.int .i64 (.ofNat 0))),(.v (.int .i64 (.ofNat 0))),(.v (.int .i64 (.ofNat 0)))]
def Gr:List TV:=[(.v (.int .i64 (.ofNat 0))),(.v (.int .i64 (.ofNat 0)))]
def Zld:List TV:=[(.v (.int .i64 (.ofNat 0))),(.v (.int .i64 (.ofNat 0))),(.v (.int .i64 (.ofNat 0))),(.v (.int .i64 (.ofNat 0)))]
def zc173:List TV:=[(.v (.int .i64 (.ofNat 0))),(.v (.int .i64 (.ofNat 0))),(.v (.int .i64 (.ofNat 0))),(.v (.int .i64 (.ofNat 0))),(.v (.int .i64 (.ofNat 0))),(.v (.int .i64 (.ofNat 0))),(.v (.int .i64 (.ofNat 0))),(.v (.int .i64 (.ofNat 0)))]
def str0:Value:=(.string ⟨#[0,1,2,2,3,3,3,3,4,4,4,4,4,4,4,4,5,5,5,5,5,5,5,5,5,5,5,5,5,5,5,5,6,6,6,6,6,6,6,6,6,6,6,6,6,6,6,6,6,6,6,6,6,6,6,6,6,6,6,6,6,6,6,6,7,7,7,7,7,7,7,7,7,7,7,7,7,7,7,7,7,7,7,7,7,7,7,7,7,7,7,7,7,7,7,7,7,7,7,7,7,7,7,7,7,7,7,7,7,7,7,7,7,7,7,7,7,7,7,7,7,7,7,7,7,7,7,7,8,8,8,8,8,8,8,8,8,8,8,8,8,8,8,8,8,8,8,8,8,8,8,8,8,8,8,8,8,8,8,8,8,8,8,8,8,8,8,8,8,8,8,8,8,8,8,8,8,8,8,8,8,8,8,8,8,8,8,8,8,8,8,8,8,8,8,8,8,8,8,8,8,8,8,8,8,8,8,8,8,8,8,8,8,8,8,8,8,8,8,8,8,8,8,8,8,8,8,8,8,8,8,8,8,8,8,8,8,8,8,8,8,8,8,8,8,8,8,8,8,8,8,8,8,8,8,8]⟩)
def str1:Value:=(.string ⟨#[0,1,1,2,1,2,2,3,1,2,2,3,2,3,3,4,1,2,2,3,2,3,3,4,2,3,3,4,3,4,4,5,1,2,2,3,2,3,3,4,2,3,3,4,3,4,4,5,2,3,3,4,3,4,4,5,3,4,4,5,4,5,5,6,1,2,2,3,2,3,3,4,2,3,3,4,3,4,4,5,2,3,3,4,3,4,4,5,3,4,4,5,4,5,5,6,2,3,3,4,3,4,4,5,3,4,4,5,4,5,5,6,3,4,4,5,4,5,5,6,4,5,5,6,5,6,6,7,1,2,2,3,2,3,3,4,2,3,3,4,3,4,4,5,2,3,3,4,3,4,4,5,3,4,4,5,4,5,5,6,2,3,3,4,3,4,4,5,3,4,4,5,4,5,5,6,3,4,4,5,4,5,5,6,4,5,5,6,5,6,6,7,2,3,3,4,3,4,4,5,3,4,4,5,4,5,5,6,3,4,4,5,4,5,5,6,4,5,5,6,5,6,6,7,3,4,4,5,4,5,5,6,4,5,5,6,5,6,6,7,4,5,5,6,5,6,6,7,5,6,6,7,6,7,7,8]⟩)
end
end Go.Proofs.YtgemobbfikjmoaaGreatDoor
namespace Go.Proofs.YtgemobbfikjmoaaGreatDoor
open Go Go.Ev
set_option maxRecDepth 1000000
set_option linter.unusedVariables false
end Go.Proofs.YtgemobbfikjmoaaGreatDoor
namespace Go.Proofs.YtgemobbfikjmoaaGreatDoor
open Go Go.Ev
set_option maxRecDepth 1000000
set_option linter.unusedVariables false
end Go.Proofs.YtgemobbfikjmoaaGreatDoor
namespace Go.Proofs.YtgemobbfikjmoaaGreatDoor
open Go Go.Ev
set_option maxRecDepth 1000000
set_option linter.unusedVariables false
end Go.Proofs.YtgemobbfikjmoaaGreatDoor
namespace Go.Proofs.YtgemobbfikjmoaaGreatDoor
open Go Go.Ev
set_option maxRecDepth 1000000
set_option linter.unusedVariables false
noncomputable section
def C14 (call:Z3) (Zh base:Nat):Z4 (TV×TV×TV×TV×TV×TV×TV×TV×TV×TV×TV×TV×TV×TV×TV×TV×TV×TV×TV×TV×TV×TV×TV×TV×TV×TV×TV×TV×TV×TV×TV×TV×TV×TV×TV×TV×TV×TV×TV×Unit):=
 (Zi (Zd λS H k=>
 Zp (Yu S.1)<|
 let t3:=(.ptr (Zb H) 0);let H0:=(Zv H (.cells (Zy S.1)))
 k (z0 (Qu S.1)<| z3 t3<| z4 (tB false)<| Zu 39 S) H0)
 (Zi (Zd λS H k=>
 lA Zh base 4 H (g3 S) λt32 H1=>
 Za (Zm call 54 [Zg t32,tN 16] H1) λt33=>
 let t7:=(.ptr (Zb H1) 0);let H2:=(Zv H1 (.cells Uz))
 Za (storeT Zh base 3 H2 t7 t33) λH3=>
 k (z5 t7<| Zu 39 S) H3)
 (Zi (Zd λS H k=>
 Zp (Z2 pass [Zg (g5 S)])<|
 let t8:=(.ptr (Zb H) 0);let H4:=(Zv H (.cells [.v .nilFunc]))
 Za (storeT Zh base 1 H4 t8 (.fn (.func 82) [] [Zg (g5 S)])) λH5=>
 k (z5 (Zg (g5 S))<| z6 t8<| Zu 39 S) H5)
 (Zi (Zd λS H k=>
 Za (Zw (g5 S) 1) λt35=>
 sF Zh base H t35 λt36 H6=>
 Za (Zw (g5 S) 0) λt37=>
 sF Zh base H6 t37 λt38 H7=>
 Za (Uk [(0,1,t36),(1,1,t38)] Uz) λt39=>
 let t9:=(.ptr (Zb H7) 0);let H8:=(Zv H7 (.cells Uz))
 Za (storeT Zh base 3 H8 t9 t39) λH9=>
 k (z7 t9<| Zu 39 S) H9)
 (Zi (Zi (Zd λS H k=>
 Za (Zw (g5 S) 2) λt40=>
 sF Zh base H t40 λt41 Ua=>
 Za (Kn t41) λt42=>
 k (z28 t41<| z29 t42<| z30 (tN 0)<| Zu 39 S) Ua)
 (Z9 0 (Ym (Zi (Zd λS H k=>
 Za (b2 Xg (g30 S) (g29 S)) λt44=>
 k (z31 t44<| Zu 39 S) H)
 (Zi (Z1 (λS=>some (g31 S))
 (Zn .normal)
 (Zn (.exit 0)))
 (Zi (Z9 1 (Zi (Zd λS H k=>
 Za (Qh 1 (g28 S) (g30 S)) λt45=>
 sF Zh base H t45 λt46 Gj=>
 k (z8 t46<| Zu 39 S) Gj)
 (Zd λS H k=>
 Za (Zw (g7 S) 2) λt47=>
 loadT .take Zh base false 1 H t47 λt48 Uy=>
 lF Zh base Uy (g6 S) λt49 Ea=>
 Zp (Z2 X3 Ea)<|
 Xd TC call (Zb Ea) t49 [Zg (Zg (g8 S))] Ea λt51 D9=>
 Za (Yf 1 [0] [Zg t51] (Y5 [tN 0] 1)) λc15=>
 X6 Zh D9 3 1 8 (Zr t48) (.row .full (.own 3) 1 c15) λt53 Iq=>
 Za (Zw (Zr (g7 S)) 2) λt54=>
 Za (storeT Zh base 1 Iq t54 t53) λMw=>
 k (z8 (Zg (g8 S))<| Zu 39 S) Mw)))
 (Zd λS H k=>
 Za (b2 Z0 (g30 S) (tN 1)) λt55=>
 k (z30 t55<| Zu 39 S) H)))) fuel)))
 (Zi (Zd λS H k=>
 Za (Zw (g7 S) 2) λt56=>
 loadT (.W8 1 false) Zh base false 1 H t56 λt57 Mu=>
 Xb 1 false t57 Mu λc19 Mn=>
 Qo call Zh 83 [c19] Mn λt58 P7=>
 k (Zu 39 S) P7)
 (Zi (Zd λS H k=>
 lA Zh base 3 H (g5 S) λt60 O4=>
 Za (Zm call 16 [Zg t60] O4) λt61=>
 Zf (Qj (Zc t61) 0) λc22=>
 Zf (Qj (Z7 (Zc t61) 0) 1) λc23=>
 k (z9 c22<| Uh c23<| Zu 39 S) O4)
 (Zi (Zd λS H k=>
 lA Zh base 3 H (g7 S) λt65 Tl=>
 Za (Zm call 16 [Zg t65] Tl) λt66=>
 Zf (Qj (Zc t66) 0) λc25=>
 Zf (Qj (Z7 (Zc t66) 0) 1) λc26=>
 k (Iv c25<| Oj c26<| Zu 39 S) Tl)
 (Zi (Zd λS H k=>
 lA Zh base 3 H (g5 S) λt70 wy=>
 Za (Zm call 21 [Zg t70] wy) λt71=>
 Zf (Qj (Zc t71) 0) λc28=>
 Zf (Qj (Z7 (Zc t71) 0) 1) λc29=>
 k (Te c28<| Cn c29<| Zu 39 S) wy)
 (Zi (Zd λS H k=>
 lA Zh base 3 H (g7 S) λt75 w9=>
 Za (Zm call 21 [Zg t75] w9) λt76=>
 Zf (Qj (Zc t76) 0) λc31=>
 Zf (Qj (Z7 (Zc t76) 0) 1) λc32=>
 k (zb c31<| nu c32<| Zu 39 S) w9)
 (Zi (Zd λS H k=>
 lA Zh base 3 H (g5 S) λt80 o7=>
 Za (Zm call 23 [Zg t80] o7) λt81=>
 Zf (Qj (Zc t81) 0) λc34=>
 Zf (Qj (Z7 (Zc t81) 0) 1) λc35=>
 k (x5 c34<| xd c35<| Zu 39 S) o7)
 (Zi (Zd λS H k=>
 lA Zh base 3 H (g7 S) λt85 H36=>
 Za (Zm call 23 [Zg t85] H36) λt86=>
 Zf (Qj (Zc t86) 0) λc37=>
 Zf (Qj (Z7 (Zc t86) 0) 1) λc38=>
 k (z19 c37<| z20 c38<| Zu 39 S) H36)
 (Zi (Zi (Zd λS H k=>
 Za (Jc .int (Zc (J9 S)) (tN 0)) λt90=>
 gV t90 false (Zc (Dn S)) H λt92 H39=>
 gB t90 false (Jc .int t92 (tN 0)) H39 λt93 H40=>
 Za (Xa (Zc t90) (tB true) (Zg t93)) λt94=>
 gV t94 false (Zc (Iz S)) H40 λt96 H41=>
 gB t94 false (Jc .int t96 (tN 0)) H41 λt97 H42=>
 Za (Xa (Zc t94) (tB true) (Zg t97)) λt98=>
 gV t98 false (Zc (Nt S)) H42 λt100 H43=>
 gB t98 false (Jc .int t100 (tN 0)) H43 λt101 H44=>
 Za (Xa (Zc t98) (tB true) (Zg t101)) λt102=>
 gV t102 false (Zc (B5 S)) H44 λt104 H45=>
 gB t102 false (Jc .int t104 (tN 0)) H45 λt105 H46=>
 Za (Xa (Zc t102) (tB true) (Zg t105)) λt106=>
 gV t106 false (Zc (g20 S)) H46 λt108 H47=>
 gB t106 false (Jc .int t108 (tN 0)) H47 λt109 H48=>
 Za (Xa (Zc t106) (tB true) (Zg t109)) λt110=>
 gV t110 false (Zc (g9 S)) H48 λt112 H49=>
 gV t110 false (Zc (Jj S)) H49 λt113 H50=>
 gB t110 false (Jc .int t112 t113) H50 λt114 H51=>
 Za (Xa (Zc t110) (tB true) (Zg t114)) λt115=>
 gV t115 false (Zc (Em S)) H51 λt117 H52=>
 gV t115 false (Zc (Ra S)) H52 λt118 H53=>
 gB t115 false (Jc .int t117 t118) H53 λt119 H54=>
 Za (Xa (Zc t115) (tB true) (Zg t119)) λt120=>
 gV t120 false (Zc (Bi S)) H54 λt122 H55=>
 gB t120 false (Kn t122) H55 λt123 H56=>
 gV t120 false (Zc (ux S)) H56 λt124 H57=>
 gB t120 false (Kn t124) H57 λt125 H58=>
 gB t120 false (Jc .int t123 t125) H58 λt126 H59=>
 Za (Xa (Zc t120) (tB true) (Zg t126)) λt127=>
 k (z9 (Ze (g9 S))<| Uh (Ze (J9 S))<| Iv (Ze (Jj S))<| Oj (Ze (Dn S))<| Te (Ze (Em S))<| Cn (Ze (Iz S))<| zb (Ze (Ra S))<| nu (Ze (Nt S))<| x5 (Ze (Bi S))<| xd (Ze (B5 S))<| z19 (Ze (ux S))<| z20 (Ze (g20 S))<| z32 t127<| Zu 39 S) H59)
 (Z1 (λS=>some (g32 S))
 (Zi (Zd λS H k=>
 k (z4 (tB false)<| Zu 39 S) H)
 (Zn .ret))
 (Zn .normal)))
 (Zi (Zi (Zd λS H k=>
 Za (Kn (Zg (Bi S))) λt129=>
 k (x5 (Zg (Bi S))<| z33 (Zg (Bi S))<| z34 t129<| z35 (tN 0)<| Zu 39 S) H)
 (Z9 2 (Ym (Zi (Zd λS H k=>
 Za (b2 Xg (g35 S) (g34 S)) λt131=>
 k (z36 t131<| Zu 39 S) H)
 (Zi (Z1 (λS=>some (g36 S))
 (Zn .normal)
 (Zn (.exit 2)))
 (Zi (Z9 3 (Zi (Zd λS H k=>
 Za (Qh 1 (g33 S) (g35 S)) λt132=>
 sF Zh base H t132 λt133 H60=>
 k (z21 t133<| Zu 39 S) H60)
 (Zi (Zd λS H k=>
 Za (b2 Xg (Zc (g21 S)) (tN 0)) λt135=>
 gV t135 false (Zc (Ze (g21 S))) H λt137 H61=>
 gB t135 false (Zw (g5 S) 0) H61 λt138 H62=>
 Qp (Zc t135) false (lF Zh base H62 t138 λg63 H63=>Qr g63 H63) H62 λt139 H64=>
 gB t135 false (Zw (g5 S) 1) H64 λt140 H65=>
 Qp (Zc t135) false (lF Zh base H65 t140 λg66 H66=>Qr g66 H66) H65 λt141 H67=>
 gB t135 false (b2 Y2 t139 t141) H67 λt142 H68=>
 gB t135 false (b2 K0 t137 t142) H68 λt143 H69=>
 Za (Xa (Zc t135) (tB true) (Zg t143)) λt144=>
 gV t144 false (Zc (ux S)) H69 λt146 H70=>
 Qp (Zc t144) false (lF Zh base H70 (g6 S) λg71 H71=>Qr g71 H71) H70 λt147 H72=>
 gV t144 false (Zg (Ze (Ze (g21 S)))) H72 λt148 H73=>
 Qp (Zc t144) false (Xd TC call Zh t147 [Zg t148] H73 λg74 H74=>Qr g74 H74) H73 λt149 H75=>
 gB t144 false (Zm call 64 [Zg (Zr t146),Zg t149] H75) H75 λt150 H76=>
 gB t144 false (b1 Gh t150) H76 λt151 H77=>
 Za (Xa (Zr (Zc t144)) (tB true) (Zg t151)) λt152=>
 k (z19 (Ze (ux S))<| z21 (Zg (Ze (Ze (g21 S))))<| z37 t152<| Zu 39 S) H77)
 (Z1 (λS=>some (g37 S))
 (Zi (Zd λS H k=>
 k (z4 (tB false)<| Zu 39 S) H)
 (Zn .ret))
 (Zn .normal)))))
 (Zd λS H k=>
 Za (b2 Z0 (g35 S) (tN 1)) λt153=>
 k (z35 t153<| Zu 39 S) H)))) fuel)))
 (Zi (Zd λS H k=>
 sA Zh base 3 H (g5 S) λt154 H78=>
 Za (Zm call 68 [Zg t154] H78) λt155=>
 k (z22 t155<| Zu 39 S) H78)
 (Zi (Zi (Zd λS H k=>
 lA Zh base 3 H (g5 S) λt156 H79=>
 Za (Zm call 67 [Zg t156] H79) λt157=>
 gV t157 false (Zc (uw S)) H79 λt159 H80=>
 gB t157 false (Kn t159) H80 λt160 H81=>
 gB t157 false (Ja .int t160 (tN 0)) H81 λt161 H82=>
 Za (Xa (Zc t157) (tB true) (Zg t161)) λt162=>
 k (z22 (Ze (uw S))<| z38 t162<| Zu 39 S) H82)
 (Z1 (λS=>some (g38 S))
 (Zi (Zd λS H k=>
 Za (Zm call 15 [] H) λt163=>
 k (z4 t163<| Zu 39 S) H)
 (Zn .ret))
 (Zn .normal)))
 (Zi (Zd λS H k=>
 Zp (Z2 pass [Zg (g6 S)])<|
 k (z6 (Zg (g6 S))<| z23 (.fn (.func 84) [] [Zg (g6 S)])<| Zu 39 S) H)
 (Zi (Zd λS H k=>
 Za (b1 (Ki .i64) (Zc (g1 S))) λt167=>
 Za (Kn (Zc (Ze (uw S)))) λt169=>
 Za (b2 Y1 t167 t169) λt170=>
 Za (Qh 1 (Zc (uw S)) t170) λt171=>
 sF Zh base H t171 λt172 H83=>
 Za (b1 (Ki .i64) (Zc (g2 S))) λt175=>
 Za (Kn (Zc (Ze (Ze (Ze (uw S)))))) λt177=>
 Za (b2 Y1 t175 t177) λt178=>
 Za (Qh 1 (Zc (Ze (Ze (uw S)))) t178) λt179=>
 sF Zh base H83 t179 λt180 H84=>
 k (z1 (Ze (g1 S))<| z2 (Ze (g2 S))<| z22 (Ze (Ze (Ze (Ze (uw S)))))<| z24 t172<| z25 t180<| Zu 39 S) H84)
 (Zi (Zd λS H k=>
 lA Zh base 3 H (g5 S) λt182 H85=>
 Za (Zm call 40 [Zg t182,Zg (Zc (g24 S)),Zg (Zc (g25 S))] H85) λt185=>
 Zf (Qj (Zc t185) 0) λc86=>
 Zf (Qj (Z7 (Zc t185) 0) 1) λc87=>
 k (Uh c87<| z24 (Ze (g24 S))<| z25 (Ze (g25 S))<| z26 c86<| Zu 39 S) H85)
 (Zi (Zd λS H k=>
 lA Zh base 3 H (g7 S) λt189 H88=>
 Zp (Z2 X3 H88)<|
 Xd TC call (Zb H88) (Zc (g23 S)) [Zg (Zg (g25 S))] H88 λt192 H89=>
 Zp (Z2 X3 H89)<|
 Xd TC call (Zb H89) (Zc (Zr (Ze (g23 S)))) [Zg (Zg (Zr (g24 S)))] H89 λt195 H90=>
 Za (Zm call 40 [Zg (Zr t189),Zg (Zr t192),Zg t195] H90) λt196=>
 Zf (Qj (Zc t196) 0) λc91=>
 Zf (Qj (Z7 (Zc t196) 0) 1) λc92=>
 k (Oj c92<| z23 (Ze (Zr (Ze (g23 S))))<| z24 (Zg (Zr (g24 S)))<| z25 (Zg (g25 S))<| z27 c91<| Zu 39 S) H90)
 (Zi (Zd λS H k=>
 Za (Ja .int (Zc (J9 S)) (tN 0)) λt200=>
 gV t200 true (Zc (Dn S)) H λt202 H93=>
 gB t200 true (Ja .int t202 (tN 0)) H93 λt203 H94=>
 Za (Xa (Zc t200) (Zg t203) (tB false)) λt204=>
 gV t204 true (Zc (g26 S)) H94 λt206 H95=>
 gV t204 true (Zc (g27 S)) H95 λt207 H96=>
 gB t204 true (Ja .int t206 t207) H96 λt208 H97=>
 Za (Xa (Zc t204) (Zg t208) (tB false)) λt209=>
 gB t209 true (Zm call 15 [] H97) H97 λt211 H98=>
 Za (Xa (Zc t209) (Zg t211) (tB false)) λt212=>
 k (z4 t212<| Uh (Ze (J9 S))<| Oj (Ze (Dn S))<| z26 (Ze (g26 S))<| z27 (Ze (g27 S))<| Zu 39 S) H98)
 (Zn .ret))))))))))))))))))))))
def F14:Ji:=λcall Zh l H=>Za (C14 call Zh (Zb H) (Zl l 0,Zl l 1,Zl l 2,Zl l 3,Zl l 6,Zl l 7,Zl l 8,Zl l 9,Zl l 11,Zl l 12,Zl l 13,Zl l 14,Zl l 15,Zl l 16,Zl l 17,Zl l 18,Zl l 19,Zl l 20,Zl l 21,Zl l 22,Zl l 23,Zl l 25,Zl l 26,Zl l 27,Zl l 28,Zl l 29,Zl l 30,Zl l 31,Zl l 41,Zl l 42,Zl l 43,Zl l 44,Zl l 127,Zl l 128,Zl l 129,Zl l 130,Zl l 131,Zl l 152,Zl l 162,()) H) λp=>Xr p.1 (Zp (Z2 Qk [p.2.1.2.2.2.2.1]) (some (Xm (Zb H) p.2.1.2.2.2.2.1 p.2.2)))
theorem F14_eq:Jr P TC 14 F14:=λ_ _ _ _=>by kernel_rfl
def C15 (call:Z3) (Zh base:Nat):Z4 (TV×TV×TV×TV×TV×TV×TV×TV×TV×TV×TV×TV×TV×TV×TV×TV×TV×TV×TV×TV×TV×TV×TV×TV×TV×Unit):=
 (Zi (Zd λS H k=>
 k (z0 (tB false)<| Zu 25 S) H)
 (Zi (Zd λS H k=>
 Za (Zm call 87 [] H) λt24=>
 Za (Zm call 46 [Zg t24] H) λt25=>
 Zf (Qj (Zc t25) 0) λc0=>
 Zf (Qj (Z7 (Zc t25) 0) 1) λc1=>
 k (z1 c0<| z2 c1<| Zu 25 S) H)
 (Zi (Zd λS H k=>
 Za (Zm call 88 [] H) λt29=>
 Za (Zm call 48 [Zg t29] H) λt30=>
 Zf (Qj (Zc t30) 0) λc2=>
 Zf (Qj (Z7 (Zc t30) 0) 1) λc3=>
 k (z3 c2<| z4 c3<| Zu 25 S) H)
 (Zi (Zd λS H k=>
 Za (Zm call 89 [] H) λt34=>
 Za (Zm call 18 [Zg t34] H) λt35=>
 Zf (Qj (Zc t35) 0) λc4=>
 Zf (Qj (Z7 (Zc t35) 0) 1) λc5=>
 k (z5 c4<| z6 c5<| Zu 25 S) H)
 (Zi (Zd λS H k=>
 Za (Zm call 89 [] H) λt39=>
 Za (Zm call 21 [Zg t39] H) λt40=>
 Zf (Qj (Zc t40) 0) λc6=>
 Zf (Qj (Z7 (Zc t40) 0) 1) λc7=>
 k (z7 c6<| z8 c7<| Zu 25 S) H)
 (Zi (Zd λS H k=>
 Za (Zm call 90 [] H) λt44=>
 Za (Zm call 23 [Zg t44] H) λt45=>
 Zf (Qj (Zc t45) 0) λc8=>
 Zf (Qj (Z7 (Zc t45) 0) 1) λc9=>
 k (z9 c8<| Uh c9<| Zu 25 S) H)
 (Zi (Zd λS H k=>
 Za (Zm call 91 [tN 2,tN 1,Xp] H) λt49=>
 Za (Zm call 25 [Zg t49] H) λt50=>
 Zf (Qj (Zc t50) 0) λc10=>
 Zf (Qj (Z7 (Zc t50) 0) 1) λcz=>
 k (Iv c10<| Oj cz<| Zu 25 S) H)
 (Zi (Zd λS H k=>
 Za (Zm call 89 [] H) λt54=>
 Za (Zm call 28 [Zg t54] H) λt55=>
 Zf (Qj (Zc t55) 0) λc12=>
 Zf (Qj (Z7 (Zc t55) 0) 1) λqb=>
 k (Te c12<| Cn qb<| Zu 25 S) H)
 (Zi (Zi (Zd λS H k=>
 Za (Jc .int (Zc (g2 S)) (tN 0)) λt59=>
 gV t59 false (Zc (g4 S)) H λt61 D9=>
 gB t59 false (Jc .int t61 (tN 0)) D9 λt62 D6=>
 Za (Xa (Zc t59) (tB true) (Zg t62)) λt63=>
 gV t63 false (Zc (g6 S)) D6 λt65 Iq=>
 gB t63 false (Jc .int t65 (tN 0)) Iq λt66 Mw=>
 Za (Xa (Zc t63) (tB true) (Zg t66)) λt67=>
 gV t67 false (Zc (g8 S)) Mw λt69 Mu=>
 gB t67 false (Jc .int t69 (tN 0)) Mu λt70 Mn=>
 Za (Xa (Zc t67) (tB true) (Zg t70)) λt71=>
 gV t71 false (Zc (J9 S)) Mn λt73 P7=>
 gB t71 false (Jc .int t73 (tN 0)) P7 λt74 O4=>
 Za (Xa (Zc t71) (tB true) (Zg t74)) λt75=>
 gV t75 false (Zc (Dn S)) O4 λt77 Bo=>
 gB t75 false (Jc .int t77 (tN 0)) Bo λt78 Ar=>
 Za (Xa (Zc t75) (tB true) (Zg t78)) λt79=>
 gV t79 false (Zc (Iz S)) Ar λt81 Tl=>
 gB t79 false (Jc .int t81 (tN 0)) Tl λt82 Nu=>
 Za (Xa (Zc t79) (tB true) (Zg t82)) λt83=>
 k (z2 (Ze (g2 S))<| z4 (Ze (g4 S))<| z6 (Ze (g6 S))<| z8 (Ze (g8 S))<| Uh (Ze (J9 S))<| Oj (Ze (Dn S))<| Cn (Ze (Iz S))<| z23 t83<| Zu 25 S) Nu)
 (Z1 (λS=>some (g23 S))
 (Zi (Zd λS H k=>
 k (z0 (tB false)<| Zu 25 S) H)
 (Zn .ret))
 (Zn .normal)))
 (Zi (Zd λS H k=>
 Za (Zm call 88 [] H) λt85=>
 Za (Yf 1 [0,1,2,3] [tN 0,tN 1,tN 2,tN 3] (Y5 [tN 0] 4)) λc26=>
 Za (Zm call 92 [Zg (.row .full (.own 3) 1 c26)] H) λt87=>
 Za (Zm call 32 [Zg t85,Zg t87] H) λt88=>
 Zf (Qj (Zc t88) 0) λc27=>
 Zf (Qj (Z7 (Zc t88) 0) 1) λc28=>
 k (z2 c28<| zb c27<| Zu 25 S) H)
 (Zi (Zd λS H k=>
 Za (Zm call 88 [] H) λt92=>
 Za (Yf 1 [0,1,2,3] [tN 0,tN 1,tN 2,tN 3] (Y5 [tN 0] 4)) λc29=>
 Za (Zm call 92 [Zg (.row .full (.own 3) 1 c29)] H) λt94=>
 Za (Zm call 34 [Zg t92,Zg t94,tN 4] H) λt95=>
 Zf (Qj (Zc t95) 0) λc30=>
 Zf (Qj (Z7 (Zc t95) 0) 1) λc31=>
 k (z4 c31<| nu c30<| Zu 25 S) H)
 (Zi (Zd λS H k=>
 Za (Zm call 88 [] H) λt99=>
 Za (Zm call 36 [Zg t99] H) λt100=>
 Zf (Qj (Zc t100) 0) λc32=>
 Zf (Qj (Z7 (Zc t100) 0) 1) λc33=>
 k (z6 c33<| x5 c32<| Zu 25 S) H)
 (Zi (Zd λS H k=>
 Za (Zm call 88 [] H) λt104=>
 Za (Zm call 38 [Zg t104] H) λt105=>
 Zf (Qj (Zc t105) 0) λc34=>
 Zf (Qj (Z7 (Zc t105) 0) 1) λc35=>
 k (z8 c35<| xd c34<| Zu 25 S) H)
 (Zi (Zd λS H k=>
 Za (Zm call 88 [] H) λt109=>
 Za (Zm call 40 [Zg t109,Zg (Zc (Bi S)),Zg (Zc (B5 S))] H) λt112=>
 Zf (Qj (Zc t112) 0) λc36=>
 Zf (Qj (Z7 (Zc t112) 0) 1) λc37=>
 k (Uh c37<| x5 (Ze (Bi S))<| xd (Ze (B5 S))<| z19 c36<| Zu 25 S) H)
 (Zi (Zd λS H k=>
 Za (Zm call 90 [] H) λt116=>
 Za (Zm call 36 [Zg t116] H) λt117=>
 Zf (Qj (Zc t117) 0) λc38=>
 Zf (Qj (Z7 (Zc t117) 0) 1) λc39=>
 k (Oj c39<| Zu 25 S) H)
 (Zi (Zd λS H k=>
 Za (Zm call 88 [] H) λt121=>
 Za (Zm call 16 [Zg t121] H) λt122=>
 Zf (Qj (Zc t122) 0) λc40=>
 Zf (Qj (Z7 (Zc t122) 0) 1) λc41=>
 k (Cn c41<| z20 c40<| Zu 25 S) H)
 (Zi (Zi (Zd λS H k=>
 Za (Jc .int (Zc (g2 S)) (tN 0)) λt126=>
 gV t126 false (Zc (g4 S)) H λt128 H42=>
 gB t126 false (Jc .int t128 (tN 0)) H42 λt129 H43=>
 Za (Xa (Zc t126) (tB true) (Zg t129)) λt130=>
 gV t130 false (Zc (g6 S)) H43 λt132 H44=>
 gB t130 false (Jc .int t132 (tN 0)) H44 λt133 H45=>
 Za (Xa (Zc t130) (tB true) (Zg t133)) λt134=>
 gV t134 false (Zc (g8 S)) H45 λt136 H46=>
 gB t134 false (Jc .int t136 (tN 0)) H46 λt137 H47=>
 Za (Xa (Zc t134) (tB true) (Zg t137)) λt138=>
 gV t138 false (Zc (J9 S)) H47 λt140 H48=>
 gB t138 false (Jc .int t140 (tN 0)) H48 λt141 H49=>
 Za (Xa (Zc t138) (tB true) (Zg t141)) λt142=>
 gV t142 false (Zc (Dn S)) H49 λt144 H50=>
 gB t142 false (Jc .int t144 (tN 12)) H50 λt145 H51=>
 Za (Xa (Zc t142) (tB true) (Zg t145)) λt146=>
 gV t146 false (Zc (Iz S)) H51 λt148 H52=>
 gB t146 false (Jc .int t148 (tN 0)) H52 λt149 H53=>
 Za (Xa (Zc t146) (tB true) (Zg t149)) λt150=>
 k (z2 (Ze (g2 S))<| z4 (Ze (g4 S))<| z6 (Ze (g6 S))<| z8 (Ze (g8 S))<| Uh (Ze (J9 S))<| Oj (Ze (Dn S))<| Cn (Ze (Iz S))<| z24 t150<| Zu 25 S) H53)
 (Z1 (λS=>some (g24 S))
 (Zi (Zd λS H k=>
 k (z0 (tB false)<| Zu 25 S) H)
 (Zn .ret))
 (Zn .normal)))
 (Zi (Zd λS H k=>
 Za (Zm call 88 [] H) λt152=>
 Za (Zm call 42 [Zg t152,Zg (Zc (Bi S)),Zg (Zc (B5 S))] H) λt155=>
 Zf (Qj (Zc t155) 0) λc54=>
 Zf (Qj (Z7 (Zc t155) 0) 1) λc55=>
 k (z2 c55<| x5 (Ze (Bi S))<| xd (Ze (B5 S))<| z21 c54<| Zu 25 S) H)
 (Zi (Zd λS H k=>
 Za (Zm call 88 [] H) λt159=>
 Za (Zm call 44 [Zg t159,Zg (Zc (Bi S)),Zg (Zc (B5 S))] H) λt162=>
 Zf (Qj (Zc t162) 0) λc56=>
 Zf (Qj (Z7 (Zc t162) 0) 1) λc57=>
 k (z4 c57<| x5 (Ze (Bi S))<| xd (Ze (B5 S))<| z22 c56<| Zu 25 S) H)
 (Zi (Zd λS H k=>
 Za (Ja .int (Zc (g2 S)) (tN 0)) λt166=>
 gV t166 true (Zc (g4 S)) H λt168 H58=>
 gB t166 true (Ja .int t168 (tN 0)) H58 λt169 H59=>
 Za (Xa (Zc t166) (Zg t169) (tB false)) λt170=>
 gV t170 true (Zc (g1 S)) H59 λt172 H60=>
 Qp (Zc t170) true (Za (Yf 1 [0,1,2] [tN 0,tN 1,tN 2] (Y5 [tN 0] 3)) λc61=>Qr (.row .full (.own 3) 1 c61) H60) H60 λt173 H62=>
 gB t170 true (Zm call 93 [Zg t173] H62) H62 λt174 H63=>
 gB t170 true (Zm call 27 [Zg t172,Zg t174] H63) H63 λt175 H64=>
 Za (Xa (Zc t170) (Zg t175) (tB false)) λt176=>
 gV t176 true (Zg (g3 S)) H64 λt178 H65=>
 Za (Xa (Zc t176) (Zg t178) (tB false)) λt179=>
 gV t179 true (Zc (g5 S)) H65 λt181 H66=>
 Qp (Zc t179) true (Za (Yf 1 [0,1,2,3,4,5,6,7] [tN 0,tN 1,tN 2,tN 5,tN 3,tN 6,tN 7,tN 8] (Y5 [tN 0] 8)) λc67=>Qr (.row .full (.own 3) 1 c67) H66) H66 λt182 H68=>
 gB t179 true (Zm call 92 [Zg t182] H68) H68 λt183 H69=>
 gB t179 true (Zm call 20 [Zg t181,Zg t183] H69) H69 λt184 H70=>
 Za (Xa (Zc t179) (Zg t184) (tB false)) λt185=>
 gV t185 true (Zc (g7 S)) H70 λt187 H71=>
 gB t185 true (Ja .int t187 (tN 2)) H71 λt188 H72=>
 Za (Xa (Zc t185) (Zg t188) (tB false)) λt189=>
 gV t189 true (Zc (g9 S)) H72 λt191 H73=>
 Qp (Zc t189) true (Za (Yf 1 [0,1] [tN 0,tN 2] (Y5 [tN 0] 2)) λc74=>Qr (.row .full (.own 3) 1 c74) H73) H73 λt192 H75=>
 gB t189 true (Zm call 93 [Zg t192] H75) H75 λt193 H76=>
 gB t189 true (Zm call 27 [Zg t191,Zg t193] H76) H76 λt194 H77=>
 Za (Xa (Zc t189) (Zg t194) (tB false)) λt195=>
 gV t195 true (Zc (Jj S)) H77 λt197 H78=>
 Qp (Zc t195) true (Za (Yf 1 [0,1] [tN 0,tN 1] (Y5 [tN 0] 2)) λc79=>Qr (.row .full (.own 3) 1 c79) H78) H78 λt198 H80=>
 gB t195 true (Zm call 92 [Zg t198] H80) H80 λt199 H81=>
 gB t195 true (Zm call 20 [Zg t197,Zg t199] H81) H81 λt200 H82=>
 Za (Xa (Zc t195) (Zg t200) (tB false)) λt201=>
 gV t201 true (Zc (Em S)) H82 λt203 H83=>
 Qp (Zc t201) true (Za (Yf 1 [0,1,2,3] [tN 0,tN 2,tN 6,tN 8] (Y5 [tN 0] 4)) λc84=>Qr (.row .full (.own 3) 1 c84) H83) H83 λt204 H85=>
 gB t201 true (Zm call 93 [Zg t204] H85) H85 λt205 H86=>
 gB t201 true (Zm call 27 [Zg t203,Zg t205] H86) H86 λt206 H87=>
 Za (Xa (Zc t201) (Zg t206) (tB false)) λt207=>
 gV t207 true (Zc (Ra S)) H87 λt209 H88=>
 Qp (Zc t207) true (Za (Yf 1 [0,1,2,3,4,5,6,7,8] [tN 0,tN 1,tN 0,.v (.int .i64 (.negSucc 0)),.v (.int .i64 (.negSucc 1)),.v (.int .i64 (.negSucc 0)),tN 0,tN 1,tN 0] (Y5 [tN 0] 9)) λc89=>Qr (.row .full (.own 3) 1 c89) H88) H88 λt210 H90=>
 gB t207 true (Zm call 93 [Zg t210] H90) H90 λt211 H91=>
 gB t207 true (Zm call 27 [Zg t209,Zg t211] H91) H91 λt212 H92=>
 Za (Xa (Zc t207) (Zg t212) (tB false)) λt213=>
 gV t213 true (Zc (Nt S)) H92 λt215 H93=>
 Qp (Zc t213) true (Za (Yf 1 [0,1,2,3] [tN 0,tN 2,tN 1,tN 3] (Y5 [tN 0] 4)) λc94=>Qr (.row .full (.own 3) 1 c94) H93) H93 λt216 H95=>
 gB t213 true (Zm call 92 [Zg t216] H95) H95 λt217 H96=>
 gB t213 true (Zm call 20 [Zg t215,Zg t217] H96) H96 λt218 H97=>
 Za (Xa (Zc t213) (Zg t218) (tB false)) λt219=>
 gV t219 true (Zc (Bi S)) H97 λt221 H98=>
 Qp (Zc t219) true (Za (Yf 1 [0,1,2,3] [tN 0,tN 1,tN 2,tN 3] (Y5 [tN 0] 4)) λc99=>Qr (.row .full (.own 3) 1 c99) H98) H98 λt222 H100=>
 gB t219 true (Zm call 92 [Zg t222] H100) H100 λt223 H101=>
 gB t219 true (Zm call 20 [Zg t221,Zg t223] H101) H101 λt224 H102=>
 Za (Xa (Zc t219) (Zg t224) (tB false)) λt225=>
 gV t225 true (Zc (B5 S)) H102 λt227 H103=>
 gV t225 true (Zc (Ze (Nt S))) H103 λt228 H104=>
 gB t225 true (Zm call 20 [Zg t227,Zg t228] H104) H104 λt229 H105=>
 Za (Xa (Zc t225) (Zg t229) (tB false)) λt230=>
 gV t230 true (Zc (ux S)) H105 λt232 H106=>
 gB t230 true (Ja .int t232 (tN 1)) H106 λt233 H107=>
 Za (Xa (Zc t230) (Zg t233) (tB false)) λt234=>
 gV t234 true (Zc (g20 S)) H107 λt236 H108=>
 gB t234 true (Ja .int t236 (tN 2)) H108 λt237 H109=>
 Za (Xa (Zc t234) (Zg t237) (tB false)) λt238=>
 gV t238 true (Zc (g21 S)) H109 λt240 H110=>
 gV t238 true (Zc (Ze (Bi S))) H110 λt241 H111=>
 gB t238 true (Zm call 20 [Zg t240,Zg t241] H111) H111 λt242 H112=>
 Za (Xa (Zc t238) (Zg t242) (tB false)) λt243=>
 gV t243 true (Zc (uw S)) H112 λt245 H113=>
 gV t243 true (Zc (Ze (B5 S))) H113 λt246 H114=>
 gB t243 true (Zm call 20 [Zg t245,Zg t246] H114) H114 λt247 H115=>
 Za (Xa (Zc t243) (Zg t247) (tB false)) λt248=>
 gB t248 true (Zm call 88 [] H115) H115 λt250 H116=>
 gV t248 true (Zc (Ze (Ze (Bi S)))) H116 λt251 H117=>
 gB t248 true (Zm call 52 [Zg t250,Zg t251] H117) H117 λt252 H118=>
 gB t248 true (Ja .int t252 (tN 0)) H118 λt253 H119=>
 Za (Xa (Zc t248) (Zg t253) (tB false)) λt254=>
 gB t254 true (Zm call 90 [] H119) H119 λt256 H120=>
 Qp (Zc t254) true (Za (Yf 1 [0] [tN 1] (Y5 [tN 0] 1)) λc121=>Qr (.row .full (.own 3) 1 c121) H120) H120 λt257 H122=>
 gB t254 true (Zm call 93 [Zg t257] H122) H122 λt258 H123=>
 gB t254 true (Zm call 30 [Zg t256,tN 1,Zg t258] H123) H123 λt259 H124=>
 gB t254 true (Ja .int t259 (tN 0)) H124 λt260 H125=>
 Za (Xa (Zc t254) (Zg t260) (tB false)) λt261=>
 gB t261 true (Zm call 90 [] H125) H125 λt263 H126=>
 Qp (Zc t261) true (Za (Yf 1 [0] [tN 1] (Y5 [tN 0] 1)) λc127=>Qr (.row .full (.own 3) 1 c127) H126) H126 λt264 H128=>
 gB t261 true (Zm call 93 [Zg t264] H128) H128 λt265 H129=>
 gB t261 true (Zm call 30 [Zg t263,tN 0,Zg t265] H129) H129 λt266 H130=>
 gB t261 true (Ja .int t266 (tN 14)) H130 λt267 H131=>
 Za (Xa (Zc t261) (Zg t267) (tB false)) λt268=>
 k (z0 t268<| z1 (Ze (g1 S))<| z2 (Ze (g2 S))<| z3 (Zg (g3 S))<| z4 (Ze (g4 S))<| z5 (Ze (g5 S))<| z7 (Ze (g7 S))<| z9 (Ze (g9 S))<| Iv (Ze (Jj S))<| Te (Ze (Em S))<| zb (Ze (Ra S))<| nu (Ze (Ze (Nt S)))<| x5 (Ze (Ze (Ze (Bi S))))<| xd (Ze (Ze (B5 S)))<| z19 (Ze (ux S))<| z20 (Ze (g20 S))<| z21 (Ze (g21 S))<| z22 (Ze (uw S))<| Zu 25 S) H131)
 (Zn .ret)))))))))))))))))))))
def F15:Ji:=λcall Zh l H=>Za (C15 call Zh (Zb H) (Zl l 0,Zl l 1,Zl l 2,Zl l 3,Zl l 4,Zl l 5,Zl l 6,Zl l 7,Zl l 8,Zl l 9,Zl l 10,Zl l 11,Zl l 12,Zl l 13,Zl l 14,Zl l 15,Zl l 16,Zl l 17,Zl l 18,Zl l 19,Zl l 20,Zl l 21,Zl l 22,Zl l 83,Zl l 150,()) H) λp=>Xr p.1 (Zp (Z2 Qk [p.2.1.1]) (some (Xm (Zb H) p.2.1.1 p.2.2)))
theorem F15_eq:Jr P TC 15 F15:=λ_ _ _ _=>by kernel_rfl
def C16 (call:Z3) (Zh base:Nat):Z4 (TV×TV×TV×TV×TV×TV×TV×Unit):=
 (Zi (Zd λS H k=>
 Zp (Yu S.1)<|
 let t1:=(.ptr (Zb H) 0);let H0:=(Zv H (.cells (Zy S.1)))
 k (z0 (Qu S.1)<| z1 t1<| z2 (tN 0)<| z3 (tN 0)<| Zu 7 S) H0)
 (Zi (Zd λS H k=>
 lA Zh base 3 H (g1 S) λt7 H1=>
 Za (Zm call 94 [Zg t7] H1) λt8=>
 Zf (Qj (Zc t8) 0) λc2=>
 Zf (Qj (Z7 (Zc t8) 0) 1) λc3=>
 let t4:=(.ptr (Zb H1) 0);let H4:=(Zv H1 (.cells Xf))
 Za (storeT Zh base 19 H4 t4 c2) λH5=>
 k (z4 t4<| z5 c3<| Zu 7 S) H5)
 (Zi (Zi (Zd λS H k=>
 Za (Jc .int (Zc (g5 S)) (tN 0)) λt12=>
 k (z5 (Ze (g5 S))<| z6 t12<| Zu 7 S) H)
 (Z1 (λS=>some (g6 S))
 (Zi (Zd λS H k=>
 k (z2 (tN 0)<| z3 (g5 S)<| z5 (Qu (g5 S))<| Zu 7 S) H)
 (Zn .ret))
 (Zn .normal)))
 (Zi (Zd λS H k=>
 lA Zh base 19 H (g4 S) λt14 H6=>
 Za (Zw (g4 S) 2) λt15=>
 lF Zh base H6 t15 λt16 H7=>
 Za (Zm call 95 [Zg t14,Zg t16] H7) λt17=>
 k (z2 t17<| z3 (tN 0)<| Zu 7 S) H7)
 (Zn .ret)))))
def F16:Ji:=λcall Zh l H=>Za (C16 call Zh (Zb H) (Zl l 0,Zl l 1,Zl l 2,Zl l 3,Zl l 4,Zl l 5,Zl l 12,()) H) λp=>Xr p.1 (Zp (Z2 Qk [p.2.1.2.2.1,p.2.1.2.2.2.1]) (some (Xm (Zb H) (.Xh [p.2.1.2.2.1,p.2.1.2.2.2.1]) p.2.2)))
theorem F16_eq:Jr P TC 16 F16:=λ_ _ _ _=>by kernel_rfl
def C18 (call:Z3) (Zh base:Nat):Z4 (TV×TV×TV×TV×TV×TV×TV×Unit):=
 (Zi (Zd λS H k=>
 Zp (Yu S.1)<|
 let t1:=(.ptr (Zb H) 0);let H0:=(Zv H (.cells (Zy S.1)))
 k (z0 (Qu S.1)<| z1 t1<| z2 Xp<| z3 (tN 0)<| Zu 7 S) H0)
 (Zi (Zd λS H k=>
 lA Zh base 3 H (g1 S) λt7 H1=>
 Za (Zm call 94 [Zg t7] H1) λt8=>
 Zf (Qj (Zc t8) 0) λc2=>
 Zf (Qj (Z7 (Zc t8) 0) 1) λc3=>
 let t4:=(.ptr (Zb H1) 0);let H4:=(Zv H1 (.cells Xf))
 Za (storeT Zh base 19 H4 t4 c2) λH5=>
 k (z4 t4<| z5 c3<| Zu 7 S) H5)
 (Zi (Zi (Zd λS H k=>
 Za (Jc .int (Zc (g5 S)) (tN 0)) λt12=>
 k (z5 (Ze (g5 S))<| z6 t12<| Zu 7 S) H)
 (Z1 (λS=>some (g6 S))
 (Zi (Zd λS H k=>
 k (z2 Xp<| z3 (g5 S)<| z5 (Qu (g5 S))<| Zu 7 S) H)
 (Zn .ret))
 (Zn .normal)))
 (Zi (Zd λS H k=>
 lA Zh base 19 H (g4 S) λt14 H6=>
 Za (Zw (g4 S) 2) λt15=>
 lF Zh base H6 t15 λt16 H7=>
 Za (Zm call 97 [Zg t14,Zg t16] H7) λt17=>
 k (z2 t17<| z3 (tN 0)<| Zu 7 S) H7)
 (Zn .ret)))))
def F18:Ji:=λcall Zh l H=>Za (C18 call Zh (Zb H) (Zl l 0,Zl l 1,Zl l 2,Zl l 3,Zl l 4,Zl l 5,Zl l 12,()) H) λp=>Xr p.1 (Zp (Z2 Qk [p.2.1.2.2.1,p.2.1.2.2.2.1]) (some (Xm (Zb H) (.Xh [p.2.1.2.2.1,p.2.1.2.2.2.1]) p.2.2)))
theorem F18_eq:Jr P TC 18 F18:=λ_ _ _ _=>by kernel_rfl
def C20 (call:Z3) (Zh base:Nat):Z4 (TV×TV×TV×TV×TV×TV×TV×Unit):=
 (Zi (Zd λS H k=>
 k (z2 (tB false)<| Zu 7 S) H)
 (Zi (Zi (Zd λS H k=>
 Za (Kn (Zc S.1)) λt7=>
 Za (Kn (Zc (g1 S))) λt9=>
 Za (Jc .int t7 t9) λt10=>
 k (z0 (Ze S.1)<| z1 (Ze (g1 S))<| z4 t10<| Zu 7 S) H)
 (Z1 (λS=>some (g4 S))
 (Zi (Zd λS H k=>
 k (z2 (tB false)<| Zu 7 S) H)
 (Zn .ret))
 (Zn .normal)))
 (Zi (Zi (Zd λS H k=>
 k (z3 (tN 0)<| Zu 7 S) H)
 (Z9 0 (Ym (Zi (Zi (Zd λS H k=>
 Za (Kn (Zc S.1)) λt13=>
 Za (b2 Xg (Zc (g3 S)) t13) λt14=>
 k (z0 (Ze S.1)<| z3 (Ze (g3 S))<| z5 t14<| Zu 7 S) H)
 (Z1 (λS=>some (g5 S))
 (Zn .normal)
 (Zn (.exit 0))))
 (Zi (Z9 1 (Zi (Zd λS H k=>
 Za (Qh 2 (Zc S.1) (Zc (g3 S))) λt19=>
 lA Zh base 2 H t19 λt20 H0=>
 Za (Qh 2 (Zc (g1 S)) (Zc (Ze (g3 S)))) λt23=>
 lA Zh base 2 H0 t23 λt24 H1=>
 Za (Jc (.ints 2) t20 t24) λt25=>
 k (z0 (Ze S.1)<| z1 (Ze (g1 S))<| z3 (Ze (Ze (g3 S)))<| z6 t25<| Zu 7 S) H1)
 (Z1 (λS=>some (g6 S))
 (Zi (Zd λS H k=>
 k (z2 (tB false)<| Zu 7 S) H)
 (Zn .ret))
 (Zn .normal))))
 (Zd λS H k=>
 Za (b2 Z0 (Zc (g3 S)) (tN 1)) λt16=>
 k (z3 t16<| Zu 7 S) H))) fuel)))
 (Zi (Zd λS H k=>
 k (z2 (tB true)<| Zu 7 S) H)
 (Zn .ret)))))
def F20:Ji:=λcall Zh l H=>Za (C20 call Zh (Zb H) (Zl l 0,Zl l 1,Zl l 4,Zl l 5,Zl l 10,Zl l 14,Zl l 25,()) H) λp=>Xr p.1 (Zp (Z2 Qk [p.2.1.2.2.1]) (some (Xm (Zb H) p.2.1.2.2.1 p.2.2)))
theorem F20_eq:Jr P TC 20 F20:=λ_ _ _ _=>by kernel_rfl
def C21 (call:Z3) (Zh base:Nat):Z4 (TV×TV×TV×TV×TV×TV×TV×Unit):=
 (Zi (Zd λS H k=>
 Zp (Yu S.1)<|
 let t1:=(.ptr (Zb H) 0);let H0:=(Zv H (.cells (Zy S.1)))
 k (z0 (Qu S.1)<| z1 t1<| z2 (tN 0)<| z3 (tN 0)<| Zu 7 S) H0)
 (Zi (Zd λS H k=>
 lA Zh base 3 H (g1 S) λt7 H1=>
 Za (Zm call 94 [Zg t7] H1) λt8=>
 Zf (Qj (Zc t8) 0) λc2=>
 Zf (Qj (Z7 (Zc t8) 0) 1) λc3=>
 let t4:=(.ptr (Zb H1) 0);let H4:=(Zv H1 (.cells Xf))
 Za (storeT Zh base 19 H4 t4 c2) λH5=>
 k (z4 t4<| z5 c3<| Zu 7 S) H5)
 (Zi (Zi (Zd λS H k=>
 Za (Jc .int (Zc (g5 S)) (tN 0)) λt12=>
 k (z5 (Ze (g5 S))<| z6 t12<| Zu 7 S) H)
 (Z1 (λS=>some (g6 S))
 (Zi (Zd λS H k=>
 k (z2 (tN 0)<| z3 (g5 S)<| z5 (Qu (g5 S))<| Zu 7 S) H)
 (Zn .ret))
 (Zn .normal)))
 (Zi (Zd λS H k=>
 sA Zh base 19 H (g4 S) λt14 H6=>
 Za (Zw (g4 S) 2) λt15=>
 sF Zh base H6 t15 λt16 H7=>
 let t17:=(.map (Zb H7));let H8:=(Zv H7 (.map []))
 Qo call Zh 98 [Zg t14,Zg t16,Zg t17] H8 λt18 H9=>
 Za (yv false 1 (Zg t18) 1) λt19=>
 k (z2 t19<| z3 (tN 0)<| Zu 7 S) H9)
 (Zn .ret)))))
def F21:Ji:=λcall Zh l H=>Za (C21 call Zh (Zb H) (Zl l 0,Zl l 1,Zl l 2,Zl l 3,Zl l 4,Zl l 5,Zl l 12,()) H) λp=>Xr p.1 (Zp (Z2 Qk [p.2.1.2.2.1,p.2.1.2.2.2.1]) (some (Xm (Zb H) (.Xh [p.2.1.2.2.1,p.2.1.2.2.2.1]) p.2.2)))
theorem F21_eq:Jr P TC 21 F21:=λ_ _ _ _=>by kernel_rfl
def C23 (call:Z3) (Zh base:Nat):Z4 (TV×TV×TV×TV×TV×TV×TV×TV×Unit):=
 (Zi (Zd λS H k=>
 Zp (Yu S.1)<|
 let t1:=(.ptr (Zb H) 0);let H0:=(Zv H (.cells (Zy S.1)))
 k (z0 (Qu S.1)<| z1 t1<| z2 Xp<| z3 (tN 0)<| Zu 8 S) H0)
 (Zi (Zd λS H k=>
 lA Zh base 3 H (g1 S) λt8 H1=>
 Za (Zm call 94 [Zg t8] H1) λt9=>
 Zf (Qj (Zc t9) 0) λc2=>
 Zf (Qj (Z7 (Zc t9) 0) 1) λc3=>
 let t4:=(.ptr (Zb H1) 0);let H4:=(Zv H1 (.cells Xf))
 Za (storeT Zh base 19 H4 t4 c2) λH5=>
 k (z4 t4<| z5 c3<| Zu 8 S) H5)
 (Zi (Zi (Zd λS H k=>
 Za (Jc .int (Zc (g5 S)) (tN 0)) λt13=>
 k (z5 (Ze (g5 S))<| z7 t13<| Zu 8 S) H)
 (Z1 (λS=>some (g7 S))
 (Zi (Zd λS H k=>
 k (z2 Xp<| z3 (g5 S)<| z5 (Qu (g5 S))<| Zu 8 S) H)
 (Zn .ret))
 (Zn .normal)))
 (Zi (Zd λS H k=>
 lA Zh base 19 H (g4 S) λt15 H6=>
 Za (Zw (g4 S) 2) λt16=>
 lF Zh base H6 t16 λt17 H7=>
 Za (Zm call 95 [Zg t15,Zg t17] H7) λt18=>
 let t6:=(.ptr (Zb H7) 0);let H8:=(Zv H7 (.cells [tN 0]))
 Za (storeT Zh base 1 H8 t6 t18) λH9=>
 k (z6 t6<| Zu 8 S) H9)
 (Zi (Zd λS H k=>
 Za (Zw (g4 S) 2) λt19=>
 lF Zh base H t19 λt20 Ua=>
 Za (Zm call 100 [Zg t20] Ua) λt21=>
 Zp (Z2 pass [Zg (g4 S),Zg (g6 S)])<|
 Xb 1 false t21 Ua λcz Gj=>
 Qo call Zh 99 [cz,.fn (.func 101) [] [Zg (g4 S),Zg (g6 S)]] Gj λt23 Uy=>
 k (z2 t23<| z3 (tN 0)<| z4 (Zg (g4 S))<| z6 (Zg (g6 S))<| Zu 8 S) Uy)
 (Zn .ret))))))
def F23:Ji:=λcall Zh l H=>Za (C23 call Zh (Zb H) (Zl l 0,Zl l 1,Zl l 2,Zl l 3,Zl l 4,Zl l 5,Zl l 6,Zl l 13,()) H) λp=>Xr p.1 (Zp (Z2 Qk [p.2.1.2.2.1,p.2.1.2.2.2.1]) (some (Xm (Zb H) (.Xh [p.2.1.2.2.1,p.2.1.2.2.2.1]) p.2.2)))
theorem F23_eq:Jr P TC 23 F23:=λ_ _ _ _=>by kernel_rfl
def C25 (call:Z3) (Zh base:Nat):Z4 (TV×TV×TV×TV×TV×TV×TV×TV×Unit):=
 (Zi (Zd λS H k=>
 Zp (Yu S.1)<|
 let t1:=(.ptr (Zb H) 0);let H0:=(Zv H (.cells (Zy S.1)))
 k (z0 (Qu S.1)<| z1 t1<| z2 Xp<| z3 (tN 0)<| Zu 8 S) H0)
 (Zi (Zd λS H k=>
 lA Zh base 3 H (g1 S) λt8 H1=>
 Za (Zm call 94 [Zg t8] H1) λt9=>
 Zf (Qj (Zc t9) 0) λc2=>
 Zf (Qj (Z7 (Zc t9) 0) 1) λc3=>
 let t4:=(.ptr (Zb H1) 0);let H4:=(Zv H1 (.cells Xf))
 Za (storeT Zh base 19 H4 t4 c2) λH5=>
 k (z4 t4<| z5 c3<| Zu 8 S) H5)
 (Zi (Zi (Zd λS H k=>
 Za (Jc .int (Zc (g5 S)) (tN 0)) λt13=>
 k (z5 (Ze (g5 S))<| z7 t13<| Zu 8 S) H)
 (Z1 (λS=>some (g7 S))
 (Zi (Zd λS H k=>
 k (z2 Xp<| z3 (g5 S)<| z5 (Qu (g5 S))<| Zu 8 S) H)
 (Zn .ret))
 (Zn .normal)))
 (Zi (Zd λS H k=>
 lA Zh base 19 H (g4 S) λt15 H6=>
 Za (Zw (g4 S) 2) λt16=>
 lF Zh base H6 t16 λt17 H7=>
 Za (Zm call 95 [Zg t15,Zg t17] H7) λt18=>
 let t6:=(.ptr (Zb H7) 0);let H8:=(Zv H7 (.cells [tN 0]))
 Za (storeT Zh base 1 H8 t6 t18) λH9=>
 k (z6 t6<| Zu 8 S) H9)
 (Zi (Zd λS H k=>
 lA Zh base 19 H (g4 S) λt19 Ua=>
 Za (Zw (g4 S) 2) λt20=>
 lF Zh base Ua t20 λt21 Gj=>
 Za (Zm call 97 [Zg t19,Zg t21] Gj) λt22=>
 Zp (Z2 pass [Zg (g4 S),Zg (g6 S)])<|
 Xb 2 true t22 Gj λc12 Uy=>
 Qo call Zh 104 [c12,.fn (.func 105) [] [Zg (g4 S),Zg (g6 S)]] Uy λt24 Ea=>
 k (z2 t24<| z3 (tN 0)<| z4 (Zg (g4 S))<| z6 (Zg (g6 S))<| Zu 8 S) Ea)
 (Zn .ret))))))
def F25:Ji:=λcall Zh l H=>Za (C25 call Zh (Zb H) (Zl l 0,Zl l 1,Zl l 2,Zl l 3,Zl l 4,Zl l 5,Zl l 6,Zl l 13,()) H) λp=>Xr p.1 (Zp (Z2 Qk [p.2.1.2.2.1,p.2.1.2.2.2.1]) (some (Xm (Zb H) (.Xh [p.2.1.2.2.1,p.2.1.2.2.2.1]) p.2.2)))
theorem F25_eq:Jr P TC 25 F25:=λ_ _ _ _=>by kernel_rfl
end
end Go.Proofs.YtgemobbfikjmoaaGreatDoor
namespace Go.Proofs.YtgemobbfikjmoaaGreatDoor
open Go Go.Ev
set_option maxRecDepth 1000000
set_option linter.unusedVariables false
noncomputable section
def C27 (call:Z3) (Zh base:Nat):Z4 (TV×TV×TV×TV×TV×TV×TV×Unit):=
 (Zi (Zd λS H k=>
 k (z2 (tB false)<| Zu 7 S) H)
 (Zi (Zi (Zd λS H k=>
 Za (Kn (Zc S.1)) λt7=>
 Za (Kn (Zc (g1 S))) λt9=>
 Za (Jc .int t7 t9) λt10=>
 k (z0 (Ze S.1)<| z1 (Ze (g1 S))<| z4 t10<| Zu 7 S) H)
 (Z1 (λS=>some (g4 S))
 (Zi (Zd λS H k=>
 k (z2 (tB false)<| Zu 7 S) H)
 (Zn .ret))
 (Zn .normal)))
 (Zi (Zi (Zd λS H k=>
 k (z3 (tN 0)<| Zu 7 S) H)
 (Z9 0 (Ym (Zi (Zi (Zd λS H k=>
 Za (Kn (Zc S.1)) λt13=>
 Za (b2 Xg (Zc (g3 S)) t13) λt14=>
 k (z0 (Ze S.1)<| z3 (Ze (g3 S))<| z5 t14<| Zu 7 S) H)
 (Z1 (λS=>some (g5 S))
 (Zn .normal)
 (Zn (.exit 0))))
 (Zi (Z9 1 (Zi (Zd λS H k=>
 Za (Qh 1 (Zc S.1) (Zc (g3 S))) λt19=>
 lF Zh base H t19 λt20 H0=>
 Za (Qh 1 (Zc (g1 S)) (Zc (Ze (g3 S)))) λt23=>
 lF Zh base H0 t23 λt24 H1=>
 Za (Jc .int t20 t24) λt25=>
 k (z0 (Ze S.1)<| z1 (Ze (g1 S))<| z3 (Ze (Ze (g3 S)))<| z6 t25<| Zu 7 S) H1)
 (Z1 (λS=>some (g6 S))
 (Zi (Zd λS H k=>
 k (z2 (tB false)<| Zu 7 S) H)
 (Zn .ret))
 (Zn .normal))))
 (Zd λS H k=>
 Za (b2 Z0 (Zc (g3 S)) (tN 1)) λt16=>
 k (z3 t16<| Zu 7 S) H))) fuel)))
 (Zi (Zd λS H k=>
 k (z2 (tB true)<| Zu 7 S) H)
 (Zn .ret)))))
def F27:Ji:=λcall Zh l H=>Za (C27 call Zh (Zb H) (Zl l 0,Zl l 1,Zl l 4,Zl l 5,Zl l 10,Zl l 14,Zl l 25,()) H) λp=>Xr p.1 (Zp (Z2 Qk [p.2.1.2.2.1]) (some (Xm (Zb H) p.2.1.2.2.1 p.2.2)))
theorem F27_eq:Jr P TC 27 F27:=λ_ _ _ _=>by kernel_rfl
def C28 (call:Z3) (Zh base:Nat):Z4 (TV×TV×TV×TV×TV×TV×TV×TV×TV×TV×TV×TV×TV×TV×TV×Unit):=
 (Zi (Zd λS H k=>
 Zp (Yu S.1)<|
 let t1:=(.ptr (Zb H) 0);let H0:=(Zv H (.cells (Zy S.1)))
 k (z0 (Qu S.1)<| z1 t1<| z2 Xp<| z3 (tN 0)<| Zu 15 S) H0)
 (Zi (Zd λS H k=>
 lA Zh base 3 H (g1 S) λt11 H1=>
 Za (Zm call 94 [Zg t11] H1) λt12=>
 Zf (Qj (Zc t12) 0) λc2=>
 Zf (Qj (Z7 (Zc t12) 0) 1) λc3=>
 let t4:=(.ptr (Zb H1) 0);let H4:=(Zv H1 (.cells Xf))
 Za (storeT Zh base 19 H4 t4 c2) λH5=>
 k (z4 t4<| z5 c3<| Zu 15 S) H5)
 (Zi (Zi (Zd λS H k=>
 Za (Jc .int (Zc (g5 S)) (tN 0)) λt16=>
 k (z5 (Ze (g5 S))<| z9 t16<| Zu 15 S) H)
 (Z1 (λS=>some (g9 S))
 (Zi (Zd λS H k=>
 k (z2 Xp<| z3 (g5 S)<| z5 (Qu (g5 S))<| Zu 15 S) H)
 (Zn .ret))
 (Zn .normal)))
 (Zi (Zd λS H k=>
 k (z6 Xp<| Zu 15 S) H)
 (Zi (Zd λS H k=>
 Za (Zw (g4 S) 2) λt18=>
 sF Zh base H t18 λt19 H6=>
 k (z7 t19<| Zu 15 S) H6)
 (Zi (Zi (Zd λS H k=>
 Za (Zw (g4 S) 2) λt20=>
 lF Zh base H t20 λt21 H7=>
 Za (Zm call 100 [Zg t21] H7) λt22=>
 Za (Kn t22) λt23=>
 k (Uh t22<| Iv t23<| Oj (tN 0)<| Zu 15 S) H7)
 (Z9 0 (Ym (Zi (Zd λS H k=>
 Za (b2 Xg (Dn S) (Jj S)) λt25=>
 k (Te t25<| Zu 15 S) H)
 (Zi (Z1 (λS=>some (Em S))
 (Zn .normal)
 (Zn (.exit 0)))
 (Zi (Z9 1 (Zi (Zd λS H k=>
 Za (Qh 1 (J9 S) (Dn S)) λt26=>
 sF Zh base H t26 λt27 H8=>
 k (z8 t27<| Zu 15 S) H8)
 (Zi (Zd λS H k=>
 lA Zh base 19 H (g4 S) λt28 H9=>
 Za (b2 Y8 (.v (.int .u64 (.ofNat 1))) (Zc (g8 S))) λt31=>
 Za (b2 Y6 (Zc (g7 S)) t31) λt32=>
 Za (Zm call 95 [Zg t28,Zg t32] H9) λt33=>
 lA Zh base 19 H9 (g4 S) λt34 Ua=>
 Za (Zm call 95 [Zg t34,Zg (Zc (Ze (g7 S)))] Ua) λt36=>
 Za (b2 Xg t33 t36) λt37=>
 k (z7 (Ze (Ze (g7 S)))<| z8 (Ze (g8 S))<| Cn t37<| Zu 15 S) Ua)
 (Z1 (λS=>some (Iz S))
 (Zi (Zd λS H k=>
 Za (b2 Y8 (.v (.int .u64 (.ofNat 1))) (Zc (g8 S))) λt40=>
 Za (b2 Y6 (Zc (g7 S)) t40) λt41=>
 k (z7 t41<| z8 (Ze (g8 S))<| Zu 15 S) H)
 (Zd λS H k=>
 Za (Yf 1 [0] [Zg (Zg (g8 S))] (Y5 [tN 0] 1)) λcz=>
 X6 Zh H 3 1 8 (g6 S) (.row .full (.own 3) 1 cz) λt45 Uy=>
 k (z6 t45<| z8 (Zg (g8 S))<| Zu 15 S) Uy))
 (Zn .normal)))))
 (Zd λS H k=>
 Za (b2 Z0 (Dn S) (tN 1)) λt46=>
 k (Oj t46<| Zu 15 S) H)))) fuel)))
 (Zi (Zd λS H k=>
 k (z2 (g6 S)<| z3 (tN 0)<| z6 (Qu (g6 S))<| Zu 15 S) H)
 (Zn .ret))))))))
def F28:Ji:=λcall Zh l H=>Za (C28 call Zh (Zb H) (Zl l 0,Zl l 1,Zl l 2,Zl l 3,Zl l 4,Zl l 5,Zl l 6,Zl l 7,Zl l 9,Zl l 16,Zl l 22,Zl l 23,Zl l 24,Zl l 25,Zl l 37,()) H) λp=>Xr p.1 (Zp (Z2 Qk [p.2.1.2.2.1,p.2.1.2.2.2.1]) (some (Xm (Zb H) (.Xh [p.2.1.2.2.1,p.2.1.2.2.2.1]) p.2.2)))
theorem F28_eq:Jr P TC 28 F28:=λ_ _ _ _=>by kernel_rfl
def C30 (call:Z3) (Zh base:Nat):Z4 (TV×TV×TV×TV×TV×TV×TV×TV×TV×TV×TV×TV×TV×TV×TV×TV×TV×TV×TV×TV×TV×TV×TV×TV×TV×TV×Unit):=
 (Zi (Zd λS H k=>
 Zp (Yu S.1)<|
 let t3:=(.ptr (Zb H) 0);let H0:=(Zv H (.cells (Zy S.1)))
 k (z0 (Qu S.1)<| z3 t3<| z4 (tN 0)<| Zu 26 S) H0)
 (Zi (Zd λS H k=>
 lA Zh base 3 H (g3 S) λt16 H1=>
 Za (Zm call 94 [Zg t16] H1) λt17=>
 Zf (Qj (Zc t17) 0) λc2=>
 Zf (Qj (Z7 (Zc t17) 0) 1) λc3=>
 let t7:=(.ptr (Zb H1) 0);let H4:=(Zv H1 (.cells Xf))
 Za (storeT Zh base 19 H4 t7 c2) λH5=>
 k (z5 t7<| z6 c3<| Zu 26 S) H5)
 (Zi (Z9 0 (Zi (Zd λS H k=>
 Za (Jc .int (Zc (g6 S)) (tN 0)) λt22=>
 k (z6 (Ze (g6 S))<| Iv t22<| Zu 26 S) H)
 (Z1 (λS=>some (Jj S))
 (Zi (Zd λS H k=>
 k (z4 (g6 S)<| z6 (Qu (g6 S))<| Zu 26 S) H)
 (Zn .ret))
 (Zi (Zd λS H k=>
 Za (b2 Xg (Zc (g1 S)) (tN 0)) λt26=>
 k (z1 (Ze (g1 S))<| Oj t26<| Zu 26 S) H)
 (Z1 (λS=>some (Dn S))
 (Zi (Zd λS H k=>
 k (z4 (tN 1)<| Zu 26 S) H)
 (Zn .ret))
 (Zn .normal))))))
 (Zi (Zd λS H k=>
 Za (Zw (g5 S) 2) λt27=>
 sF Zh base H t27 λt28 H6=>
 k (z7 t28<| z8 (.v (.int .i64 (.negSucc 0)))<| Zu 26 S) H6)
 (Zi (Zi (Zd λS H k=>
 Za (Kn (Zg (g2 S))) λt30=>
 k (z2 (Zg (g2 S))<| Te (Zg (g2 S))<| Cn t30<| zb (tN 0)<| Zu 26 S) H)
 (Z9 1 (Ym (Zi (Zd λS H k=>
 Za (b2 Xg (Ra S) (Iz S)) λt32=>
 k (nu t32<| Zu 26 S) H)
 (Zi (Z1 (λS=>some (Nt S))
 (Zn .normal)
 (Zn (.exit 1)))
 (Zi (Z9 2 (Zi (Zd λS H k=>
 Za (Qh 1 (Em S) (Ra S)) λt33=>
 sF Zh base H t33 λt34 H7=>
 k (z9 t34<| Zu 26 S) H7)
 (Zi (Z9 3 (Zi (Zd λS H k=>
 Za (b2 Xg (Zc (g9 S)) (tN 0)) λt37=>
 gV t37 false (Zc (Ze (g9 S))) H λt39 H8=>
 gB t37 false (Zw (g5 S) 0) H8 λt40 H9=>
 Qp (Zc t37) false (lF Zh base H9 t40 λJ9 Ua=>Qr J9 Ua) H9 λt41 Gj=>
 gB t37 false (Zw (g5 S) 1) Gj λt42 Uy=>
 Qp (Zc t37) false (lF Zh base Uy t42 λEm Ea=>Qr Em Ea) Uy λt43 D9=>
 gB t37 false (b2 Y2 t41 t43) D9 λt44 D6=>
 gB t37 false (b2 K0 t39 t44) D6 λt45 Iq=>
 Za (Xa (Zc t37) (tB true) (Zg t45)) λt46=>
 k (z9 (Ze (Ze (g9 S)))<| x5 t46<| Zu 26 S) Iq)
 (Z1 (λS=>some (Bi S))
 (Zi (Zd λS H k=>
 k (z4 (tN 2)<| Zu 26 S) H)
 (Zn .ret))
 (Zi (Zd λS H k=>
 Za (b2 Am (Zc (g9 S)) (Zc (g8 S))) λt50=>
 k (z8 (Ze (g8 S))<| z9 (Ze (g9 S))<| xd t50<| Zu 26 S) H)
 (Z1 (λS=>some (B5 S))
 (Zi (Zd λS H k=>
 k (z4 (tN 7)<| Zu 26 S) H)
 (Zn .ret))
 (Zi (Zd λS H k=>
 Za (Zw (g5 S) 2) λt52=>
 lF Zh base H t52 λt53 Mw=>
 Za (b2 K7 t53 (Zc (g9 S))) λt55=>
 Za (b2 Km t55 (.v (.int .u64 (.ofNat 1)))) λt56=>
 Za (Ja .int t56 (.v (.int .u64 (.ofNat 0)))) λt57=>
 k (z9 (Ze (g9 S))<| z19 t57<| Zu 26 S) Mw)
 (Z1 (λS=>some (ux S))
 (Zi (Zd λS H k=>
 k (z4 (tN 13)<| Zu 26 S) H)
 (Zn .ret))
 (Zn .normal))))))))
 (Zi (Zd λS H k=>
 Za (b2 Y8 (.v (.int .u64 (.ofNat 1))) (Zc (g9 S))) λt60=>
 Za (b2 Y6 (Zc (g7 S)) t60) λt61=>
 k (z7 t61<| z9 (Ze (g9 S))<| Zu 26 S) H)
 (Zd λS H k=>
 k (z8 (g9 S)<| z9 (Qu (g9 S))<| Zu 26 S) H)))))
 (Zd λS H k=>
 Za (b2 Z0 (Ra S) (tN 1)) λt63=>
 k (zb t63<| Zu 26 S) H)))) fuel)))
 (Zi (Zi (Zd λS H k=>
 Za (Zm call 100 [Zg (Zc (g7 S))] H) λt65=>
 Za (Kn t65) λt66=>
 k (z7 (Ze (g7 S))<| z20 t65<| z21 t66<| z22 (tN 0)<| Zu 26 S) H)
 (Z9 4 (Ym (Zi (Zd λS H k=>
 Za (b2 Xg (uw S) (g21 S)) λt68=>
 k (z23 t68<| Zu 26 S) H)
 (Zi (Z1 (λS=>some (g23 S))
 (Zn .normal)
 (Zn (.exit 4)))
 (Zi (Z9 5 (Zi (Zd λS H k=>
 Za (Qh 1 (g20 S) (uw S)) λt69=>
 sF Zh base H t69 λt70 Mu=>
 k (Uh t70<| Zu 26 S) Mu)
 (Zi (Zd λS H k=>
 Za (Zw (g5 S) 3) λt72=>
 Za (Qt 16 1 t72 (Zc (J9 S))) λt73=>
 lF Zh base H t73 λt74 Mn=>
 Za (b2 Km t74 (Zc (g7 S))) λt76=>
 Za (Jc .int t76 (.v (.int .u64 (.ofNat 0)))) λt77=>
 k (z7 (Ze (g7 S))<| Uh (Ze (J9 S))<| z24 t77<| Zu 26 S) Mn)
 (Z1 (λS=>some (g24 S))
 (Zi (Zd λS H k=>
 k (z4 (tN 21)<| Zu 26 S) H)
 (Zn .ret))
 (Zn .normal)))))
 (Zd λS H k=>
 Za (b2 Z0 (uw S) (tN 1)) λt78=>
 k (z22 t78<| Zu 26 S) H)))) fuel)))
 (Zi (Zi (Zd λS H k=>
 Za (Kn (Zc (g2 S))) λt80=>
 Za (b2 Vt t80 (Zc (g1 S))) λt82=>
 k (z1 (Ze (g1 S))<| z2 (Ze (g2 S))<| z25 t82<| Zu 26 S) H)
 (Z1 (λS=>some (g25 S))
 (Zi (Zd λS H k=>
 k (z4 (tN 14)<| Zu 26 S) H)
 (Zn .ret))
 (Zn .normal)))
 (Zi (Zd λS H k=>
 k (z4 (tN 0)<| Zu 26 S) H)
 (Zn .ret)))))))))
def F30:Ji:=λcall Zh l H=>Za (C30 call Zh (Zb H) (Zl l 0,Zl l 1,Zl l 2,Zl l 3,Zl l 6,Zl l 7,Zl l 8,Zl l 9,Zl l 10,Zl l 12,Zl l 14,Zl l 20,Zl l 24,Zl l 29,Zl l 30,Zl l 31,Zl l 32,Zl l 35,Zl l 47,Zl l 51,Zl l 65,Zl l 66,Zl l 67,Zl l 68,Zl l 77,Zl l 82,()) H) λp=>Xr p.1 (Zp (Z2 Qk [p.2.1.2.2.2.2.1]) (some (Xm (Zb H) p.2.1.2.2.2.2.1 p.2.2)))
theorem F30_eq:Jr P TC 30 F30:=λ_ _ _ _=>by kernel_rfl
def C32 (call:Z3) (Zh base:Nat):Z4 (TV×TV×TV×TV×TV×TV×TV×TV×TV×TV×Unit):=
 (Zi (Zd λS H k=>
 Zp (Yu S.1)<|
 let t2:=(.ptr (Zb H) 0);let H0:=(Zv H (.cells (Zy S.1)))
 k (z0 (Qu S.1)<| z2 t2<| z3 Xp<| z4 (tN 0)<| Zu 10 S) H0)
 (Zi (Zd λS H k=>
 lA Zh base 3 H (g2 S) λt10 H1=>
 Za (Zm call 111 [Zg t10,Zg (Zc (g1 S))] H1) λt12=>
 Zf (Qj (Zc t12) 0) λc2=>
 Zf (Qj (Z7 (Zc t12) 0) 1) λc3=>
 Zf (Qj (Z7 (Z7 (Zc t12) 0) 1) 2) λc4=>
 let t6:=(.ptr (Zb H1) 0);let H5:=(Zv H1 (.cells Xf))
 Za (storeT Zh base 19 H5 t6 c2) λH6=>
 k (z1 (Ze (g1 S))<| z5 t6<| z6 c3<| z7 c4<| Zu 10 S) H6)
 (Zi (Zi (Zd λS H k=>
 Za (Ja .int (Zc (g7 S)) (tN 0)) λt17=>
 k (z7 (Ze (g7 S))<| z8 t17<| Zu 10 S) H)
 (Z1 (λS=>some (g8 S))
 (Zd λS H k=>
 lA Zh base 19 H (g5 S) λt18 H7=>
 Za (Yf 1 [0] [Zg (Zg (g6 S))] (Y5 [.v (.int .u64 (.ofNat 0))] 1)) λc8=>
 Za (Zm call 112 [Zg t18,Zg (.row .full (.own 101) 1 c8)] H7) λt21=>
 k (z6 (Zg (g6 S))<| z7 t21<| Zu 10 S) H7)
 (Zn .normal)))
 (Zi (Zi (Zd λS H k=>
 Za (Jc .int (Zc (g7 S)) (tN 0)) λt23=>
 k (z7 (Ze (g7 S))<| z9 t23<| Zu 10 S) H)
 (Z1 (λS=>some (g9 S))
 (Zi (Zd λS H k=>
 k (z3 Xp<| z4 (g7 S)<| z7 (Qu (g7 S))<| Zu 10 S) H)
 (Zn .ret))
 (Zn .normal)))
 (Zi (Zd λS H k=>
 sA Zh base 19 H (g5 S) λt25 H9=>
 Qo call Zh 113 [Zg t25,Zg (Zg (g1 S))] H9 λt27 Ua=>
 k (z1 (Zg (g1 S))<| z3 t27<| z4 (tN 0)<| Zu 10 S) Ua)
 (Zn .ret))))))
def F32:Ji:=λcall Zh l H=>Za (C32 call Zh (Zb H) (Zl l 0,Zl l 1,Zl l 2,Zl l 4,Zl l 5,Zl l 6,Zl l 7,Zl l 8,Zl l 17,Zl l 23,()) H) λp=>Xr p.1 (Zp (Z2 Qk [p.2.1.2.2.2.1,p.2.1.2.2.2.2.1]) (some (Xm (Zb H) (.Xh [p.2.1.2.2.2.1,p.2.1.2.2.2.2.1]) p.2.2)))
theorem F32_eq:Jr P TC 32 F32:=λ_ _ _ _=>by kernel_rfl
def C34 (call:Z3) (Zh base:Nat):Z4 (TV×TV×TV×TV×TV×TV×TV×TV×TV×TV×TV×TV×TV×Unit):=
 (Zi (Zd λS H k=>
 Zp (Yu S.1)<|
 let t3:=(.ptr (Zb H) 0);let H0:=(Zv H (.cells (Zy S.1)))
 k (z0 (Qu S.1)<| z3 t3<| z4 Xp<| z5 (tN 0)<| Zu 13 S) H0)
 (Zi (Zd λS H k=>
 lA Zh base 3 H (g3 S) λt14 H1=>
 Za (Zm call 111 [Zg t14,Zg (Zc (g1 S))] H1) λt16=>
 Zf (Qj (Zc t16) 0) λc2=>
 Zf (Qj (Z7 (Zc t16) 0) 1) λc3=>
 Zf (Qj (Z7 (Z7 (Zc t16) 0) 1) 2) λc4=>
 let t8:=(.ptr (Zb H1) 0);let H5:=(Zv H1 (.cells Xf))
 Za (storeT Zh base 19 H5 t8 c2) λH6=>
 k (z1 (Ze (g1 S))<| z6 t8<| z7 c4<| Zu 13 S) H6)
 (Zi (Z9 0 (Zi (Zd λS H k=>
 Za (Jc .int (Zc (g7 S)) (tN 0)) λt22=>
 k (z7 (Ze (g7 S))<| Uh t22<| Zu 13 S) H)
 (Z1 (λS=>some (J9 S))
 (Zi (Zd λS H k=>
 k (z4 Xp<| z5 (g7 S)<| z7 (Qu (g7 S))<| Zu 13 S) H)
 (Zn .ret))
 (Zi (Zd λS H k=>
 Za (b2 Xg (Zc (g2 S)) (tN 0)) λt26=>
 gV t26 false (Zc (Ze (g2 S))) H λt28 H7=>
 Qp (Zc t26) false (lA Zh base 19 H7 (g6 S) λg8 H8=>Qr g8 H8) H7 λt29 H9=>
 gB t26 false (Zm call 116 [Zg t29] H9) H9 λt30 Ua=>
 gB t26 false (b2 K0 t28 t30) Ua λt31 Gj=>
 Za (Xa (Zc t26) (tB true) (Zg t31)) λt32=>
 k (z2 (Ze (Ze (g2 S)))<| Iv t32<| Zu 13 S) Gj)
 (Z1 (λS=>some (Jj S))
 (Zi (Zd λS H k=>
 k (z4 Xp<| z5 (tN 2)<| Zu 13 S) H)
 (Zn .ret))
 (Zn .normal))))))
 (Zi (Zd λS H k=>
 lA Zh base 19 H (g6 S) λt34 Uy=>
 Za (Zm call 117 [Zg t34,Zg (Zc (g1 S)),Zg (Zc (g2 S))] Uy) λt37=>
 Zf (Qj (Zc t37) 0) λqb=>
 Zf (Qj (Z7 (Zc t37) 0) 1) λc14=>
 k (z1 (Ze (g1 S))<| z2 (Ze (g2 S))<| z8 qb<| z9 c14<| Zu 13 S) Uy)
 (Zi (Zi (Zd λS H k=>
 Za (b1 Gh (Zc (g9 S))) λt41=>
 k (z9 (Ze (g9 S))<| Oj t41<| Zu 13 S) H)
 (Z1 (λS=>some (Dn S))
 (Zi (Zd λS H k=>
 k (z4 Xp<| z5 (tN 13)<| Zu 13 S) H)
 (Zn .ret))
 (Zn .normal)))
 (Zi (Zd λS H k=>
 k (z4 (g8 S)<| z5 (tN 0)<| z8 (Qu (g8 S))<| Zu 13 S) H)
 (Zn .ret)))))))
def F34:Ji:=λcall Zh l H=>Za (C34 call Zh (Zb H) (Zl l 0,Zl l 1,Zl l 2,Zl l 3,Zl l 6,Zl l 7,Zl l 8,Zl l 10,Zl l 11,Zl l 12,Zl l 20,Zl l 24,Zl l 41,()) H) λp=>Xr p.1 (Zp (Z2 Qk [p.2.1.2.2.2.2.1,p.2.1.2.2.2.2.2.1]) (some (Xm (Zb H) (.Xh [p.2.1.2.2.2.2.1,p.2.1.2.2.2.2.2.1]) p.2.2)))
theorem F34_eq:Jr P TC 34 F34:=λ_ _ _ _=>by kernel_rfl
def C36 (call:Z3) (Zh base:Nat):Z4 (TV×TV×TV×TV×Unit):=
 (Zi (Zd λS H k=>
 Zp (Yu S.1)<|
 let t1:=(.ptr (Zb H) 0);let H0:=(Zv H (.cells (Zy S.1)))
 k (z0 (Qu S.1)<| z1 t1<| z2 Xp<| z3 (tN 0)<| Zu 4 S) H0)
 (Zi (Zd λS H k=>
 lA Zh base 3 H (g1 S) λt4 H1=>
 Za (Zm call 119 [Zg t4,tN 1] H1) λt5=>
 Zf (Qj t5 0) λc2=>
 Zf (Qj (Z7 t5 0) 1) λc3=>
 k (z2 c2<| z3 c3<| Zu 4 S) H1)
 (Zn .ret)))
def F36:Ji:=λcall Zh l H=>Za (C36 call Zh (Zb H) (Zl l 0,Zl l 1,Zl l 2,Zl l 3,()) H) λp=>Xr p.1 (Zp (Z2 Qk [p.2.1.2.2.1,p.2.1.2.2.2.1]) (some (Xm (Zb H) (.Xh [p.2.1.2.2.1,p.2.1.2.2.2.1]) p.2.2)))
theorem F36_eq:Jr P TC 36 F36:=λ_ _ _ _=>by kernel_rfl
def C38 (call:Z3) (Zh base:Nat):Z4 (TV×TV×TV×TV×Unit):=
 (Zi (Zd λS H k=>
 Zp (Yu S.1)<|
 let t1:=(.ptr (Zb H) 0);let H0:=(Zv H (.cells (Zy S.1)))
 k (z0 (Qu S.1)<| z1 t1<| z2 Xp<| z3 (tN 0)<| Zu 4 S) H0)
 (Zi (Zd λS H k=>
 lA Zh base 3 H (g1 S) λt4 H1=>
 Za (Zm call 119 [Zg t4,.v (.int .i64 (.negSucc 0))] H1) λt5=>
 Zf (Qj t5 0) λc2=>
 Zf (Qj (Z7 t5 0) 1) λc3=>
 k (z2 c2<| z3 c3<| Zu 4 S) H1)
 (Zn .ret)))
def F38:Ji:=λcall Zh l H=>Za (C38 call Zh (Zb H) (Zl l 0,Zl l 1,Zl l 2,Zl l 3,()) H) λp=>Xr p.1 (Zp (Z2 Qk [p.2.1.2.2.1,p.2.1.2.2.2.1]) (some (Xm (Zb H) (.Xh [p.2.1.2.2.1,p.2.1.2.2.2.1]) p.2.2)))
theorem F38_eq:Jr P TC 38 F38:=λ_ _ _ _=>by kernel_rfl
def C40 (call:Z3) (Zh base:Nat):Z4 (TV×TV×TV×TV×TV×TV×TV×TV×TV×TV×TV×TV×TV×TV×Unit):=
 (Zi (Zd λS H k=>
 Zp (Yu S.1)<|
 let t3:=(.ptr (Zb H) 0);let H0:=(Zv H (.cells (Zy S.1)))
 k (z0 (Qu S.1)<| z3 t3<| z4 (tN 0)<| z5 (tN 0)<| Zu 14 S) H0)
 (Zi (Zd λS H k=>
 sA Zh base 3 H (g3 S) λt15 H1=>
 Qo call Zh 121 [Zg t15,Zg (Zg (g1 S)),Zg (Zg (g2 S))] H1 λt18 H2=>
 Zf (Qj (Zc t18) 0) λc3=>
 Zf (Qj (Z7 (Zc t18) 0) 1) λc4=>
 Zf (Qj (Z7 (Z7 (Zc t18) 0) 1) 2) λc5=>
 Zf (Qj (Z7 (Z7 (Z7 (Zc t18) 0) 1) 2) 3) λc6=>
 let t8:=(.ptr (Zb H2) 0);let H7:=(Zv H2 (.cells Xf))
 Za (storeT Zh base 19 H7 t8 c3) λH8=>
 k (z1 (Zg (g1 S))<| z2 (Zg (g2 S))<| z6 c4<| z7 c5<| z8 c6<| Zu 14 S) H8)
 (Zi (Zd λS H k=>
 k (z9 (tN 0)<| Zu 14 S) H)
 (Zi (Zi (Zd λS H k=>
 Za (Kn (Zc (g6 S))) λt24=>
 k (z6 (Ze (g6 S))<| Iv t24<| Oj (tN 0)<| Zu 14 S) H)
 (Z9 0 (Ym (Zi (Zd λS H k=>
 Za (b2 Xg (Dn S) (Jj S)) λt26=>
 k (Te t26<| Zu 14 S) H)
 (Zi (Z1 (λS=>some (Em S))
 (Zn .normal)
 (Zn (.exit 0)))
 (Zi (Z9 1 (Zi (Zd λS H k=>
 k (Uh (Dn S)<| Oj (Qu (Dn S))<| Zu 14 S) H)
 (Zd λS H k=>
 Za (Qh 1 (Zc (g6 S)) (Zc (J9 S))) λt31=>
 lF Zh base H t31 λt32 H9=>
 Za (Qh 1 (Zc (g7 S)) (Zc (Ze (J9 S)))) λt35=>
 lF Zh base H9 t35 λt36 Ua=>
 Za (b2 Qq t32 t36) λt37=>
 Za (Qh 1 (Zc (Ze (g7 S))) (Zc (Ze (Ze (J9 S))))) λt40=>
 lF Zh base Ua t40 λt41 Gj=>
 Za (Qh 1 (Zc (Ze (g6 S))) (Zc (Ze (Ze (Ze (J9 S)))))) λt44=>
 lF Zh base Gj t44 λt45 Uy=>
 Za (b2 Qq t41 t45) λt46=>
 Za (b2 (Y0 true) t37 t46) λqb=>
 Zp (ie qb)<|
 Za (b2 Z0 (Zc (g9 S)) qb) λt48=>
 k (z6 (Ze (Ze (g6 S)))<| z7 (Ze (Ze (g7 S)))<| z9 t48<| Uh (Ze (Ze (Ze (Ze (J9 S)))))<| Zu 14 S) Uy)))
 (Zd λS H k=>
 Za (b2 Z0 (Dn S) (tN 1)) λt49=>
 k (Oj t49<| Zu 14 S) H)))) fuel)))
 (Zi (Zd λS H k=>
 Za (b2 Jp (Zc (g9 S)) (tN 4)) λt51=>
 k (z4 t51<| z5 (g8 S)<| z8 (Qu (g8 S))<| z9 (Ze (g9 S))<| Zu 14 S) H)
 (Zn .ret))))))
def F40:Ji:=λcall Zh l H=>Za (C40 call Zh (Zb H) (Zl l 0,Zl l 1,Zl l 2,Zl l 3,Zl l 6,Zl l 7,Zl l 9,Zl l 10,Zl l 11,Zl l 12,Zl l 13,Zl l 24,Zl l 25,Zl l 26,()) H) λp=>Xr p.1 (Zp (Z2 Qk [p.2.1.2.2.2.2.1,p.2.1.2.2.2.2.2.1]) (some (Xm (Zb H) (.Xh [p.2.1.2.2.2.2.1,p.2.1.2.2.2.2.2.1]) p.2.2)))
theorem F40_eq:Jr P TC 40 F40:=λ_ _ _ _=>by kernel_rfl
def C42 (call:Z3) (Zh base:Nat):Z4 (TV×TV×TV×TV×TV×TV×Unit):=
 (Zi (Zd λS H k=>
 Zp (Yu S.1)<|
 let t3:=(.ptr (Zb H) 0);let H0:=(Zv H (.cells (Zy S.1)))
 k (z0 (Qu S.1)<| z3 t3<| z4 Xp<| z5 (tN 0)<| Zu 6 S) H0)
 (Zi (Zd λS H k=>
 lA Zh base 3 H (g3 S) λt8 H1=>
 Za (Zm call 124 [Zg t8,Zg (Zc (g1 S)),Zg (Zc (g2 S)),.fn (.func 125) [] []] H1) λt11=>
 Zf (Qj t11 0) λc2=>
 Zf (Qj (Z7 t11 0) 1) λc3=>
 k (z1 (Ze (g1 S))<| z2 (Ze (g2 S))<| z4 c2<| z5 c3<| Zu 6 S) H1)
 (Zn .ret)))
def F42:Ji:=λcall Zh l H=>Za (C42 call Zh (Zb H) (Zl l 0,Zl l 1,Zl l 2,Zl l 3,Zl l 6,Zl l 7,()) H) λp=>Xr p.1 (Zp (Z2 Qk [p.2.1.2.2.2.2.1,p.2.1.2.2.2.2.2.1]) (some (Xm (Zb H) (.Xh [p.2.1.2.2.2.2.1,p.2.1.2.2.2.2.2.1]) p.2.2)))
theorem F42_eq:Jr P TC 42 F42:=λ_ _ _ _=>by kernel_rfl
def C44 (call:Z3) (Zh base:Nat):Z4 (TV×TV×TV×TV×TV×TV×Unit):=
 (Zi (Zd λS H k=>
 Zp (Yu S.1)<|
 let t3:=(.ptr (Zb H) 0);let H0:=(Zv H (.cells (Zy S.1)))
 k (z0 (Qu S.1)<| z3 t3<| z4 Xp<| z5 (tN 0)<| Zu 6 S) H0)
 (Zi (Zd λS H k=>
 lA Zh base 3 H (g3 S) λt8 H1=>
 Za (Zm call 124 [Zg t8,Zg (Zc (g1 S)),Zg (Zc (g2 S)),.fn (.func 127) [] []] H1) λt11=>
 Zf (Qj t11 0) λc2=>
 Zf (Qj (Z7 t11 0) 1) λc3=>
 k (z1 (Ze (g1 S))<| z2 (Ze (g2 S))<| z4 c2<| z5 c3<| Zu 6 S) H1)
 (Zn .ret)))
def F44:Ji:=λcall Zh l H=>Za (C44 call Zh (Zb H) (Zl l 0,Zl l 1,Zl l 2,Zl l 3,Zl l 6,Zl l 7,()) H) λp=>Xr p.1 (Zp (Z2 Qk [p.2.1.2.2.2.2.1,p.2.1.2.2.2.2.2.1]) (some (Xm (Zb H) (.Xh [p.2.1.2.2.2.2.1,p.2.1.2.2.2.2.2.1]) p.2.2)))
theorem F44_eq:Jr P TC 44 F44:=λ_ _ _ _=>by kernel_rfl
def C46 (call:Z3) (Zh base:Nat):Z4 (TV×TV×TV×TV×TV×TV×TV×Unit):=
 (Zi (Zd λS H k=>
 Zp (Yu S.1)<|
 let t1:=(.ptr (Zb H) 0);let H0:=(Zv H (.cells (Zy S.1)))
 k (z0 (Qu S.1)<| z1 t1<| z2 Xp<| z3 (tN 0)<| Zu 7 S) H0)
 (Zi (Zd λS H k=>
 lA Zh base 3 H (g1 S) λt7 H1=>
 Za (Zm call 94 [Zg t7] H1) λt8=>
 Zf (Qj (Zc t8) 0) λc2=>
 Zf (Qj (Z7 (Zc t8) 0) 1) λc3=>
 let t4:=(.ptr (Zb H1) 0);let H4:=(Zv H1 (.cells Xf))
 Za (storeT Zh base 19 H4 t4 c2) λH5=>
 k (z4 t4<| z5 c3<| Zu 7 S) H5)
 (Zi (Zi (Zd λS H k=>
 Za (Jc .int (Zc (g5 S)) (tN 0)) λt12=>
 k (z5 (Ze (g5 S))<| z6 t12<| Zu 7 S) H)
 (Z1 (λS=>some (g6 S))
 (Zi (Zd λS H k=>
 k (z2 Xp<| z3 (g5 S)<| z5 (Qu (g5 S))<| Zu 7 S) H)
 (Zn .ret))
 (Zn .normal)))
 (Zi (Zd λS H k=>
 Za (Zw (g4 S) 2) λt14=>
 lF Zh base H t14 λt15 H6=>
 Za (Zm call 100 [Zg t15] H6) λt16=>
 k (z2 t16<| z3 (tN 0)<| Zu 7 S) H6)
 (Zn .ret)))))
def F46:Ji:=λcall Zh l H=>Za (C46 call Zh (Zb H) (Zl l 0,Zl l 1,Zl l 2,Zl l 3,Zl l 4,Zl l 5,Zl l 12,()) H) λp=>Xr p.1 (Zp (Z2 Qk [p.2.1.2.2.1,p.2.1.2.2.2.1]) (some (Xm (Zb H) (.Xh [p.2.1.2.2.1,p.2.1.2.2.2.1]) p.2.2)))
theorem F46_eq:Jr P TC 46 F46:=λ_ _ _ _=>by kernel_rfl
def C48 (call:Z3) (Zh base:Nat):Z4 (TV×TV×TV×TV×TV×TV×TV×Unit):=
 (Zi (Zd λS H k=>
 Zp (Yu S.1)<|
 let t1:=(.ptr (Zb H) 0);let H0:=(Zv H (.cells (Zy S.1)))
 k (z0 (Qu S.1)<| z1 t1<| z2 (tB false)<| z3 (tN 0)<| Zu 7 S) H0)
 (Zi (Zd λS H k=>
 lA Zh base 3 H (g1 S) λt7 H1=>
 Za (Zm call 94 [Zg t7] H1) λt8=>
 Zf (Qj (Zc t8) 0) λc2=>
 Zf (Qj (Z7 (Zc t8) 0) 1) λc3=>
 let t4:=(.ptr (Zb H1) 0);let H4:=(Zv H1 (.cells Xf))
 Za (storeT Zh base 19 H4 t4 c2) λH5=>
 k (z4 t4<| z5 c3<| Zu 7 S) H5)
 (Zi (Zi (Zd λS H k=>
 Za (Jc .int (Zc (g5 S)) (tN 0)) λt12=>
 k (z5 (Ze (g5 S))<| z6 t12<| Zu 7 S) H)
 (Z1 (λS=>some (g6 S))
 (Zi (Zd λS H k=>
 k (z2 (tB false)<| z3 (g5 S)<| z5 (Qu (g5 S))<| Zu 7 S) H)
 (Zn .ret))
 (Zn .normal)))
 (Zi (Zd λS H k=>
 lA Zh base 19 H (g4 S) λt14 H6=>
 Za (Zm call 128 [Zg t14] H6) λt15=>
 k (z2 t15<| z3 (tN 0)<| Zu 7 S) H6)
 (Zn .ret)))))
def F48:Ji:=λcall Zh l H=>Za (C48 call Zh (Zb H) (Zl l 0,Zl l 1,Zl l 2,Zl l 3,Zl l 4,Zl l 5,Zl l 12,()) H) λp=>Xr p.1 (Zp (Z2 Qk [p.2.1.2.2.1,p.2.1.2.2.2.1]) (some (Xm (Zb H) (.Xh [p.2.1.2.2.1,p.2.1.2.2.2.1]) p.2.2)))
theorem F48_eq:Jr P TC 48 F48:=λ_ _ _ _=>by kernel_rfl
def C52 (call:Z3) (Zh base:Nat):Z4 (TV×TV×TV×TV×TV×Unit):=
 (Zi (Zd λS H k=>
 Zp (Yu S.1)<|
 let t2:=(.ptr (Zb H) 0);let H0:=(Zv H (.cells (Zy S.1)))
 k (z0 (Qu S.1)<| z2 t2<| z3 (tN 0)<| Zu 5 S) H0)
 (Zi (Zd λS H k=>
 lA Zh base 3 H (g2 S) λt9 H1=>
 Za (Zm call 111 [Zg t9,Zg (Zc (g1 S))] H1) λt11=>
 Zf (Qj (Zc t11) 0) λc2=>
 Zf (Qj (Z7 (Zc t11) 0) 1) λc3=>
 Zf (Qj (Z7 (Z7 (Zc t11) 0) 1) 2) λc4=>
 let t5:=(.ptr (Zb H1) 0);let H5:=(Zv H1 (.cells Xf))
 Za (storeT Zh base 19 H5 t5 c2) λH6=>
 k (z1 (Ze (g1 S))<| z4 c4<| Zu 5 S) H6)
 (Zi (Zd λS H k=>
 k (z3 (g4 S)<| z4 (Qu (g4 S))<| Zu 5 S) H)
 (Zn .ret))))
def F52:Ji:=λcall Zh l H=>Za (C52 call Zh (Zb H) (Zl l 0,Zl l 1,Zl l 2,Zl l 4,Zl l 7,()) H) λp=>Xr p.1 (Zp (Z2 Qk [p.2.1.2.2.2.1]) (some (Xm (Zb H) p.2.1.2.2.2.1 p.2.2)))
theorem F52_eq:Jr P TC 52 F52:=λ_ _ _ _=>by kernel_rfl
def C54 (call:Z3) (Zh base:Nat):Z4 (TV×TV×TV×TV×TV×TV×TV×TV×TV×TV×Unit):=
 (Zi (Zd λS H k=>
 Zp (Yu S.1)<|
 let t2:=(.ptr (Zb H) 0);let H0:=(Zv H (.cells (Zy S.1)));let t4:=(.ptr (Zb H0) 0);let H1:=(Zv H0 (.cells Uz))
 k (z0 (Qu S.1)<| z2 t2<| z3 t4<| Zu 10 S) H1)
 (Zi (Zd λS H k=>
 Za (Zw (g2 S) 0) λt7=>
 lF Zh base H t7 λt8 H2=>
 Za (b1 (Ki .i64) t8) λt9=>
 Za (b2 Y1 t9 (tN 8)) λt10=>
 Za (b2 Z0 (tN 1) t10) λt11=>
 Za (Uk [(0,1,t11)] Uz) λt12=>
 let t5:=(.ptr (Zb H2) 0);let H3:=(Zv H2 (.cells Uz))
 Za (storeT Zh base 3 H3 t5 t12) λH4=>
 k (z4 t5<| Zu 10 S) H4)
 (Zi (Zd λS H k=>
 Za (Zw (g2 S) 1) λt13=>
 lF Zh base H t13 λt14 H5=>
 Za (b1 (Ki .i64) t14) λt15=>
 Za (Zw (g4 S) 0) λt17=>
 lF Zh base H5 t17 λt18 H6=>
 Za (b2 Jp (Zc (g1 S)) t18) λt19=>
 Za (b2 (Y0 false) (tN 8) t19) λc7=>
 Zp (ie c7)<|
 Za (b2 Y1 t15 c7) λt21=>
 Za (b2 Z0 (tN 1) t21) λt22=>
 Za (Zw (g4 S) 1) λt23=>
 Za (storeT Zh base 1 H6 t23 t22) λH8=>
 k (z1 (Ze (g1 S))<| Zu 10 S) H8)
 (Zi (Zi (Zd λS H k=>
 Za (Zw (g4 S) 0) λt24=>
 lF Zh base H t24 λt25 H9=>
 Za (Zw (g4 S) 1) λt26=>
 lF Zh base H9 t26 λt27 Ua=>
 Za (b2 Y2 t25 t27) λt28=>
 k (z6 t28<| z7 (tN 0)<| Zu 10 S) Ua)
 (Z9 0 (Ym (Zi (Zd λS H k=>
 Za (b2 Xg (g7 S) (g6 S)) λt30=>
 k (z8 t30<| Zu 10 S) H)
 (Zi (Z1 (λS=>some (g8 S))
 (Zn .normal)
 (Zn (.exit 0)))
 (Zi (Z9 1 (Zi (Zd λS H k=>
 k (z5 (g7 S)<| z7 (Qu (g7 S))<| Zu 10 S) H)
 (Zi (Zd λS H k=>
 Za (Zw (g2 S) 3) λt32=>
 lF Zh base H t32 λt33 Gj=>
 Za (b2 K7 t33 (Zc (g5 S))) λt35=>
 Za (b2 Km t35 (.v (.int .u16 (.ofNat 1)))) λt36=>
 Za (Ja .int t36 (.v (.int .u16 (.ofNat 1)))) λt37=>
 gB t37 true (Zw (g2 S) 2) Gj λt39 Uy=>
 Qp (Zc t37) true (lF Zh base Uy t39 λEm Ea=>Qr Em Ea) Uy λt40 D9=>
 gB t37 true (b1 (Ki .i64) t40) D9 λt41 D6=>
 gV t37 true (Zc (Ze (g5 S))) D6 λt42 Iq=>
 gB t37 true (b2 Y2 (tN 5) t42) Iq λt43 Mw=>
 gB t37 true (b2 Z0 t41 t43) Mw λt44 Mu=>
 gB t37 true (b2 Y1 t44 (tN 4)) Mu λt45 Mn=>
 gB t37 true (Ja .int t45 (tN 0)) Mn λt46 P7=>
 Za (Xa (Zc t37) (Zg t46) (tB false)) λt47=>
 k (z5 (Ze (Ze (g5 S)))<| z9 t47<| Zu 10 S) P7)
 (Z1 (λS=>some (g9 S))
 (Zd λS H k=>
 Za (Zw (g4 S) 2) λt48=>
 loadT .take Zh base false 1 H t48 λt49 O4=>
 Za (Yf 1 [0] [Zg (Zg (g5 S))] (Y5 [tN 0] 1)) λc22=>
 X6 Zh O4 3 1 8 t49 (.row .full (.own 3) 1 c22) λt52 Ar=>
 Za (Zw (Zr (g4 S)) 2) λt53=>
 Za (storeT Zh base 1 Ar t53 t52) λTl=>
 k (z5 (Zg (g5 S))<| Zu 10 S) Tl)
 (Zn .normal)))))
 (Zd λS H k=>
 Za (b2 Z0 (g7 S) (tN 1)) λt54=>
 k (z7 t54<| Zu 10 S) H)))) fuel)))
 (Zi (Zd λS H k=>
 sA Zh base 3 H (g4 S) λt55 Nu=>
 Za (storeT Zh base 3 Nu (g3 S) t55) λo9=>
 k (Zu 10 S) o9)
 (Zn .ret))))))
def F54:Ji:=λcall Zh l H=>Za (C54 call Zh (Zb H) (Zl l 0,Zl l 1,Zl l 2,Zl l 4,Zl l 5,Zl l 6,Zl l 28,Zl l 29,Zl l 30,Zl l 47,()) H) λp=>Xr p.1 (loadT .take Zh (Zb p.2.2) true 3 p.2.2 p.2.1.2.2.2.1 λr0 h0=>Zp (Z2 Qk [r0]) (some (Xm (Zb H) r0 h0)))
theorem F54_eq:Jr P TC 54 F54:=λ_ _ _ _=>by kernel_rfl
def C56 (call:Z3) (Zh base:Nat):Z4 (TV×TV×TV×TV×TV×TV×TV×TV×TV×Unit):=
 (Zi (Zd λS H k=>
 Zp (Yu S.1)<|
 let t1:=(.ptr (Zb H) 0);let H0:=(Zv H (.cells (Zy S.1)))
 k (z0 (Qu S.1)<| z1 t1<| z2 Xp<| Zu 9 S) H0)
 (Zi (Zd λS H k=>
 k (z3 Xp<| Zu 9 S) H)
 (Zi (Zi (Zd λS H k=>
 Za (Zw (g1 S) 0) λt5=>
 lF Zh base H t5 λt6 H1=>
 Za (Zw (g1 S) 1) λt7=>
 lF Zh base H1 t7 λt8 H2=>
 Za (b2 Y2 t6 t8) λt9=>
 k (z5 t9<| z6 (tN 0)<| Zu 9 S) H2)
 (Z9 0 (Ym (Zi (Zd λS H k=>
 Za (b2 Xg (g6 S) (g5 S)) λt11=>
 k (z7 t11<| Zu 9 S) H)
 (Zi (Z1 (λS=>some (g7 S))
 (Zn .normal)
 (Zn (.exit 0)))
 (Zi (Z9 1 (Zi (Zd λS H k=>
 k (z4 (g6 S)<| z6 (Qu (g6 S))<| Zu 9 S) H)
 (Zi (Zd λS H k=>
 Za (Zw (g1 S) 2) λt13=>
 lF Zh base H t13 λt14 H3=>
 Za (Zm call 64 [Zg t14,Zg (Zc (g4 S))] H3) λt16=>
 Za (b1 Gh t16) λt17=>
 k (z4 (Ze (g4 S))<| z8 t17<| Zu 9 S) H3)
 (Z1 (λS=>some (g8 S))
 (Zd λS H k=>
 Za (Yf 1 [0] [Zg (Zg (g4 S))] (Y5 [tN 0] 1)) λc4=>
 X6 Zh H 3 1 8 (g3 S) (.row .full (.own 3) 1 c4) λt21 H5=>
 k (z3 t21<| z4 (Zg (g4 S))<| Zu 9 S) H5)
 (Zn .normal)))))
 (Zd λS H k=>
 Za (b2 Z0 (g6 S) (tN 1)) λt22=>
 k (z6 t22<| Zu 9 S) H)))) fuel)))
 (Zi (Zd λS H k=>
 k (z2 (g3 S)<| z3 (Qu (g3 S))<| Zu 9 S) H)
 (Zn .ret)))))
def F56:Ji:=λcall Zh l H=>Za (C56 call Zh (Zb H) (Zl l 0,Zl l 1,Zl l 2,Zl l 3,Zl l 4,Zl l 9,Zl l 10,Zl l 11,Zl l 17,()) H) λp=>Xr p.1 (Zp (Z2 Qk [p.2.1.2.2.1]) (some (Xm (Zb H) p.2.1.2.2.1 p.2.2)))
theorem F56_eq:Jr P TC 56 F56:=λ_ _ _ _=>by kernel_rfl
def C62 (call:Z3) (Zh base:Nat):Z4 (TV×TV×TV×TV×Unit):=
 (Zi (Zd λS H k=>
 Zp (Yu (g1 S))<|
 let t3:=(.ptr (Zb H) 0);let H0:=(Zv H (.cells (Zy (g1 S))))
 k (z1 (Qu (g1 S))<| z2 t3<| z3 (tB false)<| Zu 4 S) H0)
 (Zi (Zd λS H k=>
 lA Zh base 2 H (g2 S) λt6 H1=>
 Za (Zm call 135 [Zg (Zc S.1),Zg t6] H1) λt7=>
 Za (b2 K0 t7 (tN 0)) λt8=>
 k (z0 (Ze S.1)<| z3 t8<| Zu 4 S) H1)
 (Zn .ret)))
def F62:Ji:=λcall Zh l H=>Za (C62 call Zh (Zb H) (Zl l 0,Zl l 1,Zl l 3,Zl l 4,()) H) λp=>Xr p.1 (Zp (Z2 Qk [p.2.1.2.2.2.1]) (some (Xm (Zb H) p.2.1.2.2.2.1 p.2.2)))
theorem F62_eq:Jr P TC 62 F62:=λ_ _ _ _=>by kernel_rfl
end
end Go.Proofs.YtgemobbfikjmoaaGreatDoor
namespace Go.Proofs.YtgemobbfikjmoaaGreatDoor
open Go Go.Ev
set_option maxRecDepth 1000000
set_option linter.unusedVariables false
noncomputable section
def C63 (call:Z3) (Zh base:Nat):Z4 (TV×TV×TV×TV×TV×TV×TV×TV×TV×TV×TV×TV×Unit):=
 (Zi (Zd λS H k=>
 Zp (Yu S.1)<|
 let t1:=(.ptr (Zb H) 0);let H0:=(Zv H (.cells (Zy S.1)))
 k (z0 (Qu S.1)<| z1 t1<| z2 Xp<| Zu 12 S) H0)
 (Zi (Zd λS H k=>
 k (z3 Xp<| Zu 12 S) H)
 (Zi (Zd λS H k=>
 lA Zh base 3 H (g1 S) λt7 H1=>
 Za (Zm call 56 [Zg t7] H1) λt8=>
 k (z4 t8<| Zu 12 S) H1)
 (Zi (Zi (Zd λS H k=>
 Za (Kn (Zg (g4 S))) λt10=>
 k (z4 (Zg (g4 S))<| z6 (Zg (g4 S))<| z7 t10<| z8 (tN 0)<| Zu 12 S) H)
 (Z9 0 (Ym (Zi (Zd λS H k=>
 Za (b2 Xg (g8 S) (g7 S)) λt12=>
 k (z9 t12<| Zu 12 S) H)
 (Zi (Z1 (λS=>some (g9 S))
 (Zn .normal)
 (Zn (.exit 0)))
 (Zi (Z9 1 (Zi (Zd λS H k=>
 Za (Qh 1 (g6 S) (g8 S)) λt13=>
 sF Zh base H t13 λt14 H2=>
 k (z5 t14<| Zu 12 S) H2)
 (Zi (Zi (Zd λS H k=>
 Za (Zw (g1 S) 0) λt16=>
 lF Zh base H t16 λt17 H3=>
 Za (b2 Y1 (Zc (g5 S)) t17) λt18=>
 Za (Zw (g1 S) 0) λt19=>
 lF Zh base H3 t19 λt20 H4=>
 Za (b2 Qq t20 (tN 1)) λt21=>
 Za (b2 Xg t18 t21) λt22=>
 gV t22 true (Zc (g4 S)) H4 λt24 H5=>
 gV t22 true (Zc (Ze (g5 S))) H5 λt25 H6=>
 gB t22 true (b2 Z0 t25 (tN 1)) H6 λt26 H7=>
 gB t22 true (Zm call 64 [Zg t24,Zg t26] H7) H7 λt27 H8=>
 Za (Xa (Zc t22) (Zg t27) (tB false)) λt28=>
 k (z4 (Ze (g4 S))<| z5 (Ze (Ze (g5 S)))<| Uh t28<| Zu 12 S) H8)
 (Z1 (λS=>some (J9 S))
 (Zd λS H k=>
 Za (b2 Z0 (Zc (Zg (g5 S))) (tN 1)) λt32=>
 Za (Uk [(0,1,(Zg (g5 S))),(1,1,t32)] Vy) λt33=>
 Za (Yf 2 [0] [Zg t33] (Y5 [.agg Vy] 1)) λc9=>
 X6 Zh H 71 2 16 (g3 S) (.row .full (.own 71) 2 c9) λt35 Ua=>
 k (z3 t35<| z5 (Ze (Zg (g5 S)))<| Zu 12 S) Ua)
 (Zn .normal)))
 (Zi (Zd λS H k=>
 Za (Zw (g1 S) 0) λt38=>
 lF Zh base H t38 λt39 Gj=>
 Za (b2 Z0 (Zc (g5 S)) t39) λt40=>
 Za (Zm call 64 [Zg (Zc (g4 S)),Zg t40] Gj) λt41=>
 k (z4 (Ze (g4 S))<| z5 (Ze (g5 S))<| Iv t41<| Zu 12 S) Gj)
 (Z1 (λS=>some (Jj S))
 (Zd λS H k=>
 Za (Zw (g1 S) 0) λt45=>
 lF Zh base H t45 λt46 Uy=>
 Za (b2 Z0 (Zc (Zg (g5 S))) t46) λt47=>
 Za (Uk [(0,1,(Zg (g5 S))),(1,1,t47)] Vy) λt48=>
 Za (Yf 2 [0] [Zg t48] (Y5 [.agg Vy] 1)) λqb=>
 X6 Zh Uy 71 2 16 (g3 S) (.row .full (.own 71) 2 qb) λt50 D9=>
 k (z3 t50<| z5 (Ze (Zg (g5 S)))<| Zu 12 S) D9)
 (Zn .normal))))))
 (Zd λS H k=>
 Za (b2 Z0 (g8 S) (tN 1)) λt51=>
 k (z8 t51<| Zu 12 S) H)))) fuel)))
 (Zi (Zd λS H k=>
 Xb 2 true (g3 S) H λc15 D6=>
 Xb 2 true c15 D6 λc16 Iq=>
 Qo call Zh 136 [c16] Iq λt53 Mw=>
 k (z2 t53<| z3 c15<| Zu 12 S) Mw)
 (Zn .ret))))))
def F63:Ji:=λcall Zh l H=>Za (C63 call Zh (Zb H) (Zl l 0,Zl l 1,Zl l 2,Zl l 3,Zl l 4,Zl l 6,Zl l 9,Zl l 10,Zl l 11,Zl l 12,Zl l 28,Zl l 41,()) H) λp=>Xr p.1 (Zp (Z2 Qk [p.2.1.2.2.1]) (some (Xm (Zb H) p.2.1.2.2.1 p.2.2)))
theorem F63_eq:Jr P TC 63 F63:=λ_ _ _ _=>by kernel_rfl
def C64 (call:Z3) (Zh base:Nat):Z4 (TV×TV×TV×Unit):=
 (Zi (Zd λS H k=>
 k (z2 (tB false)<| Zu 3 S) H)
 (Zi (Zd λS H k=>
 Za (Zm call 137 [Zg (Zc S.1),Zg (Zc (g1 S))] H) λt7=>
 Za (b2 K0 t7 (tN 0)) λt8=>
 k (z0 (Ze S.1)<| z1 (Ze (g1 S))<| z2 t8<| Zu 3 S) H)
 (Zn .ret)))
def F64:Ji:=λcall Zh l H=>Za (C64 call Zh (Zb H) (Zl l 0,Zl l 1,Zl l 4,()) H) λp=>Xr p.1 (Zp (Z2 Qk [p.2.1.2.2.1]) (some (Xm (Zb H) p.2.1.2.2.1 p.2.2)))
theorem F64_eq:Jr P TC 64 F64:=λ_ _ _ _=>by kernel_rfl
def C65 (call:Z3) (Zh base:Nat):Z4 (TV×TV×TV×Unit):=
 (Zi (Zd λS H k=>
 k (z2 (tB false)<| Zu 3 S) H)
 (Zi (Zd λS H k=>
 Qo call Zh 138 [Zg (Zg S.1),Zg (Zg (g1 S))] H λt7 H0=>
 Za (b2 K0 t7 (tN 0)) λt8=>
 k (z0 (Zg S.1)<| z1 (Zg (g1 S))<| z2 t8<| Zu 3 S) H0)
 (Zn .ret)))
def F65:Ji:=λcall Zh l H=>Za (C65 call Zh (Zb H) (Zl l 0,Zl l 1,Zl l 4,()) H) λp=>Xr p.1 (Zp (Z2 Qk [p.2.1.2.2.1]) (some (Xm (Zb H) p.2.1.2.2.1 p.2.2)))
theorem F65_eq:Jr P TC 65 F65:=λ_ _ _ _=>by kernel_rfl
def C67 (call:Z3) (Zh base:Nat):Z4 (TV×TV×TV×TV×TV×TV×TV×TV×TV×TV×TV×TV×TV×TV×TV×Unit):=
 (Zi (Zd λS H k=>
 Zp (Yu S.1)<|
 let t1:=(.ptr (Zb H) 0);let H0:=(Zv H (.cells (Zy S.1)))
 k (z0 (Qu S.1)<| z1 t1<| z2 (tB false)<| Zu 15 S) H0)
 (Zi (Zd λS H k=>
 lA Zh base 3 H (g1 S) λt10 H1=>
 Za (Zm call 56 [Zg t10] H1) λt11=>
 k (z3 t11<| Zu 15 S) H1)
 (Zi (Zi (Zd λS H k=>
 Za (Kn (Zc (g3 S))) λt13=>
 Za (Ja .int t13 (tN 0)) λt14=>
 k (z3 (Ze (g3 S))<| Uh t14<| Zu 15 S) H)
 (Z1 (λS=>some (J9 S))
 (Zi (Zd λS H k=>
 k (z2 (tB true)<| Zu 15 S) H)
 (Zn .ret))
 (Zn .normal)))
 (Zi (Zd λS H k=>
 Za (Zw (g1 S) 0) λt15=>
 lF Zh base H t15 λt16 H2=>
 Za (b2 Z0 t16 (tN 2)) λt17=>
 let t4:=(.ptr (Zb H2) 0);let H3:=(Zv H2 (.cells [tN 0]))
 Za (storeT Zh base 1 H3 t4 t17) λH4=>
 k (z4 t4<| Zu 15 S) H4)
 (Zi (Zd λS H k=>
 Zp (Z2 pass [Zg (g1 S),Zg (g4 S)])<|
 let t5:=(.ptr (Zb H) 0);let H5:=(Zv H (.cells [.v .nilFunc]))
 Za (storeT Zh base 1 H5 t5 (.fn (.func 139) [] [Zg (g1 S),Zg (g4 S)])) λH6=>
 k (z1 (Zg (g1 S))<| z4 (Zg (g4 S))<| z5 t5<| Zu 15 S) H6)
 (Zi (Zd λS H k=>
 k (z6 Xp<| z7 Xp<| Zu 15 S) H)
 (Zi (Zi (Zd λS H k=>
 lF Zh base H (g4 S) λt19 H7=>
 Za (Zw (g1 S) 1) λt20=>
 lF Zh base H7 t20 λt21 H8=>
 Za (b2 Z0 t21 (tN 2)) λt22=>
 Za (b2 Y2 t19 t22) λt23=>
 k (Iv t23<| Oj (tN 0)<| Zu 15 S) H8)
 (Z9 0 (Ym (Zi (Zd λS H k=>
 Za (b2 Xg (Dn S) (Jj S)) λt25=>
 k (Te t25<| Zu 15 S) H)
 (Zi (Z1 (λS=>some (Em S))
 (Zn .normal)
 (Zn (.exit 0)))
 (Zi (Z9 1 (Zi (Zd λS H k=>
 let t8:=(.ptr (Zb H) 0);let H9:=(Zv H (.cells [tN 0]))
 Za (storeT Zh base 1 H9 t8 (Zg (Dn S))) λUa=>
 k (z8 t8<| Oj (Zg (Dn S))<| Zu 15 S) Ua)
 (Zi (Zd λS H k=>
 Zp (Z2 pass [Zg (g5 S),Zg (g8 S)])<|
 Qo call Zh 65 [Zg (Zg (g3 S)),.fn (.func 140) [] [Zg (g5 S),Zg (g8 S)]] H λt29 Gj=>
 k (z3 (Zg (g3 S))<| z5 (Zg (g5 S))<| z8 (Zg (g8 S))<| Cn t29<| Zu 15 S) Gj)
 (Z1 (λS=>some (Iz S))
 (Zd λS H k=>
 sF Zh base H (g8 S) λt31 Uy=>
 Za (Yf 1 [0] [Zg t31] (Y5 [tN 0] 1)) λqb=>
 X6 Zh Uy 3 1 8 (g6 S) (.row .full (.own 3) 1 qb) λt33 D9=>
 k (z6 t33<| Zu 15 S) D9)
 (Zd λS H k=>
 sF Zh base H (g8 S) λt35 D6=>
 Za (Yf 1 [0] [Zg t35] (Y5 [tN 0] 1)) λc16=>
 X6 Zh D6 3 1 8 (g7 S) (.row .full (.own 3) 1 c16) λt37 Mw=>
 k (z7 t37<| Zu 15 S) Mw)))))
 (Zd λS H k=>
 Za (b2 Z0 (Dn S) (tN 1)) λt38=>
 k (Oj t38<| Zu 15 S) H)))) fuel)))
 (Zi (Zd λS H k=>
 Zp (Z2 pass [Zg (g4 S)])<|
 k (z4 (Zg (g4 S))<| z9 (.fn (.func 141) [] [Zg (g4 S)])<| Zu 15 S) H)
 (Zi (Zd λS H k=>
 Xd TC call Zh (Zc (g9 S)) [Zg (Zg (g6 S))] H λt42 Mu=>
 Za (b1 Gh t42) λt43=>
 gV t43 false (Zc (Zr (Ze (g9 S)))) Mu λt45 Mn=>
 gV t43 false (Zg (Zr (g7 S))) Mn λt46 P7=>
 Qp (Zc t43) false (Xd TC call Zh t45 [Zg t46] P7 λg21 O4=>Qr g21 O4) P7 λt47 Bo=>
 gB t43 false (b1 Gh t47) Bo λt48 Ar=>
 Za (Xa (Zr (Zc t43)) (tB true) (Zg t48)) λt49=>
 k (z2 t49<| z6 (Zg (g6 S))<| z7 (Zg (Zr (g7 S)))<| z9 (Ze (Zr (Ze (g9 S))))<| Zu 15 S) Ar)
 (Zn .ret))))))))))
def F67:Ji:=λcall Zh l H=>Za (C67 call Zh (Zb H) (Zl l 0,Zl l 1,Zl l 2,Zl l 3,Zl l 4,Zl l 5,Zl l 6,Zl l 7,Zl l 8,Zl l 9,Zl l 14,Zl l 23,Zl l 24,Zl l 25,Zl l 29,()) H) λp=>Xr p.1 (Zp (Z2 Qk [p.2.1.2.2.1]) (some (Xm (Zb H) p.2.1.2.2.1 p.2.2)))
theorem F67_eq:Jr P TC 67 F67:=λ_ _ _ _=>by kernel_rfl
def C68 (call:Z3) (Zh base:Nat):Z4 (TV×TV×TV×TV×Unit):=
 (Zi (Zd λS H k=>
 Zp (Yu S.1)<|
 let t1:=(.ptr (Zb H) 0);let H0:=(Zv H (.cells (Zy S.1)))
 k (z0 (Qu S.1)<| z1 t1<| z2 Xp<| Zu 4 S) H0)
 (Zi (Zd λS H k=>
 let t3:=(.ptr (Zb H) 0);let H1:=(Zv H (.cells [Xp]))
 k (z3 t3<| Zu 4 S) H1)
 (Zi (Zd λS H k=>
 sA Zh base 3 H (g1 S) λt4 H2=>
 Zp (Z2 pass [Zg (g3 S)])<|
 Qo call Zh 132 [Zg t4,tN 0,.fn (.func 142) [] [Zg (g3 S)]] H2 λt6 H3=>
 k (z3 (Zg (g3 S))<| Zu 4 S) H3)
 (Zi (Zd λS H k=>
 sF Zh base H (g3 S) λt7 H4=>
 k (z2 t7<| Zu 4 S) H4)
 (Zn .ret)))))
def F68:Ji:=λcall Zh l H=>Za (C68 call Zh (Zb H) (Zl l 0,Zl l 1,Zl l 2,Zl l 3,()) H) λp=>Xr p.1 (Zp (Z2 Qk [p.2.1.2.2.1]) (some (Xm (Zb H) p.2.1.2.2.1 p.2.2)))
theorem F68_eq:Jr P TC 68 F68:=λ_ _ _ _=>by kernel_rfl
def C78 (call:Z3) (Zh base:Nat):Z4 (TV×TV×TV×TV×TV×TV×TV×TV×TV×TV×TV×TV×TV×TV×Unit):=
 (Zi (Zd λS H k=>
 k (z2 (tN 0)<| Zu 14 S) H)
 (Zi (Zi (Zd λS H k=>
 Za (Kn (Zg S.1)) λt10=>
 k (z0 (Zg S.1)<| z7 (Zg S.1)<| z8 t10<| z9 (tN 0)<| Zu 14 S) H)
 (Z9 0 (Ym (Zi (Zd λS H k=>
 Za (b2 Xg (g9 S) (g8 S)) λt12=>
 k (Uh t12<| Zu 14 S) H)
 (Zi (Z1 (λS=>some (J9 S))
 (Zn .normal)
 (Zn (.exit 0)))
 (Zi (Z9 1 (Zi (Zd λS H k=>
 Za (Qh 1 (g7 S) (Qu (g9 S))) λt14=>
 sF Zh base H t14 λt15 H0=>
 k (z3 (g9 S)<| z4 t15<| z9 (Qu (g9 S))<| Zu 14 S) H0)
 (Zi (Zi (Zd λS H k=>
 Za (Kn (Zc (g1 S))) λt18=>
 Za (b2 K0 (Zc (g3 S)) t18) λt19=>
 k (z1 (Ze (g1 S))<| z3 (Ze (g3 S))<| Iv t19<| Zu 14 S) H)
 (Z1 (λS=>some (Jj S))
 (Zi (Zd λS H k=>
 k (z2 (tN 1)<| Zu 14 S) H)
 (Zn .ret))
 (Zn .normal)))
 (Zi (Zd λS H k=>
 Za (Qh 1 (Zc (g1 S)) (Zc (g3 S))) λt22=>
 sF Zh base H t22 λt23 H1=>
 k (z1 (Ze (g1 S))<| z3 (Ze (g3 S))<| z5 t23<| Zu 14 S) H1)
 (Zi (Zd λS H k=>
 Za (Zm call 147 [Zg (Zc (g4 S)),Zg (Zc (g5 S))] H) λt26=>
 k (z4 (Ze (g4 S))<| z5 (Ze (g5 S))<| z6 t26<| Zu 14 S) H)
 (Zi (Zd λS H k=>
 Za (Jc .int (Zc (g6 S)) (tN 0)) λt28=>
 k (z6 (Ze (g6 S))<| Oj t28<| Zu 14 S) H)
 (Z1 (λS=>some (Dn S))
 (Zi (Zd λS H k=>
 k (z2 (g6 S)<| z6 (Qu (g6 S))<| Zu 14 S) H)
 (Zn .ret))
 (Zn .normal))))))))
 (Zd λS H k=>
 Za (b2 Z0 (g9 S) (tN 1)) λt30=>
 k (z9 t30<| Zu 14 S) H)))) fuel)))
 (Zi (Zi (Zd λS H k=>
 Za (Kn (Zc S.1)) λt32=>
 Za (Kn (Zc (g1 S))) λt34=>
 Za (b2 Xg t32 t34) λt35=>
 k (z0 (Ze S.1)<| z1 (Ze (g1 S))<| Te t35<| Zu 14 S) H)
 (Z1 (λS=>some (Em S))
 (Zi (Zd λS H k=>
 k (z2 (.v (.int .i64 (.negSucc 0)))<| Zu 14 S) H)
 (Zn .ret))
 (Zn .normal)))
 (Zi (Zd λS H k=>
 k (z2 (tN 0)<| Zu 14 S) H)
 (Zn .ret)))))
def F78:Ji:=λcall Zh l H=>Za (C78 call Zh (Zb H) (Zl l 0,Zl l 1,Zl l 4,Zl l 5,Zl l 6,Zl l 7,Zl l 8,Zl l 9,Zl l 10,Zl l 11,Zl l 12,Zl l 19,Zl l 28,Zl l 35,()) H) λp=>Xr p.1 (Zp (Z2 Qk [p.2.1.2.2.1]) (some (Xm (Zb H) p.2.1.2.2.1 p.2.2)))
theorem F78_eq:Jr P TC 78 F78:=λ_ _ _ _=>by kernel_rfl
def C82 (call:Z3) (Zh base:Nat):Z4 (TV×TV×TV×Unit):=
 (Zi (Zd λS H k=>
 k (z2 (tN 0)<| Zu 3 S) H)
 (Zi (Zd λS H k=>
 Za (Zw (g1 S) 0) λt5=>
 lF Zh base H t5 λt6 H0=>
 Za (b2 Y1 (Zc S.1) t6) λt7=>
 Za (Zw (g1 S) 1) λt8=>
 lF Zh base H0 t8 λt9 H1=>
 Za (b2 Y2 t7 t9) λt10=>
 Za (Zw (g1 S) 0) λt12=>
 lF Zh base H1 t12 λt13 H2=>
 Za (b2 Jp (Zc (Ze S.1)) t13) λt14=>
 Za (b2 Z0 t10 t14) λt15=>
 k (z0 (Ze (Ze S.1))<| z2 t15<| Zu 3 S) H2)
 (Zn .ret)))
def F82:Ji:=λcall Zh l H=>Za (C82 call Zh (Zb H) (Zl l 0,Zl l 1,Zl l 3,()) H) λp=>Xr p.1 (Zp (Z2 Qk [p.2.1.2.2.1]) (some (Xm (Zb H) p.2.1.2.2.1 p.2.2)))
theorem F82_eq:Jr P TC 82 F82:=λ_ _ _ _=>by kernel_rfl
def C83 (call:Z3) (Zh base:Nat):Z4 (TV×TV×Unit):=
 (Zi (Zd λS H k=>
 Za (Kn (Zc S.1)) λt4=>
 k (z0 (Ze S.1)<| z1 t4<| Zu 2 S) H)
 (Zd λS H k=>
 Xb 1 false S.1 H λc0 H0=>
 Za (b1 (Ki .u64) (Zc (Zg (Zr (g1 S))))) λt8=>
 Za (Zm call 150 [Zg t8] H0) λt9=>
 Xb 1 false c0 H0 λc1 H1=>
 Qo call Zh 149 [c1,tN 0,Zg (Zg (Zr (g1 S))),Zg t9] H1 λt10 H2=>
 k (z0 c0<| z1 (Ze (Zg (Zr (g1 S))))<| Zu 2 S) H2))
def F83:Ji:=λcall Zh l H=>Za (C83 call Zh (Zb H) (Zl l 0,Zl l 2,()) H) λp=>Xr p.1 (Zp (Z2 Qk []) (some (Xm (Zb H) (.Xh []) p.2.2)))
theorem F83_eq:Jr P TC 83 F83:=λ_ _ _ _=>by kernel_rfl
def C84 (call:Z3) (Zh base:Nat):Z4 (TV×TV×TV×TV×TV×TV×TV×TV×TV×TV×TV×Unit):=
 (Zi (Zd λS H k=>
 k (z2 Xp<| Zu 11 S) H)
 (Zi (Zd λS H k=>
 k (z3 Xp<| Zu 11 S) H)
 (Zi (Zi (Zd λS H k=>
 Za (Kn (Zg S.1)) λt10=>
 k (z0 (Zg S.1)<| z7 (Zg S.1)<| z8 t10<| z9 (tN 0)<| Zu 11 S) H)
 (Z9 0 (Ym (Zi (Zd λS H k=>
 Za (b2 Xg (g9 S) (g8 S)) λt12=>
 k (Uh t12<| Zu 11 S) H)
 (Zi (Z1 (λS=>some (J9 S))
 (Zn .normal)
 (Zn (.exit 0)))
 (Zi (Z9 1 (Zi (Zd λS H k=>
 Za (Qh 2 (g7 S) (g9 S)) λt13=>
 sA Zh base 2 H t13 λt14 H0=>
 let t6:=(.ptr (Zb H0) 0);let H1:=(Zv H0 (.cells Vy))
 Za (storeT Zh base 2 H1 t6 t14) λH2=>
 k (z4 t6<| Zu 11 S) H2)
 (Zi (Zd λS H k=>
 lF Zh base H (g1 S) λt15 H3=>
 Za (Qt 2 1 (g4 S) (tN 0)) λt16=>
 sF Zh base H3 t16 λt17 H4=>
 Zp (Z2 X3 H4)<|
 Xd TC call (Zb H4) t15 [Zg t17] H4 λt18 H5=>
 lF Zh base H5 (Zr (g1 S)) λt19 H6=>
 Za (Qt 2 1 (Zr (g4 S)) (tN 1)) λt20=>
 sF Zh base H6 t20 λt21 H7=>
 Xd TC call Zh t19 [Zg t21] H7 λt22 H8=>
 k (z5 (Zr t18)<| z6 t22<| Zu 11 S) H8)
 (Zd λS H k=>
 Za (b2 (Y0 false) (Zc (g5 S)) (Zc (g6 S))) λc9=>
 Zp (ie c9)<|
 Za (b2 (Y0 true) (Zc (Ze (g5 S))) (Zc (Ze (g6 S)))) λc10=>
 Zp (ie c10)<|
 Za (Uk [(0,1,c9),(1,1,c10)] Vy) λt30=>
 Za (Yf 2 [0] [Zg t30] (Y5 [.agg Vy] 1)) λcz=>
 X6 Zh H 71 2 16 (g3 S) (.row .full (.own 71) 2 cz) λt32 Uy=>
 k (z3 t32<| z5 (Ze (Ze (g5 S)))<| z6 (Ze (Ze (g6 S)))<| Zu 11 S) Uy))))
 (Zd λS H k=>
 Za (b2 Z0 (g9 S) (tN 1)) λt33=>
 k (z9 t33<| Zu 11 S) H)))) fuel)))
 (Zi (Zd λS H k=>
 Xb 2 true (g3 S) H λqb Ea=>
 Xb 2 true qb Ea λc14 D9=>
 Qo call Zh 85 [c14,.fn (.func 86) [] []] D9 λt35 D6=>
 k (z3 qb<| Zu 11 S) D6)
 (Zi (Zd λS H k=>
 k (z2 (g3 S)<| z3 (Qu (g3 S))<| Zu 11 S) H)
 (Zn .ret))))))
def F84:Ji:=λcall Zh l H=>Za (C84 call Zh (Zb H) (Zl l 0,Zl l 1,Zl l 3,Zl l 4,Zl l 6,Zl l 7,Zl l 8,Zl l 9,Zl l 10,Zl l 11,Zl l 12,()) H) λp=>Xr p.1 (Zp (Z2 Qk [p.2.1.2.2.1]) (some (Xm (Zb H) p.2.1.2.2.1 p.2.2)))
theorem F84_eq:Jr P TC 84 F84:=λ_ _ _ _=>by kernel_rfl
def C85 (call:Z3) (Zh base:Nat):Z4 (TV×TV×TV×Unit):=
 (Zi (Zd λS H k=>
 Za (Kn (Zc S.1)) λt6=>
 k (z0 (Ze S.1)<| z2 t6<| Zu 3 S) H)
 (Zd λS H k=>
 Xb 2 true S.1 H λc0 H0=>
 Za (b1 (Ki .u64) (Zc (Zg (Zr (g2 S))))) λt10=>
 Za (Zm call 150 [Zg t10] H0) λt11=>
 Xb 2 true c0 H0 λc1 H1=>
 Qo call Zh 151 [c1,tN 0,Zg (Zg (Zr (g2 S))),Zg t11,Zg (Zg (Zr (g1 S)))] H1 λt13 H2=>
 k (z0 c0<| z1 (Zg (Zr (g1 S)))<| z2 (Ze (Zg (Zr (g2 S))))<| Zu 3 S) H2))
def F85:Ji:=λcall Zh l H=>Za (C85 call Zh (Zb H) (Zl l 0,Zl l 1,Zl l 4,()) H) λp=>Xr p.1 (Zp (Z2 Qk []) (some (Xm (Zb H) (.Xh []) p.2.2)))
theorem F85_eq:Jr P TC 85 F85:=λ_ _ _ _=>by kernel_rfl
def C86 (call:Z3) (Zh base:Nat):Z4 (TV×TV×TV×TV×TV×Unit):=
 (Zi (Zd λS H k=>
 Zp (Yu S.1)<|
 let t2:=(.ptr (Zb H) 0);let H0:=(Zv H (.cells (Zy S.1)))
 Zp (Yu (g1 S))<|
 let t3:=(.ptr (Zb H0) 0);let H1:=(Zv H0 (.cells (Zy (g1 S))))
 k (z0 (Qu S.1)<| z1 (Qu (g1 S))<| z2 t2<| z3 t3<| z4 (tN 0)<| Zu 5 S) H1)
 (Zi (Zd λS H k=>
 Za (G5 false 1 2 (g2 S) none none none) λt5=>
 Za (G5 false 1 2 (g3 S) none none none) λt6=>
 Za (Zm call 78 [Zg t5,Zg t6] H) λt7=>
 k (z4 t7<| Zu 5 S) H)
 (Zn .ret)))
def F86:Ji:=λcall Zh l H=>Za (C86 call Zh (Zb H) (Zl l 0,Zl l 1,Zl l 2,Zl l 3,Zl l 4,()) H) λp=>Xr p.1 (Zp (Z2 Qk [p.2.1.2.2.2.2.1]) (some (Xm (Zb H) p.2.1.2.2.2.2.1 p.2.2)))
theorem F86_eq:Jr P TC 86 F86:=λ_ _ _ _=>by kernel_rfl
def C87 (call:Z3) (Zh base:Nat):Z4 (TV×Unit):=
 (Zi (Zd λS H k=>
 let t0:=(.ptr (Zb H) 0);let H0:=(Zv H (.cells Uz))
 k (z0 t0<| Zu 1 S) H0)
 (Zi (Zd λS H k=>
 Za (Yf 1 [0] [tN 3] (Y5 [tN 0] 1)) λc1=>
 Za (Zm call 91 [tN 2,tN 2,Zg (.row .full (.own 3) 1 c1)] H) λt2=>
 Za (storeT Zh base 3 H S.1 t2) λH2=>
 k (Zu 1 S) H2)
 (Zn .ret)))
def F87:Ji:=λcall Zh l H=>Za (C87 call Zh (Zb H) (Zl l 0,()) H) λp=>Xr p.1 (loadT .take Zh (Zb p.2.2) true 3 p.2.2 p.2.1.1 λr0 h0=>Zp (Z2 Qk [r0]) (some (Xm (Zb H) r0 h0)))
theorem F87_eq:Jr P TC 87 F87:=λ_ _ _ _=>by kernel_rfl
def C88 (call:Z3) (Zh base:Nat):Z4 (TV×Unit):=
 (Zi (Zd λS H k=>
 let t0:=(.ptr (Zb H) 0);let H0:=(Zv H (.cells Uz))
 k (z0 t0<| Zu 1 S) H0)
 (Zi (Zd λS H k=>
 Za (Zm call 91 [tN 2,tN 2,Xp] H) λt1=>
 Za (storeT Zh base 3 H S.1 t1) λH1=>
 k (Zu 1 S) H1)
 (Zn .ret)))
def F88:Ji:=λcall Zh l H=>Za (C88 call Zh (Zb H) (Zl l 0,()) H) λp=>Xr p.1 (loadT .take Zh (Zb p.2.2) true 3 p.2.2 p.2.1.1 λr0 h0=>Zp (Z2 Qk [r0]) (some (Xm (Zb H) r0 h0)))
theorem F88_eq:Jr P TC 88 F88:=λ_ _ _ _=>by kernel_rfl
def C89 (call:Z3) (Zh base:Nat):Z4 (TV×Unit):=
 (Zi (Zd λS H k=>
 let t0:=(.ptr (Zb H) 0);let H0:=(Zv H (.cells Uz))
 k (z0 t0<| Zu 1 S) H0)
 (Zi (Zd λS H k=>
 Za (Yf 1 [0] [tN 4] (Y5 [tN 0] 1)) λc1=>
 Za (Zm call 91 [tN 3,tN 3,Zg (.row .full (.own 3) 1 c1)] H) λt2=>
 Za (storeT Zh base 3 H S.1 t2) λH2=>
 k (Zu 1 S) H2)
 (Zn .ret)))
def F89:Ji:=λcall Zh l H=>Za (C89 call Zh (Zb H) (Zl l 0,()) H) λp=>Xr p.1 (loadT .take Zh (Zb p.2.2) true 3 p.2.2 p.2.1.1 λr0 h0=>Zp (Z2 Qk [r0]) (some (Xm (Zb H) r0 h0)))
theorem F89_eq:Jr P TC 89 F89:=λ_ _ _ _=>by kernel_rfl
def C90 (call:Z3) (Zh base:Nat):Z4 (TV×Unit):=
 (Zi (Zd λS H k=>
 let t0:=(.ptr (Zb H) 0);let H0:=(Zv H (.cells Uz))
 k (z0 t0<| Zu 1 S) H0)
 (Zi (Zd λS H k=>
 Za (Zm call 91 [tN 3,tN 1,Xp] H) λt1=>
 Za (storeT Zh base 3 H S.1 t1) λH1=>
 k (Zu 1 S) H1)
 (Zn .ret)))
def F90:Ji:=λcall Zh l H=>Za (C90 call Zh (Zb H) (Zl l 0,()) H) λp=>Xr p.1 (loadT .take Zh (Zb p.2.2) true 3 p.2.2 p.2.1.1 λr0 h0=>Zp (Z2 Qk [r0]) (some (Xm (Zb H) r0 h0)))
theorem F90_eq:Jr P TC 90 F90:=λ_ _ _ _=>by kernel_rfl
def C91 (call:Z3) (Zh base:Nat):Z4 (TV×TV×TV×TV×Unit):=
 (Zi (Zd λS H k=>
 let t6:=(.ptr (Zb H) 0);let H0:=(Zv H (.cells Uz))
 k (z3 t6<| Zu 4 S) H0)
 (Zi (Zd λS H k=>
 Za (Uk [(0,1,(Zg S.1)),(1,1,(Zg (g1 S))),(2,1,(Zg (g2 S)))] Uz) λt10=>
 Za (storeT Zh base 3 H (g3 S) t10) λH1=>
 k (z0 (Zg S.1)<| z1 (Zg (g1 S))<| z2 (Zg (g2 S))<| Zu 4 S) H1)
 (Zn .ret)))
def F91:Ji:=λcall Zh l H=>Za (C91 call Zh (Zb H) (Zl l 0,Zl l 1,Zl l 2,Zl l 6,()) H) λp=>Xr p.1 (loadT .take Zh (Zb p.2.2) true 3 p.2.2 p.2.1.2.2.2.1 λr0 h0=>Zp (Z2 Qk [r0]) (some (Xm (Zb H) r0 h0)))
theorem F91_eq:Jr P TC 91 F91:=λ_ _ _ _=>by kernel_rfl
def C92 (call:Z3) (Zh base:Nat):Z4 (TV×TV×TV×TV×TV×Unit):=
 (Zi (Zd λS H k=>
 k (z1 Xp<| Zu 5 S) H)
 (Zi (Zd λS H k=>
 k (z2 Xp<| Zu 5 S) H)
 (Zi (Zi (Zd λS H k=>
 k (z3 (tN 0)<| Zu 5 S) H)
 (Z9 0 (Ym (Zi (Zi (Zd λS H k=>
 Za (b2 Z0 (Zc (g3 S)) (tN 1)) λt6=>
 Za (Kn (Zc S.1)) λt8=>
 Za (b2 Xg t6 t8) λt9=>
 k (z0 (Ze S.1)<| z3 (Ze (g3 S))<| z4 t9<| Zu 5 S) H)
 (Z1 (λS=>some (g4 S))
 (Zn .normal)
 (Zn (.exit 0))))
 (Zi (Z9 1 (Zd λS H k=>
 Za (Qh 1 (Zc S.1) (Zc (g3 S))) λt15=>
 sF Zh base H t15 λt16 H0=>
 Za (b2 Z0 (Zc (Ze (g3 S))) (tN 1)) λt19=>
 Za (Qh 1 (Zc (Ze S.1)) t19) λt20=>
 sF Zh base H0 t20 λt21 H1=>
 Za (Uk [(0,1,t16),(1,1,t21)] Vy) λt22=>
 Za (Yf 2 [0] [Zg t22] (Y5 [.agg Vy] 1)) λc2=>
 X6 Zh H1 71 2 16 (g2 S) (.row .full (.own 71) 2 c2) λt24 H3=>
 k (z0 (Ze (Ze S.1))<| z2 t24<| z3 (Ze (Ze (g3 S)))<| Zu 5 S) H3))
 (Zd λS H k=>
 Za (b2 Z0 (Zc (g3 S)) (tN 2)) λt11=>
 k (z3 t11<| Zu 5 S) H))) fuel)))
 (Zi (Zd λS H k=>
 k (z1 (g2 S)<| z2 (Qu (g2 S))<| Zu 5 S) H)
 (Zn .ret)))))
def F92:Ji:=λcall Zh l H=>Za (C92 call Zh (Zb H) (Zl l 0,Zl l 2,Zl l 3,Zl l 4,Zl l 9,()) H) λp=>Xr p.1 (Zp (Z2 Qk [p.2.1.2.1]) (some (Xm (Zb H) p.2.1.2.1 p.2.2)))
theorem F92_eq:Jr P TC 92 F92:=λ_ _ _ _=>by kernel_rfl
def C93 (call:Z3) (Zh base:Nat):Z4 (TV×TV×Unit):=
 (Zi (Zd λS H k=>
 k (z1 Xp<| Zu 2 S) H)
 (Zi (Zd λS H k=>
 k (z0 (Qu S.1)<| z1 S.1<| Zu 2 S) H)
 (Zn .ret)))
def F93:Ji:=λcall Zh l H=>Za (C93 call Zh (Zb H) (Zl l 0,Zl l 2,()) H) λp=>Xr p.1 (Zp (Z2 Qk [p.2.1.2.1]) (some (Xm (Zb H) p.2.1.2.1 p.2.2)))
theorem F93_eq:Jr P TC 93 F93:=λ_ _ _ _=>by kernel_rfl
def C94 (call:Z3) (Zh base:Nat):Z4 (TV×TV×TV×TV×TV×TV×TV×TV×TV×TV×TV×TV×TV×TV×TV×TV×TV×TV×TV×TV×TV×TV×Unit):=
 (Zi (Zd λS H k=>
 Zp (Yu S.1)<|
 let t1:=(.ptr (Zb H) 0);let H0:=(Zv H (.cells (Zy S.1)));let t2:=(.ptr (Zb H0) 0);let H1:=(Zv H0 (.cells Xf))
 k (z0 (Qu S.1)<| z1 t1<| z2 t2<| z3 (tN 0)<| Zu 22 S) H1)
 (Zi (Z9 0 (Zi (Zd λS H k=>
 Za (Zw (g1 S) 0) λt11=>
 lF Zh base H t11 λt12 H2=>
 Za (b2 Xg t12 (tN 1)) λt13=>
 gB t13 false (Zw (g1 S) 0) H2 λt15 H3=>
 Qp (Zc t13) false (lF Zh base H3 t15 λg4 H4=>Qr g4 H4) H3 λt16 H5=>
 gB t13 false (b2 Vt t16 (tN 8)) H5 λt17 H6=>
 Za (Xa (Zc t13) (tB true) (Zg t17)) λt18=>
 gB t18 false (Zw (g1 S) 1) H6 λt20 H7=>
 Qp (Zc t18) false (lF Zh base H7 t20 λg8 H8=>Qr g8 H8) H7 λt21 H9=>
 gB t18 false (b2 Xg t21 (tN 1)) H9 λt22 Ua=>
 Za (Xa (Zc t18) (tB true) (Zg t22)) λt23=>
 gB t23 false (Zw (g1 S) 1) Ua λt25 Gj=>
 Qp (Zc t23) false (lF Zh base Gj t25 λDn Uy=>Qr Dn Uy) Gj λt26 Ea=>
 gB t23 false (b2 Vt t26 (tN 8)) Ea λt27 D9=>
 Za (Xa (Zc t23) (tB true) (Zg t27)) λt28=>
 k (z9 t28<| Zu 22 S) D9)
 (Z1 (λS=>some (g9 S))
 (Zi (Zd λS H k=>
 Za (Uk [] Xf) λt29=>
 Za (storeT Zh base 19 H (g2 S) t29) λD6=>
 k (z3 (tN 1)<| Zu 22 S) D6)
 (Zn .ret))
 (Zi (Zd λS H k=>
 Za (Zw (g1 S) 0) λt31=>
 lF Zh base H t31 λt32 Iq=>
 Za (Zw (g1 S) 1) λt33=>
 lF Zh base Iq t33 λt34 Mw=>
 Za (b2 Y2 t32 t34) λt35=>
 Za (b2 Vt t35 (tN 16)) λt36=>
 k (Uh t36<| Zu 22 S) Mw)
 (Z1 (λS=>some (J9 S))
 (Zi (Zd λS H k=>
 Za (Uk [] Xf) λt37=>
 Za (storeT Zh base 19 H (g2 S) t37) λMu=>
 k (z3 (tN 3)<| Zu 22 S) Mu)
 (Zn .ret))
 (Zn .normal))))))
 (Zi (Zd λS H k=>
 Za (Zw (g1 S) 0) λt38=>
 lF Zh base H t38 λt39 Mn=>
 Za (Zw (g1 S) 1) λt40=>
 lF Zh base Mn t40 λt41 P7=>
 Za (b2 Y2 t39 t41) λt42=>
 k (z4 t42<| Zu 22 S) P7)
 (Zi (Zd λS H k=>
 Za (Zw (g1 S) 0) λt43=>
 sF Zh base H t43 λt44 O4=>
 Za (Zw (g1 S) 1) λt45=>
 sF Zh base O4 t45 λt46 Bo=>
 Za (b2 Y8 (.v (.int .u64 (.ofNat 1))) (Zc (g4 S))) λt48=>
 Za (b2 Qq t48 (.v (.int .u64 (.ofNat 1)))) λt49=>
 Za (Uk [(0,1,t44),(1,1,t46),(2,1,t49)] Xf) λt50=>
 let t5:=(.ptr (Zb Bo) 0);let Ar:=(Zv Bo (.cells Xf))
 Za (storeT Zh base 19 Ar t5 t50) λTl=>
 k (z4 (Ze (g4 S))<| z5 t5<| Zu 22 S) Tl)
 (Zi (Zd λS H k=>
 k (z6 (.v (.int .i64 (.negSucc 0)))<| Zu 22 S) H)
 (Zi (Zi (Zd λS H k=>
 Za (Zw (g1 S) 2) λt51=>
 sF Zh base H t51 λt52 Nu=>
 Za (Kn t52) λt53=>
 k (Iv t52<| Oj t53<| Te (tN 0)<| Zu 22 S) Nu)
 (Z9 1 (Ym (Zi (Zd λS H k=>
 Za (b2 Xg (Em S) (Dn S)) λt55=>
 k (Cn t55<| Zu 22 S) H)
 (Zi (Z1 (λS=>some (Iz S))
 (Zn .normal)
 (Zn (.exit 1)))
 (Zi (Z9 2 (Zi (Zd λS H k=>
 Za (Qh 1 (Jj S) (Em S)) λt56=>
 sF Zh base H t56 λt57 o9=>
 k (z7 t57<| Zu 22 S) o9)
 (Zi (Z9 3 (Zi (Zd λS H k=>
 Za (b2 Xg (Zc (g7 S)) (tN 0)) λt60=>
 gV t60 false (Zc (Ze (g7 S))) H λt62 wy=>
 gV t60 false (Zc (g4 S)) wy λt63 fp=>
 gB t60 false (b2 K0 t62 t63) fp λt64 nh=>
 Za (Xa (Zc t60) (tB true) (Zg t64)) λt65=>
 k (z4 (Ze (g4 S))<| z7 (Ze (Ze (g7 S)))<| zb t65<| Zu 22 S) nh)
 (Z1 (λS=>some (Ra S))
 (Zi (Zd λS H k=>
 Za (Uk [] Xf) λt66=>
 Za (storeT Zh base 19 H (g2 S) t66) λw9=>
 k (z3 (tN 2)<| Zu 22 S) w9)
 (Zn .ret))
 (Zi (Zd λS H k=>
 Za (b2 Am (Zc (g7 S)) (Zc (g6 S))) λt70=>
 k (z6 (Ze (g6 S))<| z7 (Ze (g7 S))<| nu t70<| Zu 22 S) H)
 (Z1 (λS=>some (Nt S))
 (Zi (Zd λS H k=>
 Za (Uk [] Xf) λt71=>
 Za (storeT Zh base 19 H (g2 S) t71) λng=>
 k (z3 (tN 7)<| Zu 22 S) ng)
 (Zn .ret))
 (Zn .normal))))))
 (Zi (Zd λS H k=>
 Za (Zw (g5 S) 2) λt72=>
 lF Zh base H t72 λt73 o8=>
 Za (b2 Y8 (.v (.int .u64 (.ofNat 1))) (Zc (g7 S))) λt75=>
 Za (b2 Y6 t73 t75) λt76=>
 Za (Zw (g5 S) 2) λt77=>
 Za (storeT Zh base 1 o8 t77 t76) λo7=>
 k (z7 (Ze (g7 S))<| Zu 22 S) o7)
 (Zd λS H k=>
 k (z6 (g7 S)<| z7 (Qu (g7 S))<| Zu 22 S) H)))))
 (Zd λS H k=>
 Za (b2 Z0 (Em S) (tN 1)) λt79=>
 k (Te t79<| Zu 22 S) H)))) fuel)))
 (Zi (Zi (Zd λS H k=>
 k (z4 (Zg (g4 S))<| x5 (Zg (g4 S))<| xd (tN 0)<| Zu 22 S) H)
 (Z9 4 (Ym (Zi (Zd λS H k=>
 Za (b2 Xg (B5 S) (Bi S)) λt82=>
 k (z19 t82<| Zu 22 S) H)
 (Zi (Z1 (λS=>some (ux S))
 (Zn .normal)
 (Zn (.exit 4)))
 (Zi (Z9 5 (Zi (Zd λS H k=>
 k (z8 (B5 S)<| xd (Qu (B5 S))<| Zu 22 S) H)
 (Zi (Zi (Zd λS H k=>
 Za (Zw (g1 S) 0) λt85=>
 lF Zh base H t85 λt86 H34=>
 Za (b2 Y1 (Zc (g8 S)) t86) λt87=>
 Za (b2 Vt t87 (tN 0)) λt88=>
 k (z8 (Ze (g8 S))<| z20 t88<| Zu 22 S) H34)
 (Z1 (λS=>some (g20 S))
 (Zd λS H k=>
 Za (b2 Qq (Zc (g8 S)) (tN 1)) λt90=>
 Qo call Zh 152 [Zg (g5 S),Zg t90,Zg (Zg (Ze (g8 S)))] H λt92 H35=>
 k (z5 (Zg (g5 S))<| z8 (Zg (Ze (g8 S)))<| Zu 22 S) H35)
 (Zn .normal)))
 (Zi (Zd λS H k=>
 Za (Zw (g1 S) 0) λt94=>
 lF Zh base H t94 λt95 H36=>
 Za (b2 K0 (Zc (g8 S)) t95) λt96=>
 k (z8 (Ze (g8 S))<| z21 t96<| Zu 22 S) H36)
 (Z1 (λS=>some (g21 S))
 (Zd λS H k=>
 Za (Zw (g1 S) 0) λt98=>
 lF Zh base H t98 λt99 H37=>
 Za (b2 Qq (Zc (g8 S)) t99) λt100=>
 Qo call Zh 152 [Zg (g5 S),Zg t100,Zg (Zg (Ze (g8 S)))] H37 λt102 H38=>
 k (z5 (Zg (g5 S))<| z8 (Zg (Ze (g8 S)))<| Zu 22 S) H38)
 (Zn .normal))))))
 (Zd λS H k=>
 Za (b2 Z0 (B5 S) (tN 1)) λt103=>
 k (xd t103<| Zu 22 S) H)))) fuel)))
 (Zi (Zd λS H k=>
 sA Zh base 19 H (g5 S) λt104 H39=>
 Za (storeT Zh base 19 H39 (g2 S) t104) λH40=>
 k (z3 (tN 0)<| Zu 22 S) H40)
 (Zn .ret)))))))))
def F94:Ji:=λcall Zh l H=>Za (C94 call Zh (Zb H) (Zl l 0,Zl l 1,Zl l 2,Zl l 3,Zl l 4,Zl l 5,Zl l 6,Zl l 8,Zl l 9,Zl l 10,Zl l 30,Zl l 52,Zl l 53,Zl l 54,Zl l 55,Zl l 58,Zl l 67,Zl l 80,Zl l 81,Zl l 82,Zl l 88,Zl l 96,()) H) λp=>Xr p.1 (loadT .take Zh (Zb p.2.2) true 19 p.2.2 p.2.1.2.2.1 λr0 h0=>Zp (Z2 Qk [r0,p.2.1.2.2.2.1]) (some (Xm (Zb H) (.Xh [r0,p.2.1.2.2.2.1]) h0)))
theorem F94_eq:Jr P TC 94 F94:=λ_ _ _ _=>by kernel_rfl
def C95 (call:Z3) (Zh base:Nat):Z4 (TV×TV×TV×TV×TV×TV×TV×TV×TV×TV×TV×TV×TV×TV×TV×TV×TV×TV×TV×Unit):=
 (Zi (Zd λS H k=>
 Zp (Yu S.1)<|
 let t2:=(.ptr (Zb H) 0);let H0:=(Zv H (.cells (Zy S.1)))
 Zp (Yu (g1 S))<|
 let t3:=(.ptr (Zb H0) 0);let H1:=(Zv H0 (.cells (Zy (g1 S))))
 k (z0 (Qu S.1)<| z1 (Qu (g1 S))<| z2 t2<| z3 t3<| z4 (tN 0)<| Zu 19 S) H1)
 (Zi (Zd λS H k=>
 let t5:=(.ptr (Zb H) 0);let H2:=(Zv H (.cells zc158))
 k (z5 t5<| Zu 19 S) H2)
 (Zi (Zi (Zd λS H k=>
 k (Iv (tN 0)<| Zu 19 S) H)
 (Z9 0 (Ym (Zi (Zd λS H k=>
 Za (b2 Xg (Jj S) (tN 16)) λt13=>
 k (Oj t13<| Zu 19 S) H)
 (Zi (Z1 (λS=>some (Dn S))
 (Zn .normal)
 (Zn (.exit 0)))
 (Zi (Z9 1 (Zi (Zd λS H k=>
 k (z6 (Jj S)<| Iv (Qu (Jj S))<| Zu 19 S) H)
 (Zd λS H k=>
 Xb 0 false (g5 S) H λc3 H3=>
 Za (Qt 16 1 c3 (Zc (g6 S))) λt16=>
 Za (storeT Zh base 1 H3 t16 (.v (.int .i64 (.negSucc 0)))) λH4=>
 k (z5 c3<| z6 (Ze (g6 S))<| Zu 19 S) H4)))
 (Zd λS H k=>
 Za (b2 Z0 (Jj S) (tN 1)) λt17=>
 k (Iv t17<| Zu 19 S) H)))) fuel)))
 (Zi (Zd λS H k=>
 k (z7 (tN 0)<| Zu 19 S) H)
 (Zi (Zd λS H k=>
 let t8:=(.ptr (Zb H) 0);let H5:=(Zv H (.cells [.v (.int .u64 (.ofNat 0))]))
 Za (storeT Zh base 1 H5 t8 (.v (.int .u64 (.ofNat 0)))) λH6=>
 k (z8 t8<| Zu 19 S) H6)
 (Zi (Zd λS H k=>
 let t9:=(.ptr (Zb H) 0);let H7:=(Zv H (.cells [.v .nilFunc]))
 k (z9 t9<| Zu 19 S) H7)
 (Zi (Zd λS H k=>
 Zp (Z2 pass [Zg (g2 S),Zg (g3 S),Zg (g8 S),Zg (g5 S),Zg (g9 S)])<|
 Za (storeT Zh base 1 H (Zg (g9 S)) (.fn (.func 153) [] [Zg (g2 S),Zg (g3 S),Zg (g8 S),Zg (g5 S),Zg (g9 S)])) λH8=>
 k (z2 (Zg (g2 S))<| z3 (Zg (g3 S))<| z5 (Zg (g5 S))<| z8 (Zg (g8 S))<| z9 (Zg (g9 S))<| Zu 19 S) H8)
 (Zi (Zi (Zd λS H k=>
 lF Zh base H (g3 S) λt19 H9=>
 Za (Zm call 100 [Zg t19] H9) λt20=>
 Za (Kn t20) λt21=>
 k (Te t20<| Cn t21<| zb (tN 0)<| Zu 19 S) H9)
 (Z9 2 (Ym (Zi (Zd λS H k=>
 Za (b2 Xg (Ra S) (Iz S)) λt23=>
 k (nu t23<| Zu 19 S) H)
 (Zi (Z1 (λS=>some (Nt S))
 (Zn .normal)
 (Zn (.exit 2)))
 (Zi (Z9 3 (Zi (Zd λS H k=>
 Za (Qh 1 (Em S) (Ra S)) λt24=>
 sF Zh base H t24 λt25 Ua=>
 k (Uh t25<| Zu 19 S) Ua)
 (Zi (Zi (Zd λS H k=>
 lA Zh base 19 H (g2 S) λt26 Gj=>
 Za (Zm call 154 [Zg t26,Zg (Zc (J9 S))] Gj) λt28=>
 k (Uh (Ze (J9 S))<| x5 t28<| Zu 19 S) Gj)
 (Z1 (λS=>some (Bi S))
 (Zn (.exit 3))
 (Zn .normal)))
 (Zi (Zd λS H k=>
 Za (storeT Zh base 1 H (g8 S) (.v (.int .u64 (.ofNat 0)))) λUy=>
 k (Zu 19 S) Uy)
 (Zi (Zd λS H k=>
 lF Zh base H (g9 S) λt29 Ea=>
 Xd TC call Zh t29 [Zg (Zg (J9 S))] Ea λt31 D9=>
 k (Uh (Zg (J9 S))<| xd t31<| Zu 19 S) D9)
 (Z1 (λS=>some (B5 S))
 (Zd λS H k=>
 Za (b2 Z0 (Zc (g7 S)) (tN 1)) λt33=>
 k (z7 t33<| Zu 19 S) H)
 (Zn .normal)))))))
 (Zd λS H k=>
 Za (b2 Z0 (Ra S) (tN 1)) λt34=>
 k (zb t34<| Zu 19 S) H)))) fuel)))
 (Zi (Zd λS H k=>
 k (z4 (g7 S)<| z7 (Qu (g7 S))<| Zu 19 S) H)
 (Zn .ret))))))))))
def F95:Ji:=λcall Zh l H=>Za (C95 call Zh (Zb H) (Zl l 0,Zl l 1,Zl l 2,Zl l 3,Zl l 4,Zl l 5,Zl l 6,Zl l 7,Zl l 8,Zl l 9,Zl l 11,Zl l 12,Zl l 13,Zl l 20,Zl l 21,Zl l 22,Zl l 23,Zl l 28,Zl l 31,()) H) λp=>Xr p.1 (Zp (Z2 Qk [p.2.1.2.2.2.2.1]) (some (Xm (Zb H) p.2.1.2.2.2.2.1 p.2.2)))
theorem F95_eq:Jr P TC 95 F95:=λ_ _ _ _=>by kernel_rfl
def C97 (call:Z3) (Zh base:Nat):Z4 (TV×TV×TV×TV×TV×TV×TV×TV×TV×TV×TV×TV×TV×TV×Unit):=
 (Zi (Zd λS H k=>
 Zp (Yu S.1)<|
 let t2:=(.ptr (Zb H) 0);let H0:=(Zv H (.cells (Zy S.1)))
 k (z0 (Qu S.1)<| z2 t2<| z3 Xp<| Zu 14 S) H0)
 (Zi (Zd λS H k=>
 k (z4 Xp<| Zu 14 S) H)
 (Zi (Zd λS H k=>
 lA Zh base 19 H (g2 S) λt10 H1=>
 Za (Zm call 95 [Zg t10,Zg (Zc (g1 S))] H1) λt12=>
 k (z1 (Ze (g1 S))<| z5 t12<| Zu 14 S) H1)
 (Zi (Zn .normal)
 (Zi (Z9 0 (Ym (Zi (Zi (Zd λS H k=>
 Za (Jc .int (Zc (g1 S)) (.v (.int .u64 (.ofNat 0)))) λt14=>
 k (z1 (Ze (g1 S))<| z8 t14<| Zu 14 S) H)
 (Z1 (λS=>some (g8 S))
 (Zn .normal)
 (Zn (.exit 0))))
 (Z9 1 (Zi (Zd λS H k=>
 Za (Zm call 156 [Zg (Zc (g1 S))] H) λt16=>
 k (z1 (Ze (g1 S))<| z6 t16<| Zu 14 S) H)
 (Zi (Zd λS H k=>
 Za (b2 Y8 (.v (.int .u64 (.ofNat 1))) (Zc (g6 S))) λt19=>
 Za (b2 Y6 (Zc (g1 S)) t19) λt20=>
 k (z1 t20<| z6 (Ze (g6 S))<| Zu 14 S) H)
 (Zi (Zd λS H k=>
 Za (Zw (g2 S) 3) λt22=>
 Za (Qt 16 1 t22 (Zc (g6 S))) λt23=>
 lF Zh base H t23 λt24 H2=>
 Za (b2 Km t24 (Zc (g1 S))) λt26=>
 Za (Zm call 100 [Zg t26] H2) λt27=>
 Za (Kn t27) λt28=>
 k (z1 (Ze (g1 S))<| z6 (Ze (g6 S))<| z9 t27<| Uh t28<| Iv (tN 0)<| Zu 14 S) H2)
 (Z9 2 (Ym (Zi (Zd λS H k=>
 Za (b2 Xg (Jj S) (J9 S)) λt30=>
 k (Oj t30<| Zu 14 S) H)
 (Zi (Z1 (λS=>some (Dn S))
 (Zn .normal)
 (Zn (.exit 2)))
 (Zi (Z9 3 (Zi (Zd λS H k=>
 Za (Qh 1 (g9 S) (Jj S)) λt31=>
 sF Zh base H t31 λt32 H3=>
 k (z7 t32<| Zu 14 S) H3)
 (Zi (Zd λS H k=>
 lA Zh base 19 H (g2 S) λt33 H4=>
 Za (b2 Y8 (.v (.int .u64 (.ofNat 1))) (Zc (g7 S))) λt36=>
 Za (b2 Y6 (Zc (g1 S)) t36) λt37=>
 Za (Zm call 95 [Zg t33,Zg t37] H4) λt38=>
 Za (b2 Qq (Zc (g5 S)) (tN 1)) λt40=>
 Za (Ja .int t38 t40) λt41=>
 k (z1 (Ze (g1 S))<| z5 (Ze (g5 S))<| z7 (Ze (g7 S))<| Te t41<| Zu 14 S) H4)
 (Z1 (λS=>some (Em S))
 (Zi (Zd λS H k=>
 Za (b2 Y8 (.v (.int .u64 (.ofNat 1))) (Zc (g7 S))) λt44=>
 Za (b2 Y6 (Zc (g1 S)) t44) λt45=>
 k (z1 t45<| z7 (Ze (g7 S))<| Zu 14 S) H)
 (Zi (Zd λS H k=>
 Za (b2 Qq (Zc (g5 S)) (tN 1)) λt47=>
 k (z5 t47<| Zu 14 S) H)
 (Zi (Zd λS H k=>
 Za (Uk [(0,1,(Zg (g6 S))),(1,1,(Zg (g7 S)))] Vy) λt51=>
 Za (Yf 2 [0] [Zg t51] (Y5 [.agg Vy] 1)) λc5=>
 X6 Zh H 71 2 16 (g4 S) (.row .full (.own 71) 2 c5) λt53 H6=>
 k (z4 t53<| z6 (Zg (g6 S))<| z7 (Zg (g7 S))<| Zu 14 S) H6)
 (Zn (.exit 1)))))
 (Zn .normal)))))
 (Zd λS H k=>
 Za (b2 Z0 (Jj S) (tN 1)) λt54=>
 k (Iv t54<| Zu 14 S) H)))) fuel))))))) fuel))
 (Zi (Zd λS H k=>
 k (z3 (g4 S)<| z4 (Qu (g4 S))<| Zu 14 S) H)
 (Zn .ret)))))))
def F97:Ji:=λcall Zh l H=>Za (C97 call Zh (Zb H) (Zl l 0,Zl l 1,Zl l 2,Zl l 4,Zl l 5,Zl l 6,Zl l 7,Zl l 9,Zl l 14,Zl l 27,Zl l 28,Zl l 29,Zl l 30,Zl l 41,()) H) λp=>Xr p.1 (Zp (Z2 Qk [p.2.1.2.2.2.1]) (some (Xm (Zb H) p.2.1.2.2.2.1 p.2.2)))
theorem F97_eq:Jr P TC 97 F97:=λ_ _ _ _=>by kernel_rfl
end
end Go.Proofs.YtgemobbfikjmoaaGreatDoor
namespace Go.Proofs.YtgemobbfikjmoaaGreatDoor
open Go Go.Ev
set_option maxRecDepth 1000000
set_option linter.unusedVariables false
noncomputable section
def C98 (call:Z3) (Zh base:Nat):Z4 (TV×TV×TV×TV×TV×TV×TV×TV×TV×TV×TV×TV×TV×TV×TV×TV×TV×TV×TV×TV×Unit):=
 (Zi (Zd λS H k=>
 Zp (Yu S.1)<|
 let t3:=(.ptr (Zb H) 0);let H0:=(Zv H (.cells (Zy S.1)));let t6:=(.ptr (Zb H0) 0);let H1:=(Zv H0 (.cells Gr))
 k (z0 (Qu S.1)<| z3 t3<| z4 t6<| Zu 20 S) H1)
 (Zi (Zi (Zd λS H k=>
 Za (Ja .int (Zc (g1 S)) (.v (.int .u64 (.ofNat 0)))) λt16=>
 k (z1 (Ze (g1 S))<| Oj t16<| Zu 20 S) H)
 (Z1 (λS=>some (Dn S))
 (Zi (Zd λS H k=>
 Za (Uk [(0,1,(tN 0)),(1,1,(tN 1))] Gr) λt17=>
 Za (storeT Zh base 2 H (g4 S) t17) λH2=>
 k (Zu 20 S) H2)
 (Zn .ret))
 (Zn .normal)))
 (Zi (Zi (Zd λS H k=>
 Za (Ba H .int (.agg Gr) (Zc (g2 S)) (Zc (g1 S)) true) λt21=>
 Zf (Qj (Zc t21) 0) λc3=>
 Zf (Qj (Z7 (Zc t21) 0) 1) λc4=>
 let t7:=(.ptr (Zb H) 0);let H5:=(Zv H (.cells Gr))
 Za (storeT Zh base 2 H5 t7 c3) λH6=>
 k (z1 (Ze (g1 S))<| z2 (Ze (g2 S))<| z5 t7<| z6 c4<| Zu 20 S) H6)
 (Zi (Zd λS H k=>
 k (z6 (Zg (g6 S))<| Te (Zg (g6 S))<| Zu 20 S) H)
 (Z1 (λS=>some (Em S))
 (Zi (Zd λS H k=>
 sA Zh base 2 H (g5 S) λt25 H7=>
 Za (storeT Zh base 2 H7 (g4 S) t25) λH8=>
 k (Zu 20 S) H8)
 (Zn .ret))
 (Zn .normal))))
 (Zi (Zd λS H k=>
 Za (Zm call 156 [Zg (Zc (g1 S))] H) λt27=>
 k (z1 (Ze (g1 S))<| z7 t27<| Zu 20 S) H)
 (Zi (Zd λS H k=>
 Za (b2 Y8 (.v (.int .u64 (.ofNat 1))) (Zc (g7 S))) λt30=>
 Za (b2 Y6 (Zc (g1 S)) t30) λt31=>
 k (z1 (Ze (g1 S))<| z7 (Ze (g7 S))<| z8 t31<| Zu 20 S) H)
 (Zi (Zd λS H k=>
 sA Zh base 19 H (g3 S) λt32 H9=>
 Qo call Zh 98 [Zg t32,Zg (Zg (g8 S)),Zg (Zg (g2 S))] H9 λt35 Ua=>
 let t11:=(.ptr (Zb Ua) 0);let Gj:=(Zv Ua (.cells Gr))
 Za (storeT Zh base 2 Gj t11 t35) λUy=>
 k (z2 (Zg (g2 S))<| z8 (Zg (g8 S))<| z9 t11<| Zu 20 S) Uy)
 (Zi (Zi (Zd λS H k=>
 Za (Zw (g3 S) 3) λt37=>
 Za (Qt 16 1 t37 (Zc (g7 S))) λt38=>
 lF Zh base H t38 λt39 Ea=>
 Za (b2 Km t39 (Zc (g8 S))) λt41=>
 Za (Zm call 100 [Zg t41] Ea) λt42=>
 Za (Kn t42) λt43=>
 k (z7 (Ze (g7 S))<| z8 (Ze (g8 S))<| Cn t42<| zb t43<| nu (tN 0)<| Zu 20 S) Ea)
 (Z9 0 (Ym (Zi (Zd λS H k=>
 Za (b2 Xg (Nt S) (Ra S)) λt45=>
 k (x5 t45<| Zu 20 S) H)
 (Zi (Z1 (λS=>some (Bi S))
 (Zn .normal)
 (Zn (.exit 0)))
 (Zi (Z9 1 (Zi (Zd λS H k=>
 Za (Qh 1 (Iz S) (Nt S)) λt46=>
 sF Zh base H t46 λt47 D9=>
 k (Uh t47<| Zu 20 S) D9)
 (Zi (Zd λS H k=>
 sA Zh base 19 H (g3 S) λt48 D6=>
 Za (b2 Y8 (.v (.int .u64 (.ofNat 1))) (Zc (J9 S))) λt51=>
 Za (b2 Y6 (Zc (g8 S)) t51) λt52=>
 Qo call Zh 98 [Zg t48,Zg t52,Zg (Zg (g2 S))] D6 λt54 Iq=>
 let t14:=(.ptr (Zb Iq) 0);let Mw:=(Zv Iq (.cells Gr))
 Za (storeT Zh base 2 Mw t14 t54) λMu=>
 k (z2 (Zg (g2 S))<| z8 (Ze (g8 S))<| Uh (Ze (J9 S))<| Iv t14<| Zu 20 S) Mu)
 (Zi (Zd λS H k=>
 Za (Zw (Jj S) 0) λt55=>
 lF Zh base H t55 λt56 Mn=>
 Za (b2 Z0 t56 (tN 1)) λt57=>
 Za (Zw (Jj S) 0) λt58=>
 Za (storeT Zh base 1 Mn t58 t57) λP7=>
 k (Zu 20 S) P7)
 (Z9 2 (Zi (Zd λS H k=>
 Za (Zw (Jj S) 0) λt60=>
 lF Zh base H t60 λt61 O4=>
 Za (Zw (g9 S) 0) λt62=>
 lF Zh base O4 t62 λt63 Bo=>
 Za (b2 Vt t61 t63) λt64=>
 k (xd t64<| Zu 20 S) Bo)
 (Z1 (λS=>some (B5 S))
 (Zd λS H k=>
 sA Zh base 2 H (Jj S) λt65 Ar=>
 Za (storeT Zh base 2 Ar (g9 S) t65) λTl=>
 k (Zu 20 S) Tl)
 (Zi (Zd λS H k=>
 Za (Zw (Jj S) 0) λt67=>
 lF Zh base H t67 λt68 Nu=>
 Za (Zw (g9 S) 0) λt69=>
 lF Zh base Nu t69 λt70 o9=>
 Za (Ja .int t68 t70) λt71=>
 k (z19 t71<| Zu 20 S) o9)
 (Z1 (λS=>some (ux S))
 (Zd λS H k=>
 Za (Zw (g9 S) 1) λt72=>
 lF Zh base H t72 λt73 wy=>
 Za (Zw (Jj S) 1) λt74=>
 lF Zh base wy t74 λt75 fp=>
 Za (b2 Z0 t73 t75) λt76=>
 Za (Zw (g9 S) 1) λt77=>
 Za (storeT Zh base 1 fp t77 t76) λnh=>
 k (Zu 20 S) nh)
 (Zn .normal))))))))))
 (Zd λS H k=>
 Za (b2 Z0 (Nt S) (tN 1)) λt78=>
 k (nu t78<| Zu 20 S) H)))) fuel)))
 (Zi (Zd λS H k=>
 sA Zh base 2 H (g9 S) λt81 w9=>
 Za (xe Zh w9 .int (Zc (g2 S)) (Zc (g1 S)) (Zg t81)) λng=>
 k (z1 (Ze (g1 S))<| z2 (Ze (g2 S))<| Zu 20 S) ng)
 (Zi (Zd λS H k=>
 sA Zh base 2 H (g9 S) λt82 o8=>
 Za (storeT Zh base 2 o8 (g4 S) t82) λo7=>
 k (Zu 20 S) o7)
 (Zn .ret))))))))))
def F98:Ji:=λcall Zh l H=>Za (C98 call Zh (Zb H) (Zl l 0,Zl l 1,Zl l 2,Zl l 3,Zl l 6,Zl l 7,Zl l 8,Zl l 9,Zl l 10,Zl l 11,Zl l 13,Zl l 14,Zl l 16,Zl l 24,Zl l 42,Zl l 43,Zl l 44,Zl l 45,Zl l 59,Zl l 66,()) H) λp=>Xr p.1 (loadT .take Zh (Zb p.2.2) true 2 p.2.2 p.2.1.2.2.2.2.1 λr0 h0=>Zp (Z2 Qk [r0]) (some (Xm (Zb H) r0 h0)))
theorem F98_eq:Jr P TC 98 F98:=λ_ _ _ _=>by kernel_rfl
def C99 (call:Z3) (Zh base:Nat):Z4 (TV×TV×TV×TV×TV×TV×TV×TV×TV×Unit):=
 (Zi (Zd λS H k=>
 k (z2 Xp<| Zu 9 S) H)
 (Zi (Zd λS H k=>
 Qo call Zh 138 [Zg (Zg S.1),Zg (Zg (g1 S))] H λt10 H0=>
 k (z0 (Zg S.1)<| z1 (Zg (g1 S))<| z3 t10<| Zu 9 S) H0)
 (Zi (Zi (Zd λS H k=>
 Za (Ja .int (Zc (g3 S)) (.v (.int .i64 (.negSucc 0)))) λt12=>
 k (z3 (Ze (g3 S))<| z6 t12<| Zu 9 S) H)
 (Z1 (λS=>some (g6 S))
 (Zi (Zd λS H k=>
 k (z0 (Qu S.1)<| z2 S.1<| Zu 9 S) H)
 (Zn .ret))
 (Zn .normal)))
 (Zi (Zi (Zd λS H k=>
 Za (b2 Z0 (Zc (g3 S)) (tN 1)) λt15=>
 k (z3 (Ze (g3 S))<| z4 t15<| Zu 9 S) H)
 (Z9 0 (Ym (Zi (Zi (Zd λS H k=>
 Za (Kn (Zc S.1)) λt18=>
 Za (b2 Xg (Zc (g4 S)) t18) λt19=>
 k (z0 (Ze S.1)<| z4 (Ze (g4 S))<| z7 t19<| Zu 9 S) H)
 (Z1 (λS=>some (g7 S))
 (Zn .normal)
 (Zn (.exit 0))))
 (Zi (Z9 1 (Zi (Zd λS H k=>
 Za (Qh 1 (Zc S.1) (Zc (g4 S))) λt24=>
 sF Zh base H t24 λt25 H1=>
 k (z0 (Ze S.1)<| z4 (Ze (g4 S))<| z5 t25<| Zu 9 S) H1)
 (Zi (Zd λS H k=>
 Xd TC call Zh (Zc (g1 S)) [Zg (Zg (g5 S))] H λt28 H2=>
 Za (b1 Gh t28) λt29=>
 k (z1 (Ze (g1 S))<| z5 (Zg (g5 S))<| z8 t29<| Zu 9 S) H2)
 (Z1 (λS=>some (g8 S))
 (Zi (Zd λS H k=>
 Xb 1 false S.1 H λc3 H3=>
 Xb 1 false c3 H3 λc4 H4=>
 Za (Qh 1 c4 (Zc (Zr (g3 S)))) λt33=>
 Za (storeT Zh base 1 H4 t33 (Zr (Zg (Zr (g5 S))))) λH5=>
 k (z0 c3<| z3 (Ze (Zr (g3 S)))<| z5 (Zg (Zr (g5 S)))<| Zu 9 S) H5)
 (Zd λS H k=>
 Za (b2 Z0 (Zc (g3 S)) (tN 1)) λt35=>
 k (z3 t35<| Zu 9 S) H))
 (Zn .normal)))))
 (Zd λS H k=>
 Za (b2 Z0 (Zc (g4 S)) (tN 1)) λt21=>
 k (z4 t21<| Zu 9 S) H))) fuel)))
 (Zi (Zd λS H k=>
 Za (Ao 1 (Zc S.1) (some (Zc (g3 S))) none none) λt38=>
 Xb 1 false t38 H λc6 H6=>
 Zp (gj c6 1)<|
 Za (Fg Zh H6 [tN 0] c6) λH7=>
 k (z0 (Ze S.1)<| z3 (Ze (g3 S))<| Zu 9 S) H7)
 (Zi (Zd λS H k=>
 Za (Ao 1 (Zc S.1) none (some (Zc (g3 S))) none) λt41=>
 k (z0 (Ze S.1)<| z2 t41<| z3 (Ze (g3 S))<| Zu 9 S) H)
 (Zn .ret)))))))
def F99:Ji:=λcall Zh l H=>Za (C99 call Zh (Zb H) (Zl l 0,Zl l 1,Zl l 4,Zl l 5,Zl l 6,Zl l 7,Zl l 12,Zl l 19,Zl l 29,()) H) λp=>Xr p.1 (Zp (Z2 Qk [p.2.1.2.2.1]) (some (Xm (Zb H) p.2.1.2.2.1 p.2.2)))
theorem F99_eq:Jr P TC 99 F99:=λ_ _ _ _=>by kernel_rfl
def C100 (call:Z3) (Zh base:Nat):Z4 (TV×TV×TV×TV×Unit):=
 (Zi (Zd λS H k=>
 k (z1 Xp<| Zu 4 S) H)
 (Zi (Zd λS H k=>
 k (z2 Xp<| Zu 4 S) H)
 (Zi (Z9 0 (Ym (Zi (Zi (Zd λS H k=>
 Za (Jc .int (Zc S.1) (.v (.int .u64 (.ofNat 0)))) λt5=>
 k (z0 (Ze S.1)<| z3 t5<| Zu 4 S) H)
 (Z1 (λS=>some (g3 S))
 (Zn .normal)
 (Zn (.exit 0))))
 (Zi (Z9 1 (Zd λS H k=>
 Za (Zm call 156 [Zg (Zc S.1)] H) λt12=>
 Za (Yf 1 [0] [Zg t12] (Y5 [tN 0] 1)) λc0=>
 X6 Zh H 3 1 8 (g2 S) (.row .full (.own 3) 1 c0) λt14 H1=>
 k (z0 (Ze S.1)<| z2 t14<| Zu 4 S) H1))
 (Zd λS H k=>
 Za (b2 Qq (Zc (Ze S.1)) (.v (.int .u64 (.ofNat 1)))) λt8=>
 Za (b2 Km (Zc S.1) t8) λt9=>
 k (z0 t9<| Zu 4 S) H))) fuel))
 (Zi (Zd λS H k=>
 k (z1 (g2 S)<| z2 (Qu (g2 S))<| Zu 4 S) H)
 (Zn .ret)))))
def F100:Ji:=λcall Zh l H=>Za (C100 call Zh (Zb H) (Zl l 0,Zl l 2,Zl l 3,Zl l 5,()) H) λp=>Xr p.1 (Zp (Z2 Qk [p.2.1.2.1]) (some (Xm (Zb H) p.2.1.2.1 p.2.2)))
theorem Zt0:Jr P TC 100 F100:=λ_ _ _ _=>by kernel_rfl
def C101 (call:Z3) (Zh base:Nat):Z4 (TV×TV×TV×TV×Unit):=
 (Zi (Zd λS H k=>
 k (z3 (tB false)<| Zu 4 S) H)
 (Zi (Zd λS H k=>
 lA Zh base 19 H (g1 S) λt5 H0=>
 Za (Zw (g1 S) 2) λt6=>
 lF Zh base H0 t6 λt7 H1=>
 Za (b2 Y8 (.v (.int .u64 (.ofNat 1))) (Zc S.1)) λt9=>
 Za (b2 Y6 t7 t9) λt10=>
 Za (Zm call 95 [Zg t5,Zg t10] H1) λt11=>
 lF Zh base H1 (g2 S) λt12 H2=>
 Za (b2 Xg t11 t12) λt13=>
 k (z0 (Ze S.1)<| z3 t13<| Zu 4 S) H2)
 (Zn .ret)))
def F101:Ji:=λcall Zh l H=>Za (C101 call Zh (Zb H) (Zl l 0,Zl l 1,Zl l 2,Zl l 4,()) H) λp=>Xr p.1 (Zp (Z2 Qk [p.2.1.2.2.2.1]) (some (Xm (Zb H) p.2.1.2.2.2.1 p.2.2)))
theorem Ztz:Jr P TC 101 F101:=λ_ _ _ _=>by kernel_rfl
def C104 (call:Z3) (Zh base:Nat):Z4 (TV×TV×TV×TV×TV×TV×TV×TV×TV×Unit):=
 (Zi (Zd λS H k=>
 k (z2 Xp<| Zu 9 S) H)
 (Zi (Zd λS H k=>
 Qo call Zh 134 [Zg (Zg S.1),Zg (Zg (g1 S))] H λt10 H0=>
 k (z0 (Zg S.1)<| z1 (Zg (g1 S))<| z3 t10<| Zu 9 S) H0)
 (Zi (Zi (Zd λS H k=>
 Za (Ja .int (Zc (g3 S)) (.v (.int .i64 (.negSucc 0)))) λt12=>
 k (z3 (Ze (g3 S))<| z6 t12<| Zu 9 S) H)
 (Z1 (λS=>some (g6 S))
 (Zi (Zd λS H k=>
 k (z0 (Qu S.1)<| z2 S.1<| Zu 9 S) H)
 (Zn .ret))
 (Zn .normal)))
 (Zi (Zi (Zd λS H k=>
 Za (b2 Z0 (Zc (g3 S)) (tN 1)) λt15=>
 k (z3 (Ze (g3 S))<| z4 t15<| Zu 9 S) H)
 (Z9 0 (Ym (Zi (Zi (Zd λS H k=>
 Za (Kn (Zc S.1)) λt18=>
 Za (b2 Xg (Zc (g4 S)) t18) λt19=>
 k (z0 (Ze S.1)<| z4 (Ze (g4 S))<| z7 t19<| Zu 9 S) H)
 (Z1 (λS=>some (g7 S))
 (Zn .normal)
 (Zn (.exit 0))))
 (Zi (Z9 1 (Zi (Zd λS H k=>
 Za (Qh 2 (Zc S.1) (Zc (g4 S))) λt24=>
 sA Zh base 2 H t24 λt25 H1=>
 let t7:=(.ptr (Zb H1) 0);let H2:=(Zv H1 (.cells Vy))
 Za (storeT Zh base 2 H2 t7 t25) λH3=>
 k (z0 (Ze S.1)<| z4 (Ze (g4 S))<| z5 t7<| Zu 9 S) H3)
 (Zi (Zd λS H k=>
 sA Zh base 2 H (g5 S) λt27 H4=>
 Xd TC call Zh (Zc (g1 S)) [Zg t27] H4 λt28 H5=>
 Za (b1 Gh t28) λt29=>
 k (z1 (Ze (g1 S))<| z8 t29<| Zu 9 S) H5)
 (Z1 (λS=>some (g8 S))
 (Zi (Zd λS H k=>
 Xb 2 true S.1 H λc6 H6=>
 sA Zh base 2 H6 (Zr (g5 S)) λt32 H7=>
 Xb 2 true c6 H7 λc8 H8=>
 Za (Qh 2 c8 (Zc (Zr (g3 S)))) λt33=>
 Za (storeT Zh base 2 H8 t33 (Zr t32)) λH9=>
 k (z0 c6<| z3 (Ze (Zr (g3 S)))<| Zu 9 S) H9)
 (Zd λS H k=>
 Za (b2 Z0 (Zc (g3 S)) (tN 1)) λt35=>
 k (z3 t35<| Zu 9 S) H))
 (Zn .normal)))))
 (Zd λS H k=>
 Za (b2 Z0 (Zc (g4 S)) (tN 1)) λt21=>
 k (z4 t21<| Zu 9 S) H))) fuel)))
 (Zi (Zd λS H k=>
 Za (Ao 2 (Zc S.1) (some (Zc (g3 S))) none none) λt38=>
 Xb 2 true t38 H λc10 Ua=>
 Zp (gj c10 2)<|
 Za (Fg Zh Ua Vy c10) λGj=>
 k (z0 (Ze S.1)<| z3 (Ze (g3 S))<| Zu 9 S) Gj)
 (Zi (Zd λS H k=>
 Za (Ao 2 (Zc S.1) none (some (Zc (g3 S))) none) λt41=>
 k (z0 (Ze S.1)<| z2 t41<| z3 (Ze (g3 S))<| Zu 9 S) H)
 (Zn .ret)))))))
def F104:Ji:=λcall Zh l H=>Za (C104 call Zh (Zb H) (Zl l 0,Zl l 1,Zl l 4,Zl l 5,Zl l 6,Zl l 7,Zl l 12,Zl l 19,Zl l 29,()) H) λp=>Xr p.1 (Zp (Z2 Qk [p.2.1.2.2.1]) (some (Xm (Zb H) p.2.1.2.2.1 p.2.2)))
theorem Zty:Jr P TC 104 F104:=λ_ _ _ _=>by kernel_rfl
def C105 (call:Z3) (Zh base:Nat):Z4 (TV×TV×TV×TV×TV×TV×Unit):=
 (Zi (Zd λS H k=>
 Zp (Yu S.1)<|
 let t3:=(.ptr (Zb H) 0);let H0:=(Zv H (.cells (Zy S.1)))
 k (z0 (Qu S.1)<| z3 t3<| z4 (tB false)<| Zu 6 S) H0)
 (Zi (Zd λS H k=>
 sA Zh base 19 H (g1 S) λt6 H1=>
 let t5:=(.ptr (Zb H1) 0);let H2:=(Zv H1 (.cells Xf))
 Za (storeT Zh base 19 H2 t5 t6) λH3=>
 k (z5 t5<| Zu 6 S) H3)
 (Zi (Zd λS H k=>
 Za (Qt 2 1 (g3 S) (tN 0)) λt7=>
 lF Zh base H t7 λt8 H4=>
 Za (Zw (g5 S) 3) λt9=>
 Za (Qt 16 1 t9 t8) λt10=>
 lF Zh base H4 t10 λt11 H5=>
 Za (Qt 2 1 (g3 S) (tN 1)) λt12=>
 lF Zh base H5 t12 λt13 H6=>
 Za (b2 Y8 (.v (.int .u64 (.ofNat 1))) t13) λt14=>
 Za (b2 Y6 t11 t14) λt15=>
 Za (Zw (g5 S) 3) λt16=>
 Xb 0 false t16 H6 λc7 H7=>
 Za (Qt 16 1 c7 t8) λt17=>
 Za (storeT Zh base 1 H7 t17 (Zr t15)) λH8=>
 k (Zu 6 S) H8)
 (Zi (Zd λS H k=>
 Za (Qt 2 1 (g3 S) (tN 1)) λt18=>
 lF Zh base H t18 λt19 H9=>
 Za (Zw (g5 S) 3) λt20=>
 Za (Qt 16 1 t20 t19) λt21=>
 lF Zh base H9 t21 λt22 Ua=>
 Za (Qt 2 1 (g3 S) (tN 0)) λt23=>
 lF Zh base Ua t23 λt24 Gj=>
 Za (b2 Y8 (.v (.int .u64 (.ofNat 1))) t24) λt25=>
 Za (b2 Y6 t22 t25) λt26=>
 Za (Zw (g5 S) 3) λt27=>
 Xb 0 false t27 Gj λc12 Uy=>
 Za (Qt 16 1 c12 t19) λt28=>
 Za (storeT Zh base 1 Uy t28 (Zr t26)) λEa=>
 k (Zu 6 S) Ea)
 (Zi (Zd λS H k=>
 lA Zh base 19 H (g5 S) λt29 D9=>
 Za (Zw (g1 S) 2) λt30=>
 lF Zh base D9 t30 λt31 D6=>
 Za (Zm call 95 [Zg t29,Zg t31] D6) λt32=>
 lF Zh base D6 (g2 S) λt33 Iq=>
 Za (Ja .int t32 t33) λt34=>
 k (z4 t34<| Zu 6 S) Iq)
 (Zn .ret))))))
def F105:Ji:=λcall Zh l H=>Za (C105 call Zh (Zb H) (Zl l 0,Zl l 1,Zl l 2,Zl l 3,Zl l 4,Zl l 5,()) H) λp=>Xr p.1 (Zp (Z2 Qk [p.2.1.2.2.2.2.1]) (some (Xm (Zb H) p.2.1.2.2.2.2.1 p.2.2)))
theorem Ztx:Jr P TC 105 F105:=λ_ _ _ _=>by kernel_rfl
def C111 (call:Z3) (Zh base:Nat):Z4 (TV×TV×TV×TV×TV×TV×TV×TV×TV×TV×TV×TV×TV×TV×TV×TV×TV×TV×TV×TV×TV×TV×TV×TV×Unit):=
 (Zi (Zd λS H k=>
 Zp (Yu S.1)<|
 let t2:=(.ptr (Zb H) 0);let H0:=(Zv H (.cells (Zy S.1)));let t4:=(.ptr (Zb H0) 0);let H1:=(Zv H0 (.cells Xf))
 k (z0 (Qu S.1)<| z2 t2<| z3 t4<| z4 (.v (.int .u64 (.ofNat 0)))<| z5 (tN 0)<| Zu 24 S) H1)
 (Zi (Zd λS H k=>
 lA Zh base 3 H (g2 S) λt16 H2=>
 Za (Zm call 94 [Zg t16] H2) λt17=>
 Zf (Qj (Zc t17) 0) λc3=>
 Zf (Qj (Z7 (Zc t17) 0) 1) λc4=>
 let t7:=(.ptr (Zb H2) 0);let H5:=(Zv H2 (.cells Xf))
 Za (storeT Zh base 19 H5 t7 c3) λH6=>
 k (z6 t7<| z7 c4<| Zu 24 S) H6)
 (Zi (Zi (Zd λS H k=>
 Za (Jc .int (Zc (g7 S)) (tN 0)) λt21=>
 k (z7 (Ze (g7 S))<| Cn t21<| Zu 24 S) H)
 (Z1 (λS=>some (Iz S))
 (Zi (Zd λS H k=>
 sA Zh base 19 H (g6 S) λt22 H7=>
 Za (storeT Zh base 19 H7 (g3 S) t22) λH8=>
 k (z4 (.v (.int .u64 (.ofNat 0)))<| z5 (g7 S)<| z7 (Qu (g7 S))<| Zu 24 S) H8)
 (Zn .ret))
 (Zn .normal)))
 (Zi (Zd λS H k=>
 Za (Zw (g6 S) 0) λt24=>
 lF Zh base H t24 λt25 H9=>
 Za (Zw (g6 S) 1) λt26=>
 lF Zh base H9 t26 λt27 Ua=>
 Za (b2 Y2 t25 t27) λt28=>
 k (z8 (.v (.int .u64 (.ofNat 0)))<| z9 t28<| Zu 24 S) Ua)
 (Zi (Zi (Zd λS H k=>
 Za (Kn (Zg (g1 S))) λt30=>
 k (z1 (Zg (g1 S))<| zb (Zg (g1 S))<| nu t30<| x5 (tN 0)<| Zu 24 S) H)
 (Z9 0 (Ym (Zi (Zd λS H k=>
 Za (b2 Xg (Bi S) (Nt S)) λt32=>
 k (xd t32<| Zu 24 S) H)
 (Zi (Z1 (λS=>some (B5 S))
 (Zn .normal)
 (Zn (.exit 0)))
 (Zi (Z9 1 (Zi (Zd λS H k=>
 Za (Qh 2 (Ra S) (Qu (Bi S))) λt34=>
 sA Zh base 2 H t34 λt35 Gj=>
 let t12:=(.ptr (Zb Gj) 0);let Uy:=(Zv Gj (.cells Vy))
 Za (storeT Zh base 2 Uy t12 t35) λEa=>
 k (Uh (Bi S)<| Iv t12<| x5 (Qu (Bi S))<| Zu 24 S) Ea)
 (Zi (Zd λS H k=>
 Za (Qt 2 1 (Jj S) (tN 1)) λt36=>
 lF Zh base H t36 λt37 D9=>
 Za (Qt 2 1 (Jj S) (tN 0)) λt38=>
 lF Zh base D9 t38 λt39 D6=>
 Za (b2 Qq t37 t39) λt40=>
 k (Oj t40<| Zu 24 S) D6)
 (Zi (Z9 2 (Zi (Zd λS H k=>
 Za (Qt 2 1 (Jj S) (tN 0)) λt42=>
 lF Zh base H t42 λt43 Iq=>
 Za (Qt 2 1 (Jj S) (tN 1)) λt44=>
 lF Zh base Iq t44 λt45 Mw=>
 Za (b2 (Y0 false) t43 t45) λc18=>
 Zp (ie c18)<|
 Za (b2 Xg c18 (tN 0)) λt47=>
 gB t47 false (Qt 2 1 (Jj S) (tN 0)) Mw λt49 Mn=>
 Qp (Zc t47) false (lF Zh base Mn t49 λg20 P7=>Qr g20 P7) Mn λt50 O4=>
 gB t47 false (Qt 2 1 (Jj S) (tN 1)) O4 λt51 Bo=>
 Qp (Zc t47) false (lF Zh base Bo t51 λg23 Ar=>Qr g23 Ar) Bo λt52 Tl=>
 Qp (Zc t47) false (Za (b2 (Y0 true) t50 t52) λc25=>Zp (ie c25)<| Qr c25 Tl) Tl λt53 o9=>
 gV t47 false (Zc (g9 S)) o9 λt54 wy=>
 gB t47 false (b2 K0 t53 t54) wy λt55 fp=>
 Za (Xa (Zc t47) (tB true) (Zg t55)) λt56=>
 k (z9 (Ze (g9 S))<| z19 t56<| Zu 24 S) fp)
 (Z1 (λS=>some (ux S))
 (Zi (Zd λS H k=>
 sA Zh base 19 H (g6 S) λt57 nh=>
 Za (storeT Zh base 19 nh (g3 S) t57) λw9=>
 k (z4 (.v (.int .u64 (.ofNat 0)))<| z5 (tN 2)<| Zu 24 S) w9)
 (Zn .ret))
 (Zi (Zd λS H k=>
 Za (Zw (g6 S) 0) λt60=>
 lF Zh base H t60 λt61 ng=>
 Za (Jc .int (Zc (Dn S)) t61) λt62=>
 gV t62 true (Zc (Ze (Dn S))) ng λt64 o8=>
 gB t62 true (Jc .int t64 (tN 1)) o8 λt65 o7=>
 gV t62 true (Zc t65) o7 λt66 H34=>
 Qp t66 false (Za (Qt 2 1 (Jj S) (tN 1)) λg35=>Qr g35 H34) H34 λt67 H35=>
 Qp t66 false (lF Zh base H35 t67 λg36 H36=>Qr g36 H36) H35 λt68 H37=>
 Qp t66 false (Za (Zw (g6 S) 0) λg38=>Qr g38 H37) H37 λt69 H38=>
 Qp t66 false (lF Zh base H38 t69 λg39 H39=>Qr g39 H39) H38 λt70 H40=>
 Qp t66 false (Za (b2 Y1 t68 t70) λg41=>Qr g41 H40) H40 λt71 H41=>
 Qp t66 false (Za (Ja .int t71 (tN 0)) λg42=>Qr g42 H41) H41 λt72 H42=>
 gB t62 true (Xa t66 (tB true) (Zg t72)) H42 λt73 H43=>
 Za (Xa (Zc t62) (Zg t73) (tB false)) λt74=>
 k (Oj (Ze (Ze (Dn S)))<| z20 t74<| Zu 24 S) H43)
 (Z1 (λS=>some (g20 S))
 (Zi (Zd λS H k=>
 sA Zh base 19 H (g6 S) λt75 H44=>
 Za (storeT Zh base 19 H44 (g3 S) t75) λH45=>
 k (z4 (.v (.int .u64 (.ofNat 0)))<| z5 (tN 5)<| Zu 24 S) H45)
 (Zn .ret))
 (Zi (Zd λS H k=>
 Za (b2 Vt (Zc (J9 S)) (tN 0)) λt78=>
 gV t78 true (Zc (g1 S)) H λt80 H46=>
 gV t78 true (Zc (Ze (J9 S))) H46 λt81 H47=>
 gB t78 true (b2 Qq t81 (tN 1)) H47 λt82 H48=>
 gB t78 true (Qh 2 t80 t82) H48 λt83 H49=>
 gB t78 true (G5 false 1 2 t83 none none none) H49 λt84 H50=>
 gB t78 true (G5 false 1 2 (Jj S) none none none) H50 λt85 H51=>
 gB t78 true (Zm call 78 [Zg t84,Zg t85] H51) H51 λt86 H52=>
 gB t78 true (b2 K0 t86 (tN 0)) H52 λt87 H53=>
 Za (Xa (Zc t78) (Zg t87) (tB false)) λt88=>
 k (z1 (Ze (g1 S))<| Uh (Ze (Ze (J9 S)))<| z21 t88<| Zu 24 S) H53)
 (Z1 (λS=>some (g21 S))
 (Zi (Zd λS H k=>
 sA Zh base 19 H (g6 S) λt89 H54=>
 Za (storeT Zh base 19 H54 (g3 S) t89) λH55=>
 k (z4 (.v (.int .u64 (.ofNat 0)))<| z5 (tN 7)<| Zu 24 S) H55)
 (Zn .ret))
 (Zn .normal))))))))
 (Zi (Zd λS H k=>
 Za (Qt 2 1 (Jj S) (tN 0)) λt90=>
 lF Zh base H t90 λt91 H56=>
 Za (b2 Y8 (.v (.int .u64 (.ofNat 1))) t91) λt92=>
 Za (Qt 2 1 (Jj S) (tN 1)) λt93=>
 lF Zh base H56 t93 λt94 H57=>
 Za (b2 Y8 (.v (.int .u64 (.ofNat 1))) t94) λt95=>
 Za (b2 Ep t92 t95) λt96=>
 k (Te t96<| Zu 24 S) H57)
 (Zi (Z9 3 (Zi (Zd λS H k=>
 Za (Zw (g6 S) 2) λt99=>
 lF Zh base H t99 λt100 H58=>
 Za (b2 Y6 (Zc (Em S)) t100) λt101=>
 Za (Jc .int t101 (.v (.int .u64 (.ofNat 0)))) λt102=>
 k (Te (Ze (Em S))<| z22 t102<| Zu 24 S) H58)
 (Z1 (λS=>some (uw S))
 (Zi (Zd λS H k=>
 sA Zh base 19 H (g6 S) λt103 H59=>
 Za (storeT Zh base 19 H59 (g3 S) t103) λH60=>
 k (z4 (.v (.int .u64 (.ofNat 0)))<| z5 (tN 13)<| Zu 24 S) H60)
 (Zn .ret))
 (Zi (Zd λS H k=>
 Za (b2 Km (Zc (Em S)) (Zc (g8 S))) λt107=>
 Za (Jc .int t107 (.v (.int .u64 (.ofNat 0)))) λt108=>
 k (z8 (Ze (g8 S))<| Te (Ze (Em S))<| z23 t108<| Zu 24 S) H)
 (Z1 (λS=>some (g23 S))
 (Zi (Zd λS H k=>
 sA Zh base 19 H (g6 S) λt109 H61=>
 Za (storeT Zh base 19 H61 (g3 S) t109) λH62=>
 k (z4 (.v (.int .u64 (.ofNat 0)))<| z5 (tN 6)<| Zu 24 S) H62)
 (Zn .ret))
 (Zn .normal))))))
 (Zd λS H k=>
 Za (b2 Ep (Zc (g8 S)) (Zc (Em S))) λt112=>
 k (z8 t112<| Te (Ze (Em S))<| Zu 24 S) H)))))))
 (Zd λS H k=>
 Za (b2 Z0 (Bi S) (tN 1)) λt113=>
 k (x5 t113<| Zu 24 S) H)))) fuel)))
 (Zi (Zd λS H k=>
 sA Zh base 19 H (g6 S) λt114 H63=>
 Za (storeT Zh base 19 H63 (g3 S) t114) λH64=>
 k (z4 (g8 S)<| z5 (tN 0)<| z8 (Qu (g8 S))<| Zu 24 S) H64)
 (Zn .ret)))))))
def F111:Ji:=λcall Zh l H=>Za (C111 call Zh (Zb H) (Zl l 0,Zl l 1,Zl l 2,Zl l 4,Zl l 5,Zl l 6,Zl l 7,Zl l 8,Zl l 9,Zl l 10,Zl l 11,Zl l 12,Zl l 13,Zl l 14,Zl l 21,Zl l 29,Zl l 30,Zl l 31,Zl l 32,Zl l 41,Zl l 58,Zl l 76,Zl l 97,Zl l 104,()) H) λp=>Xr p.1 (loadT .take Zh (Zb p.2.2) true 19 p.2.2 p.2.1.2.2.2.1 λr0 h0=>Zp (Z2 Qk [r0,p.2.1.2.2.2.2.1,p.2.1.2.2.2.2.2.1]) (some (Xm (Zb H) (.Xh [r0,p.2.1.2.2.2.2.1,p.2.1.2.2.2.2.2.1]) h0)))
theorem Ztw:Jr P TC 111 F111:=λ_ _ _ _=>by kernel_rfl
def C112 (call:Z3) (Zh base:Nat):Z4 (TV×TV×TV×TV×TV×TV×Unit):=
 (Zi (Zd λS H k=>
 Zp (Yu S.1)<|
 let t2:=(.ptr (Zb H) 0);let H0:=(Zv H (.cells (Zy S.1)))
 k (z0 (Qu S.1)<| z2 t2<| z3 (tN 0)<| Zu 6 S) H0)
 (Zi (Z9 0 (Zi (Zd λS H k=>
 lA Zh base 19 H (g2 S) λt6 H1=>
 Za (Zm call 128 [Zg t6] H1) λt7=>
 Za (b1 Gh t7) λt8=>
 k (z4 t8<| Zu 6 S) H1)
 (Z1 (λS=>some (g4 S))
 (Zi (Zd λS H k=>
 k (z3 (tN 5)<| Zu 6 S) H)
 (Zn .ret))
 (Zi (Zd λS H k=>
 Zp (Z2 pass [Zg (g2 S)])<|
 Qo call Zh 157 [Zg (Zg (g1 S)),.fn (.func 158) [] [Zg (g2 S)]] H λt12 H2=>
 k (z1 (Zg (g1 S))<| z2 (Zg (g2 S))<| z5 t12<| Zu 6 S) H2)
 (Z1 (λS=>some (g5 S))
 (Zi (Zd λS H k=>
 k (z3 (tN 21)<| Zu 6 S) H)
 (Zn .ret))
 (Zn .normal))))))
 (Zi (Zd λS H k=>
 k (z3 (tN 0)<| Zu 6 S) H)
 (Zn .ret))))
def F112:Ji:=λcall Zh l H=>Za (C112 call Zh (Zb H) (Zl l 0,Zl l 1,Zl l 2,Zl l 4,Zl l 5,Zl l 9,()) H) λp=>Xr p.1 (Zp (Z2 Qk [p.2.1.2.2.2.1]) (some (Xm (Zb H) p.2.1.2.2.2.1 p.2.2)))
theorem Ztv:Jr P TC 112 F112:=λ_ _ _ _=>by kernel_rfl
def C113 (call:Z3) (Zh base:Nat):Z4 (TV×TV×TV×TV×TV×TV×TV×TV×TV×TV×Unit):=
 (Zi (Zd λS H k=>
 Zp (Yu S.1)<|
 let t2:=(.ptr (Zb H) 0);let H0:=(Zv H (.cells (Zy S.1)))
 Zp (Yu (g1 S))<|
 let t3:=(.ptr (Zb H0) 0);let H1:=(Zv H0 (.cells (Zy (g1 S))))
 k (z0 (Qu S.1)<| z1 (Qu (g1 S))<| z2 t2<| z3 t3<| z4 Xp<| Zu 10 S) H1)
 (Zi (Zd λS H k=>
 lA Zh base 19 H (g2 S) λt10 H2=>
 Za (Zm call 116 [Zg t10] H2) λt11=>
 Zf (se t11) λl3=>Zf (se t11) λm3=>Za (Rw 8 l3 m3) λc3=>
 let t12:=(.vec (Zb H2) 0 c3.1 c3.2 1 false);let H4:=(Zv H2 (.cells (Y5 [tN 0] c3.2)));let t5:=(.ptr (Zb H4) 0);let H5:=(Zv H4 (.cells [Xp]))
 Za (storeT Zh base 1 H5 t5 t12) λH6=>
 k (z5 t5<| Zu 10 S) H6)
 (Zi (Zd λS H k=>
 lA Zh base 19 H (g2 S) λt13 H7=>
 Za (Zm call 116 [Zg t13] H7) λt14=>
 Zf (se t14) λl8=>Zf (se t14) λm8=>Za (Rw 1 l8 m8) λc8=>
 let t15:=(.vec (Zb H7) 0 c8.1 c8.2 1 false);let H9:=(Zv H7 (.cells (Y5 [tB false] c8.2)));let t6:=(.ptr (Zb H9) 0);let Ua:=(Zv H9 (.cells [Xp]))
 Za (storeT Zh base 1 Ua t6 t15) λGj=>
 k (z6 t6<| Zu 10 S) Gj)
 (Zi (Zd λS H k=>
 let t7:=(.ptr (Zb H) 0);let Uy:=(Zv H (.cells [.v .nilFunc]))
 k (z7 t7<| Zu 10 S) Uy)
 (Zi (Zd λS H k=>
 Zp (Z2 pass [Zg (g2 S),Zg (g6 S),Zg (g3 S),Zg (g7 S)])<|
 let t8:=(.ptr (Zb H) 0);let Ea:=(Zv H (.cells [.v .nilFunc]))
 Za (storeT Zh base 1 Ea t8 (.fn (.func 159) [] [Zg (g2 S),Zg (g6 S),Zg (g3 S),Zg (g7 S)])) λD9=>
 k (z2 (Zg (g2 S))<| z3 (Zg (g3 S))<| z6 (Zg (g6 S))<| z7 (Zg (g7 S))<| z8 t8<| Zu 10 S) D9)
 (Zi (Zd λS H k=>
 Zp (Z2 pass [Zg (g5 S),Zg (g6 S),Zg (g2 S),Zg (g8 S)])<|
 Za (storeT Zh base 1 H (g7 S) (.fn (.func 161) [] [Zg (g5 S),Zg (g6 S),Zg (g2 S),Zg (g8 S)])) λD6=>
 k (z2 (Zg (g2 S))<| z5 (Zg (g5 S))<| z6 (Zg (g6 S))<| z8 (Zg (g8 S))<| Zu 10 S) D6)
 (Zi (Zd λS H k=>
 Za (Zw (g2 S) 2) λt18=>
 lF Zh base H t18 λt19 Iq=>
 Za (Zm call 156 [Zg t19] Iq) λt20=>
 k (z9 t20<| Zu 10 S) Iq)
 (Zi (Zd λS H k=>
 lF Zh base H (g7 S) λt21 Mw=>
 Za (Zw (g2 S) 0) λt23=>
 lF Zh base Mw t23 λt24 Mu=>
 Za (b2 Jp (Zc (g9 S)) t24) λt25=>
 Za (Zw (g2 S) 0) λt26=>
 lF Zh base Mu t26 λt27 Mn=>
 Za (b2 Z0 t27 (tN 1)) λt28=>
 Za (b2 Y2 t25 t28) λt29=>
 Za (Zw (g2 S) 0) λt31=>
 lF Zh base Mn t31 λt32 P7=>
 Za (b2 Y1 (Zc (Ze (g9 S))) t32) λt33=>
 Za (b2 Z0 t29 t33) λt34=>
 Xd TC call Zh t21 [Zg t34,tN 0] P7 λt35 O4=>
 k (z9 (Ze (Ze (g9 S)))<| Zu 10 S) O4)
 (Zi (Zd λS H k=>
 sF Zh base H (g5 S) λt36 Bo=>
 k (z4 t36<| Zu 10 S) Bo)
 (Zn .ret))))))))))
def F113:Ji:=λcall Zh l H=>Za (C113 call Zh (Zb H) (Zl l 0,Zl l 1,Zl l 2,Zl l 3,Zl l 4,Zl l 5,Zl l 6,Zl l 7,Zl l 8,Zl l 9,()) H) λp=>Xr p.1 (Zp (Z2 Qk [p.2.1.2.2.2.2.1]) (some (Xm (Zb H) p.2.1.2.2.2.2.1 p.2.2)))
theorem Ztu:Jr P TC 113 F113:=λ_ _ _ _=>by kernel_rfl
def C116 (call:Z3) (Zh base:Nat):Z4 (TV×TV×TV×Unit):=
 (Zi (Zd λS H k=>
 Zp (Yu S.1)<|
 let t1:=(.ptr (Zb H) 0);let H0:=(Zv H (.cells (Zy S.1)))
 k (z0 (Qu S.1)<| z1 t1<| z2 (tN 0)<| Zu 3 S) H0)
 (Zi (Zd λS H k=>
 Za (Zw (g1 S) 0) λt3=>
 lF Zh base H t3 λt4 H1=>
 Za (b2 Z0 t4 (tN 1)) λt5=>
 Za (Zw (g1 S) 1) λt6=>
 lF Zh base H1 t6 λt7 H2=>
 Za (b2 Z0 t7 (tN 1)) λt8=>
 Za (b2 Y2 t5 t8) λt9=>
 k (z2 t9<| Zu 3 S) H2)
 (Zn .ret)))
def F116:Ji:=λcall Zh l H=>Za (C116 call Zh (Zb H) (Zl l 0,Zl l 1,Zl l 2,()) H) λp=>Xr p.1 (Zp (Z2 Qk [p.2.1.2.2.1]) (some (Xm (Zb H) p.2.1.2.2.1 p.2.2)))
theorem Ztt:Jr P TC 116 F116:=λ_ _ _ _=>by kernel_rfl
def C117 (call:Z3) (Zh base:Nat):Z4 (TV×TV×TV×TV×TV×TV×TV×TV×TV×TV×TV×TV×TV×TV×TV×TV×TV×TV×TV×TV×TV×Unit):=
 (Zi (Zd λS H k=>
 Zp (Yu S.1)<|
 let t3:=(.ptr (Zb H) 0);let H0:=(Zv H (.cells (Zy S.1)))
 k (z0 (Qu S.1)<| z3 t3<| z4 Xp<| z5 (tB false)<| Zu 21 S) H0)
 (Zi (Zd λS H k=>
 Za (Zw (g3 S) 0) λt20=>
 lF Zh base H t20 λt21 H1=>
 Za (b2 Z0 t21 (tN 1)) λt22=>
 Za (b2 Y1 (Zc (g2 S)) t22) λt23=>
 Za (Zw (g3 S) 0) λt25=>
 lF Zh base H1 t25 λt26 H2=>
 Za (b2 Z0 t26 (tN 1)) λt27=>
 Za (b2 Jp (Zc (Ze (g2 S))) t27) λt28=>
 k (z2 (Ze (Ze (g2 S)))<| z6 t23<| z7 t28<| Zu 21 S) H2)
 (Zi (Zi (Zd λS H k=>
 Za (b2 (Y0 false) (Zc (g6 S)) (Zc (g7 S))) λc3=>
 Zp (ie c3)<|
 Za (b2 Xg c3 (tN 1)) λt32=>
 gV t32 false (Zc (Ze (g6 S))) H λt34 H4=>
 gB t32 false (Zw (g3 S) 0) H4 λt35 H5=>
 Qp (Zc t32) false (lF Zh base H5 t35 λg6 H6=>Qr g6 H6) H5 λt36 H7=>
 gB t32 false (b2 K0 t34 t36) H7 λt37 H8=>
 Za (Xa (Zc t32) (tB true) (Zg t37)) λt38=>
 gV t38 false (Zc (Ze (g7 S))) H8 λt40 H9=>
 gB t38 false (Zw (g3 S) 1) H9 λt41 Ua=>
 Qp (Zc t38) false (lF Zh base Ua t41 λJj Gj=>Qr Jj Gj) Ua λt42 Uy=>
 gB t38 false (b2 K0 t40 t42) Uy λt43 Ea=>
 Za (Xa (Zc t38) (tB true) (Zg t43)) λt44=>
 k (z6 (Ze (Ze (g6 S)))<| z7 (Ze (Ze (g7 S)))<| nu t44<| Zu 21 S) Ea)
 (Z1 (λS=>some (Nt S))
 (Zi (Zd λS H k=>
 k (z4 Xp<| z5 (tB false)<| Zu 21 S) H)
 (Zn .ret))
 (Zn .normal)))
 (Zi (Zd λS H k=>
 Za (b2 Qq (Zc (g7 S)) (tN 1)) λt46=>
 Za (Zw (g3 S) 0) λt47=>
 lF Zh base H t47 λt48 D9=>
 Za (b2 Y2 t46 t48) λt49=>
 Za (b2 Z0 t49 (Zc (g6 S))) λt51=>
 Za (b2 Qq t51 (tN 1)) λt52=>
 k (z6 (Ze (g6 S))<| z7 (Ze (g7 S))<| z8 t52<| Zu 21 S) D9)
 (Zi (Zd λS H k=>
 Za (b2 Z0 (Zc (g8 S)) (tN 1)) λt54=>
 Za (Zw (g3 S) 0) λt56=>
 lF Zh base H t56 λt57 D6=>
 Za (b2 Z0 (Zc (Ze (g8 S))) t57) λt58=>
 Za (Zw (g3 S) 0) λt60=>
 lF Zh base D6 t60 λt61 Iq=>
 Za (b2 Z0 (Zc (Ze (Ze (g8 S)))) t61) λt62=>
 Za (b2 Z0 t62 (tN 1)) λt63=>
 k (z8 (Ze (Ze (Ze (g8 S))))<| z9 t54<| Uh t58<| Iv t63<| Zu 21 S) Iq)
 (Zi (Zi (Zd λS H k=>
 Za (Uk [(0,1,(Zg (g8 S))),(1,1,(Zg (g9 S)))] Vy) λt66=>
 Za (Uk [(0,1,(Zg (J9 S))),(1,1,(Zg (Jj S)))] Vy) λt69=>
 Za (Uk [(0,2,t66),(2,2,t69)] Zld) λt70=>
 Za (Uk [(0,1,(Zg (Zg (g8 S)))),(1,1,(Zg (Zg (J9 S))))] Vy) λt73=>
 Za (Uk [(0,1,(Zg (Zg (g9 S)))),(1,1,(Zg (Zg (Jj S))))] Vy) λt76=>
 Za (Uk [(0,2,t73),(2,2,t76)] Zld) λt77=>
 Za (Uk [(0,4,t70),(4,4,t77)] zc173) λt78=>
 k (z8 (Zg (Zg (g8 S)))<| z9 (Zg (Zg (g9 S)))<| Uh (Zg (Zg (J9 S)))<| Iv (Zg (Zg (Jj S)))<| x5 t78<| xd (tN 0)<| Zu 21 S) H)
 (Z9 0 (Ym (Zi (Zd λS H k=>
 Za (b2 Xg (B5 S) (tN 2)) λt80=>
 k (z19 t80<| Zu 21 S) H)
 (Zi (Z1 (λS=>some (ux S))
 (Zn .normal)
 (Zn (.exit 0)))
 (Zi (Z9 1 (Zi (Zd λS H k=>
 Za (ad true 2 4 (Zg (Bi S)) (B5 S)) λt81=>
 let t15:=(.ptr (Zb H) 0);let Mw:=(Zv H (.cells Zld))
 Za (storeT Zh base 4 Mw t15 t81) λMu=>
 k (Oj t15<| x5 (Zg (Bi S))<| Zu 21 S) Mu)
 (Zi (Zd λS H k=>
 Za (Qt 2 2 (Dn S) (tN 0)) λt83=>
 lA Zh base 2 H t83 λt84 Mn=>
 Za (Zm call 135 [Zg (Zc (g1 S)),Zg t84] Mn) λt85=>
 Za (Qt 2 2 (Dn S) (tN 1)) λt87=>
 lA Zh base 2 Mn t87 λt88 P7=>
 Za (Zm call 135 [Zg (Zc (Ze (g1 S))),Zg t88] P7) λt89=>
 k (z1 (Ze (Ze (g1 S)))<| Te t85<| Cn t89<| Zu 21 S) P7)
 (Zi (Zi (Zd λS H k=>
 Za (b2 Xg (Zc (Em S)) (tN 0)) λt91=>
 gV t91 false (Zc (Iz S)) H λt93 O4=>
 gB t91 false (b2 Xg t93 (tN 0)) O4 λt94 Bo=>
 Za (Xa (Zc t91) (tB true) (Zg t94)) λt95=>
 k (Te (Ze (Em S))<| Cn (Ze (Iz S))<| z20 t95<| Zu 21 S) Bo)
 (Z1 (λS=>some (g20 S))
 (Zn (.exit 1))
 (Zn .normal)))
 (Zi (Zd λS H k=>
 Za (Zm call 143 [Zg (Zc (g1 S))] H) λt97=>
 k (z1 (Ze (g1 S))<| zb t97<| Zu 21 S) H)
 (Zi (Zd λS H k=>
 Xb 2 true (Ra S) H λc23 Ar=>
 Xb 2 true (Zr c23) Ar λc24 Tl=>
 Za (b2 Z0 (Zc (Zr (g9 S))) (Zc (Zr (J9 S)))) λt105=>
 Za (Qt 2 2 (Zr (Dn S)) (tN 0)) λt106=>
 Za (Qt 2 1 t106 (tN 1)) λt107=>
 lF Zh base Tl t107 λt108 Nu=>
 Za (b2 Qq t105 t108) λt109=>
 Za (Uk [(0,1,(Zg (Zr (g8 S)))),(1,1,t109)] Vy) λt110=>
 Za (b2 Z0 (Zc (Ze (Zr (g9 S)))) (Zc (Ze (Zr (J9 S))))) λt113=>
 Za (Qt 2 2 (Zr (Dn S)) (tN 1)) λt114=>
 Za (Qt 2 1 t114 (tN 0)) λt115=>
 lF Zh base Nu t115 λt116 o9=>
 Za (b2 Qq t113 t116) λt117=>
 Za (Uk [(0,1,t117),(1,1,(Zg (Zr (Jj S))))] Vy) λt119=>
 Xb 2 true (Zr c23) o9 λc27 wy=>
 Za (Qh 2 c27 (Zr (Zc (Zr (Em S))))) λt120=>
 Zp (Tb [hdX (Zr t115) (hdP Nu t115)] [hdX t120 (hdP wy t120)])<|
 Za (storeT Zh base 2 wy t120 (Zr t110)) λfp=>
 Xb 2 true (Zr c24) fp λc29 nh=>
 Za (Qh 2 c29 (Zr (Zc (Zr (Iz S))))) λt121=>
 Za (storeT Zh base 2 nh t121 (Zr t119)) λw9=>
 k (z8 (Zg (Zr (g8 S)))<| z9 (Ze (Ze (Zr (g9 S))))<| Uh (Ze (Ze (Zr (J9 S))))<| Iv (Zg (Zr (Jj S)))<| Te (Ze (Zr (Em S)))<| Cn (Ze (Zr (Iz S)))<| zb c24<| Zu 21 S) w9)
 (Zi (Zd λS H k=>
 Xb 2 true (Ra S) H λc31 ng=>
 Xb 2 true c31 ng λc32 o8=>
 Qo call Zh 85 [c32,.fn (.func 164) [] []] o8 λt123 o7=>
 k (zb c31<| Zu 21 S) o7)
 (Zi (Zd λS H k=>
 k (z4 (Ra S)<| z5 (tB true)<| zb (Qu (Ra S))<| Zu 21 S) H)
 (Zn .ret)))))))))
 (Zd λS H k=>
 Za (b2 Z0 (B5 S) (tN 1)) λt125=>
 k (xd t125<| Zu 21 S) H)))) fuel)))
 (Zi (Zd λS H k=>
 k (z4 Xp<| z5 (tB false)<| Zu 21 S) H)
 (Zn .ret))))))))
def F117:Ji:=λcall Zh l H=>Za (C117 call Zh (Zb H) (Zl l 0,Zl l 1,Zl l 2,Zl l 3,Zl l 6,Zl l 7,Zl l 8,Zl l 9,Zl l 10,Zl l 11,Zl l 12,Zl l 13,Zl l 15,Zl l 16,Zl l 17,Zl l 18,Zl l 44,Zl l 78,Zl l 79,Zl l 80,Zl l 95,()) H) λp=>Xr p.1 (Zp (Z2 Qk [p.2.1.2.2.2.2.1,p.2.1.2.2.2.2.2.1]) (some (Xm (Zb H) (.Xh [p.2.1.2.2.2.2.1,p.2.1.2.2.2.2.2.1]) p.2.2)))
theorem Zts:Jr P TC 117 F117:=λ_ _ _ _=>by kernel_rfl
def C119 (call:Z3) (Zh base:Nat):Z4 (TV×TV×TV×TV×TV×TV×TV×TV×TV×TV×TV×TV×TV×TV×TV×TV×TV×TV×TV×TV×TV×Unit):=
 (Zi (Zd λS H k=>
 Zp (Yu S.1)<|
 let t2:=(.ptr (Zb H) 0);let H0:=(Zv H (.cells (Zy S.1)))
 k (z0 (Qu S.1)<| z2 t2<| z3 Xp<| z4 (tN 0)<| Zu 21 S) H0)
 (Zi (Zd λS H k=>
 lA Zh base 3 H (g2 S) λt14 H1=>
 Za (Zm call 94 [Zg t14] H1) λt15=>
 Zf (Qj (Zc t15) 0) λc2=>
 Zf (Qj (Z7 (Zc t15) 0) 1) λc3=>
 let t6:=(.ptr (Zb H1) 0);let H4:=(Zv H1 (.cells Xf))
 Za (storeT Zh base 19 H4 t6 c2) λH5=>
 k (z5 t6<| z6 c3<| Zu 21 S) H5)
 (Zi (Z9 0 (Zi (Zd λS H k=>
 Za (Jc .int (Zc (g6 S)) (tN 0)) λt20=>
 k (z6 (Ze (g6 S))<| Oj t20<| Zu 21 S) H)
 (Z1 (λS=>some (Dn S))
 (Zi (Zd λS H k=>
 k (z3 Xp<| z4 (g6 S)<| z6 (Qu (g6 S))<| Zu 21 S) H)
 (Zn .ret))
 (Zi (Zd λS H k=>
 lA Zh base 19 H (g5 S) λt23 H6=>
 Za (Zm call 128 [Zg t23] H6) λt24=>
 Za (b1 Gh t24) λt25=>
 k (Te t25<| Zu 21 S) H6)
 (Z1 (λS=>some (Em S))
 (Zi (Zd λS H k=>
 k (z3 Xp<| z4 (tN 5)<| Zu 21 S) H)
 (Zn .ret))
 (Zn .normal))))))
 (Zi (Zd λS H k=>
 lA Zh base 19 H (g5 S) λt26 H7=>
 Za (Zw (g5 S) 2) λt27=>
 lF Zh base H7 t27 λt28 H8=>
 Za (Zm call 97 [Zg t26,Zg t28] H8) λt29=>
 k (z7 t29<| Zu 21 S) H8)
 (Zi (Zi (Zd λS H k=>
 Za (Kn (Zc (g7 S))) λt31=>
 Za (b2 Y2 (tN 2) t31) λt32=>
 Za (Zw (g5 S) 2) λt33=>
 lF Zh base H t33 λt34 H9=>
 Za (Zm call 166 [Zg t34] H9) λt35=>
 Za (b2 Xg t32 t35) λt36=>
 k (z7 (Ze (g7 S))<| Cn t36<| Zu 21 S) H9)
 (Z1 (λS=>some (Iz S))
 (Zi (Zd λS H k=>
 k (z3 Xp<| z4 (tN 12)<| Zu 21 S) H)
 (Zn .ret))
 (Zn .normal)))
 (Zi (Zn .normal)
 (Zi (Zi (Zd λS H k=>
 k (zb (tN 0)<| Zu 21 S) H)
 (Z9 1 (Ym (Zi (Zd λS H k=>
 Za (b2 Xg (Ra S) (tN 256)) λt38=>
 k (nu t38<| Zu 21 S) H)
 (Zi (Z1 (λS=>some (Nt S))
 (Zn .normal)
 (Zn (.exit 1)))
 (Zi (Z9 2 (Zi (Zd λS H k=>
 sA Zh base 19 H (g5 S) λt39 Ua=>
 Qo call Zh 113 [Zg t39,Zg (Zg (g7 S))] Ua λt41 Gj=>
 k (z7 (Zg (g7 S))<| z8 t41<| Zu 21 S) Gj)
 (Zi (Zi (Zd λS H k=>
 Za (Kn (Zc (g8 S))) λt43=>
 k (z8 (Ze (g8 S))<| x5 t43<| xd (tN 0)<| Zu 21 S) H)
 (Z9 3 (Ym (Zi (Zd λS H k=>
 Za (b2 Xg (B5 S) (Bi S)) λt45=>
 k (z19 t45<| Zu 21 S) H)
 (Zi (Z1 (λS=>some (ux S))
 (Zn .normal)
 (Zn (.exit 3)))
 (Zi (Z9 4 (Zi (Zd λS H k=>
 k (z9 (B5 S)<| xd (Qu (B5 S))<| Zu 21 S) H)
 (Zi (Zd λS H k=>
 lA Zh base 19 H (g5 S) λt48 Uy=>
 Za (Zm call 117 [Zg t48,Zg (Zc (g7 S)),Zg (Zc (g9 S))] Uy) λt51=>
 Zf (Qj (Zc t51) 0) λqb=>
 Zf (Qj (Z7 (Zc t51) 0) 1) λc14=>
 k (z7 (Ze (g7 S))<| z9 (Ze (g9 S))<| Uh qb<| Iv c14<| Zu 21 S) Uy)
 (Zi (Zd λS H k=>
 Qp (Zc (Zc (Jj S))) true ( Qr (Zc (g1 S)) H) H λt56 D6=>
 Qp (Zc (Zc (Jj S))) true (sA Zh base 19 D6 (g5 S) λNt Iq=>Qr Nt Iq) D6 λt57 Mw=>
 Qp (Zc (Zc (Jj S))) true ( Qr (Zg (J9 S)) Mw) Mw λt58 Mu=>
 Zp (Z2 X3 Mu)<|
 Qp (Zc (Zc (Jj S))) true (Qo call (Zb Mu) 113 [Zg t57,Zg t58] Mu λux Mn=>Qr ux Mn) Mu λt59 P7=>
 Qp (Zc (Zc (Jj S))) true ( Qr (Zc (Zr (g9 S))) P7) P7 λt60 O4=>
 Qp (Zc (Zc (Jj S))) true (Za (Qh 1 t59 t60) λuw=>Qr uw O4) O4 λt61 Bo=>
 Qp (Zc (Zc (Jj S))) true (lF Zh base Bo t61 λg23 Ar=>Qr g23 Ar) Bo λt62 Tl=>
 Qp (Zc (Zc (Jj S))) true (Za (b2 Y2 (Zr t56) t62) λg25=>Qr g25 Tl) Tl λt63 Nu=>
 Qp (Zc (Zc (Jj S))) true ( Qr (Zc (Zr (Ze (g1 S)))) Nu) Nu λt64 o9=>
 Qp (Zc (Zc (Jj S))) true ( Qr (Zc (Zr (g8 S))) o9) o9 λt65 wy=>
 Qp (Zc (Zc (Jj S))) true ( Qr (Zc (Ze (Zr (g9 S)))) wy) wy λt66 fp=>
 Qp (Zc (Zc (Jj S))) true (Za (Qh 1 t65 t66) λg29=>Qr g29 fp) fp λt67 nh=>
 Qp (Zc (Zc (Jj S))) true (lF Zh base nh t67 λg30 w9=>Qr g30 w9) nh λt68 ng=>
 Qp (Zc (Zc (Jj S))) true (Za (b2 Y2 t64 t68) λg32=>Qr g32 ng) ng λt69 o8=>
 Qp (Zc (Zc (Jj S))) true (Za (b2 Xg t63 t69) λg33=>Qr g33 o8) o8 λt70 o7=>
 Za (Xa (Zr (Zc (Zc (Jj S)))) (Zg t70) (tB false)) λt71=>
 k (z1 (Ze (Zr (Ze (g1 S))))<| z8 (Ze (Zr (g8 S)))<| z9 (Ze (Ze (Zr (g9 S))))<| Uh (Zg (J9 S))<| Iv (Ze (Jj S))<| z20 t71<| Zu 21 S) o7)
 (Z1 (λS=>some (g20 S))
 (Zi (Zd λS H k=>
 k (z7 (J9 S)<| Uh (Qu (J9 S))<| Zu 21 S) H)
 (Zn (.exit 2)))
 (Zn .normal))))))
 (Zd λS H k=>
 Za (b2 Z0 (B5 S) (tN 1)) λt73=>
 k (xd t73<| Zu 21 S) H)))) fuel)))
 (Zn (.exit 1)))))
 (Zd λS H k=>
 Za (b2 Z0 (Ra S) (tN 1)) λt74=>
 k (zb t74<| Zu 21 S) H)))) fuel)))
 (Zi (Zd λS H k=>
 k (z3 (g7 S)<| z4 (tN 0)<| z7 (Qu (g7 S))<| Zu 21 S) H)
 (Zn .ret)))))))))
def F119:Ji:=λcall Zh l H=>Za (C119 call Zh (Zb H) (Zl l 0,Zl l 1,Zl l 2,Zl l 4,Zl l 5,Zl l 6,Zl l 7,Zl l 8,Zl l 9,Zl l 10,Zl l 11,Zl l 12,Zl l 18,Zl l 22,Zl l 36,Zl l 37,Zl l 38,Zl l 43,Zl l 44,Zl l 45,Zl l 71,()) H) λp=>Xr p.1 (Zp (Z2 Qk [p.2.1.2.2.2.1,p.2.1.2.2.2.2.1]) (some (Xm (Zb H) (.Xh [p.2.1.2.2.2.1,p.2.1.2.2.2.2.1]) p.2.2)))
theorem Ztr:Jr P TC 119 F119:=λ_ _ _ _=>by kernel_rfl
end
end Go.Proofs.YtgemobbfikjmoaaGreatDoor
namespace Go.Proofs.YtgemobbfikjmoaaGreatDoor
open Go Go.Ev
set_option maxRecDepth 1000000
set_option linter.unusedVariables false
noncomputable section
def C121 (call:Z3) (Zh base:Nat):Z4 (TV×TV×TV×TV×TV×TV×TV×TV×TV×TV×TV×TV×TV×TV×TV×Unit):=
 (Zi (Zd λS H k=>
 Zp (Yu S.1)<|
 let t3:=(.ptr (Zb H) 0);let H0:=(Zv H (.cells (Zy S.1)));let t6:=(.ptr (Zb H0) 0);let H1:=(Zv H0 (.cells Xf))
 k (z0 (Qu S.1)<| z3 t3<| z4 t6<| z5 Xp<| z6 Xp<| z7 (tN 0)<| Zu 15 S) H1)
 (Zi (Zd λS H k=>
 lA Zh base 3 H (g3 S) λt16 H2=>
 Za (Zm call 111 [Zg t16,Zg (Zc (g1 S))] H2) λt18=>
 Zf (Qj (Zc t18) 0) λc3=>
 Zf (Qj (Z7 (Zc t18) 0) 1) λc4=>
 Zf (Qj (Z7 (Z7 (Zc t18) 0) 1) 2) λc5=>
 let t10:=(.ptr (Zb H2) 0);let H6:=(Zv H2 (.cells Xf))
 Za (storeT Zh base 19 H6 t10 c3) λH7=>
 k (z1 (Ze (g1 S))<| z8 t10<| z9 c4<| Uh c5<| Zu 15 S) H7)
 (Zi (Zi (Zd λS H k=>
 Za (Jc .int (Zc (J9 S)) (tN 0)) λt23=>
 k (Uh (Ze (J9 S))<| Oj t23<| Zu 15 S) H)
 (Z1 (λS=>some (Dn S))
 (Zi (Zd λS H k=>
 sA Zh base 19 H (g8 S) λt24 H8=>
 Za (storeT Zh base 19 H8 (g4 S) t24) λH9=>
 k (z5 Xp<| z6 Xp<| z7 (J9 S)<| Uh (Qu (J9 S))<| Zu 15 S) H9)
 (Zn .ret))
 (Zn .normal)))
 (Zi (Zd λS H k=>
 lA Zh base 3 H (g3 S) λt27 Ua=>
 Za (Zm call 111 [Zg t27,Zg (Zc (g2 S))] Ua) λt29=>
 Zf (Qj (Zc t29) 0) λcz=>
 Zf (Qj (Z7 (Zc t29) 0) 1) λc12=>
 Zf (Qj (Z7 (Z7 (Zc t29) 0) 1) 2) λqb=>
 let t13:=(.ptr (Zb Ua) 0);let D9:=(Zv Ua (.cells Xf))
 Za (storeT Zh base 19 D9 t13 cz) λD6=>
 k (z2 (Ze (g2 S))<| Uh qb<| Iv c12<| Zu 15 S) D6)
 (Zi (Zi (Zd λS H k=>
 Za (Ja .int (Zc (J9 S)) (tN 0)) λt34=>
 k (Uh (Ze (J9 S))<| Te t34<| Zu 15 S) H)
 (Z1 (λS=>some (Em S))
 (Zd λS H k=>
 lA Zh base 19 H (g8 S) λt35 Iq=>
 Za (Yf 1 [0,1] [Zg (Zg (g9 S)),Zg (Zg (Jj S))] (Y5 [.v (.int .u64 (.ofNat 0))] 2)) λc17=>
 Za (Zm call 112 [Zg t35,Zg (.row .full (.own 101) 1 c17)] Iq) λt39=>
 k (z9 (Zg (g9 S))<| Uh t39<| Iv (Zg (Jj S))<| Zu 15 S) Iq)
 (Zn .normal)))
 (Zi (Zi (Zd λS H k=>
 Za (Jc .int (Zc (J9 S)) (tN 0)) λt41=>
 k (Uh (Ze (J9 S))<| Cn t41<| Zu 15 S) H)
 (Z1 (λS=>some (Iz S))
 (Zi (Zd λS H k=>
 sA Zh base 19 H (g8 S) λt42 Mu=>
 Za (storeT Zh base 19 Mu (g4 S) t42) λMn=>
 k (z5 Xp<| z6 Xp<| z7 (J9 S)<| Uh (Qu (J9 S))<| Zu 15 S) Mn)
 (Zn .ret))
 (Zn .normal)))
 (Zi (Zd λS H k=>
 sA Zh base 19 H (g8 S) λt44 P7=>
 sA Zh base 19 P7 (g8 S) λt45 O4=>
 Zp (Z2 X3 O4)<|
 Qo call (Zb O4) 113 [Zg t45,Zg (Zg (g1 S))] O4 λt47 Bo=>
 sA Zh base 19 Bo (Zr (g8 S)) λt48 Ar=>
 Zp (Z2 X3 Ar)<|
 Qo call (Zb Ar) 113 [Zg t48,Zg (Zg (Zr (g2 S)))] Ar λt50 Tl=>
 Za (storeT Zh base 19 Tl (Zr (g4 S)) (Zr t44)) λNu=>
 k (z1 (Zg (g1 S))<| z2 (Zg (Zr (g2 S)))<| z5 (Zr t47)<| z6 t50<| z7 (tN 0)<| Zu 15 S) Nu)
 (Zn .ret))))))))
def F121:Ji:=λcall Zh l H=>Za (C121 call Zh (Zb H) (Zl l 0,Zl l 1,Zl l 2,Zl l 3,Zl l 6,Zl l 7,Zl l 8,Zl l 9,Zl l 10,Zl l 11,Zl l 12,Zl l 14,Zl l 23,Zl l 34,Zl l 41,()) H) λp=>Xr p.1 (loadT .take Zh (Zb p.2.2) true 19 p.2.2 p.2.1.2.2.2.2.1 λr0 h0=>Zp (Z2 Qk [r0,p.2.1.2.2.2.2.2.1,p.2.1.2.2.2.2.2.2.1,p.2.1.2.2.2.2.2.2.2.1]) (some (Xm (Zb H) (.Xh [r0,p.2.1.2.2.2.2.2.1,p.2.1.2.2.2.2.2.2.1,p.2.1.2.2.2.2.2.2.2.1]) h0)))
theorem Ztq:Jr P TC 121 F121:=λ_ _ _ _=>by kernel_rfl
def C124 (call:Z3) (Zh base:Nat):Z4 (TV×TV×TV×TV×TV×TV×TV×TV×TV×TV×TV×TV×TV×TV×TV×TV×Unit):=
 (Zi (Zd λS H k=>
 Zp (Yu S.1)<|
 let t4:=(.ptr (Zb H) 0);let H0:=(Zv H (.cells (Zy S.1)))
 k (z0 (Qu S.1)<| z4 t4<| z5 Xp<| z6 (tN 0)<| Zu 16 S) H0)
 (Zi (Zd λS H k=>
 sA Zh base 3 H (g4 S) λt16 H1=>
 Qo call Zh 121 [Zg t16,Zg (Zg (g1 S)),Zg (Zg (g2 S))] H1 λt19 H2=>
 Zf (Qj (Zc t19) 0) λc3=>
 Zf (Qj (Z7 (Zc t19) 0) 1) λc4=>
 Zf (Qj (Z7 (Z7 (Zc t19) 0) 1) 2) λc5=>
 Zf (Qj (Z7 (Z7 (Z7 (Zc t19) 0) 1) 2) 3) λc6=>
 let t10:=(.ptr (Zb H2) 0);let H7:=(Zv H2 (.cells Xf))
 Za (storeT Zh base 19 H7 t10 c3) λH8=>
 k (z1 (Zg (g1 S))<| z2 (Zg (g2 S))<| z7 t10<| z8 c4<| z9 c5<| Uh c6<| Zu 16 S) H8)
 (Zi (Zi (Zd λS H k=>
 Za (Jc .int (Zc (J9 S)) (tN 0)) λt25=>
 k (Uh (Ze (J9 S))<| Oj t25<| Zu 16 S) H)
 (Z1 (λS=>some (Dn S))
 (Zi (Zd λS H k=>
 k (z5 Xp<| z6 (J9 S)<| Uh (Qu (J9 S))<| Zu 16 S) H)
 (Zn .ret))
 (Zn .normal)))
 (Zi (Zi (Zd λS H k=>
 Za (Kn (Zc (g8 S))) λt28=>
 k (z8 (Ze (g8 S))<| Te t28<| Cn (tN 0)<| Zu 16 S) H)
 (Z9 0 (Ym (Zi (Zd λS H k=>
 Za (b2 Xg (Iz S) (Em S)) λt30=>
 k (zb t30<| Zu 16 S) H)
 (Zi (Z1 (λS=>some (Ra S))
 (Zn .normal)
 (Zn (.exit 0)))
 (Zi (Z9 1 (Zi (Zd λS H k=>
 k (Iv (Iz S)<| Cn (Qu (Iz S))<| Zu 16 S) H)
 (Zd λS H k=>
 Xb 1 false (g8 S) H λc9 H9=>
 Za (Qh 1 (Zc (Zr c9)) (Zc (Ze (Zr (Jj S))))) λt37=>
 sF Zh base H9 t37 λt38 Ua=>
 Za (Qh 1 (Zc (Zr (g9 S))) (Zc (Ze (Ze (Zr (Jj S)))))) λt41=>
 sF Zh base Ua t41 λt42 Gj=>
 Xd TC call Zh (Zc (Zr (g3 S))) [Zg t38,Zg t42] Gj λt43 Uy=>
 Xb 1 false (Zr c9) Uy λqb Ea=>
 Za (Qh 1 qb (Zr (Zc (Zr (Jj S))))) λt44=>
 Za (storeT Zh base 1 Ea t44 (Zr t43)) λD9=>
 k (z3 (Ze (Zr (g3 S)))<| z8 (Ze (Zr c9))<| z9 (Ze (Zr (g9 S)))<| Iv (Ze (Ze (Ze (Zr (Jj S)))))<| Zu 16 S) D9)))
 (Zd λS H k=>
 Za (b2 Z0 (Iz S) (tN 1)) λt45=>
 k (Cn t45<| Zu 16 S) H)))) fuel)))
 (Zi (Zd λS H k=>
 lA Zh base 19 H (g7 S) λt46 D6=>
 Za (Zm call 169 [Zg t46,Zg (Zc (g8 S))] D6) λt48=>
 k (z5 t48<| z6 (tN 0)<| z8 (Ze (g8 S))<| Zu 16 S) D6)
 (Zn .ret))))))
def F124:Ji:=λcall Zh l H=>Za (C124 call Zh (Zb H) (Zl l 0,Zl l 1,Zl l 2,Zl l 3,Zl l 4,Zl l 8,Zl l 9,Zl l 10,Zl l 11,Zl l 12,Zl l 13,Zl l 14,Zl l 25,Zl l 28,Zl l 29,Zl l 30,()) H) λp=>Xr p.1 (Zp (Z2 Qk [p.2.1.2.2.2.2.2.1,p.2.1.2.2.2.2.2.2.1]) (some (Xm (Zb H) (.Xh [p.2.1.2.2.2.2.2.1,p.2.1.2.2.2.2.2.2.1]) p.2.2)))
theorem Ztp:Jr P TC 124 F124:=λ_ _ _ _=>by kernel_rfl
def C125 (call:Z3) (Zh base:Nat):Z4 (TV×TV×TV×Unit):=
 (Zi (Zd λS H k=>
 k (z2 (tN 0)<| Zu 3 S) H)
 (Zi (Zd λS H k=>
 Za (b2 (Y0 false) (Zc S.1) (Zc (g1 S))) λc0=>
 Zp (ie c0)<|
 k (z0 (Ze S.1)<| z1 (Ze (g1 S))<| z2 c0<| Zu 3 S) H)
 (Zn .ret)))
def F125:Ji:=λcall Zh l H=>Za (C125 call Zh (Zb H) (Zl l 0,Zl l 1,Zl l 4,()) H) λp=>Xr p.1 (Zp (Z2 Qk [p.2.1.2.2.1]) (some (Xm (Zb H) p.2.1.2.2.1 p.2.2)))
theorem Zto:Jr P TC 125 F125:=λ_ _ _ _=>by kernel_rfl
def C127 (call:Z3) (Zh base:Nat):Z4 (TV×TV×TV×Unit):=
 (Zi (Zd λS H k=>
 k (z2 (tN 0)<| Zu 3 S) H)
 (Zi (Zd λS H k=>
 Za (b2 (Y0 true) (Zc S.1) (Zc (g1 S))) λc0=>
 Zp (ie c0)<|
 k (z0 (Ze S.1)<| z1 (Ze (g1 S))<| z2 c0<| Zu 3 S) H)
 (Zn .ret)))
def F127:Ji:=λcall Zh l H=>Za (C127 call Zh (Zb H) (Zl l 0,Zl l 1,Zl l 4,()) H) λp=>Xr p.1 (Zp (Z2 Qk [p.2.1.2.2.1]) (some (Xm (Zb H) p.2.1.2.2.1 p.2.2)))
theorem Ztn:Jr P TC 127 F127:=λ_ _ _ _=>by kernel_rfl
def C128 (call:Z3) (Zh base:Nat):Z4 (TV×TV×TV×TV×TV×TV×TV×TV×TV×TV×TV×TV×TV×Unit):=
 (Zi (Zd λS H k=>
 Zp (Yu S.1)<|
 let t1:=(.ptr (Zb H) 0);let H0:=(Zv H (.cells (Zy S.1)))
 k (z0 (Qu S.1)<| z1 t1<| z2 (tB false)<| Zu 13 S) H0)
 (Zi (Zd λS H k=>
 Za (Zw (g1 S) 0) λt9=>
 lF Zh base H t9 λt10 H1=>
 Za (Zw (g1 S) 1) λt11=>
 lF Zh base H1 t11 λt12 H2=>
 Za (b2 Y2 t10 t12) λt13=>
 Za (b2 Y8 (.v (.int .u64 (.ofNat 1))) t13) λt14=>
 Za (b2 Qq t14 (.v (.int .u64 (.ofNat 1)))) λt15=>
 Za (Zw (g1 S) 2) λt16=>
 lF Zh base H2 t16 λt17 H3=>
 Za (b2 Y6 t15 t17) λt18=>
 k (z3 t18<| z4 (.v (.int .u64 (.ofNat 0)))<| Zu 13 S) H3)
 (Zi (Zi (Zd λS H k=>
 Za (Zm call 100 [Zg (Zc (g3 S))] H) λt20=>
 Za (Kn t20) λt21=>
 k (z3 (Ze (g3 S))<| z8 t20<| z9 t21<| Uh (tN 0)<| Zu 13 S) H)
 (Z9 0 (Ym (Zi (Zd λS H k=>
 Za (b2 Xg (J9 S) (g9 S)) λt23=>
 k (Iv t23<| Zu 13 S) H)
 (Zi (Z1 (λS=>some (Jj S))
 (Zn .normal)
 (Zn (.exit 0)))
 (Zi (Z9 1 (Zi (Zd λS H k=>
 Za (Qh 1 (g8 S) (J9 S)) λt24=>
 sF Zh base H t24 λt25 H4=>
 k (z5 t25<| Zu 13 S) H4)
 (Zi (Zd λS H k=>
 Za (Zw (g1 S) 0) λt27=>
 lF Zh base H t27 λt28 H5=>
 Za (b2 Y1 (Zc (g5 S)) t28) λt29=>
 Za (Zw (g1 S) 0) λt31=>
 lF Zh base H5 t31 λt32 H6=>
 Za (b2 Jp (Zc (Ze (g5 S))) t32) λt33=>
 k (z5 (Ze (Ze (g5 S)))<| z6 t29<| z7 t33<| Zu 13 S) H6)
 (Zi (Zd λS H k=>
 Za (Zw (g1 S) 0) λt36=>
 lF Zh base H t36 λt37 H7=>
 Za (b2 Qq t37 (tN 1)) λt38=>
 Za (b2 Qq t38 (Zc (Ze (g6 S)))) λt40=>
 Za (Zw (g1 S) 1) λt41=>
 lF Zh base H7 t41 λt42 H8=>
 Za (b2 Qq t42 (tN 1)) λt43=>
 Za (b2 Qq t43 (Zc (Ze (g7 S)))) λt45=>
 Za (b2 (Y0 false) (Zc (g6 S)) (Zc (g7 S))) λc9=>
 Za (b2 (Y0 false) c9 t40) λc10=>
 Za (b2 (Y0 false) c10 t45) λcz=>
 Zp (ie cz)<|
 Za (Ja .int cz (tN 0)) λt47=>
 k (z6 (Ze (Ze (g6 S)))<| z7 (Ze (Ze (g7 S)))<| Oj t47<| Zu 13 S) H8)
 (Z1 (λS=>some (Dn S))
 (Zd λS H k=>
 Za (b2 Y8 (.v (.int .u64 (.ofNat 1))) (Zc (g5 S))) λt50=>
 Za (b2 Ep (Zc (g4 S)) t50) λt51=>
 k (z4 t51<| z5 (Ze (g5 S))<| Zu 13 S) H)
 (Zn .normal))))))
 (Zd λS H k=>
 Za (b2 Z0 (J9 S) (tN 1)) λt52=>
 k (Uh t52<| Zu 13 S) H)))) fuel)))
 (Zi (Zd λS H k=>
 Za (Zw (g1 S) 2) λt53=>
 lF Zh base H t53 λt54 Uy=>
 Za (Jc .int t54 (.v (.int .u64 (.ofNat 0)))) λt55=>
 gB t55 true (Zw (g1 S) 2) Uy λt57 Ea=>
 Qp (Zc t55) true (lF Zh base Ea t57 λIz D9=>Qr Iz D9) Ea λt58 D6=>
 gB t55 true (Zw (g1 S) 2) D6 λt59 Iq=>
 Qp (Zc t55) true (lF Zh base Iq t59 λBi Mw=>Qr Bi Mw) Iq λt60 Mu=>
 gB t55 true (b1 Cg t60) Mu λt61 Mn=>
 gB t55 true (b2 Km t58 t61) Mn λt62 P7=>
 gB t55 true (Zw (g1 S) 2) P7 λt63 O4=>
 Qp (Zc t55) true (sF Zh base O4 t63 λuw Bo=>Qr uw Bo) O4 λt64 Ar=>
 Qp (Zc t55) true (Zp (Z2 pass [Zg (g1 S)])<| Qr (.fn (.func 171) [] [Zg (g1 S)]) Ar) Ar λt65 Tl=>
 Zp (Z2 X3 Tl)<|
 Qp (Zc t55) true (Qo call (Zb Tl) 170 [Zg t62,Zg t64,Zg t65] Tl λg25 Nu=>Qr g25 Nu) Tl λt66 o9=>
 gB t55 true (Zw (Zr (Zg (g1 S))) 2) o9 λt67 wy=>
 Qp (Zc t55) true (lF Zh base wy t67 λg28 fp=>Qr g28 fp) wy λt68 nh=>
 gB t55 true (Ja .int t66 t68) nh λt69 w9=>
 Za (Xa (Zr (Zc t55)) (Zg t69) (tB false)) λt70=>
 gV t70 true (Zg (Zr (g4 S))) w9 λt72 ng=>
 gV t70 true (Zg (Zr (g3 S))) ng λt73 o8=>
 Qp (Zc t70) true (sA Zh base 19 o8 (Zr (Zg (g1 S))) λg33 o7=>Qr g33 o7) o8 λt74 H34=>
 Qp (Zc t70) true (Zp (Z2 pass [Zg t74])<| Qr (.fn (.func 172) [Zg t74] []) H34) H34 λt75 H35=>
 Qp (Zc t70) true (Qo call Zh 170 [Zg t72,Zg t73,Zg t75] H35 λg36 H36=>Qr g36 H36) H35 λt76 H37=>
 gV t70 true (Zc (Zr (Zg (Zr (g3 S))))) H37 λt77 H38=>
 gB t70 true (Ja .int t76 t77) H38 λt78 H39=>
 Za (Xa (Zr (Zc t70)) (Zg t78) (tB false)) λt79=>
 k (z1 (Zg (g1 S))<| z2 t79<| z3 (Ze (Zr (Zg (Zr (g3 S)))))<| z4 (Zg (Zr (g4 S)))<| Zu 13 S) H39)
 (Zn .ret)))))
def F128:Ji:=λcall Zh l H=>Za (C128 call Zh (Zb H) (Zl l 0,Zl l 1,Zl l 2,Zl l 3,Zl l 4,Zl l 6,Zl l 7,Zl l 8,Zl l 20,Zl l 21,Zl l 22,Zl l 23,Zl l 47,()) H) λp=>Xr p.1 (Zp (Z2 Qk [p.2.1.2.2.1]) (some (Xm (Zb H) p.2.1.2.2.1 p.2.2)))
theorem Ztm:Jr P TC 128 F128:=λ_ _ _ _=>by kernel_rfl
def C132 (call:Z3) (Zh base:Nat):Z4 (TV×TV×TV×TV×TV×TV×TV×TV×Unit):=
 (Zi (Zd λS H k=>
 Zp (Yu S.1)<|
 let t3:=(.ptr (Zb H) 0);let H0:=(Zv H (.cells (Zy S.1)))
 Zp (Yu (g2 S))<|
 let t5:=(.ptr (Zb H0) 0);let H1:=(Zv H0 (.cells (Zy (g2 S))))
 k (z0 (Qu S.1)<| z2 (Qu (g2 S))<| z3 t3<| z4 t5<| Zu 8 S) H1)
 (Zi (Zd λS H k=>
 lA Zh base 3 H (g3 S) λt9 H2=>
 Za (Zm call 63 [Zg t9] H2) λt10=>
 let t6:=(.ptr (Zb H2) 0);let H3:=(Zv H2 (.cells [Xp]))
 Za (storeT Zh base 1 H3 t6 t10) λH4=>
 k (z5 t6<| Zu 8 S) H4)
 (Zi (Zd λS H k=>
 lA Zh base 3 H (g3 S) λt11 H5=>
 Za (Zm call 56 [Zg t11] H5) λt12=>
 let t7:=(.ptr (Zb H5) 0);let H6:=(Zv H5 (.cells [Xp]))
 Za (storeT Zh base 1 H6 t7 t12) λH7=>
 k (z6 t7<| Zu 8 S) H7)
 (Zi (Zd λS H k=>
 let t8:=(.ptr (Zb H) 0);let H8:=(Zv H (.cells [.v .nilFunc]))
 k (z7 t8<| Zu 8 S) H8)
 (Zi (Zd λS H k=>
 Zp (Z2 pass [Zg (g6 S),Zg (g4 S),Zg (g7 S),Zg (g5 S)])<|
 Za (storeT Zh base 1 H (Zg (g7 S)) (.fn (.func 175) [] [Zg (g6 S),Zg (g4 S),Zg (g7 S),Zg (g5 S)])) λH9=>
 k (z4 (Zg (g4 S))<| z5 (Zg (g5 S))<| z6 (Zg (g6 S))<| z7 (Zg (g7 S))<| Zu 8 S) H9)
 (Zd λS H k=>
 lF Zh base H (g7 S) λt14 Ua=>
 Xd TC call Zh t14 [tN 0,Zg (Zg (g1 S)),.v (.int .u64 (.ofNat 0)),Xp] Ua λt16 Gj=>
 k (z1 (Zg (g1 S))<| Zu 8 S) Gj))))))
def F132:Ji:=λcall Zh l H=>Za (C132 call Zh (Zb H) (Zl l 0,Zl l 1,Zl l 2,Zl l 3,Zl l 5,Zl l 6,Zl l 7,Zl l 8,()) H) λp=>Xr p.1 (Zp (Z2 Qk []) (some (Xm (Zb H) (.Xh []) p.2.2)))
theorem Ztl:Jr P TC 132 F132:=λ_ _ _ _=>by kernel_rfl
def C133 (call:Z3) (Zh base:Nat):Z4 (TV×TV×Unit):=
 (Zd λS H k=>
 loadT .take Zh base false 1 H (g1 S) λt3 H0=>
 Za (Yf 1 [0] [Zg (Zg S.1)] (Y5 [Xp] 1)) λc1=>
 X6 Zh H0 31 1 24 t3 (.row .full (.own 31) 1 c1) λt6 H2=>
 Za (storeT Zh base 1 H2 (Zr (g1 S)) t6) λH3=>
 k (z0 (Zg S.1)<| Zu 2 S) H3)
def F133:Ji:=λcall Zh l H=>Za (C133 call Zh (Zb H) (Zl l 0,Zl l 1,()) H) λp=>Xr p.1 (Zp (Z2 Qk []) (some (Xm (Zb H) (.Xh []) p.2.2)))
theorem Ztk:Jr P TC 133 F133:=λ_ _ _ _=>by kernel_rfl
def C134 (call:Z3) (Zh base:Nat):Z4 (TV×TV×TV×TV×TV×TV×TV×TV×Unit):=
 (Zi (Zd λS H k=>
 k (z2 (tN 0)<| Zu 8 S) H)
 (Zi (Zi (Zd λS H k=>
 Za (Kn (Zc S.1)) λt7=>
 k (z0 (Ze S.1)<| z4 t7<| z5 (tN 0)<| Zu 8 S) H)
 (Z9 0 (Ym (Zi (Zd λS H k=>
 Za (b2 Xg (g5 S) (g4 S)) λt9=>
 k (z6 t9<| Zu 8 S) H)
 (Zi (Z1 (λS=>some (g6 S))
 (Zn .normal)
 (Zn (.exit 0)))
 (Zi (Z9 1 (Zi (Zd λS H k=>
 k (z3 (g5 S)<| z5 (Qu (g5 S))<| Zu 8 S) H)
 (Zi (Zd λS H k=>
 Za (Qh 2 (Zc S.1) (Zc (g3 S))) λt14=>
 sA Zh base 2 H t14 λt15 H0=>
 Xd TC call Zh (Zc (g1 S)) [Zg t15] H0 λt16 H1=>
 k (z0 (Ze S.1)<| z1 (Ze (g1 S))<| z3 (Ze (g3 S))<| z7 t16<| Zu 8 S) H1)
 (Z1 (λS=>some (g7 S))
 (Zi (Zd λS H k=>
 k (z2 (g3 S)<| z3 (Qu (g3 S))<| Zu 8 S) H)
 (Zn .ret))
 (Zn .normal)))))
 (Zd λS H k=>
 Za (b2 Z0 (g5 S) (tN 1)) λt18=>
 k (z5 t18<| Zu 8 S) H)))) fuel)))
 (Zi (Zd λS H k=>
 k (z2 (.v (.int .i64 (.negSucc 0)))<| Zu 8 S) H)
 (Zn .ret))))
def F134:Ji:=λcall Zh l H=>Za (C134 call Zh (Zb H) (Zl l 0,Zl l 1,Zl l 4,Zl l 5,Zl l 7,Zl l 8,Zl l 9,Zl l 16,()) H) λp=>Xr p.1 (Zp (Z2 Qk [p.2.1.2.2.1]) (some (Xm (Zb H) p.2.1.2.2.1 p.2.2)))
theorem Ztj:Jr P TC 134 F134:=λ_ _ _ _=>by kernel_rfl
def C135 (call:Z3) (Zh base:Nat):Z4 (TV×TV×TV×TV×TV×TV×TV×TV×TV×Unit):=
 (Zi (Zd λS H k=>
 Zp (Yu (g1 S))<|
 let t3:=(.ptr (Zb H) 0);let H0:=(Zv H (.cells (Zy (g1 S))))
 k (z1 (Qu (g1 S))<| z2 t3<| z3 (tN 0)<| Zu 9 S) H0)
 (Zi (Zi (Zd λS H k=>
 Za (Kn (Zc S.1)) λt7=>
 k (z0 (Ze S.1)<| z5 t7<| z6 (tN 0)<| Zu 9 S) H)
 (Z9 0 (Ym (Zi (Zd λS H k=>
 Za (b2 Xg (g6 S) (g5 S)) λt9=>
 k (z7 t9<| Zu 9 S) H)
 (Zi (Z1 (λS=>some (g7 S))
 (Zn .normal)
 (Zn (.exit 0)))
 (Zi (Z9 1 (Zi (Zd λS H k=>
 k (z4 (g6 S)<| z6 (Qu (g6 S))<| Zu 9 S) H)
 (Zi (Zd λS H k=>
 lA Zh base 2 H (g2 S) λt11 H1=>
 Za (Qh 2 (Zc S.1) (Zc (g4 S))) λt14=>
 lA Zh base 2 H1 t14 λt15 H2=>
 Za (Ja (.ints 2) t11 t15) λt16=>
 k (z0 (Ze S.1)<| z4 (Ze (g4 S))<| z8 t16<| Zu 9 S) H2)
 (Z1 (λS=>some (g8 S))
 (Zi (Zd λS H k=>
 k (z3 (g4 S)<| z4 (Qu (g4 S))<| Zu 9 S) H)
 (Zn .ret))
 (Zn .normal)))))
 (Zd λS H k=>
 Za (b2 Z0 (g6 S) (tN 1)) λt18=>
 k (z6 t18<| Zu 9 S) H)))) fuel)))
 (Zi (Zd λS H k=>
 k (z3 (.v (.int .i64 (.negSucc 0)))<| Zu 9 S) H)
 (Zn .ret))))
def F135:Ji:=λcall Zh l H=>Za (C135 call Zh (Zb H) (Zl l 0,Zl l 1,Zl l 3,Zl l 4,Zl l 5,Zl l 7,Zl l 8,Zl l 9,Zl l 16,()) H) λp=>Xr p.1 (Zp (Z2 Qk [p.2.1.2.2.2.1]) (some (Xm (Zb H) p.2.1.2.2.2.1 p.2.2)))
theorem Zti:Jr P TC 135 F135:=λ_ _ _ _=>by kernel_rfl
def C136 (call:Z3) (Zh base:Nat):Z4 (TV×TV×TV×TV×TV×TV×TV×TV×TV×TV×Unit):=
 (Zi (Zd λS H k=>
 k (z1 Xp<| Zu 10 S) H)
 (Zi (Zi (Zd λS H k=>
 Za (Kn (Zc S.1)) λt7=>
 Za (b2 Xg t7 (tN 2)) λt8=>
 k (z0 (Ze S.1)<| z5 t8<| Zu 10 S) H)
 (Z1 (λS=>some (g5 S))
 (Zi (Zd λS H k=>
 k (z0 (Qu S.1)<| z1 S.1<| Zu 10 S) H)
 (Zn .ret))
 (Zn .normal)))
 (Zi (Zi (Zd λS H k=>
 k (z2 (tN 1)<| Zu 10 S) H)
 (Z9 0 (Ym (Zi (Zi (Zd λS H k=>
 Za (Kn (Zc S.1)) λt12=>
 Za (b2 Xg (Zc (g2 S)) t12) λt13=>
 k (z0 (Ze S.1)<| z2 (Ze (g2 S))<| z6 t13<| Zu 10 S) H)
 (Z1 (λS=>some (g6 S))
 (Zn .normal)
 (Zn (.exit 0))))
 (Zi (Z9 1 (Zi (Zd λS H k=>
 Za (Qh 2 (Zc S.1) (Zc (g2 S))) λt18=>
 lA Zh base 2 H t18 λt19 H0=>
 Za (b2 Qq (Zc (Ze (g2 S))) (tN 1)) λt22=>
 Za (Qh 2 (Zc (Ze S.1)) t22) λt23=>
 lA Zh base 2 H0 t23 λt24 H1=>
 Za (Ja (.ints 2) t19 t24) λt25=>
 k (z0 (Ze (Ze S.1))<| z2 (Ze (Ze (g2 S)))<| z7 t25<| Zu 10 S) H1)
 (Z1 (λS=>some (g7 S))
 (Zi (Zd λS H k=>
 Za (Ao 2 (Zc S.1) (some (Zc (g2 S))) none none) λt28=>
 k (z0 (Ze S.1)<| z2 (Ze (g2 S))<| z3 t28<| Zu 10 S) H)
 (Zi (Zi (Zd λS H k=>
 k (z4 (tN 1)<| Zu 10 S) H)
 (Z9 2 (Ym (Zi (Zi (Zd λS H k=>
 Za (Kn (Zc (g3 S))) λt31=>
 Za (b2 Xg (Zc (g4 S)) t31) λt32=>
 k (z3 (Ze (g3 S))<| z4 (Ze (g4 S))<| z8 t32<| Zu 10 S) H)
 (Z1 (λS=>some (g8 S))
 (Zn .normal)
 (Zn (.exit 2))))
 (Zi (Z9 3 (Zi (Zd λS H k=>
 Za (Qh 2 (Zc (g3 S)) (Zc (g4 S))) λt37=>
 lA Zh base 2 H t37 λt38 H2=>
 Za (b2 Qq (Zc (Ze (g4 S))) (tN 1)) λt41=>
 Za (Qh 2 (Zc (Ze (g3 S))) t41) λt42=>
 lA Zh base 2 H2 t42 λt43 H3=>
 Za (Jc (.ints 2) t38 t43) λt44=>
 k (z3 (Ze (Ze (g3 S)))<| z4 (Ze (Ze (g4 S)))<| z9 t44<| Zu 10 S) H3)
 (Z1 (λS=>some (g9 S))
 (Zi (Zd λS H k=>
 Xb 2 true S.1 H λc4 H4=>
 Za (Qh 2 (Zc (Zr (g3 S))) (Zc (Zr (g4 S)))) λt49=>
 sA Zh base 2 H4 t49 λt50 H5=>
 Xb 2 true c4 H5 λc6 H6=>
 Za (Qh 2 c6 (Zc (Zr (g2 S)))) λt51=>
 Za (storeT Zh base 2 H6 t51 (Zr t50)) λH7=>
 k (z0 c4<| z2 (Ze (Zr (g2 S)))<| z3 (Ze (Zr (g3 S)))<| z4 (Ze (Zr (g4 S)))<| Zu 10 S) H7)
 (Zd λS H k=>
 Za (b2 Z0 (Zc (g2 S)) (tN 1)) λt53=>
 k (z2 t53<| Zu 10 S) H))
 (Zn .normal))))
 (Zd λS H k=>
 Za (b2 Z0 (Zc (g4 S)) (tN 1)) λt34=>
 k (z4 t34<| Zu 10 S) H))) fuel)))
 (Zi (Zd λS H k=>
 Za (Ao 2 (Zc S.1) (some (Zc (g2 S))) none none) λt56=>
 Xb 2 true t56 H λc8 H8=>
 Zp (gj c8 2)<|
 Za (Fg Zh H8 Vy c8) λH9=>
 k (z0 (Ze S.1)<| z2 (Ze (g2 S))<| Zu 10 S) H9)
 (Zi (Zd λS H k=>
 Za (Ao 2 (Zc S.1) none (some (Zc (g2 S))) none) λt59=>
 k (z0 (Ze S.1)<| z1 t59<| z2 (Ze (g2 S))<| Zu 10 S) H)
 (Zn .ret)))))
 (Zn .normal))))
 (Zd λS H k=>
 Za (b2 Z0 (Zc (g2 S)) (tN 1)) λt15=>
 k (z2 t15<| Zu 10 S) H))) fuel)))
 (Zi (Zd λS H k=>
 k (z0 (Qu S.1)<| z1 S.1<| Zu 10 S) H)
 (Zn .ret)))))
def F136:Ji:=λcall Zh l H=>Za (C136 call Zh (Zb H) (Zl l 0,Zl l 2,Zl l 3,Zl l 4,Zl l 5,Zl l 8,Zl l 13,Zl l 25,Zl l 32,Zl l 44,()) H) λp=>Xr p.1 (Zp (Z2 Qk [p.2.1.2.1]) (some (Xm (Zb H) p.2.1.2.1 p.2.2)))
theorem Zth:Jr P TC 136 F136:=λ_ _ _ _=>by kernel_rfl
def C137 (call:Z3) (Zh base:Nat):Z4 (TV×TV×TV×TV×TV×TV×TV×TV×Unit):=
 (Zi (Zd λS H k=>
 k (z2 (tN 0)<| Zu 8 S) H)
 (Zi (Zi (Zd λS H k=>
 Za (Kn (Zc S.1)) λt7=>
 k (z0 (Ze S.1)<| z4 t7<| z5 (tN 0)<| Zu 8 S) H)
 (Z9 0 (Ym (Zi (Zd λS H k=>
 Za (b2 Xg (g5 S) (g4 S)) λt9=>
 k (z6 t9<| Zu 8 S) H)
 (Zi (Z1 (λS=>some (g6 S))
 (Zn .normal)
 (Zn (.exit 0)))
 (Zi (Z9 1 (Zi (Zd λS H k=>
 k (z3 (g5 S)<| z5 (Qu (g5 S))<| Zu 8 S) H)
 (Zi (Zd λS H k=>
 Za (Qh 1 (Zc S.1) (Zc (g3 S))) λt14=>
 lF Zh base H t14 λt15 H0=>
 Za (Ja .int (Zc (g1 S)) t15) λt16=>
 k (z0 (Ze S.1)<| z1 (Ze (g1 S))<| z3 (Ze (g3 S))<| z7 t16<| Zu 8 S) H0)
 (Z1 (λS=>some (g7 S))
 (Zi (Zd λS H k=>
 k (z2 (g3 S)<| z3 (Qu (g3 S))<| Zu 8 S) H)
 (Zn .ret))
 (Zn .normal)))))
 (Zd λS H k=>
 Za (b2 Z0 (g5 S) (tN 1)) λt18=>
 k (z5 t18<| Zu 8 S) H)))) fuel)))
 (Zi (Zd λS H k=>
 k (z2 (.v (.int .i64 (.negSucc 0)))<| Zu 8 S) H)
 (Zn .ret))))
def F137:Ji:=λcall Zh l H=>Za (C137 call Zh (Zb H) (Zl l 0,Zl l 1,Zl l 4,Zl l 5,Zl l 7,Zl l 8,Zl l 9,Zl l 16,()) H) λp=>Xr p.1 (Zp (Z2 Qk [p.2.1.2.2.1]) (some (Xm (Zb H) p.2.1.2.2.1 p.2.2)))
theorem Ztg:Jr P TC 137 F137:=λ_ _ _ _=>by kernel_rfl
def Zf1 (call:Z3) (Zh base:Nat):Z4 (TV×TV×TV×TV×TV×TV×TV×TV×Unit):=
 (Zi (Zd λS H k=>
 k (z2 (tN 0)<| Zu 8 S) H)
 (Zi (Zi (Zd λS H k=>
 Za (Kn (Zc S.1)) λt7=>
 k (z0 (Ze S.1)<| z4 t7<| z5 (tN 0)<| Zu 8 S) H)
 (Z9 0 (Ym (Zi (Zd λS H k=>
 Za (b2 Xg (g5 S) (g4 S)) λt9=>
 k (z6 t9<| Zu 8 S) H)
 (Zi (Z1 (λS=>some (g6 S))
 (Zn .normal)
 (Zn (.exit 0)))
 (Zi (Z9 1 (Zi (Zd λS H k=>
 k (z3 (g5 S)<| z5 (Qu (g5 S))<| Zu 8 S) H)
 (Zi (Zd λS H k=>
 Za (Qh 1 (Zc S.1) (Zc (g3 S))) λt14=>
 sF Zh base H t14 λt15 H0=>
 Xd TC call Zh (Zc (g1 S)) [Zg t15] H0 λt16 H1=>
 k (z0 (Ze S.1)<| z1 (Ze (g1 S))<| z3 (Ze (g3 S))<| z7 t16<| Zu 8 S) H1)
 (Z1 (λS=>some (g7 S))
 (Zi (Zd λS H k=>
 k (z2 (g3 S)<| z3 (Qu (g3 S))<| Zu 8 S) H)
 (Zn .ret))
 (Zn .normal)))))
 (Zd λS H k=>
 Za (b2 Z0 (g5 S) (tN 1)) λt18=>
 k (z5 t18<| Zu 8 S) H)))) fuel)))
 (Zi (Zd λS H k=>
 k (z2 (.v (.int .i64 (.negSucc 0)))<| Zu 8 S) H)
 (Zn .ret))))
def Zfw:Ji:=λcall Zh l H=>Za (Zf1 call Zh (Zb H) (Zl l 0,Zl l 1,Zl l 4,Zl l 5,Zl l 7,Zl l 8,Zl l 9,Zl l 16,()) H) λp=>Xr p.1 (Zp (Z2 Qk [p.2.1.2.2.1]) (some (Xm (Zb H) p.2.1.2.2.1 p.2.2)))
theorem Ztf:Jr P TC 138 Zfw:=λ_ _ _ _=>by kernel_rfl
def C139 (call:Z3) (Zh base:Nat):Z4 (TV×TV×TV×TV×Unit):=
 (Zi (Zd λS H k=>
 k (z3 (tN 0)<| Zu 4 S) H)
 (Zi (Zd λS H k=>
 Za (Zw (g1 S) 0) λt6=>
 lF Zh base H t6 λt7 H0=>
 Za (b2 Jp (Zc S.1) t7) λt8=>
 Za (b2 Z0 t8 (tN 1)) λt9=>
 lF Zh base H0 (g2 S) λt10 H1=>
 Za (b2 Y2 t9 t10) λt11=>
 Za (Zw (g1 S) 0) λt13=>
 lF Zh base H1 t13 λt14 H2=>
 Za (b2 Y1 (Zc (Ze S.1)) t14) λt15=>
 Za (b2 Z0 t11 t15) λt16=>
 Za (b2 Z0 t16 (tN 1)) λt17=>
 k (z0 (Ze (Ze S.1))<| z3 t17<| Zu 4 S) H2)
 (Zn .ret)))
def F139:Ji:=λcall Zh l H=>Za (C139 call Zh (Zb H) (Zl l 0,Zl l 1,Zl l 2,Zl l 4,()) H) λp=>Xr p.1 (Zp (Z2 Qk [p.2.1.2.2.2.1]) (some (Xm (Zb H) p.2.1.2.2.2.1 p.2.2)))
theorem Zte:Jr P TC 139 F139:=λ_ _ _ _=>by kernel_rfl
def C140 (call:Z3) (Zh base:Nat):Z4 (TV×TV×TV×TV×Unit):=
 (Zi (Zd λS H k=>
 k (z3 (tB false)<| Zu 4 S) H)
 (Zi (Zd λS H k=>
 lF Zh base H (g1 S) λt5 H0=>
 Zp (Z2 X3 H0)<|
 Xd TC call (Zb H0) t5 [Zg (Zg S.1)] H0 λt7 H1=>
 lF Zh base H1 (Zr (g2 S)) λt8 H2=>
 Za (Ja .int t7 t8) λt9=>
 k (z0 (Zg S.1)<| z3 t9<| Zu 4 S) H2)
 (Zn .ret)))
def F140:Ji:=λcall Zh l H=>Za (C140 call Zh (Zb H) (Zl l 0,Zl l 1,Zl l 2,Zl l 4,()) H) λp=>Xr p.1 (Zp (Z2 Qk [p.2.1.2.2.2.1]) (some (Xm (Zb H) p.2.1.2.2.2.1 p.2.2)))
theorem Ztd:Jr P TC 140 F140:=λ_ _ _ _=>by kernel_rfl
def C141 (call:Z3) (Zh base:Nat):Z4 (TV×TV×TV×TV×TV×TV×TV×TV×TV×TV×TV×TV×TV×TV×Unit):=
 (Zi (Zd λS H k=>
 k (z2 (tB false)<| Zu 14 S) H)
 (Zi (Zd λS H k=>
 Za (Ao 1 (Zc S.1) none (some (tN 1)) (some (tN 1))) λt11=>
 k (z0 (Ze S.1)<| z3 t11<| Zu 14 S) H)
 (Zi (Zi (Zd λS H k=>
 k (z4 (tN 0)<| Zu 14 S) H)
 (Z9 0 (Ym (Zi (Zi (Zd λS H k=>
 Za (Kn (Zc (g3 S))) λt14=>
 Za (b2 Xg (Zc (g4 S)) t14) λt15=>
 k (z3 (Ze (g3 S))<| z4 (Ze (g4 S))<| z8 t15<| Zu 14 S) H)
 (Z1 (λS=>some (g8 S))
 (Zn .normal)
 (Zn (.exit 0))))
 (Zi (Z9 1 (Zi (Zd λS H k=>
 Za (Kn (Zg S.1)) λt19=>
 k (z0 (Zg S.1)<| z9 (Zg S.1)<| Uh t19<| Iv (tN 0)<| Zu 14 S) H)
 (Z9 2 (Ym (Zi (Zd λS H k=>
 Za (b2 Xg (Jj S) (J9 S)) λt21=>
 k (Oj t21<| Zu 14 S) H)
 (Zi (Z1 (λS=>some (Dn S))
 (Zn .normal)
 (Zn (.exit 2)))
 (Zi (Z9 3 (Zi (Zd λS H k=>
 Za (Qh 1 (g9 S) (Jj S)) λt22=>
 sF Zh base H t22 λt23 H0=>
 k (z5 t23<| Zu 14 S) H0)
 (Zi (Zd λS H k=>
 Za (Qh 1 (Zc (g3 S)) (Zc (g4 S))) λt26=>
 lF Zh base H t26 λt27 H1=>
 lF Zh base H1 (g1 S) λt28 H2=>
 Za (b2 Y1 t27 t28) λt29=>
 lF Zh base H2 (g1 S) λt31 H3=>
 Za (b2 Y1 (Zc (g5 S)) t31) λt32=>
 Za (b2 Qq t29 t32) λt33=>
 Za (Qh 1 (Zc (Ze (g3 S))) (Zc (Ze (g4 S)))) λt36=>
 lF Zh base H3 t36 λt37 H4=>
 lF Zh base H4 (g1 S) λt38 H5=>
 Za (b2 Jp t37 t38) λt39=>
 lF Zh base H5 (g1 S) λt41 H6=>
 Za (b2 Jp (Zc (Ze (g5 S))) t41) λt42=>
 Za (b2 Qq t39 t42) λt43=>
 k (z3 (Ze (Ze (g3 S)))<| z4 (Ze (Ze (g4 S)))<| z5 (Ze (Ze (g5 S)))<| z6 t33<| z7 t43<| Zu 14 S) H6)
 (Zi (Zd λS H k=>
 Za (Zm call 64 [Zg (Zc (g3 S)),Zg (Zc (g5 S))] H) λt46=>
 Za (b1 Gh t46) λt47=>
 gV t47 true (Zc (g6 S)) H λt49 H7=>
 gV t47 true (Zc (Ze (g6 S))) H7 λt50 H8=>
 gB t47 true (b2 Y2 t49 t50) H8 λt51 H9=>
 gV t47 true (Zc (g7 S)) H9 λt52 Ua=>
 gV t47 true (Zc (Ze (g7 S))) Ua λt53 Gj=>
 gB t47 true (b2 Y2 t52 t53) Gj λt54 Uy=>
 gB t47 true (b2 Z0 t51 t54) Uy λt55 Ea=>
 gB t47 true (Ja .int t55 (tN 1)) Ea λt56 D9=>
 Za (Xa (Zc t47) (Zg t56) (tB false)) λt57=>
 k (z3 (Ze (g3 S))<| z5 (Ze (g5 S))<| z6 (Ze (Ze (g6 S)))<| z7 (Ze (Ze (g7 S)))<| Te t57<| Zu 14 S) D9)
 (Z1 (λS=>some (Em S))
 (Zd λS H k=>
 Za (Yf 1 [0] [Zg (Zg (g5 S))] (Y5 [tN 0] 1)) λc15=>
 X6 Zh H 3 1 8 (g3 S) (.row .full (.own 3) 1 c15) λt61 Iq=>
 k (z3 t61<| z5 (Zg (g5 S))<| Zu 14 S) Iq)
 (Zn .normal))))))
 (Zd λS H k=>
 Za (b2 Z0 (Jj S) (tN 1)) λt62=>
 k (Iv t62<| Zu 14 S) H)))) fuel))))
 (Zd λS H k=>
 Za (b2 Z0 (Zc (g4 S)) (tN 1)) λt17=>
 k (z4 t17<| Zu 14 S) H))) fuel)))
 (Zi (Zd λS H k=>
 Za (Kn (Zc (g3 S))) λt64=>
 Za (Kn (Zc S.1)) λt66=>
 Za (Ja .int t64 t66) λt67=>
 k (z0 (Ze S.1)<| z2 t67<| z3 (Ze (g3 S))<| Zu 14 S) H)
 (Zn .ret)))))
def F141:Ji:=λcall Zh l H=>Za (C141 call Zh (Zb H) (Zl l 0,Zl l 1,Zl l 3,Zl l 4,Zl l 5,Zl l 7,Zl l 8,Zl l 9,Zl l 15,Zl l 18,Zl l 19,Zl l 20,Zl l 21,Zl l 57,()) H) λp=>Xr p.1 (Zp (Z2 Qk [p.2.1.2.2.1]) (some (Xm (Zb H) p.2.1.2.2.1 p.2.2)))
theorem Ztc:Jr P TC 141 F141:=λ_ _ _ _=>by kernel_rfl
def C142 (call:Z3) (Zh base:Nat):Z4 (TV×TV×Unit):=
 (Zd λS H k=>
 loadT .take Zh base false 1 H (g1 S) λt3 H0=>
 Za (Yf 1 [0] [Zg (Zg S.1)] (Y5 [Xp] 1)) λc1=>
 X6 Zh H0 31 1 24 t3 (.row .full (.own 31) 1 c1) λt6 H2=>
 Za (storeT Zh base 1 H2 (Zr (g1 S)) t6) λH3=>
 k (z0 (Zg S.1)<| Zu 2 S) H3)
def F142:Ji:=λcall Zh l H=>Za (C142 call Zh (Zb H) (Zl l 0,Zl l 1,()) H) λp=>Xr p.1 (Zp (Z2 Qk []) (some (Xm (Zb H) (.Xh []) p.2.2)))
theorem Ztb:Jr P TC 142 F142:=λ_ _ _ _=>by kernel_rfl
def C143 (call:Z3) (Zh base:Nat):Z4 (TV×TV×TV×Unit):=
 (Zi (Zd λS H k=>
 k (z1 Xp<| Zu 3 S) H)
 (Zi (Zi (Zd λS H k=>
 Za (Ja .slice (Zc S.1) Xp) λt4=>
 k (z0 (Ze S.1)<| z2 t4<| Zu 3 S) H)
 (Z1 (λS=>some (g2 S))
 (Zi (Zd λS H k=>
 k (z1 Xp<| Zu 3 S) H)
 (Zn .ret))
 (Zn .normal)))
 (Zi (Zd λS H k=>
 Za (Yf 2 [] [] (Y5 [.agg Vy] 0)) λc0=>
 X6 Zh H 71 2 16 (.row .full (.own 71) 2 c0) (Zc S.1) λt7 H1=>
 k (z0 (Ze S.1)<| z1 t7<| Zu 3 S) H1)
 (Zn .ret))))
def F143:Ji:=λcall Zh l H=>Za (C143 call Zh (Zb H) (Zl l 0,Zl l 2,Zl l 4,()) H) λp=>Xr p.1 (Zp (Z2 Qk [p.2.1.2.1]) (some (Xm (Zb H) p.2.1.2.1 p.2.2)))
theorem Zta:Jr P TC 143 F143:=λ_ _ _ _=>by kernel_rfl
def C147 (call:Z3) (Zh base:Nat):Z4 (TV×TV×TV×TV×TV×TV×TV×TV×TV×TV×Unit):=
 (Zi (Zd λS H k=>
 k (z2 (tN 0)<| Zu 10 S) H)
 (Zi (Zd λS H k=>
 Za (Zm call 176 [Zg (Zc S.1)] H) λt8=>
 k (z0 (Ze S.1)<| z3 t8<| Zu 10 S) H)
 (Zi (Zd λS H k=>
 Za (Zm call 176 [Zg (Zc (g1 S))] H) λt10=>
 k (z1 (Ze (g1 S))<| z4 t10<| Zu 10 S) H)
 (Zi (Zi (Zd λS H k=>
 k (z3 (Zg (g3 S))<| z5 (Zg (g3 S))<| Zu 10 S) H)
 (Z1 (λS=>some (g5 S))
 (Zi (Zi (Zd λS H k=>
 k (z4 (Zg (g4 S))<| z6 (Zg (g4 S))<| Zu 10 S) H)
 (Z1 (λS=>some (g6 S))
 (Zi (Zd λS H k=>
 k (z2 (tN 0)<| Zu 10 S) H)
 (Zn .ret))
 (Zn .normal)))
 (Zi (Zd λS H k=>
 k (z2 (.v (.int .i64 (.negSucc 0)))<| Zu 10 S) H)
 (Zn .ret)))
 (Zn .normal)))
 (Zi (Zi (Zd λS H k=>
 k (z4 (Zg (g4 S))<| z7 (Zg (g4 S))<| Zu 10 S) H)
 (Z1 (λS=>some (g7 S))
 (Zi (Zd λS H k=>
 k (z2 (tN 1)<| Zu 10 S) H)
 (Zn .ret))
 (Zn .normal)))
 (Zi (Zi (Zd λS H k=>
 Za (b2 Xg (Zc S.1) (Zc (g1 S))) λt16=>
 k (z0 (Ze S.1)<| z1 (Ze (g1 S))<| z8 t16<| Zu 10 S) H)
 (Z1 (λS=>some (g8 S))
 (Zi (Zd λS H k=>
 k (z2 (.v (.int .i64 (.negSucc 0)))<| Zu 10 S) H)
 (Zn .ret))
 (Zn .normal)))
 (Zi (Zi (Zd λS H k=>
 Za (b2 Vt (Zc S.1) (Zc (g1 S))) λt19=>
 k (z0 (Ze S.1)<| z1 (Ze (g1 S))<| z9 t19<| Zu 10 S) H)
 (Z1 (λS=>some (g9 S))
 (Zi (Zd λS H k=>
 k (z2 (tN 1)<| Zu 10 S) H)
 (Zn .ret))
 (Zn .normal)))
 (Zi (Zd λS H k=>
 k (z2 (tN 0)<| Zu 10 S) H)
 (Zn .ret)))))))))
def F147:Ji:=λcall Zh l H=>Za (C147 call Zh (Zb H) (Zl l 0,Zl l 1,Zl l 4,Zl l 5,Zl l 6,Zl l 11,Zl l 12,Zl l 13,Zl l 16,Zl l 19,()) H) λp=>Xr p.1 (Zp (Z2 Qk [p.2.1.2.2.1]) (some (Xm (Zb H) p.2.1.2.2.1 p.2.2)))
theorem Zs9:Jr P TC 147 F147:=λ_ _ _ _=>by kernel_rfl
def Zf0 (call:Z3) (Zh base:Nat):Z4 (TV×TV×TV×TV×TV×TV×TV×TV×TV×TV×TV×TV×TV×TV×TV×TV×TV×TV×TV×TV×TV×TV×TV×Unit):=
 (Zi (Zd λS H k=>
 k (z4 (tB true)<| Zu 23 S) H)
 (Zi (Zd λS H k=>
 k (z5 (tB true)<| Zu 23 S) H)
 (Z9 0 (Ym (Z9 1 (Zi (Zd λS H k=>
 Za (b2 Qq (Zc (g2 S)) (Zc (g1 S))) λt21=>
 k (z1 (Ze (g1 S))<| z2 (Ze (g2 S))<| z6 t21<| Zu 23 S) H)
 (Zi (Zi (Zd λS H k=>
 Za (b2 Am (Zc (g6 S)) (tN 12)) λt23=>
 k (z6 (Ze (g6 S))<| zb t23<| Zu 23 S) H)
 (Z1 (λS=>some (Ra S))
 (Zi (Zd λS H k=>
 Xb 1 false S.1 H λc0 H0=>
 Xb 1 false c0 H0 λc1 H1=>
 Qo call Zh 177 [c1,Zg (Zg (Zr (g1 S))),Zg (Zg (Zr (g2 S)))] H1 λt27 H2=>
 k (z0 c0<| z1 (Zg (Zr (g1 S)))<| z2 (Zg (Zr (g2 S)))<| Zu 23 S) H2)
 (Zn .ret))
 (Zn .normal)))
 (Zi (Zi (Zd λS H k=>
 Za (Ja .int (Zc (g3 S)) (tN 0)) λt29=>
 k (z3 (Ze (g3 S))<| nu t29<| Zu 23 S) H)
 (Z1 (λS=>some (Nt S))
 (Zi (Zd λS H k=>
 Xb 1 false S.1 H λc3 H3=>
 Xb 1 false c3 H3 λc4 H4=>
 Qo call Zh 178 [c4,Zg (Zg (Zr (g1 S))),Zg (Zg (Zr (g2 S)))] H4 λt33 H5=>
 k (z0 c3<| z1 (Zg (Zr (g1 S)))<| z2 (Zg (Zr (g2 S)))<| Zu 23 S) H5)
 (Zn .ret))
 (Zn .normal)))
 (Zi (Zi (Zd λS H k=>
 Za (b1 Gh (Zc (g4 S))) λt35=>
 k (z4 (Ze (g4 S))<| x5 t35<| Zu 23 S) H)
 (Z1 (λS=>some (Bi S))
 (Zi (Zd λS H k=>
 Xb 1 false S.1 H λc6 H6=>
 Xb 1 false c6 H6 λc7 H7=>
 Qo call Zh 179 [c7,Zg (Zg (Zr (g1 S))),Zg (Zg (Zr (g2 S)))] H7 λt39 H8=>
 k (z0 c6<| z1 (Zg (Zr (g1 S)))<| z2 (Zg (Zr (g2 S)))<| Zu 23 S) H8)
 (Zd λS H k=>
 Za (b2 Qq (Zc (g3 S)) (tN 1)) λt41=>
 k (z3 t41<| Zu 23 S) H))
 (Zn .normal)))
 (Zi (Zd λS H k=>
 Za (Zm call 180 [Zg (Zc S.1),Zg (Zc (g1 S)),Zg (Zc (g2 S))] H) λt46=>
 Zf (Qj (Zc t46) 0) λc9=>
 Zf (Qj (Z7 (Zc t46) 0) 1) λc10=>
 k (z0 (Ze S.1)<| z1 (Ze (g1 S))<| z2 (Ze (g2 S))<| z7 c9<| z8 c10<| Zu 23 S) H)
 (Zi (Zi (Zd λS H k=>
 Za (Ja .int (Zc (g8 S)) (tN 2)) λt50=>
 k (z8 (Ze (g8 S))<| xd t50<| Zu 23 S) H)
 (Z1 (λS=>some (B5 S))
 (Zi (Zd λS H k=>
 Xb 1 false S.1 H λcz Gj=>
 Xb 1 false cz Gj λc12 Uy=>
 Qo call Zh 181 [c12,Zg (Zg (Zr (g1 S))),Zg (Zg (Zr (g2 S)))] Uy λt54 Ea=>
 k (z0 cz<| z1 (Zg (Zr (g1 S)))<| z2 (Zg (Zr (g2 S)))<| Zu 23 S) Ea)
 (Zi (Zd λS H k=>
 Za (b2 Qq (Zc (g2 S)) (tN 1)) λt56=>
 Za (b2 Qq (Zc (g7 S)) (Zc (g1 S))) λt59=>
 Za (b2 Qq t56 t59) λt60=>
 k (z1 (Ze (g1 S))<| z2 (Ze (g2 S))<| z7 t60<| Zu 23 S) H)
 (Zd λS H k=>
 k (z8 (tN 1)<| Zu 23 S) H)))
 (Zn .normal)))
 (Zi (Zi (Zd λS H k=>
 Qp (Zc (Zc (g4 S))) true ( Qr (Zg (g5 S)) H) H λt63 D9=>
 Za (Xa (Zc (Zc (g4 S))) (Zg t63) (tB false)) λt64=>
 gV t64 true (Zc (g8 S)) D9 λt66 D6=>
 gB t64 true (Ja .int t66 (tN 1)) D6 λt67 Iq=>
 Za (Xa (Zc t64) (Zg t67) (tB false)) λt68=>
 k (z4 (Ze (g4 S))<| z5 (Zg (g5 S))<| z8 (Ze (g8 S))<| z19 t68<| Zu 23 S) Iq)
 (Z1 (λS=>some (ux S))
 (Zi (Zd λS H k=>
 Xb 1 false S.1 H λc17 Mw=>
 Xb 1 false c17 Mw λc18 Mu=>
 Qo call Zh 182 [c18,Zg (Zg (Zr (g1 S))),Zg (Zg (Zr (g2 S)))] Mu λt72 Mn=>
 k (z0 c17<| z1 (Zg (Zr (g1 S)))<| z2 (Zg (Zr (g2 S)))<| z20 t72<| Zu 23 S) Mn)
 (Z1 (λS=>some (g20 S))
 (Zn .ret)
 (Zn .normal)))
 (Zn .normal)))
 (Zi (Zi (Zd λS H k=>
 Za (b2 Vt (Zc (g1 S)) (tN 0)) λt74=>
 gV t74 true (Zc S.1) H λt76 P7=>
 gV t74 true (Zc (Ze (g1 S))) P7 λt77 O4=>
 gB t74 true (b2 Qq t77 (tN 1)) O4 λt78 Bo=>
 gB t74 true (Qh 1 t76 t78) Bo λt79 Ar=>
 Qp (Zc t74) true (lF Zh base Ar t79 λg24 Tl=>Qr g24 Tl) Ar λt80 Nu=>
 gV t74 true (Zc (Ze S.1)) Nu λt81 o9=>
 gV t74 true (Zc (g7 S)) o9 λt82 wy=>
 gB t74 true (Qh 1 t81 t82) wy λt83 fp=>
 Qp (Zc t74) true (lF Zh base fp t83 λg29 nh=>Qr g29 nh) fp λt84 w9=>
 gB t74 true (Zm call 183 [Zg t80,Zg t84] w9) w9 λt85 ng=>
 gB t74 true (b1 Gh t85) ng λt86 o8=>
 Za (Xa (Zc t74) (Zg t86) (tB false)) λt87=>
 k (z0 (Ze (Ze S.1))<| z1 (Ze (Ze (g1 S)))<| z7 (Ze (g7 S))<| z21 t87<| Zu 23 S) o8)
 (Z1 (λS=>some (g21 S))
 (Zi (Zd λS H k=>
 Xb 1 false S.1 H λc33 o7=>
 Xb 1 false c33 o7 λc34 H34=>
 Qo call Zh 184 [c34,Zg (Zg (Zr (g1 S))),Zg (Zg (Zr (g2 S))),Zg (Zg (Zr (g7 S)))] H34 λt92 H35=>
 k (z0 c33<| z1 (Zg (Zr (g1 S)))<| z2 (Zg (Zr (g2 S)))<| z7 (Zg (Zr (g7 S)))<| z9 t92<| Zu 23 S) H35)
 (Zi (Zd λS H k=>
 k (z1 (g9 S)<| z9 (Qu (g9 S))<| Zu 23 S) H)
 (Zn (.exit 1))))
 (Zn .normal)))
 (Zi (Zd λS H k=>
 Xb 1 false S.1 H λc36 H36=>
 Xb 1 false c36 H36 λc37 H37=>
 Qo call Zh 185 [c37,Zg (Zg (Zr (g1 S))),Zg (Zg (Zr (g2 S))),Zg (Zg (Zr (g7 S)))] H37 λt99 H38=>
 Zf (Qj (Zc t99) 0) λc39=>
 Zf (Qj (Z7 (Zc t99) 0) 1) λc40=>
 k (z0 c36<| z1 (Zg (Zr (g1 S)))<| z2 (Zg (Zr (g2 S)))<| z7 (Zg (Zr (g7 S)))<| Uh c39<| Iv c40<| Zu 23 S) H38)
 (Zi (Zd λS H k=>
 k (z5 (Jj S)<| Iv (Qu (Jj S))<| Zu 23 S) H)
 (Zi (Zd λS H k=>
 Za (b2 Qq (Zc (J9 S)) (Zc (g1 S))) λt105=>
 Za (b2 Qq (Zc (g2 S)) (Zc (Ze (J9 S)))) λt108=>
 k (z1 (Ze (g1 S))<| z2 (Ze (g2 S))<| Uh (Ze (Ze (J9 S)))<| Oj t105<| Te t108<| Zu 23 S) H)
 (Zi (Zd λS H k=>
 Za (b2 Jp (Zc (g6 S)) (tN 8)) λt110=>
 k (z6 (Ze (g6 S))<| Cn t110<| Zu 23 S) H)
 (Zi (Zd λS H k=>
 Za (b2 Xg (Zc (Dn S)) (Zc (Em S))) λt113=>
 k (Oj (Ze (Dn S))<| Te (Ze (Em S))<| z22 t113<| Zu 23 S) H)
 (Z1 (λS=>some (uw S))
 (Zi (Zd λS H k=>
 Za (b2 K0 (Zc (Dn S)) (Zc (Iz S))) λt116=>
 k (z4 t116<| Oj (Ze (Dn S))<| Cn (Ze (Iz S))<| Zu 23 S) H)
 (Zi (Zd λS H k=>
 Xb 1 false S.1 H λc41 H41=>
 Xb 1 false c41 H41 λc42 H42=>
 Qo call Zh 149 [c42,Zg (Zg (Zr (g1 S))),Zg (Zg (Zr (J9 S))),Zg (Zg (Zr (g3 S)))] H42 λt121 H43=>
 k (z0 c41<| z1 (Zg (Zr (g1 S)))<| z3 (Zg (Zr (g3 S)))<| Uh (Zg (Zr (J9 S)))<| Zu 23 S) H43)
 (Zd λS H k=>
 Za (b2 Z0 (Zc (J9 S)) (tN 1)) λt123=>
 k (z1 t123<| Uh (Ze (J9 S))<| Zu 23 S) H)))
 (Zi (Zd λS H k=>
 Za (b2 K0 (Zc (Em S)) (Zc (Iz S))) λt126=>
 k (z4 t126<| Te (Ze (Em S))<| Cn (Ze (Iz S))<| Zu 23 S) H)
 (Zi (Zd λS H k=>
 Xb 1 false S.1 H λc44 H44=>
 Za (b2 Z0 (Zc (Zr (J9 S))) (tN 1)) λt129=>
 Xb 1 false c44 H44 λc45 H45=>
 Qo call Zh 149 [c45,Zg t129,Zg (Zg (Zr (g2 S))),Zg (Zg (Zr (g3 S)))] H45 λt132 H46=>
 k (z0 c44<| z2 (Zg (Zr (g2 S)))<| z3 (Zg (Zr (g3 S)))<| Uh (Ze (Zr (J9 S)))<| Zu 23 S) H46)
 (Zd λS H k=>
 k (z2 (J9 S)<| Uh (Qu (J9 S))<| Zu 23 S) H)))))))))))))))))) fuel))))
def F149:Ji:=λcall Zh l H=>Za (Zf0 call Zh (Zb H) (Zl l 0,Zl l 1,Zl l 2,Zl l 3,Zl l 8,Zl l 9,Zl l 10,Zl l 11,Zl l 12,Zl l 13,Zl l 14,Zl l 15,Zl l 16,Zl l 17,Zl l 18,Zl l 23,Zl l 29,Zl l 35,Zl l 50,Zl l 68,Zl l 72,Zl l 87,Zl l 113,()) H) λp=>Xr p.1 (Zp (Z2 Qk []) (some (Xm (Zb H) (.Xh []) p.2.2)))
theorem Zs8:Jr P TC 149 F149:=λ_ _ _ _=>by kernel_rfl
def C150 (call:Z3) (Zh base:Nat):Z4 (TV×TV×Unit):=
 (Zi (Zd λS H k=>
 k (z1 (tN 0)<| Zu 2 S) H)
 (Zi (Z1 (λS=>some (tB false))
 (Zi (Zd λS H k=>
 Za (b1 (Ki .u32) (Zc S.1)) λt4=>
 Za (Zm call 186 [Zg t4] H) λt5=>
 k (z0 (Ze S.1)<| z1 t5<| Zu 2 S) H)
 (Zn .ret))
 (Zn .normal))
 (Zi (Zd λS H k=>
 Za (Zm call 187 [Zg (Zc S.1)] H) λt7=>
 k (z0 (Ze S.1)<| z1 t7<| Zu 2 S) H)
 (Zn .ret))))
def F150:Ji:=λcall Zh l H=>Za (C150 call Zh (Zb H) (Zl l 0,Zl l 2,()) H) λp=>Xr p.1 (Zp (Z2 Qk [p.2.1.2.1]) (some (Xm (Zb H) p.2.1.2.1 p.2.2)))
theorem Zs7:Jr P TC 150 F150:=λ_ _ _ _=>by kernel_rfl
end
end Go.Proofs.YtgemobbfikjmoaaGreatDoor
namespace Go.Proofs.YtgemobbfikjmoaaGreatDoor
open Go Go.Ev
set_option maxRecDepth 1000000
set_option linter.unusedVariables false
noncomputable section
def C151 (call:Z3) (Zh base:Nat):Z4 (TV×TV×TV×TV×TV×TV×TV×TV×TV×TV×TV×TV×TV×TV×TV×TV×TV×TV×TV×TV×TV×TV×TV×TV×Unit):=
 (Zi (Zd λS H k=>
 k (z5 (tB true)<| Zu 24 S) H)
 (Zi (Zd λS H k=>
 k (z6 (tB true)<| Zu 24 S) H)
 (Z9 0 (Ym (Z9 1 (Zi (Zd λS H k=>
 Za (b2 Qq (Zc (g2 S)) (Zc (g1 S))) λt23=>
 k (z1 (Ze (g1 S))<| z2 (Ze (g2 S))<| z7 t23<| Zu 24 S) H)
 (Zi (Zi (Zd λS H k=>
 Za (b2 Am (Zc (g7 S)) (tN 12)) λt25=>
 k (z7 (Ze (g7 S))<| nu t25<| Zu 24 S) H)
 (Z1 (λS=>some (Nt S))
 (Zi (Zd λS H k=>
 Xb 2 true S.1 H λc0 H0=>
 Xb 2 true c0 H0 λc1 H1=>
 Qo call Zh 188 [c1,Zg (Zg (Zr (g1 S))),Zg (Zg (Zr (g2 S))),Zg (Zg (Zr (g4 S)))] H1 λt30 H2=>
 k (z0 c0<| z1 (Zg (Zr (g1 S)))<| z2 (Zg (Zr (g2 S)))<| z4 (Zg (Zr (g4 S)))<| Zu 24 S) H2)
 (Zn .ret))
 (Zn .normal)))
 (Zi (Zi (Zd λS H k=>
 Za (Ja .int (Zc (g3 S)) (tN 0)) λt32=>
 k (z3 (Ze (g3 S))<| x5 t32<| Zu 24 S) H)
 (Z1 (λS=>some (Bi S))
 (Zi (Zd λS H k=>
 Xb 2 true S.1 H λc3 H3=>
 Xb 2 true c3 H3 λc4 H4=>
 Qo call Zh 189 [c4,Zg (Zg (Zr (g1 S))),Zg (Zg (Zr (g2 S))),Zg (Zg (Zr (g4 S)))] H4 λt37 H5=>
 k (z0 c3<| z1 (Zg (Zr (g1 S)))<| z2 (Zg (Zr (g2 S)))<| z4 (Zg (Zr (g4 S)))<| Zu 24 S) H5)
 (Zn .ret))
 (Zn .normal)))
 (Zi (Zi (Zd λS H k=>
 Za (b1 Gh (Zc (g5 S))) λt39=>
 k (z5 (Ze (g5 S))<| xd t39<| Zu 24 S) H)
 (Z1 (λS=>some (B5 S))
 (Zi (Zd λS H k=>
 Xb 2 true S.1 H λc6 H6=>
 Xb 2 true c6 H6 λc7 H7=>
 Qo call Zh 190 [c7,Zg (Zg (Zr (g1 S))),Zg (Zg (Zr (g2 S))),Zg (Zg (Zr (g4 S)))] H7 λt44 H8=>
 k (z0 c6<| z1 (Zg (Zr (g1 S)))<| z2 (Zg (Zr (g2 S)))<| z4 (Zg (Zr (g4 S)))<| Zu 24 S) H8)
 (Zd λS H k=>
 Za (b2 Qq (Zc (g3 S)) (tN 1)) λt46=>
 k (z3 t46<| Zu 24 S) H))
 (Zn .normal)))
 (Zi (Zd λS H k=>
 Qo call Zh 191 [Zg (Zg S.1),Zg (Zg (g1 S)),Zg (Zg (g2 S)),Zg (Zg (g4 S))] H λt52 H9=>
 Zf (Qj (Zc t52) 0) λc10=>
 Zf (Qj (Z7 (Zc t52) 0) 1) λcz=>
 k (z0 (Zg S.1)<| z1 (Zg (g1 S))<| z2 (Zg (g2 S))<| z4 (Zg (g4 S))<| z8 c10<| z9 cz<| Zu 24 S) H9)
 (Zi (Zi (Zd λS H k=>
 Za (Ja .int (Zc (g9 S)) (tN 2)) λt56=>
 k (z9 (Ze (g9 S))<| z19 t56<| Zu 24 S) H)
 (Z1 (λS=>some (ux S))
 (Zi (Zd λS H k=>
 Xb 2 true S.1 H λc12 Uy=>
 Xb 2 true c12 Uy λqb Ea=>
 Qo call Zh 192 [qb,Zg (Zg (Zr (g1 S))),Zg (Zg (Zr (g2 S))),Zg (Zg (Zr (g4 S)))] Ea λt61 D9=>
 k (z0 c12<| z1 (Zg (Zr (g1 S)))<| z2 (Zg (Zr (g2 S)))<| z4 (Zg (Zr (g4 S)))<| Zu 24 S) D9)
 (Zi (Zd λS H k=>
 Za (b2 Qq (Zc (g2 S)) (tN 1)) λt63=>
 Za (b2 Qq (Zc (g8 S)) (Zc (g1 S))) λt66=>
 Za (b2 Qq t63 t66) λt67=>
 k (z1 (Ze (g1 S))<| z2 (Ze (g2 S))<| z8 t67<| Zu 24 S) H)
 (Zd λS H k=>
 k (z9 (tN 1)<| Zu 24 S) H)))
 (Zn .normal)))
 (Zi (Zi (Zd λS H k=>
 Qp (Zc (Zc (g5 S))) true ( Qr (Zg (g6 S)) H) H λt70 D6=>
 Za (Xa (Zc (Zc (g5 S))) (Zg t70) (tB false)) λt71=>
 gV t71 true (Zc (g9 S)) D6 λt73 Iq=>
 gB t71 true (Ja .int t73 (tN 1)) Iq λt74 Mw=>
 Za (Xa (Zc t71) (Zg t74) (tB false)) λt75=>
 k (z5 (Ze (g5 S))<| z6 (Zg (g6 S))<| z9 (Ze (g9 S))<| z20 t75<| Zu 24 S) Mw)
 (Z1 (λS=>some (g20 S))
 (Zi (Zd λS H k=>
 Xb 2 true S.1 H λc18 Mu=>
 Xb 2 true c18 Mu λc19 Mn=>
 Qo call Zh 193 [c19,Zg (Zg (Zr (g1 S))),Zg (Zg (Zr (g2 S))),Zg (Zg (Zr (g4 S)))] Mn λt80 P7=>
 k (z0 c18<| z1 (Zg (Zr (g1 S)))<| z2 (Zg (Zr (g2 S)))<| z4 (Zg (Zr (g4 S)))<| z21 t80<| Zu 24 S) P7)
 (Z1 (λS=>some (g21 S))
 (Zn .ret)
 (Zn .normal)))
 (Zn .normal)))
 (Zi (Zi (Zd λS H k=>
 Za (b2 Vt (Zc (g1 S)) (tN 0)) λt82=>
 gV t82 true (Zc (g4 S)) H λt84 O4=>
 gV t82 true (Zc S.1) O4 λt85 Bo=>
 gV t82 true (Zc (Ze (g1 S))) Bo λt86 Ar=>
 gB t82 true (b2 Qq t86 (tN 1)) Ar λt87 Tl=>
 gB t82 true (Qh 2 t85 t87) Tl λt88 Nu=>
 Qp (Zc t82) true (sA Zh base 2 Nu t88 λg26 o9=>Qr g26 o9) Nu λt89 wy=>
 gV t82 true (Zc (Ze S.1)) wy λt90 fp=>
 gV t82 true (Zc (g8 S)) fp λt91 nh=>
 gB t82 true (Qh 2 t90 t91) nh λt92 w9=>
 Qp (Zc t82) true (sA Zh base 2 w9 t92 λg31 ng=>Qr g31 ng) w9 λt93 o8=>
 Qp (Zc t82) true (Xd TC call Zh t84 [Zg t89,Zg t93] o8 λg33 o7=>Qr g33 o7) o8 λt94 H34=>
 gB t82 true (b2 Xg t94 (tN 0)) H34 λt95 H35=>
 gB t82 true (b1 Gh t95) H35 λt96 H36=>
 Za (Xa (Zr (Zc t82)) (Zg t96) (tB false)) λt97=>
 k (z0 (Ze (Ze S.1))<| z1 (Ze (Ze (g1 S)))<| z4 (Ze (g4 S))<| z8 (Ze (g8 S))<| z22 t97<| Zu 24 S) H36)
 (Z1 (λS=>some (uw S))
 (Zi (Zd λS H k=>
 Xb 2 true S.1 H λc37 H37=>
 Xb 2 true c37 H37 λc38 H38=>
 Qo call Zh 194 [c38,Zg (Zg (Zr (g1 S))),Zg (Zg (Zr (g2 S))),Zg (Zg (Zr (g8 S))),Zg (Zg (Zr (g4 S)))] H38 λt103 H39=>
 k (z0 c37<| z1 (Zg (Zr (g1 S)))<| z2 (Zg (Zr (g2 S)))<| z4 (Zg (Zr (g4 S)))<| z8 (Zg (Zr (g8 S)))<| Uh t103<| Zu 24 S) H39)
 (Zi (Zd λS H k=>
 k (z1 (J9 S)<| Uh (Qu (J9 S))<| Zu 24 S) H)
 (Zn (.exit 1))))
 (Zn .normal)))
 (Zi (Zd λS H k=>
 Xb 2 true S.1 H λc40 H40=>
 Xb 2 true c40 H40 λc41 H41=>
 Qo call Zh 195 [c41,Zg (Zg (Zr (g1 S))),Zg (Zg (Zr (g2 S))),Zg (Zg (Zr (g8 S))),Zg (Zg (Zr (g4 S)))] H41 λt111 H42=>
 Zf (Qj (Zc t111) 0) λc43=>
 Zf (Qj (Z7 (Zc t111) 0) 1) λc44=>
 k (z0 c40<| z1 (Zg (Zr (g1 S)))<| z2 (Zg (Zr (g2 S)))<| z4 (Zg (Zr (g4 S)))<| z8 (Zg (Zr (g8 S)))<| Iv c43<| Oj c44<| Zu 24 S) H42)
 (Zi (Zd λS H k=>
 k (z6 (Dn S)<| Oj (Qu (Dn S))<| Zu 24 S) H)
 (Zi (Zd λS H k=>
 Za (b2 Qq (Zc (Jj S)) (Zc (g1 S))) λt117=>
 Za (b2 Qq (Zc (g2 S)) (Zc (Ze (Jj S)))) λt120=>
 k (z1 (Ze (g1 S))<| z2 (Ze (g2 S))<| Iv (Ze (Ze (Jj S)))<| Te t117<| Cn t120<| Zu 24 S) H)
 (Zi (Zd λS H k=>
 Za (b2 Jp (Zc (g7 S)) (tN 8)) λt122=>
 k (z7 (Ze (g7 S))<| zb t122<| Zu 24 S) H)
 (Zi (Zd λS H k=>
 Za (b2 Xg (Zc (Em S)) (Zc (Iz S))) λt125=>
 k (Te (Ze (Em S))<| Cn (Ze (Iz S))<| z23 t125<| Zu 24 S) H)
 (Z1 (λS=>some (g23 S))
 (Zi (Zd λS H k=>
 Za (b2 K0 (Zc (Em S)) (Zc (Ra S))) λt128=>
 k (z5 t128<| Te (Ze (Em S))<| zb (Ze (Ra S))<| Zu 24 S) H)
 (Zi (Zd λS H k=>
 Xb 2 true S.1 H λc45 H45=>
 Xb 2 true c45 H45 λc46 H46=>
 Qo call Zh 151 [c46,Zg (Zg (Zr (g1 S))),Zg (Zg (Zr (Jj S))),Zg (Zg (Zr (g3 S))),Zg (Zg (Zr (g4 S)))] H46 λt134 H47=>
 k (z0 c45<| z1 (Zg (Zr (g1 S)))<| z3 (Zg (Zr (g3 S)))<| z4 (Zg (Zr (g4 S)))<| Iv (Zg (Zr (Jj S)))<| Zu 24 S) H47)
 (Zd λS H k=>
 Za (b2 Z0 (Zc (Jj S)) (tN 1)) λt136=>
 k (z1 t136<| Iv (Ze (Jj S))<| Zu 24 S) H)))
 (Zi (Zd λS H k=>
 Za (b2 K0 (Zc (Iz S)) (Zc (Ra S))) λt139=>
 k (z5 t139<| Cn (Ze (Iz S))<| zb (Ze (Ra S))<| Zu 24 S) H)
 (Zi (Zd λS H k=>
 Xb 2 true S.1 H λc48 H48=>
 Za (b2 Z0 (Zc (Zr (Jj S))) (tN 1)) λt142=>
 Xb 2 true c48 H48 λc49 H49=>
 Qo call Zh 151 [c49,Zg t142,Zg (Zg (Zr (g2 S))),Zg (Zg (Zr (g3 S))),Zg (Zg (Zr (g4 S)))] H49 λt146 H50=>
 k (z0 c48<| z2 (Zg (Zr (g2 S)))<| z3 (Zg (Zr (g3 S)))<| z4 (Zg (Zr (g4 S)))<| Iv (Ze (Zr (Jj S)))<| Zu 24 S) H50)
 (Zd λS H k=>
 k (z2 (Jj S)<| Iv (Qu (Jj S))<| Zu 24 S) H)))))))))))))))))) fuel))))
def F151:Ji:=λcall Zh l H=>Za (C151 call Zh (Zb H) (Zl l 0,Zl l 1,Zl l 2,Zl l 3,Zl l 4,Zl l 10,Zl l 11,Zl l 12,Zl l 13,Zl l 14,Zl l 15,Zl l 16,Zl l 17,Zl l 18,Zl l 19,Zl l 20,Zl l 25,Zl l 32,Zl l 39,Zl l 56,Zl l 75,Zl l 80,Zl l 97,Zl l 125,()) H) λp=>Xr p.1 (Zp (Z2 Qk []) (some (Xm (Zb H) (.Xh []) p.2.2)))
theorem Zs6:Jr P TC 151 F151:=λ_ _ _ _=>by kernel_rfl
def C152 (call:Z3) (Zh base:Nat):Z4 (TV×TV×TV×TV×Unit):=
 (Zi (Zd λS H k=>
 Za (On (Zc S.1)) λt7=>
 Za (Zw t7 2) λt8=>
 lF Zh base H t8 λt9 H0=>
 Za (b2 K7 t9 (Zc (g1 S))) λt11=>
 Za (b2 Km t11 (.v (.int .u64 (.ofNat 1)))) λt12=>
 Za (Ja .int t12 (.v (.int .u64 (.ofNat 1)))) λt13=>
 gV t13 true (Zc (Ze S.1)) H0 λt15 H1=>
 gB t13 true (On t15) H1 λt16 H2=>
 gB t13 true (Zw t16 2) H2 λt17 H3=>
 Qp (Zc t13) true (lF Zh base H3 t17 λg4 H4=>Qr g4 H4) H3 λt18 H5=>
 gV t13 true (Zc (g2 S)) H5 λt19 H6=>
 gB t13 true (b2 K7 t18 t19) H6 λt20 H7=>
 gB t13 true (b2 Km t20 (.v (.int .u64 (.ofNat 1)))) H7 λt21 H8=>
 gB t13 true (Ja .int t21 (.v (.int .u64 (.ofNat 1)))) H8 λt22 H9=>
 Za (Xa (Zc t13) (Zg t22) (tB false)) λt23=>
 k (z0 (Ze (Ze S.1))<| z1 (Ze (g1 S))<| z2 (Ze (g2 S))<| z3 t23<| Zu 4 S) H9)
 (Z1 (λS=>some (g3 S))
 (Zi (Zd λS H k=>
 Za (On (Zc S.1)) λt26=>
 Za (Zw t26 3) λt27=>
 Za (Qt 16 1 t27 (Zc (g1 S))) λt28=>
 lF Zh base H t28 λt29 Ua=>
 Za (b2 Y8 (.v (.int .u64 (.ofNat 1))) (Zc (g2 S))) λt31=>
 Za (b2 Ep t29 t31) λt32=>
 Za (On (Zc S.1)) λt33=>
 Za (Zw t33 3) λt34=>
 Xb 0 false t34 Ua λcz Gj=>
 Za (Qt 16 1 cz (Zc (g1 S))) λt35=>
 Za (storeT Zh base 1 Gj t35 (Zr t32)) λUy=>
 k (z0 (Ze S.1)<| z1 (Ze (g1 S))<| z2 (Ze (g2 S))<| Zu 4 S) Uy)
 (Zd λS H k=>
 Za (On (Zc S.1)) λt38=>
 Za (Zw t38 3) λt39=>
 Za (Qt 16 1 t39 (Zc (g2 S))) λt40=>
 lF Zh base H t40 λt41 Ea=>
 Za (b2 Y8 (.v (.int .u64 (.ofNat 1))) (Zc (g1 S))) λt43=>
 Za (b2 Ep t41 t43) λt44=>
 Za (On (Zc S.1)) λt45=>
 Za (Zw t45 3) λt46=>
 Xb 0 false t46 Ea λc14 D9=>
 Za (Qt 16 1 c14 (Zc (g2 S))) λt47=>
 Za (storeT Zh base 1 D9 t47 (Zr t44)) λD6=>
 k (z0 (Ze S.1)<| z1 (Ze (g1 S))<| z2 (Ze (g2 S))<| Zu 4 S) D6))
 (Zn .normal)))
def F152:Ji:=λcall Zh l H=>Za (C152 call Zh (Zb H) (Zl l 0,Zl l 1,Zl l 2,Zl l 23,()) H) λp=>Xr p.1 (Zp (Z2 Qk []) (some (Xm (Zb H) (.Xh []) p.2.2)))
theorem Zs5:Jr P TC 152 F152:=λ_ _ _ _=>by kernel_rfl
def C153 (call:Z3) (Zh base:Nat):Z4 (TV×TV×TV×TV×TV×TV×TV×TV×TV×TV×TV×TV×TV×TV×Unit):=
 (Zi (Zd λS H k=>
 k (z6 (tB false)<| Zu 14 S) H)
 (Zi (Zn .normal)
 (Zi (Zi (Zd λS H k=>
 Za (Zw (g1 S) 3) λt11=>
 Za (Qt 16 1 t11 (Zc S.1)) λt12=>
 lF Zh base H t12 λt13 H0=>
 lF Zh base H0 (g2 S) λt14 H1=>
 Za (b2 Km t13 t14) λt15=>
 Za (Zm call 100 [Zg t15] H1) λt16=>
 Za (Kn t16) λt17=>
 k (z0 (Ze S.1)<| z8 t16<| z9 t17<| Uh (tN 0)<| Zu 14 S) H1)
 (Z9 0 (Ym (Zi (Zd λS H k=>
 Za (b2 Xg (J9 S) (g9 S)) λt19=>
 k (Iv t19<| Zu 14 S) H)
 (Zi (Z1 (λS=>some (Jj S))
 (Zn .normal)
 (Zn (.exit 0)))
 (Zi (Z9 1 (Zi (Zd λS H k=>
 Za (Qh 1 (g8 S) (J9 S)) λt20=>
 sF Zh base H t20 λt21 H2=>
 k (z7 t21<| Zu 14 S) H2)
 (Zi (Zi (Zd λS H k=>
 lF Zh base H (g3 S) λt22 H3=>
 Za (b2 K7 t22 (Zc (g7 S))) λt24=>
 Za (b2 Km t24 (.v (.int .u64 (.ofNat 1)))) λt25=>
 Za (Ja .int t25 (.v (.int .u64 (.ofNat 1)))) λt26=>
 k (z7 (Ze (g7 S))<| Oj t26<| Zu 14 S) H3)
 (Z1 (λS=>some (Dn S))
 (Zn (.exit 1))
 (Zn .normal)))
 (Zi (Zd λS H k=>
 lF Zh base H (g3 S) λt27 H4=>
 Za (b2 Y8 (.v (.int .u64 (.ofNat 1))) (Zc (g7 S))) λt29=>
 Za (b2 Ep t27 t29) λt30=>
 Za (storeT Zh base 1 H4 (g3 S) t30) λH5=>
 k (z7 (Ze (g7 S))<| Zu 14 S) H5)
 (Zi (Zd λS H k=>
 Za (Qt 16 1 (g4 S) (Zc (g7 S))) λt32=>
 lF Zh base H t32 λt33 H6=>
 Za (b2 Xg t33 (tN 0)) λt34=>
 Qp (Zc t34) false (lF Zh base H6 (g5 S) λg7 H7=>Qr g7 H7) H6 λt36 H8=>
 gV t34 false (Zc (Ze (g7 S))) H8 λt37 H9=>
 gB t34 false (Qt 16 1 (g4 S) t37) H9 λt38 Ua=>
 Qp (Zc t34) false (sF Zh base Ua t38 λJj Gj=>Qr Jj Gj) Ua λt39 Uy=>
 Qp (Zc t34) false (Xd TC call Zh t36 [Zg t39] Uy λEm Ea=>Qr Em Ea) Uy λt40 D9=>
 Za (Xa (Zr (Zc t34)) (tB true) (Zg t40)) λt41=>
 k (z7 (Ze (Ze (g7 S)))<| Te t41<| Zu 14 S) D9)
 (Z1 (λS=>some (Em S))
 (Zi (Zd λS H k=>
 Xb 0 false (g4 S) H λc15 D6=>
 Za (Qt 16 1 c15 (Zc (g7 S))) λt44=>
 Za (storeT Zh base 1 D6 t44 (Zr (Zg S.1))) λIq=>
 k (z0 (Zg S.1)<| z4 c15<| z7 (Ze (g7 S))<| Zu 14 S) Iq)
 (Zi (Zd λS H k=>
 k (z6 (tB true)<| Zu 14 S) H)
 (Zn .ret)))
 (Zn .normal)))))))
 (Zd λS H k=>
 Za (b2 Z0 (J9 S) (tN 1)) λt45=>
 k (Uh t45<| Zu 14 S) H)))) fuel)))
 (Zi (Zd λS H k=>
 k (z6 (tB false)<| Zu 14 S) H)
 (Zn .ret)))))
def F153:Ji:=λcall Zh l H=>Za (C153 call Zh (Zb H) (Zl l 0,Zl l 1,Zl l 2,Zl l 3,Zl l 4,Zl l 5,Zl l 7,Zl l 9,Zl l 16,Zl l 17,Zl l 18,Zl l 19,Zl l 26,Zl l 41,()) H) λp=>Xr p.1 (Zp (Z2 Qk [p.2.1.2.2.2.2.2.2.1]) (some (Xm (Zb H) p.2.1.2.2.2.2.2.2.1 p.2.2)))
theorem Zs4:Jr P TC 153 F153:=λ_ _ _ _=>by kernel_rfl
def C154 (call:Z3) (Zh base:Nat):Z4 (TV×TV×TV×TV×Unit):=
 (Zi (Zd λS H k=>
 Zp (Yu S.1)<|
 let t2:=(.ptr (Zb H) 0);let H0:=(Zv H (.cells (Zy S.1)))
 k (z0 (Qu S.1)<| z2 t2<| z3 (tB false)<| Zu 4 S) H0)
 (Zi (Zd λS H k=>
 Za (Zw (g2 S) 0) λt6=>
 lF Zh base H t6 λt7 H1=>
 Za (b2 Y1 (Zc (g1 S)) t7) λt8=>
 Za (Zw (g2 S) 0) λt10=>
 lF Zh base H1 t10 λt11 H2=>
 Za (b2 Jp (Zc (Ze (g1 S))) t11) λt12=>
 Za (b2 Z0 t8 t12) λt13=>
 Za (b2 Y1 t13 (tN 2)) λt14=>
 Za (Ja .int t14 (tN 1)) λt15=>
 k (z1 (Ze (Ze (g1 S)))<| z3 t15<| Zu 4 S) H2)
 (Zn .ret)))
def F154:Ji:=λcall Zh l H=>Za (C154 call Zh (Zb H) (Zl l 0,Zl l 1,Zl l 2,Zl l 4,()) H) λp=>Xr p.1 (Zp (Z2 Qk [p.2.1.2.2.2.1]) (some (Xm (Zb H) p.2.1.2.2.2.1 p.2.2)))
theorem Zs3:Jr P TC 154 F154:=λ_ _ _ _=>by kernel_rfl
def C156 (call:Z3) (Zh base:Nat):Z4 (TV×TV×Unit):=
 (Zi (Zd λS H k=>
 k (z1 (tN 0)<| Zu 2 S) H)
 (Zi (Z1 (λS=>some (tB false))
 (Zi (Zd λS H k=>
 Za (b1 (Ki .u32) (Zc S.1)) λt4=>
 Za (Zm call 196 [Zg t4] H) λt5=>
 k (z0 (Ze S.1)<| z1 t5<| Zu 2 S) H)
 (Zn .ret))
 (Zn .normal))
 (Zi (Zd λS H k=>
 Za (Zm call 197 [Zg (Zc S.1)] H) λt7=>
 k (z0 (Ze S.1)<| z1 t7<| Zu 2 S) H)
 (Zn .ret))))
def F156:Ji:=λcall Zh l H=>Za (C156 call Zh (Zb H) (Zl l 0,Zl l 2,()) H) λp=>Xr p.1 (Zp (Z2 Qk [p.2.1.2.1]) (some (Xm (Zb H) p.2.1.2.1 p.2.2)))
theorem Zs2:Jr P TC 156 F156:=λ_ _ _ _=>by kernel_rfl
def C157 (call:Z3) (Zh base:Nat):Z4 (TV×TV×TV×Unit):=
 (Zi (Zd λS H k=>
 k (z2 (tB false)<| Zu 3 S) H)
 (Zi (Zd λS H k=>
 Qo call Zh 198 [Zg (Zg S.1),Zg (Zg (g1 S))] H λt7 H0=>
 Za (b2 K0 t7 (tN 0)) λt8=>
 k (z0 (Zg S.1)<| z1 (Zg (g1 S))<| z2 t8<| Zu 3 S) H0)
 (Zn .ret)))
def F157:Ji:=λcall Zh l H=>Za (C157 call Zh (Zb H) (Zl l 0,Zl l 1,Zl l 4,()) H) λp=>Xr p.1 (Zp (Z2 Qk [p.2.1.2.2.1]) (some (Xm (Zb H) p.2.1.2.2.1 p.2.2)))
theorem Zs1:Jr P TC 157 F157:=λ_ _ _ _=>by kernel_rfl
def C158 (call:Z3) (Zh base:Nat):Z4 (TV×TV×TV×Unit):=
 (Zi (Zd λS H k=>
 k (z2 (tB false)<| Zu 3 S) H)
 (Zi (Zd λS H k=>
 Za (Zw (g1 S) 2) λt5=>
 lF Zh base H t5 λt6 H0=>
 Za (Jc .int (Zc S.1) t6) λt7=>
 k (z0 (Ze S.1)<| z2 t7<| Zu 3 S) H0)
 (Zn .ret)))
def F158:Ji:=λcall Zh l H=>Za (C158 call Zh (Zb H) (Zl l 0,Zl l 1,Zl l 3,()) H) λp=>Xr p.1 (Zp (Z2 Qk [p.2.1.2.2.1]) (some (Xm (Zb H) p.2.1.2.2.1 p.2.2)))
theorem Zs0:Jr P TC 158 F158:=λ_ _ _ _=>by kernel_rfl
def C159 (call:Z3) (Zh base:Nat):Z4 (TV×TV×TV×TV×TV×TV×TV×TV×TV×TV×TV×Unit):=
 (Zi (Zd λS H k=>
 lA Zh base 19 H (g4 S) λt17 H0=>
 Za (Zm call 160 [Zg t17,Zg (Zc (g1 S)),Zg (Zc (g2 S))] H0) λt20=>
 Zf (Qj (Zc t20) 0) λc1=>
 Zf (Qj (Z7 (Zc t20) 0) 1) λc2=>
 k (z1 (Ze (g1 S))<| z2 (Ze (g2 S))<| z8 c1<| z9 c2<| Zu 11 S) H0)
 (Zi (Zd λS H k=>
 Za (b2 (Y0 true) (Zc (g8 S)) (Zc (g9 S))) λc3=>
 Zp (ie c3)<|
 Za (b2 K0 c3 (tN 0)) λt26=>
 Qp (Zc t26) true (lF Zh base H (g5 S) λg4 H4=>Qr g4 H4) H λt28 H5=>
 gV t26 true (Zc S.1) H5 λt29 H6=>
 gB t26 true (Qh 1 t28 t29) H6 λt30 H7=>
 Qp (Zc t26) true (lF Zh base H7 t30 λg8 H8=>Qr g8 H8) H7 λt31 H9=>
 gB t26 true (b1 Gh t31) H9 λt32 Ua=>
 Za (Xa (Zc t26) (Zg t32) (tB false)) λt33=>
 Qp (Zc t33) true (lF Zh base Ua (g6 S) λJj Gj=>Qr Jj Gj) Ua λt35 Uy=>
 gV t33 true (Zg (Ze (g8 S))) Uy λt36 Ea=>
 gV t33 true (Zg (Ze (g9 S))) Ea λt37 D9=>
 gB t33 true (Uk [(0,1,t36),(1,1,t37)] Vy) D9 λt38 D6=>
 gB t33 true (Zm call 62 [Zg t35,Zg t38] D6) D6 λt39 Iq=>
 gB t33 true (b1 Gh t39) Iq λt40 Mw=>
 Za (Xa (Zc t33) (Zg t40) (tB false)) λt41=>
 k (z0 (Ze S.1)<| z8 (Zg (Ze (g8 S)))<| z9 (Zg (Ze (g9 S)))<| Uh t41<| Zu 11 S) Mw)
 (Z1 (λS=>some (J9 S))
 (Zd λS H k=>
 lF Zh base H (g7 S) λt42 Mu=>
 Xd TC call Zh t42 [Zg (Zg S.1),Zg (Zg (g3 S))] Mu λt45 Mn=>
 k (z0 (Zg S.1)<| z3 (Zg (g3 S))<| Zu 11 S) Mn)
 (Zn .normal))))
def F159:Ji:=λcall Zh l H=>Za (C159 call Zh (Zb H) (Zl l 1,Zl l 2,Zl l 3,Zl l 4,Zl l 5,Zl l 6,Zl l 7,Zl l 8,Zl l 14,Zl l 15,Zl l 41,()) H) λp=>Xr p.1 (Zp (Z2 Qk []) (some (Xm (Zb H) (.Xh []) p.2.2)))
theorem Zsz:Jr P TC 159 F159:=λ_ _ _ _=>by kernel_rfl
def C160 (call:Z3) (Zh base:Nat):Z4 (TV×TV×TV×TV×TV×TV×TV×TV×TV×TV×Unit):=
 (Zi (Zd λS H k=>
 Zp (Yu S.1)<|
 let t3:=(.ptr (Zb H) 0);let H0:=(Zv H (.cells (Zy S.1)))
 k (z0 (Qu S.1)<| z3 t3<| z4 (tN 0)<| z5 (tN 0)<| Zu 10 S) H0)
 (Zi (Zd λS H k=>
 Za (Zw (g3 S) 0) λt12=>
 lF Zh base H t12 λt13 H1=>
 Za (b2 Z0 t13 (tN 1)) λt14=>
 Za (b2 Y1 (Zc (g1 S)) t14) λt15=>
 Za (Zw (g3 S) 0) λt17=>
 lF Zh base H1 t17 λt18 H2=>
 Za (b2 Z0 t18 (tN 1)) λt19=>
 Za (b2 Jp (Zc (Ze (g1 S))) t19) λt20=>
 k (z1 (Ze (Ze (g1 S)))<| z6 t15<| z7 t20<| Zu 10 S) H2)
 (Zi (Zd λS H k=>
 Zp (Z2 pass [Zg (g3 S)])<|
 k (z3 (Zg (g3 S))<| z8 (.fn (.func 199) [] [Zg (g3 S)])<| Zu 10 S) H)
 (Zi (Zi (Zd λS H k=>
 k (z2 (Zg (g2 S))<| z9 (Zg (g2 S))<| Zu 10 S) H)
 (Z1 (λS=>some (g9 S))
 (Zi (Zd λS H k=>
 Za (b2 Qq (Zc (g6 S)) (tN 1)) λt25=>
 Xd TC call Zh (Zc (g8 S)) [Zg t25,Zg (Zg (g7 S))] H λt27 H3=>
 Xd TC call Zh (Zc (Zr (Ze (g8 S)))) [Zg (Zg (Zr (Ze (g6 S)))),Zg (Zg (Zr (Zg (g7 S))))] H3 λt31 H4=>
 k (z4 (Zr t27)<| z5 t31<| z6 (Zg (Zr (Ze (g6 S))))<| z7 (Zg (Zr (Zg (g7 S))))<| z8 (Ze (Zr (Ze (g8 S))))<| Zu 10 S) H4)
 (Zn .ret))
 (Zn .normal)))
 (Zi (Zd λS H k=>
 Za (b2 Qq (Zc (g7 S)) (tN 1)) λt35=>
 Xd TC call Zh (Zc (g8 S)) [Zg (Zg (g6 S)),Zg t35] H λt36 H5=>
 Xd TC call Zh (Zc (Zr (Ze (g8 S)))) [Zg (Zg (Zr (Zg (g6 S)))),Zg (Zg (Zr (Ze (g7 S))))] H5 λt40 H6=>
 k (z4 (Zr t36)<| z5 t40<| z6 (Zg (Zr (Zg (g6 S))))<| z7 (Zg (Zr (Ze (g7 S))))<| z8 (Ze (Zr (Ze (g8 S))))<| Zu 10 S) H6)
 (Zn .ret))))))
def F160:Ji:=λcall Zh l H=>Za (C160 call Zh (Zb H) (Zl l 0,Zl l 1,Zl l 2,Zl l 3,Zl l 6,Zl l 7,Zl l 8,Zl l 9,Zl l 10,Zl l 22,()) H) λp=>Xr p.1 (Zp (Z2 Qk [p.2.1.2.2.2.2.1,p.2.1.2.2.2.2.2.1]) (some (Xm (Zb H) (.Xh [p.2.1.2.2.2.2.1,p.2.1.2.2.2.2.2.1]) p.2.2)))
theorem Zsy:Jr P TC 160 F160:=λ_ _ _ _=>by kernel_rfl
def C161 (call:Z3) (Zh base:Nat):Z4 (TV×TV×TV×TV×TV×TV×TV×TV×TV×TV×TV×TV×Unit):=
 (Zi (Zd λS H k=>
 loadT (.W8 1 false) Zh base false 1 H (g2 S) λt10 H0=>
 loadT (.W8 1 false) Zh base false 1 H0 (Zr (g3 S)) λt12 H1=>
 Xb 1 false (Zr t10) H1 λc2 H2=>
 Za (Qh 1 c2 (Zr (Zc (Zr S.1)))) λt15=>
 Zp (Tb [hdX (Zr (g3 S)) (hdP H (g3 S))] [hdX t15 (hdP H2 t15)])<|
 Za (storeT Zh base 1 H2 t15 (Zr (Zg (Zr (g1 S))))) λH3=>
 Xb 1 false (Zr t12) H3 λc4 H4=>
 Za (Qh 1 c4 (Zr (Zc (Zr (Ze (Zr S.1)))))) λt16=>
 Za (storeT Zh base 1 H4 t16 (tB true)) λH5=>
 k (z0 (Ze (Zr (Ze (Zr S.1))))<| z1 (Zg (Zr (g1 S)))<| Zu 12 S) H5)
 (Zi (Zd λS H k=>
 Za (Zw (g4 S) 0) λt18=>
 lF Zh base H t18 λt19 H6=>
 Za (b2 Z0 t19 (tN 1)) λt20=>
 Za (b2 Y1 (Zc S.1) t20) λt21=>
 Za (Zw (g4 S) 0) λt23=>
 lF Zh base H6 t23 λt24 H7=>
 Za (b2 Z0 t24 (tN 1)) λt25=>
 Za (b2 Jp (Zc (Ze S.1)) t25) λt26=>
 k (z0 (Ze (Ze S.1))<| z6 t21<| z7 t26<| Zu 12 S) H7)
 (Zi (Zi (Zd λS H k=>
 Za (Zw (g4 S) 0) λt28=>
 lF Zh base H t28 λt29 H8=>
 Za (b2 Xg (Zc (g6 S)) t29) λt30=>
 k (z6 (Ze (g6 S))<| z8 t30<| Zu 12 S) H8)
 (Z1 (λS=>some (g8 S))
 (Zd λS H k=>
 lF Zh base H (g5 S) λt31 H9=>
 Za (b2 Z0 (Zc (Zg S.1)) (tN 1)) λt34=>
 lA Zh base 19 H9 (g4 S) λt37 Ua=>
 Za (Zm call 162 [Zg t37,Zg (Zc (Zg (Ze (Zg S.1))))] Ua) λt39=>
 Za (b2 Z0 (Zc (g1 S)) t39) λt40=>
 Xd TC call Zh t31 [Zg (Zg S.1),Zg t34,Zg (Zg (Ze (Zg S.1))),tB false,Zg t40] Ua λt41 Gj=>
 k (z0 (Ze (Zg (Ze (Zg S.1))))<| z1 (Ze (g1 S))<| Zu 12 S) Gj)
 (Zn .normal)))
 (Zi (Zi (Zd λS H k=>
 Za (Zw (g4 S) 1) λt43=>
 lF Zh base H t43 λt44 Uy=>
 Za (b2 Xg (Zc (g7 S)) t44) λt45=>
 k (z7 (Ze (g7 S))<| z9 t45<| Zu 12 S) Uy)
 (Z1 (λS=>some (g9 S))
 (Zd λS H k=>
 lF Zh base H (g5 S) λt46 Ea=>
 Za (Zw (g4 S) 0) λt49=>
 lF Zh base Ea t49 λt50 D9=>
 Za (b2 Z0 (Zc (Zg S.1)) t50) λt51=>
 Za (b2 Z0 t51 (tN 1)) λt52=>
 lA Zh base 19 D9 (g4 S) λt55 D6=>
 Za (Zm call 162 [Zg t55,Zg (Zc (Zg (Ze (Zg S.1))))] D6) λt57=>
 Za (b2 Qq (Zc (g1 S)) t57) λt58=>
 Xd TC call Zh t46 [Zg (Zg S.1),Zg t52,Zg (Zg (Ze (Zg S.1))),tB true,Zg t58] D6 λt59 Iq=>
 k (z0 (Ze (Zg (Ze (Zg S.1))))<| z1 (Ze (g1 S))<| Zu 12 S) Iq)
 (Zn .normal)))
 (Zi (Zi (Zd λS H k=>
 Za (b2 Vt (Zc (g6 S)) (tN 0)) λt61=>
 k (z6 (Ze (g6 S))<| Uh t61<| Zu 12 S) H)
 (Z1 (λS=>some (J9 S))
 (Zd λS H k=>
 lF Zh base H (g5 S) λt62 Mw=>
 Za (b2 Qq (Zc (Zg S.1)) (tN 1)) λt65=>
 Za (b2 Qq (Zc (Ze (Zg S.1))) (tN 1)) λt67=>
 lA Zh base 19 Mw (g4 S) λt69 Mu=>
 Za (b2 Qq (Zc (Ze (Ze (Zg S.1)))) (tN 1)) λt71=>
 Za (Zm call 162 [Zg t69,Zg t71] Mu) λt72=>
 Za (b2 Qq (Zc (g1 S)) t72) λt73=>
 Xd TC call Zh t62 [Zg (Zg S.1),Zg t65,Zg t67,tB false,Zg t73] Mu λt74 Mn=>
 k (z0 (Ze (Ze (Ze (Zg S.1))))<| z1 (Ze (g1 S))<| Zu 12 S) Mn)
 (Zn .normal)))
 (Zi (Zd λS H k=>
 Za (b2 Vt (Zc (g7 S)) (tN 0)) λt76=>
 k (z7 (Ze (g7 S))<| Iv t76<| Zu 12 S) H)
 (Z1 (λS=>some (Jj S))
 (Zd λS H k=>
 lF Zh base H (g5 S) λt77 P7=>
 Za (Zw (g4 S) 0) λt80=>
 lF Zh base P7 t80 λt81 O4=>
 Za (b2 Qq (Zc (Zg S.1)) t81) λt82=>
 Za (b2 Qq t82 (tN 1)) λt83=>
 Za (Zw (g4 S) 0) λt85=>
 lF Zh base O4 t85 λt86 Bo=>
 Za (b2 Qq (Zc (Ze (Zg S.1))) t86) λt87=>
 Za (b2 Qq t87 (tN 1)) λt88=>
 lA Zh base 19 Bo (g4 S) λt90 Ar=>
 Za (Zw (g4 S) 0) λt92=>
 lF Zh base Ar t92 λt93 Tl=>
 Za (b2 Qq (Zc (Ze (Ze (Zg S.1)))) t93) λt94=>
 Za (b2 Qq t94 (tN 1)) λt95=>
 Za (Zm call 162 [Zg t90,Zg t95] Tl) λt96=>
 Za (b2 Z0 (Zc (g1 S)) t96) λt97=>
 Xd TC call Zh t77 [Zg (Zg S.1),Zg t83,Zg t88,tB true,Zg t97] Tl λt98 Nu=>
 k (z0 (Ze (Ze (Ze (Zg S.1))))<| z1 (Ze (g1 S))<| Zu 12 S) Nu)
 (Zn .normal))))))))
def F161:Ji:=λcall Zh l H=>Za (C161 call Zh (Zb H) (Zl l 0,Zl l 1,Zl l 2,Zl l 3,Zl l 4,Zl l 5,Zl l 8,Zl l 9,Zl l 30,Zl l 45,Zl l 61,Zl l 76,()) H) λp=>Xr p.1 (Zp (Z2 Qk []) (some (Xm (Zb H) (.Xh []) p.2.2)))
theorem Zsx:Jr P TC 161 F161:=λ_ _ _ _=>by kernel_rfl
def C162 (call:Z3) (Zh base:Nat):Z4 (TV×TV×TV×TV×Unit):=
 (Zi (Zd λS H k=>
 Zp (Yu S.1)<|
 let t2:=(.ptr (Zb H) 0);let H0:=(Zv H (.cells (Zy S.1)))
 k (z0 (Qu S.1)<| z2 t2<| z3 (tN 0)<| Zu 4 S) H0)
 (Zi (Zd λS H k=>
 Za (Zw (g2 S) 0) λt6=>
 lF Zh base H t6 λt7 H1=>
 Za (b2 Z0 t7 (tN 1)) λt8=>
 Za (b2 Y1 (Zc (g1 S)) t8) λt9=>
 Za (Zw (g2 S) 0) λt11=>
 lF Zh base H1 t11 λt12 H2=>
 Za (b2 Z0 t12 (tN 1)) λt13=>
 Za (b2 Jp (Zc (Ze (g1 S))) t13) λt14=>
 Za (b2 Z0 t9 t14) λt15=>
 Za (b2 Y1 t15 (tN 2)) λt16=>
 Za (b2 Y2 (tN 2) t16) λt17=>
 Za (b2 Qq (tN 1) t17) λt18=>
 k (z1 (Ze (Ze (g1 S)))<| z3 t18<| Zu 4 S) H2)
 (Zn .ret)))
def F162:Ji:=λcall Zh l H=>Za (C162 call Zh (Zb H) (Zl l 0,Zl l 1,Zl l 2,Zl l 4,()) H) λp=>Xr p.1 (Zp (Z2 Qk [p.2.1.2.2.2.1]) (some (Xm (Zb H) p.2.1.2.2.2.1 p.2.2)))
theorem Zsw:Jr P TC 162 F162:=λ_ _ _ _=>by kernel_rfl
def C164 (call:Z3) (Zh base:Nat):Z4 (TV×TV×TV×TV×TV×Unit):=
 (Zi (Zd λS H k=>
 Zp (Yu S.1)<|
 let t2:=(.ptr (Zb H) 0);let H0:=(Zv H (.cells (Zy S.1)))
 Zp (Yu (g1 S))<|
 let t3:=(.ptr (Zb H0) 0);let H1:=(Zv H0 (.cells (Zy (g1 S))))
 k (z0 (Qu S.1)<| z1 (Qu (g1 S))<| z2 t2<| z3 t3<| z4 (tN 0)<| Zu 5 S) H1)
 (Zi (Zd λS H k=>
 Za (G5 false 1 2 (g2 S) none none none) λt5=>
 Za (G5 false 1 2 (g3 S) none none none) λt6=>
 Za (Zm call 78 [Zg t5,Zg t6] H) λt7=>
 k (z4 t7<| Zu 5 S) H)
 (Zn .ret)))
def F164:Ji:=λcall Zh l H=>Za (C164 call Zh (Zb H) (Zl l 0,Zl l 1,Zl l 2,Zl l 3,Zl l 4,()) H) λp=>Xr p.1 (Zp (Z2 Qk [p.2.1.2.2.2.2.1]) (some (Xm (Zb H) p.2.1.2.2.2.2.1 p.2.2)))
theorem Zsv:Jr P TC 164 F164:=λ_ _ _ _=>by kernel_rfl
def C166 (call:Z3) (Zh base:Nat):Z4 (TV×TV×Unit):=
 (Zi (Zd λS H k=>
 k (z1 (tN 0)<| Zu 2 S) H)
 (Zi (Z1 (λS=>some (tB false))
 (Zi (Zd λS H k=>
 Za (b1 (Ki .u32) (Zc S.1)) λt4=>
 Za (Zm call 201 [Zg t4] H) λt5=>
 k (z0 (Ze S.1)<| z1 t5<| Zu 2 S) H)
 (Zn .ret))
 (Zn .normal))
 (Zi (Zd λS H k=>
 Za (Zm call 202 [Zg (Zc S.1)] H) λt7=>
 k (z0 (Ze S.1)<| z1 t7<| Zu 2 S) H)
 (Zn .ret))))
def F166:Ji:=λcall Zh l H=>Za (C166 call Zh (Zb H) (Zl l 0,Zl l 2,()) H) λp=>Xr p.1 (Zp (Z2 Qk [p.2.1.2.1]) (some (Xm (Zb H) p.2.1.2.1 p.2.2)))
theorem Zsu:Jr P TC 166 F166:=λ_ _ _ _=>by kernel_rfl
def C169 (call:Z3) (Zh base:Nat):Z4 (TV×TV×TV×TV×TV×TV×TV×TV×TV×TV×TV×TV×TV×TV×TV×Unit):=
 (Zi (Zd λS H k=>
 Zp (Yu S.1)<|
 let t2:=(.ptr (Zb H) 0);let H0:=(Zv H (.cells (Zy S.1)))
 k (z0 (Qu S.1)<| z2 t2<| z3 Xp<| Zu 15 S) H0)
 (Zi (Zd λS H k=>
 k (z4 Xp<| Zu 15 S) H)
 (Zi (Zi (Zd λS H k=>
 Za (Zw (g2 S) 2) λt11=>
 lF Zh base H t11 λt12 H1=>
 Za (Zm call 100 [Zg t12] H1) λt13=>
 Za (Kn t13) λt14=>
 k (z9 t13<| Uh t14<| Iv (tN 0)<| Zu 15 S) H1)
 (Z9 0 (Ym (Zi (Zd λS H k=>
 Za (b2 Xg (Jj S) (J9 S)) λt16=>
 k (Oj t16<| Zu 15 S) H)
 (Zi (Z1 (λS=>some (Dn S))
 (Zn .normal)
 (Zn (.exit 0)))
 (Zi (Z9 1 (Zi (Zd λS H k=>
 Za (Qh 1 (g9 S) (Jj S)) λt17=>
 sF Zh base H t17 λt18 H2=>
 k (z5 t18<| Zu 15 S) H2)
 (Zi (Zd λS H k=>
 Za (Zw (g2 S) 0) λt20=>
 lF Zh base H t20 λt21 H3=>
 Za (b2 Jp (Zc (g5 S)) t21) λt22=>
 Za (b2 Z0 t22 (tN 1)) λt23=>
 Za (Zw (g2 S) 0) λt24=>
 lF Zh base H3 t24 λt25 H4=>
 Za (b2 Z0 t25 (tN 1)) λt26=>
 Za (b2 Y2 t23 t26) λt27=>
 Za (Zw (g2 S) 0) λt29=>
 lF Zh base H4 t29 λt30 H5=>
 Za (b2 Y1 (Zc (Ze (g5 S))) t30) λt31=>
 Za (b2 Z0 t27 t31) λt32=>
 Za (b2 Z0 t32 (tN 1)) λt33=>
 k (z5 (Ze (Ze (g5 S)))<| z6 t33<| Zu 15 S) H5)
 (Zi (Zd λS H k=>
 Za (Qh 1 (Zc (g1 S)) (Zc (g6 S))) λt36=>
 lF Zh base H t36 λt37 H6=>
 Za (Zw (g2 S) 0) λt40=>
 lF Zh base H6 t40 λt41 H7=>
 Za (b2 Qq (Zc (Ze (g6 S))) t41) λt42=>
 Za (b2 Qq t42 (tN 1)) λt43=>
 Za (Qh 1 (Zc (Ze (g1 S))) t43) λt44=>
 lF Zh base H7 t44 λt45 H8=>
 Za (b2 Qq t37 t45) λt46=>
 Za (Qh 1 (Zc (Ze (Ze (g1 S)))) (Zc (Ze (Ze (g6 S))))) λt49=>
 lF Zh base H8 t49 λt50 H9=>
 Za (b2 Qq (Zc (Ze (Ze (Ze (g6 S))))) (tN 1)) λt53=>
 Za (Qh 1 (Zc (Ze (Ze (Ze (g1 S))))) t53) λt54=>
 lF Zh base H9 t54 λt55 Ua=>
 Za (b2 Qq t50 t55) λt56=>
 k (z1 (Ze (Ze (Ze (Ze (g1 S)))))<| z6 (Ze (Ze (Ze (Ze (g6 S)))))<| z7 t46<| z8 t56<| Zu 15 S) Ua)
 (Zi (Zi (Zd λS H k=>
 Za (Zw (g2 S) 3) λt58=>
 Za (Qt 16 1 t58 (Zc (g5 S))) λt59=>
 lF Zh base H t59 λt60 Gj=>
 Za (b2 Z0 (Zc (Ze (g5 S))) (tN 1)) λt62=>
 Za (b2 K7 t60 t62) λt63=>
 Za (b2 Km t63 (.v (.int .u64 (.ofNat 1)))) λt64=>
 Za (Ja .int t64 (.v (.int .u64 (.ofNat 1)))) λt65=>
 gV t65 true (Zc (Ze (Ze (g5 S)))) Gj λt67 Uy=>
 gB t65 true (Zw (g2 S) 0) Uy λt68 Ea=>
 Qp (Zc t65) true (lF Zh base Ea t68 λIz D9=>Qr Iz D9) Ea λt69 D6=>
 gB t65 true (b2 Y1 t67 t69) D6 λt70 Iq=>
 gB t65 true (Zw (g2 S) 0) Iq λt71 Mw=>
 Qp (Zc t65) true (lF Zh base Mw t71 λB5 Mu=>Qr B5 Mu) Mw λt72 Mn=>
 gB t65 true (b2 Qq t72 (tN 1)) Mn λt73 P7=>
 gB t65 true (b2 Xg t70 t73) P7 λt74 O4=>
 Za (Xa (Zc t65) (Zg t74) (tB false)) λt75=>
 gV t75 true (Zc (g7 S)) O4 λt77 Bo=>
 gV t75 true (Zc (Ze (g7 S))) Bo λt78 Ar=>
 gB t75 true (b2 Y2 t77 t78) Ar λt79 Tl=>
 gB t75 true (b2 Vt t79 (tN 1)) Tl λt80 Nu=>
 Za (Xa (Zc t75) (Zg t80) (tB false)) λt81=>
 k (z5 (Ze (Ze (Ze (g5 S))))<| z7 (Ze (Ze (g7 S)))<| Te t81<| Zu 15 S) Nu)
 (Z1 (λS=>some (Em S))
 (Zd λS H k=>
 Za (b2 Z0 (Zc (Zg (g5 S))) (tN 1)) λt85=>
 Za (Uk [(0,1,(Zg (g5 S))),(1,1,t85)] Vy) λt86=>
 Za (Yf 2 [0] [Zg t86] (Y5 [.agg Vy] 1)) λc26=>
 X6 Zh H 71 2 16 (g4 S) (.row .full (.own 71) 2 c26) λt88 wy=>
 k (z4 t88<| z5 (Ze (Zg (g5 S)))<| Zu 15 S) wy)
 (Zn .normal)))
 (Zi (Zd λS H k=>
 Za (Zw (g2 S) 3) λt90=>
 Za (Qt 16 1 t90 (Zc (g5 S))) λt91=>
 lF Zh base H t91 λt92 fp=>
 Za (Zw (g2 S) 0) λt94=>
 lF Zh base fp t94 λt95 nh=>
 Za (b2 Z0 (Zc (Ze (g5 S))) t95) λt96=>
 Za (b2 K7 t92 t96) λt97=>
 Za (b2 Km t97 (.v (.int .u64 (.ofNat 1)))) λt98=>
 Za (Ja .int t98 (.v (.int .u64 (.ofNat 1)))) λt99=>
 gV t99 true (Zc (g8 S)) nh λt101 w9=>
 gV t99 true (Zc (Ze (g8 S))) w9 λt102 ng=>
 gB t99 true (b2 Y2 t101 t102) ng λt103 o8=>
 gB t99 true (b2 Vt t103 (tN 1)) o8 λt104 o7=>
 Za (Xa (Zc t99) (Zg t104) (tB false)) λt105=>
 k (z5 (Ze (Ze (g5 S)))<| z8 (Ze (Ze (g8 S)))<| Cn t105<| Zu 15 S) o7)
 (Z1 (λS=>some (Iz S))
 (Zd λS H k=>
 Za (Zw (g2 S) 0) λt109=>
 lF Zh base H t109 λt110 H34=>
 Za (b2 Z0 (Zc (Zg (g5 S))) t110) λt111=>
 Za (Uk [(0,1,(Zg (g5 S))),(1,1,t111)] Vy) λt112=>
 Za (Yf 2 [0] [Zg t112] (Y5 [.agg Vy] 1)) λc35=>
 X6 Zh H34 71 2 16 (g4 S) (.row .full (.own 71) 2 c35) λt114 H36=>
 k (z4 t114<| z5 (Ze (Zg (g5 S)))<| Zu 15 S) H36)
 (Zn .normal))))))))
 (Zd λS H k=>
 Za (b2 Z0 (Jj S) (tN 1)) λt115=>
 k (Iv t115<| Zu 15 S) H)))) fuel)))
 (Zi (Zd λS H k=>
 k (z3 (g4 S)<| z4 (Qu (g4 S))<| Zu 15 S) H)
 (Zn .ret)))))
def F169:Ji:=λcall Zh l H=>Za (C169 call Zh (Zb H) (Zl l 0,Zl l 1,Zl l 2,Zl l 4,Zl l 5,Zl l 7,Zl l 8,Zl l 9,Zl l 10,Zl l 13,Zl l 14,Zl l 15,Zl l 16,Zl l 81,Zl l 105,()) H) λp=>Xr p.1 (Zp (Z2 Qk [p.2.1.2.2.2.1]) (some (Xm (Zb H) p.2.1.2.2.2.1 p.2.2)))
theorem Zst:Jr P TC 169 F169:=λ_ _ _ _=>by kernel_rfl
def C170 (call:Z3) (Zh base:Nat):Z4 (TV×TV×TV×TV×TV×TV×TV×TV×TV×TV×TV×Unit):=
 (Zi (Zd λS H k=>
 k (z3 (.v (.int .u64 (.ofNat 0)))<| Zu 11 S) H)
 (Z9 0 (Ym (Z9 1 (Zi (Zd λS H k=>
 k (z0 (Qu S.1)<| z4 S.1<| Zu 11 S) H)
 (Zi (Zi (Zd λS H k=>
 Za (Zm call 100 [Zg (Zc S.1)] H) λt12=>
 Za (Kn t12) λt13=>
 k (z0 (Ze S.1)<| z6 t12<| z7 t13<| z8 (tN 0)<| Zu 11 S) H)
 (Z9 2 (Ym (Zi (Zd λS H k=>
 Za (b2 Xg (g8 S) (g7 S)) λt15=>
 k (z9 t15<| Zu 11 S) H)
 (Zi (Z1 (λS=>some (g9 S))
 (Zn .normal)
 (Zn (.exit 2)))
 (Zi (Z9 3 (Zi (Zd λS H k=>
 Za (Qh 1 (g6 S) (g8 S)) λt16=>
 sF Zh base H t16 λt17 H0=>
 k (z5 t17<| Zu 11 S) H0)
 (Zd λS H k=>
 Xd TC call Zh (Zc (g2 S)) [Zg (Zg (g5 S))] H λt21 H1=>
 Za (b2 Km t21 (Zc (Zr (g1 S)))) λt23=>
 Za (b2 Ep (Zr (Zc (g4 S))) t23) λt24=>
 k (z1 (Ze (Zr (g1 S)))<| z2 (Ze (g2 S))<| z4 t24<| z5 (Zg (g5 S))<| Zu 11 S) H1)))
 (Zd λS H k=>
 Za (b2 Z0 (g8 S) (tN 1)) λt25=>
 k (z8 t25<| Zu 11 S) H)))) fuel)))
 (Zi (Zi (Zd λS H k=>
 Za (Ja .int (Zc (g4 S)) (Zc S.1)) λt28=>
 k (z0 (Ze S.1)<| z4 (Ze (g4 S))<| Uh t28<| Zu 11 S) H)
 (Z1 (λS=>some (J9 S))
 (Zi (Zd λS H k=>
 k (z3 (g4 S)<| z4 (Qu (g4 S))<| Zu 11 S) H)
 (Zn .ret))
 (Zn .normal)))
 (Zd λS H k=>
 k (z0 (g4 S)<| z4 (Qu (g4 S))<| Zu 11 S) H))))) fuel)))
def F170:Ji:=λcall Zh l H=>Za (C170 call Zh (Zb H) (Zl l 0,Zl l 1,Zl l 2,Zl l 6,Zl l 7,Zl l 9,Zl l 12,Zl l 13,Zl l 14,Zl l 15,Zl l 28,()) H) λp=>Xr p.1 (Zp (Z2 Qk [p.2.1.2.2.2.1]) (some (Xm (Zb H) p.2.1.2.2.2.1 p.2.2)))
theorem Zss:Jr P TC 170 F170:=λ_ _ _ _=>by kernel_rfl
def C171 (call:Z3) (Zh base:Nat):Z4 (TV×TV×TV×Unit):=
 (Zi (Zd λS H k=>
 k (z2 (.v (.int .u64 (.ofNat 0)))<| Zu 3 S) H)
 (Zi (Zd λS H k=>
 Za (Zw (g1 S) 3) λt5=>
 Za (Qt 16 1 t5 (Zc S.1)) λt6=>
 sF Zh base H t6 λt7 H0=>
 k (z0 (Ze S.1)<| z2 t7<| Zu 3 S) H0)
 (Zn .ret)))
def F171:Ji:=λcall Zh l H=>Za (C171 call Zh (Zb H) (Zl l 0,Zl l 1,Zl l 3,()) H) λp=>Xr p.1 (Zp (Z2 Qk [p.2.1.2.2.1]) (some (Xm (Zb H) p.2.1.2.2.1 p.2.2)))
theorem Zsr:Jr P TC 171 F171:=λ_ _ _ _=>by kernel_rfl
def C172 (call:Z3) (Zh base:Nat):Z4 (TV×TV×TV×TV×TV×TV×TV×TV×TV×TV×TV×Unit):=
 (Zi (Zd λS H k=>
 Zp (Yu S.1)<|
 let t2:=(.ptr (Zb H) 0);let H0:=(Zv H (.cells (Zy S.1)))
 k (z0 (Qu S.1)<| z2 t2<| z3 (.v (.int .u64 (.ofNat 0)))<| Zu 11 S) H0)
 (Zi (Zd λS H k=>
 Za (Zw (g2 S) 0) λt9=>
 lF Zh base H t9 λt10 H1=>
 Za (b2 Y1 (Zc (g1 S)) t10) λt11=>
 Za (Zw (g2 S) 0) λt13=>
 lF Zh base H1 t13 λt14 H2=>
 Za (b2 Jp (Zc (Ze (g1 S))) t14) λt15=>
 k (z1 (Ze (Ze (g1 S)))<| z4 t11<| z5 t15<| Zu 11 S) H2)
 (Zi (Zd λS H k=>
 k (z6 (.v (.int .u64 (.ofNat 0)))<| Zu 11 S) H)
 (Zi (Zi (Zd λS H k=>
 Za (b2 Vt (Zc (g4 S)) (tN 0)) λt17=>
 k (z4 (Ze (g4 S))<| z7 t17<| Zu 11 S) H)
 (Z1 (λS=>some (g7 S))
 (Zd λS H k=>
 Za (b2 Qq (Zc (g1 S)) (tN 1)) λt20=>
 Za (b2 Y8 (.v (.int .u64 (.ofNat 1))) t20) λt21=>
 Za (b2 Ep (Zc (g6 S)) t21) λt22=>
 k (z1 (Ze (g1 S))<| z6 t22<| Zu 11 S) H)
 (Zn .normal)))
 (Zi (Zi (Zd λS H k=>
 Za (Zw (g2 S) 0) λt24=>
 lF Zh base H t24 λt25 H3=>
 Za (b2 Qq t25 (tN 1)) λt26=>
 Za (b2 Xg (Zc (g4 S)) t26) λt27=>
 k (z4 (Ze (g4 S))<| z8 t27<| Zu 11 S) H3)
 (Z1 (λS=>some (g8 S))
 (Zd λS H k=>
 Za (b2 Z0 (Zc (g1 S)) (tN 1)) λt30=>
 Za (b2 Y8 (.v (.int .u64 (.ofNat 1))) t30) λt31=>
 Za (b2 Ep (Zc (g6 S)) t31) λt32=>
 k (z1 (Ze (g1 S))<| z6 t32<| Zu 11 S) H)
 (Zn .normal)))
 (Zi (Zi (Zd λS H k=>
 Za (b2 Vt (Zc (g5 S)) (tN 0)) λt34=>
 k (z5 (Ze (g5 S))<| z9 t34<| Zu 11 S) H)
 (Z1 (λS=>some (g9 S))
 (Zd λS H k=>
 Za (Zw (g2 S) 0) λt37=>
 lF Zh base H t37 λt38 H4=>
 Za (b2 Qq (Zc (g1 S)) t38) λt39=>
 Za (b2 Y8 (.v (.int .u64 (.ofNat 1))) t39) λt40=>
 Za (b2 Ep (Zc (g6 S)) t40) λt41=>
 k (z1 (Ze (g1 S))<| z6 t41<| Zu 11 S) H4)
 (Zn .normal)))
 (Zi (Zi (Zd λS H k=>
 Za (Zw (g2 S) 1) λt43=>
 lF Zh base H t43 λt44 H5=>
 Za (b2 Qq t44 (tN 1)) λt45=>
 Za (b2 Xg (Zc (g5 S)) t45) λt46=>
 k (z5 (Ze (g5 S))<| Uh t46<| Zu 11 S) H5)
 (Z1 (λS=>some (J9 S))
 (Zd λS H k=>
 Za (Zw (g2 S) 0) λt49=>
 lF Zh base H t49 λt50 H6=>
 Za (b2 Z0 (Zc (g1 S)) t50) λt51=>
 Za (b2 Y8 (.v (.int .u64 (.ofNat 1))) t51) λt52=>
 Za (b2 Ep (Zc (g6 S)) t52) λt53=>
 k (z1 (Ze (g1 S))<| z6 t53<| Zu 11 S) H6)
 (Zn .normal)))
 (Zi (Zd λS H k=>
 k (z3 (g6 S)<| z6 (Qu (g6 S))<| Zu 11 S) H)
 (Zn .ret)))))))))
def F172:Ji:=λcall Zh l H=>Za (C172 call Zh (Zb H) (Zl l 0,Zl l 1,Zl l 2,Zl l 4,Zl l 5,Zl l 6,Zl l 7,Zl l 17,Zl l 27,Zl l 34,Zl l 46,()) H) λp=>Xr p.1 (Zp (Z2 Qk [p.2.1.2.2.2.1]) (some (Xm (Zb H) p.2.1.2.2.2.1 p.2.2)))
theorem Zsq:Jr P TC 172 F172:=λ_ _ _ _=>by kernel_rfl
def Zda (call:Z3) (Zh base:Nat):Z4 (TV×TV×TV×TV×TV×TV×TV×TV×TV×TV×TV×TV×TV×TV×TV×TV×TV×TV×TV×Unit):=
 (Zi (Zi (Zd λS H k=>
 lF Zh base H (g4 S) λt16 H0=>
 Za (Kn t16) λt17=>
 Za (Ja .int (Zc S.1) t17) λt18=>
 k (z0 (Ze S.1)<| Uh t18<| Zu 19 S) H0)
 (Z1 (λS=>some (J9 S))
 (Zi (Zi (Zd λS H k=>
 Za (Ja .int (Zc (g1 S)) (tN 0)) λt20=>
 k (z1 (Ze (g1 S))<| Iv t20<| Zu 19 S) H)
 (Z1 (λS=>some (Jj S))
 (Zd λS H k=>
 lF Zh base H (g5 S) λt21 H1=>
 Xd TC call Zh t21 [Zg (Zg (g3 S))] H1 λt23 H2=>
 k (z3 (Zg (g3 S))<| Zu 19 S) H2)
 (Zn .normal)))
 (Zn .ret))
 (Zn .normal)))
 (Zi (Zd λS H k=>
 lF Zh base H (g4 S) λt24 H3=>
 Za (Qh 1 t24 (Zc S.1)) λt26=>
 sF Zh base H3 t26 λt27 H4=>
 k (z0 (Ze S.1)<| z8 t27<| Zu 19 S) H4)
 (Zi (Zi (Zd λS H k=>
 Za (b2 K7 (Zc (g2 S)) (Zc (g8 S))) λt30=>
 Za (b2 Km t30 (.v (.int .u64 (.ofNat 1)))) λt31=>
 Za (Ja .int t31 (.v (.int .u64 (.ofNat 1)))) λt32=>
 k (z2 (Ze (g2 S))<| z8 (Ze (g8 S))<| Oj t32<| Zu 19 S) H)
 (Z1 (λS=>some (Dn S))
 (Zi (Zd λS H k=>
 lF Zh base H (g6 S) λt33 H5=>
 Za (b2 Z0 (Zc S.1) (tN 1)) λt35=>
 Xd TC call Zh t33 [Zg t35,Zg (Zg (g1 S)),Zg (Zg (g2 S)),Zg (Zg (g3 S))] H5 λt39 H6=>
 k (z0 (Ze S.1)<| z1 (Zg (g1 S))<| z2 (Zg (g2 S))<| z3 (Zg (g3 S))<| Zu 19 S) H6)
 (Zn .ret))
 (Zn .normal)))
 (Zi (Zi (Zd λS H k=>
 sF Zh base H (g7 S) λt40 H7=>
 Za (Kn t40) λt41=>
 k (Te t40<| Cn t41<| zb (tN 0)<| Zu 19 S) H7)
 (Z9 0 (Ym (Zi (Zd λS H k=>
 Za (b2 Xg (Ra S) (Iz S)) λt43=>
 k (nu t43<| Zu 19 S) H)
 (Zi (Z1 (λS=>some (Nt S))
 (Zn .normal)
 (Zn (.exit 0)))
 (Zi (Z9 1 (Zi (Zd λS H k=>
 Za (Qh 2 (Em S) (Ra S)) λt44=>
 sA Zh base 2 H t44 λt45 H8=>
 let t14:=(.ptr (Zb H8) 0);let H9:=(Zv H8 (.cells Vy))
 Za (storeT Zh base 2 H9 t14 t45) λUa=>
 k (z9 t14<| Zu 19 S) Ua)
 (Zi (Zd λS H k=>
 Za (Qt 2 1 (g9 S) (tN 0)) λt46=>
 lF Zh base H t46 λt47 Gj=>
 Za (Ja .int t47 (Zc (g8 S))) λt49=>
 gV t49 true (Zc (g2 S)) Gj λt51 Uy=>
 gB t49 true (Qt 2 1 (g9 S) (tN 1)) Uy λt52 Ea=>
 Qp (Zc t49) true (lF Zh base Ea t52 λIz D9=>Qr Iz D9) Ea λt53 D6=>
 gB t49 true (b2 K7 t51 t53) D6 λt54 Iq=>
 gB t49 true (b2 Km t54 (.v (.int .u64 (.ofNat 1)))) Iq λt55 Mw=>
 gB t49 true (Ja .int t55 (.v (.int .u64 (.ofNat 0)))) Mw λt56 Mu=>
 Za (Xa (Zc t49) (Zg t56) (tB false)) λt57=>
 k (z2 (Ze (g2 S))<| z8 (Ze (g8 S))<| x5 t57<| Zu 19 S) Mu)
 (Z1 (λS=>some (Bi S))
 (Zd λS H k=>
 lF Zh base H (g6 S) λt58 Mn=>
 Za (b2 Z0 (Zc S.1) (tN 1)) λt60=>
 Za (b2 Y8 (.v (.int .u64 (.ofNat 1))) (Zc (g8 S))) λt64=>
 Za (b2 Ep (Zc (g2 S)) t64) λt65=>
 Za (Qt 2 1 (g9 S) (tN 1)) λt66=>
 lF Zh base Mn t66 λt67 P7=>
 Za (b2 Y8 (.v (.int .u64 (.ofNat 1))) t67) λt68=>
 Za (b2 Ep t65 t68) λt69=>
 Za (Kn (Zc (Ze (g3 S)))) λt72=>
 Za (Kn (Zc (Ze (Ze (g3 S))))) λt74=>
 Za (Ao 2 (Zc (g3 S)) none (some t72) (some t74)) λt75=>
 sA Zh base 2 P7 (g9 S) λt76 O4=>
 Za (Yf 2 [0] [Zg t76] (Y5 [.agg Vy] 1)) λc22=>
 Zp (Tb [hdX (g6 S) (hdP H (g6 S)),hdX t66 (hdP Mn t66)] [hdX t75 (hdP P7 t75),hdX (.row .full (.own 71) 2 c22) (hdP O4 (.row .full (.own 71) 2 c22))])<|
 X6 Zh O4 71 2 16 t75 (.row .full (.own 71) 2 c22) λt78 Ar=>
 Xd TC call Zh (Zr t58) [Zg (Zr t60),Zg (Zr (Zg (g1 S))),Zg (Zr t69),Zg t78] Ar λt79 Tl=>
 k (z0 (Ze S.1)<| z1 (Zg (g1 S))<| z2 (Ze (g2 S))<| z3 (Ze (Ze (Ze (g3 S))))<| z8 (Ze (g8 S))<| Zu 19 S) Tl)
 (Zn .normal)))))
 (Zd λS H k=>
 Za (b2 Z0 (Ra S) (tN 1)) λt80=>
 k (zb t80<| Zu 19 S) H)))) fuel)))
 (Zi (Zd λS H k=>
 Za (b2 Vt (Zc (g1 S)) (tN 0)) λt82=>
 k (z1 (Ze (g1 S))<| xd t82<| Zu 19 S) H)
 (Z1 (λS=>some (B5 S))
 (Zd λS H k=>
 lF Zh base H (g6 S) λt83 Nu=>
 Za (b2 Z0 (Zc S.1) (tN 1)) λt85=>
 Za (b2 Qq (Zc (g1 S)) (tN 1)) λt87=>
 Xd TC call Zh t83 [Zg t85,Zg t87,Zg (Zg (g2 S)),Zg (Zg (g3 S))] Nu λt90 o9=>
 k (z0 (Ze S.1)<| z1 (Ze (g1 S))<| z2 (Zg (g2 S))<| z3 (Zg (g3 S))<| Zu 19 S) o9)
 (Zn .normal)))))))
def F175:Ji:=λcall Zh l H=>Za (Zda call Zh (Zb H) (Zl l 0,Zl l 1,Zl l 2,Zl l 3,Zl l 4,Zl l 5,Zl l 6,Zl l 7,Zl l 12,Zl l 14,Zl l 18,Zl l 20,Zl l 32,Zl l 40,Zl l 41,Zl l 42,Zl l 43,Zl l 57,Zl l 82,()) H) λp=>Xr p.1 (Zp (Z2 Qk []) (some (Xm (Zb H) (.Xh []) p.2.2)))
theorem Zsp:Jr P TC 175 F175:=λ_ _ _ _=>by kernel_rfl
def C176 (call:Z3) (Zh base:Nat):Z4 (TV×TV×Unit):=
 (Zi (Zd λS H k=>
 k (z1 (tB false)<| Zu 2 S) H)
 (Zi (Zd λS H k=>
 Za (Jc .int (Zc S.1) (Zc (Ze S.1))) λt5=>
 k (z0 (Ze (Ze S.1))<| z1 t5<| Zu 2 S) H)
 (Zn .ret)))
def F176:Ji:=λcall Zh l H=>Za (C176 call Zh (Zb H) (Zl l 0,Zl l 2,()) H) λp=>Xr p.1 (Zp (Z2 Qk [p.2.1.2.1]) (some (Xm (Zb H) p.2.1.2.1 p.2.2)))
theorem Zso:Jr P TC 176 F176:=λ_ _ _ _=>by kernel_rfl
def Zfz (call:Z3) (Zh base:Nat):Z4 (TV×TV×TV×TV×TV×TV×TV×Unit):=
 (Zi (Zd λS H k=>
 Za (b2 Z0 (Zc (g1 S)) (tN 1)) λt9=>
 k (z1 (Ze (g1 S))<| z3 t9<| Zu 7 S) H)
 (Z9 0 (Ym (Zi (Zi (Zd λS H k=>
 Za (b2 Xg (Zc (g3 S)) (Zc (g2 S))) λt12=>
 k (z2 (Ze (g2 S))<| z3 (Ze (g3 S))<| z5 t12<| Zu 7 S) H)
 (Z1 (λS=>some (g5 S))
 (Zn .normal)
 (Zn (.exit 0))))
 (Zi (Z9 1 (Zi (Zd λS H k=>
 k (z3 (Qu (g3 S))<| z4 (g3 S)<| Zu 7 S) H)
 (Z9 2 (Ym (Zi (Zi (Zd λS H k=>
 Za (b2 Vt (Zc (g4 S)) (Zc (g1 S))) λt18=>
 gV t18 true (Zc S.1) H λt20 H0=>
 gV t18 true (Zc (Ze (g4 S))) H0 λt21 H1=>
 gB t18 true (Qh 1 t20 t21) H1 λt22 H2=>
 Qp (Zc t18) true (lF Zh base H2 t22 λg3 H3=>Qr g3 H3) H2 λt23 H4=>
 gV t18 true (Zc (Ze S.1)) H4 λt24 H5=>
 gV t18 true (Zc (Ze (Ze (g4 S)))) H5 λt25 H6=>
 gB t18 true (b2 Qq t25 (tN 1)) H6 λt26 H7=>
 gB t18 true (Qh 1 t24 t26) H7 λt27 H8=>
 Qp (Zc t18) true (lF Zh base H8 t27 λg9 H9=>Qr g9 H9) H8 λt28 Ua=>
 gB t18 true (Zm call 183 [Zg t23,Zg t28] Ua) Ua λt29 Gj=>
 Za (Xa (Zc t18) (Zg t29) (tB false)) λt30=>
 k (z0 (Ze (Ze S.1))<| z1 (Ze (g1 S))<| z4 (Ze (Ze (Ze (g4 S))))<| z6 t30<| Zu 7 S) Gj)
 (Z1 (λS=>some (g6 S))
 (Zn .normal)
 (Zn (.exit 2))))
 (Zi (Z9 3 (Zd λS H k=>
 Xb 1 false S.1 H λc12 Uy=>
 Xb 1 false (Zr c12) Uy λqb Ea=>
 Za (b2 Qq (Zc (Zr (Ze (Zr (g4 S))))) (tN 1)) λt37=>
 Za (b2 Qq (Zc (Ze (Zr (Ze (Zr (g4 S)))))) (tN 1)) λt40=>
 Za (Qh 1 (Zc (Zr qb)) t40) λt41=>
 sF Zh base Ea t41 λt42 D9=>
 Za (Qh 1 (Zc (Ze (Zr qb))) (Zc (Ze (Ze (Zr (Ze (Zr (g4 S)))))))) λt45=>
 sF Zh base D9 t45 λt46 D6=>
 Xb 1 false (Zr c12) D6 λc16 Iq=>
 Za (Qh 1 c16 (Zr (Zc (Zr (g4 S))))) λt47=>
 Za (storeT Zh base 1 Iq t47 (Zr t42)) λMw=>
 Xb 1 false (Zr qb) Mw λc18 Mu=>
 Za (Qh 1 c18 (Zr t37)) λt48=>
 Za (storeT Zh base 1 Mu t48 (Zr t46)) λMn=>
 k (z0 (Ze (Ze (Zr qb)))<| z4 (Ze (Ze (Ze (Zr (Ze (Zr (g4 S)))))))<| Zu 7 S) Mn))
 (Zd λS H k=>
 Za (b2 Qq (Zc (g4 S)) (tN 1)) λt32=>
 k (z4 t32<| Zu 7 S) H))) fuel))))
 (Zd λS H k=>
 Za (b2 Z0 (Zc (g3 S)) (tN 1)) λt14=>
 k (z3 t14<| Zu 7 S) H))) fuel)))
def F177:Ji:=λcall Zh l H=>Za (Zfz call Zh (Zb H) (Zl l 0,Zl l 1,Zl l 2,Zl l 6,Zl l 7,Zl l 12,Zl l 30,()) H) λp=>Xr p.1 (Zp (Z2 Qk []) (some (Xm (Zb H) (.Xh []) p.2.2)))
theorem Zsn:Jr P TC 177 F177:=λ_ _ _ _=>by kernel_rfl
end
end Go.Proofs.YtgemobbfikjmoaaGreatDoor
namespace Go.Proofs.YtgemobbfikjmoaaGreatDoor
open Go Go.Ev
set_option maxRecDepth 1000000
set_option linter.unusedVariables false
noncomputable section
def C183 (call:Z3) (Zh base:Nat):Z4 (TV×TV×TV×Unit):=
 (Zi (Zd λS H k=>
 k (z2 (tB false)<| Zu 3 S) H)
 (Zi (Zd λS H k=>
 Za (Zm call 176 [Zg (Zc S.1)] H) λt6=>
 gV t6 true (Zc (g1 S)) H λt8 H0=>
 gB t6 true (Zm call 176 [Zg t8] H0) H0 λt9 H1=>
 gB t6 true (b1 Gh t9) H1 λt10 H2=>
 Za (Xa (Zc t6) (Zg t10) (tB false)) λt11=>
 gV t11 false (Zc (Ze S.1)) H2 λt13 H3=>
 gV t11 false (Zc (Ze (g1 S))) H3 λt14 H4=>
 gB t11 false (b2 Xg t13 t14) H4 λt15 H5=>
 Za (Xa (Zc t11) (tB true) (Zg t15)) λt16=>
 k (z0 (Ze (Ze S.1))<| z1 (Ze (Ze (g1 S)))<| z2 t16<| Zu 3 S) H5)
 (Zn .ret)))
def F183:Ji:=λcall Zh l H=>Za (C183 call Zh (Zb H) (Zl l 0,Zl l 1,Zl l 4,()) H) λp=>Xr p.1 (Zp (Z2 Qk [p.2.1.2.2.1]) (some (Xm (Zb H) p.2.1.2.2.1 p.2.2)))
theorem Zsm:Jr P TC 183 F183:=λ_ _ _ _=>by kernel_rfl
def C186 (call:Z3) (Zh base:Nat):Z4 (TV×TV×TV×TV×Unit):=
 (Zi (Zd λS H k=>
 k (z1 (tN 0)<| Zu 4 S) H)
 (Zi (Zi (Zd λS H k=>
 Za (b2 K0 (Zc S.1) (.v (.int .u32 (.ofNat 65536)))) λt4=>
 k (z0 (Ze S.1)<| z2 t4<| Zu 4 S) H)
 (Z1 (λS=>some (g2 S))
 (Zi (Zd λS H k=>
 Za (b2 K7 (Zc S.1) (.v (.int .u64 (.ofNat 16)))) λt6=>
 k (z0 t6<| Zu 4 S) H)
 (Zd λS H k=>
 k (z1 (tN 16)<| Zu 4 S) H))
 (Zn .normal)))
 (Zi (Zi (Zd λS H k=>
 Za (b2 K0 (Zc S.1) (.v (.int .u32 (.ofNat 256)))) λt8=>
 k (z0 (Ze S.1)<| z3 t8<| Zu 4 S) H)
 (Z1 (λS=>some (g3 S))
 (Zi (Zd λS H k=>
 Za (b2 K7 (Zc S.1) (.v (.int .u64 (.ofNat 8)))) λt10=>
 k (z0 t10<| Zu 4 S) H)
 (Zd λS H k=>
 Za (b2 Z0 (Zc (g1 S)) (tN 8)) λt12=>
 k (z1 t12<| Zu 4 S) H))
 (Zn .normal)))
 (Zi (Zd λS H k=>
 Za (b1 (Ki .u8) (Zc S.1)) λt15=>
 Za (Oa (.v str0) t15) λt16=>
 Za (b1 (Ki .i64) t16) λt17=>
 Za (b2 Z0 (Zc (g1 S)) t17) λt18=>
 k (z0 (Ze S.1)<| z1 t18<| Zu 4 S) H)
 (Zn .ret)))))
def F186:Ji:=λcall Zh l H=>Za (C186 call Zh (Zb H) (Zl l 0,Zl l 2,Zl l 4,Zl l 8,()) H) λp=>Xr p.1 (Zp (Z2 Qk [p.2.1.2.1]) (some (Xm (Zb H) p.2.1.2.1 p.2.2)))
theorem Zsl:Jr P TC 186 F186:=λ_ _ _ _=>by kernel_rfl
def C187 (call:Z3) (Zh base:Nat):Z4 (TV×TV×TV×TV×TV×Unit):=
 (Zi (Zd λS H k=>
 k (z1 (tN 0)<| Zu 5 S) H)
 (Zi (Zi (Zd λS H k=>
 Za (b2 K0 (Zc S.1) (.v (.int .u64 (.ofNat 4294967296)))) λt4=>
 k (z0 (Ze S.1)<| z2 t4<| Zu 5 S) H)
 (Z1 (λS=>some (g2 S))
 (Zi (Zd λS H k=>
 Za (b2 K7 (Zc S.1) (.v (.int .u64 (.ofNat 32)))) λt6=>
 k (z0 t6<| Zu 5 S) H)
 (Zd λS H k=>
 k (z1 (tN 32)<| Zu 5 S) H))
 (Zn .normal)))
 (Zi (Zi (Zd λS H k=>
 Za (b2 K0 (Zc S.1) (.v (.int .u64 (.ofNat 65536)))) λt8=>
 k (z0 (Ze S.1)<| z3 t8<| Zu 5 S) H)
 (Z1 (λS=>some (g3 S))
 (Zi (Zd λS H k=>
 Za (b2 K7 (Zc S.1) (.v (.int .u64 (.ofNat 16)))) λt10=>
 k (z0 t10<| Zu 5 S) H)
 (Zd λS H k=>
 Za (b2 Z0 (Zc (g1 S)) (tN 16)) λt12=>
 k (z1 t12<| Zu 5 S) H))
 (Zn .normal)))
 (Zi (Zi (Zd λS H k=>
 Za (b2 K0 (Zc S.1) (.v (.int .u64 (.ofNat 256)))) λt14=>
 k (z0 (Ze S.1)<| z4 t14<| Zu 5 S) H)
 (Z1 (λS=>some (g4 S))
 (Zi (Zd λS H k=>
 Za (b2 K7 (Zc S.1) (.v (.int .u64 (.ofNat 8)))) λt16=>
 k (z0 t16<| Zu 5 S) H)
 (Zd λS H k=>
 Za (b2 Z0 (Zc (g1 S)) (tN 8)) λt18=>
 k (z1 t18<| Zu 5 S) H))
 (Zn .normal)))
 (Zi (Zd λS H k=>
 Za (b1 (Ki .u8) (Zc S.1)) λt21=>
 Za (Oa (.v str0) t21) λt22=>
 Za (b1 (Ki .i64) t22) λt23=>
 Za (b2 Z0 (Zc (g1 S)) t23) λt24=>
 k (z0 (Ze S.1)<| z1 t24<| Zu 5 S) H)
 (Zn .ret))))))
def F187:Ji:=λcall Zh l H=>Za (C187 call Zh (Zb H) (Zl l 0,Zl l 2,Zl l 4,Zl l 8,Zl l 14,()) H) λp=>Xr p.1 (Zp (Z2 Qk [p.2.1.2.1]) (some (Xm (Zb H) p.2.1.2.1 p.2.2)))
theorem Zsk:Jr P TC 187 F187:=λ_ _ _ _=>by kernel_rfl
def C188 (call:Z3) (Zh base:Nat):Z4 (TV×TV×TV×TV×TV×TV×TV×TV×Unit):=
 (Zi (Zd λS H k=>
 Za (b2 Z0 (Zc (g1 S)) (tN 1)) λt11=>
 k (z1 (Ze (g1 S))<| z4 t11<| Zu 8 S) H)
 (Z9 0 (Ym (Zi (Zi (Zd λS H k=>
 Za (b2 Xg (Zc (g4 S)) (Zc (g2 S))) λt14=>
 k (z2 (Ze (g2 S))<| z4 (Ze (g4 S))<| z6 t14<| Zu 8 S) H)
 (Z1 (λS=>some (g6 S))
 (Zn .normal)
 (Zn (.exit 0))))
 (Zi (Z9 1 (Zi (Zd λS H k=>
 k (z4 (Qu (g4 S))<| z5 (g4 S)<| Zu 8 S) H)
 (Z9 2 (Ym (Zi (Zi (Zd λS H k=>
 Za (b2 Vt (Zc (g5 S)) (Zc (g1 S))) λt20=>
 gV t20 true (Zc (g3 S)) H λt22 H0=>
 gV t20 true (Zc S.1) H0 λt23 H1=>
 gV t20 true (Zc (Ze (g5 S))) H1 λt24 H2=>
 gB t20 true (Qh 2 t23 t24) H2 λt25 H3=>
 Qp (Zc t20) true (sA Zh base 2 H3 t25 λg4 H4=>Qr g4 H4) H3 λt26 H5=>
 gV t20 true (Zc (Ze S.1)) H5 λt27 H6=>
 gV t20 true (Zc (Ze (Ze (g5 S)))) H6 λt28 H7=>
 gB t20 true (b2 Qq t28 (tN 1)) H7 λt29 H8=>
 gB t20 true (Qh 2 t27 t29) H8 λt30 H9=>
 Qp (Zc t20) true (sA Zh base 2 H9 t30 λJ9 Ua=>Qr J9 Ua) H9 λt31 Gj=>
 Qp (Zc t20) true (Xd TC call Zh t22 [Zg t26,Zg t31] Gj λDn Uy=>Qr Dn Uy) Gj λt32 Ea=>
 gB t20 true (b2 Xg t32 (tN 0)) Ea λt33 D9=>
 Za (Xa (Zr (Zc t20)) (Zg t33) (tB false)) λt34=>
 k (z0 (Ze (Ze S.1))<| z1 (Ze (g1 S))<| z3 (Ze (g3 S))<| z5 (Ze (Ze (Ze (g5 S))))<| z7 t34<| Zu 8 S) D9)
 (Z1 (λS=>some (g7 S))
 (Zn .normal)
 (Zn (.exit 2))))
 (Zi (Z9 3 (Zd λS H k=>
 Xb 2 true S.1 H λc15 D6=>
 Xb 2 true (Zr c15) D6 λc16 Iq=>
 Za (b2 Qq (Zc (Zr (Ze (Zr (g5 S))))) (tN 1)) λt41=>
 Za (b2 Qq (Zc (Ze (Zr (Ze (Zr (g5 S)))))) (tN 1)) λt44=>
 Za (Qh 2 (Zc (Zr c16)) t44) λt45=>
 sA Zh base 2 Iq t45 λt46 Mw=>
 Za (Qh 2 (Zc (Ze (Zr c16))) (Zc (Ze (Ze (Zr (Ze (Zr (g5 S)))))))) λt49=>
 sA Zh base 2 Mw t49 λt50 Mu=>
 Xb 2 true (Zr c15) Mu λc19 Mn=>
 Za (Qh 2 c19 (Zr (Zc (Zr (g5 S))))) λt51=>
 Za (storeT Zh base 2 Mn t51 (Zr t46)) λP7=>
 Xb 2 true (Zr c16) P7 λc21 O4=>
 Za (Qh 2 c21 (Zr t41)) λt52=>
 Za (storeT Zh base 2 O4 t52 (Zr t50)) λBo=>
 k (z0 (Ze (Ze (Zr c16)))<| z5 (Ze (Ze (Ze (Zr (Ze (Zr (g5 S)))))))<| Zu 8 S) Bo))
 (Zd λS H k=>
 Za (b2 Qq (Zc (g5 S)) (tN 1)) λt36=>
 k (z5 t36<| Zu 8 S) H))) fuel))))
 (Zd λS H k=>
 Za (b2 Z0 (Zc (g4 S)) (tN 1)) λt16=>
 k (z4 t16<| Zu 8 S) H))) fuel)))
def F188:Ji:=λcall Zh l H=>Za (C188 call Zh (Zb H) (Zl l 0,Zl l 1,Zl l 2,Zl l 3,Zl l 8,Zl l 9,Zl l 14,Zl l 34,()) H) λp=>Xr p.1 (Zp (Z2 Qk []) (some (Xm (Zb H) (.Xh []) p.2.2)))
theorem Zsj:Jr P TC 188 F188:=λ_ _ _ _=>by kernel_rfl
def C196 (call:Z3) (Zh base:Nat):Z4 (TV×TV×TV×Unit):=
 (Zi (Zd λS H k=>
 k (z1 (tN 0)<| Zu 3 S) H)
 (Zi (Zi (Zd λS H k=>
 Za (Ja .int (Zc S.1) (.v (.int .u32 (.ofNat 0)))) λt4=>
 k (z0 (Ze S.1)<| z2 t4<| Zu 3 S) H)
 (Z1 (λS=>some (g2 S))
 (Zi (Zd λS H k=>
 k (z1 (tN 32)<| Zu 3 S) H)
 (Zn .ret))
 (Zn .normal)))
 (Zi (Zd λS H k=>
 Za (b1 Cg (Zc (Ze S.1))) λt7=>
 Za (b2 Km (Zc S.1) t7) λt8=>
 Za (b2 Y2 t8 (.v (.int .u32 (.ofNat 125613361)))) λt9=>
 Za (b2 K7 t9 (.v (.int .u64 (.ofNat 27)))) λt10=>
 Za (Qt 32 1 (.el .set tab0 0) t10) λt11=>
 lF Zh base H t11 λt12 H0=>
 Za (b1 (Ki .i64) t12) λt13=>
 k (z0 (Ze (Ze S.1))<| z1 t13<| Zu 3 S) H0)
 (Zn .ret))))
def F196:Ji:=λcall Zh l H=>Za (C196 call Zh (Zb H) (Zl l 0,Zl l 2,Zl l 4,()) H) λp=>Xr p.1 (Zp (Z2 Qk [p.2.1.2.1]) (some (Xm (Zb H) p.2.1.2.1 p.2.2)))
theorem Zsi:Jr P TC 196 F196:=λ_ _ _ _=>by kernel_rfl
def C197 (call:Z3) (Zh base:Nat):Z4 (TV×TV×TV×Unit):=
 (Zi (Zd λS H k=>
 k (z1 (tN 0)<| Zu 3 S) H)
 (Zi (Zi (Zd λS H k=>
 Za (Ja .int (Zc S.1) (.v (.int .u64 (.ofNat 0)))) λt4=>
 k (z0 (Ze S.1)<| z2 t4<| Zu 3 S) H)
 (Z1 (λS=>some (g2 S))
 (Zi (Zd λS H k=>
 k (z1 (tN 64)<| Zu 3 S) H)
 (Zn .ret))
 (Zn .normal)))
 (Zi (Zd λS H k=>
 Za (b1 Cg (Zc (Ze S.1))) λt7=>
 Za (b2 Km (Zc S.1) t7) λt8=>
 Za (b2 Y2 t8 (.v (.int .u64 (.ofNat 285870213051353865)))) λt9=>
 Za (b2 K7 t9 (.v (.int .u64 (.ofNat 58)))) λt10=>
 Za (Qt 64 1 (.el .set tab1 0) t10) λt11=>
 lF Zh base H t11 λt12 H0=>
 Za (b1 (Ki .i64) t12) λt13=>
 k (z0 (Ze (Ze S.1))<| z1 t13<| Zu 3 S) H0)
 (Zn .ret))))
def F197:Ji:=λcall Zh l H=>Za (C197 call Zh (Zb H) (Zl l 0,Zl l 2,Zl l 4,()) H) λp=>Xr p.1 (Zp (Z2 Qk [p.2.1.2.1]) (some (Xm (Zb H) p.2.1.2.1 p.2.2)))
theorem Zsh:Jr P TC 197 F197:=λ_ _ _ _=>by kernel_rfl
def C198 (call:Z3) (Zh base:Nat):Z4 (TV×TV×TV×TV×TV×TV×TV×TV×Unit):=
 (Zi (Zd λS H k=>
 k (z2 (tN 0)<| Zu 8 S) H)
 (Zi (Zi (Zd λS H k=>
 Za (Kn (Zc S.1)) λt7=>
 k (z0 (Ze S.1)<| z4 t7<| z5 (tN 0)<| Zu 8 S) H)
 (Z9 0 (Ym (Zi (Zd λS H k=>
 Za (b2 Xg (g5 S) (g4 S)) λt9=>
 k (z6 t9<| Zu 8 S) H)
 (Zi (Z1 (λS=>some (g6 S))
 (Zn .normal)
 (Zn (.exit 0)))
 (Zi (Z9 1 (Zi (Zd λS H k=>
 k (z3 (g5 S)<| z5 (Qu (g5 S))<| Zu 8 S) H)
 (Zi (Zd λS H k=>
 Za (Qh 1 (Zc S.1) (Zc (g3 S))) λt14=>
 sF Zh base H t14 λt15 H0=>
 Xd TC call Zh (Zc (g1 S)) [Zg t15] H0 λt16 H1=>
 k (z0 (Ze S.1)<| z1 (Ze (g1 S))<| z3 (Ze (g3 S))<| z7 t16<| Zu 8 S) H1)
 (Z1 (λS=>some (g7 S))
 (Zi (Zd λS H k=>
 k (z2 (g3 S)<| z3 (Qu (g3 S))<| Zu 8 S) H)
 (Zn .ret))
 (Zn .normal)))))
 (Zd λS H k=>
 Za (b2 Z0 (g5 S) (tN 1)) λt18=>
 k (z5 t18<| Zu 8 S) H)))) fuel)))
 (Zi (Zd λS H k=>
 k (z2 (.v (.int .i64 (.negSucc 0)))<| Zu 8 S) H)
 (Zn .ret))))
def F198:Ji:=λcall Zh l H=>Za (C198 call Zh (Zb H) (Zl l 0,Zl l 1,Zl l 4,Zl l 5,Zl l 7,Zl l 8,Zl l 9,Zl l 16,()) H) λp=>Xr p.1 (Zp (Z2 Qk [p.2.1.2.2.1]) (some (Xm (Zb H) p.2.1.2.2.1 p.2.2)))
theorem Zsg:Jr P TC 198 F198:=λ_ _ _ _=>by kernel_rfl
def Zfy (call:Z3) (Zh base:Nat):Z4 (TV×TV×TV×TV×TV×Unit):=
 (Zi (Zd λS H k=>
 k (z3 (tN 0)<| Zu 5 S) H)
 (Zi (Zi (Zd λS H k=>
 Za (b2 (Y0 false) (Zc S.1) (Zc (g1 S))) λc0=>
 Zp (ie c0)<|
 Za (b2 Xg c0 (tN 0)) λt9=>
 gV t9 false (Zc (Ze S.1)) H λt11 H1=>
 gB t9 false (Zw (g2 S) 0) H1 λt12 H2=>
 Qp (Zc t9) false (lF Zh base H2 t12 λg3 H3=>Qr g3 H3) H2 λt13 H4=>
 gB t9 false (b2 K0 t11 t13) H4 λt14 H5=>
 Za (Xa (Zc t9) (tB true) (Zg t14)) λt15=>
 gV t15 false (Zc (Ze (g1 S))) H5 λt17 H6=>
 gB t15 false (Zw (g2 S) 1) H6 λt18 H7=>
 Qp (Zc t15) false (lF Zh base H7 t18 λg8 H8=>Qr g8 H8) H7 λt19 H9=>
 gB t15 false (b2 K0 t17 t19) H9 λt20 Ua=>
 Za (Xa (Zc t15) (tB true) (Zg t20)) λt21=>
 gB t21 false (Zw (g2 S) 2) Ua λt23 Gj=>
 Qp (Zc t21) false (lF Zh base Gj t23 λDn Uy=>Qr Dn Uy) Gj λt24 Ea=>
 gV t21 false (Zc (Ze (Ze (g1 S)))) Ea λt25 D9=>
 gB t21 false (Zw (g2 S) 0) D9 λt26 D6=>
 Qp (Zc t21) false (lF Zh base D6 t26 λNt Iq=>Qr Nt Iq) D6 λt27 Mw=>
 gB t21 false (b2 Y2 t25 t27) Mw λt28 Mu=>
 gV t21 false (Zc (Ze (Ze S.1))) Mu λt29 Mn=>
 gB t21 false (b2 Z0 t28 t29) Mn λt30 P7=>
 gB t21 false (b2 K7 t24 t30) P7 λt31 O4=>
 gB t21 false (b2 Km t31 (.v (.int .u64 (.ofNat 1)))) O4 λt32 Bo=>
 gB t21 false (Ja .int t32 (.v (.int .u64 (.ofNat 0)))) Bo λt33 Ar=>
 Za (Xa (Zc t21) (tB true) (Zg t33)) λt34=>
 k (z0 (Ze (Ze (Ze S.1)))<| z1 (Ze (Ze (Ze (g1 S))))<| z4 t34<| Zu 5 S) Ar)
 (Z1 (λS=>some (g4 S))
 (Zi (Zd λS H k=>
 k (z3 (.v (.int .i64 (.negSucc 0)))<| Zu 5 S) H)
 (Zn .ret))
 (Zn .normal)))
 (Zi (Zd λS H k=>
 Za (Zw (g2 S) 0) λt36=>
 lF Zh base H t36 λt37 Tl=>
 Za (b2 Y2 (Zc (g1 S)) t37) λt38=>
 Za (b2 Z0 t38 (Zc S.1)) λt40=>
 k (z0 (Ze S.1)<| z1 (Ze (g1 S))<| z3 t40<| Zu 5 S) Tl)
 (Zn .ret))))
def F199:Ji:=λcall Zh l H=>Za (Zfy call Zh (Zb H) (Zl l 0,Zl l 1,Zl l 2,Zl l 5,Zl l 34,()) H) λp=>Xr p.1 (Zp (Z2 Qk [p.2.1.2.2.2.1]) (some (Xm (Zb H) p.2.1.2.2.2.1 p.2.2)))
theorem Zsf:Jr P TC 199 F199:=λ_ _ _ _=>by kernel_rfl
def C201 (call:Z3) (Zh base:Nat):Z4 (TV×TV×Unit):=
 (Zi (Zd λS H k=>
 k (z1 (tN 0)<| Zu 2 S) H)
 (Zi (Zd λS H k=>
 Za (b2 K7 (Zc S.1) (.v (.int .u64 (.ofNat 24)))) λt4=>
 Za (Oa (.v str1) t4) λt5=>
 Za (b2 K7 (Zc (Ze S.1)) (.v (.int .u64 (.ofNat 16)))) λt7=>
 Za (b2 Km t7 (.v (.int .u32 (.ofNat 255)))) λt8=>
 Za (Oa (.v str1) t8) λt9=>
 Za (b2 Z0 t5 t9) λt10=>
 Za (b2 K7 (Zc (Ze (Ze S.1))) (.v (.int .u64 (.ofNat 8)))) λt12=>
 Za (b2 Km t12 (.v (.int .u32 (.ofNat 255)))) λt13=>
 Za (Oa (.v str1) t13) λt14=>
 Za (b2 Z0 t10 t14) λt15=>
 Za (b2 Km (Zc (Ze (Ze (Ze S.1)))) (.v (.int .u32 (.ofNat 255)))) λt17=>
 Za (Oa (.v str1) t17) λt18=>
 Za (b2 Z0 t15 t18) λt19=>
 Za (b1 (Ki .i64) t19) λt20=>
 k (z0 (Ze (Ze (Ze (Ze S.1))))<| z1 t20<| Zu 2 S) H)
 (Zn .ret)))
def F201:Ji:=λcall Zh l H=>Za (C201 call Zh (Zb H) (Zl l 0,Zl l 2,()) H) λp=>Xr p.1 (Zp (Z2 Qk [p.2.1.2.1]) (some (Xm (Zb H) p.2.1.2.1 p.2.2)))
theorem Zse:Jr P TC 201 F201:=λ_ _ _ _=>by kernel_rfl
def C202 (call:Z3) (Zh base:Nat):Z4 (TV×TV×Unit):=
 (Zi (Zd λS H k=>
 k (z1 (tN 0)<| Zu 2 S) H)
 (Zi (Zd λS H k=>
 Za (b2 K7 (Zc S.1) (.v (.int .u64 (.ofNat 1)))) λt4=>
 Za (b2 Km t4 (.v (.int .u64 (.ofNat 6148914691236517205)))) λt5=>
 Za (b2 Km (Zc (Ze S.1)) (.v (.int .u64 (.ofNat 6148914691236517205)))) λt7=>
 Za (b2 Z0 t5 t7) λt8=>
 k (z0 t8<| Zu 2 S) H)
 (Zi (Zd λS H k=>
 Za (b2 K7 (Zc S.1) (.v (.int .u64 (.ofNat 2)))) λt10=>
 Za (b2 Km t10 (.v (.int .u64 (.ofNat 3689348814741910323)))) λt11=>
 Za (b2 Km (Zc (Ze S.1)) (.v (.int .u64 (.ofNat 3689348814741910323)))) λt13=>
 Za (b2 Z0 t11 t13) λt14=>
 k (z0 t14<| Zu 2 S) H)
 (Zi (Zd λS H k=>
 Za (b2 K7 (Zc S.1) (.v (.int .u64 (.ofNat 4)))) λt16=>
 Za (b2 Z0 t16 (Zc (Ze S.1))) λt18=>
 Za (b2 Km t18 (.v (.int .u64 (.ofNat 1085102592571150095)))) λt19=>
 k (z0 t19<| Zu 2 S) H)
 (Zi (Zd λS H k=>
 Za (b2 K7 (Zc (Ze S.1)) (.v (.int .u64 (.ofNat 8)))) λt22=>
 Za (b2 Z0 (Zc S.1) t22) λt23=>
 k (z0 t23<| Zu 2 S) H)
 (Zi (Zd λS H k=>
 Za (b2 K7 (Zc (Ze S.1)) (.v (.int .u64 (.ofNat 16)))) λt26=>
 Za (b2 Z0 (Zc S.1) t26) λt27=>
 k (z0 t27<| Zu 2 S) H)
 (Zi (Zd λS H k=>
 Za (b2 K7 (Zc (Ze S.1)) (.v (.int .u64 (.ofNat 32)))) λt30=>
 Za (b2 Z0 (Zc S.1) t30) λt31=>
 k (z0 t31<| Zu 2 S) H)
 (Zi (Zd λS H k=>
 Za (b1 (Ki .i64) (Zc S.1)) λt33=>
 Za (b2 Km t33 (tN 127)) λt34=>
 k (z0 (Ze S.1)<| z1 t34<| Zu 2 S) H)
 (Zn .ret)))))))))
def F202:Ji:=λcall Zh l H=>Za (C202 call Zh (Zb H) (Zl l 0,Zl l 2,()) H) λp=>Xr p.1 (Zp (Z2 Qk [p.2.1.2.1]) (some (Xm (Zb H) p.2.1.2.1 p.2.2)))
theorem Zsd:Jr P TC 202 F202:=λ_ _ _ _=>by kernel_rfl
end
end Go.Proofs.YtgemobbfikjmoaaGreatDoor
namespace Go.Proofs.YtgemobbfikjmoaaGreatDoor
open Go Go.Ev
set_option maxRecDepth 1000000
set_option linter.unusedVariables false
end Go.Proofs.YtgemobbfikjmoaaGreatDoor
namespace Go.Proofs.YtgemobbfikjmoaaGreatDoor
open Go Go.Ev
set_option maxRecDepth 1000000
noncomputable section
def rows:List (Nat×(Z3->Z3)):=[
 X1 14 F14,X1 15 F15,X1 16 F16,X1 18 F18,X1 20 F20,X1 21 F21,X1 23 F23,X1 25 F25,X1 27 F27,X1 28 F28,X1 30 F30,X1 32 F32,X1 34 F34,X1 36 F36,X1 38 F38,X1 40 F40,X1 42 F42,X1 44 F44,X1 46 F46,X1 48 F48,X1 52 F52,X1 54 F54,X1 56 F56,X1 62 F62,X1 63 F63,X1 64 F64,X1 65 F65,X1 67 F67,X1 68 F68,X1 78 F78,X1 82 F82,X1 83 F83,X1 84 F84,X1 85 F85,X1 86 F86,X1 87 F87,X1 88 F88,X1 89 F89,X1 90 F90,X1 91 F91,X1 92 F92,X1 93 F93,X1 94 F94,X1 95 F95,X1 97 F97,X1 98 F98,X1 99 F99,X1 100 F100,X1 101 F101,X1 104 F104,X1 105 F105,X1 111 F111,X1 112 F112,X1 113 F113,X1 116 F116,X1 117 F117,X1 119 F119,X1 121 F121,X1 124 F124,X1 125 F125,X1 127 F127,X1 128 F128,X1 132 F132,X1 133 F133,X1 134 F134,X1 135 F135,X1 136 F136,X1 137 F137,X1 138 Zfw,X1 139 F139,X1 140 F140,X1 141 F141,X1 142 F142,X1 143 F143,X1 147 F147,X1 149 F149,X1 150 F150,X1 151 F151,X1 152 F152,X1 153 F153,X1 154 F154,X1 156 F156,X1 157 F157,X1 158 F158,X1 159 F159,X1 160 F160,X1 161 F161,X1 162 F162,X1 164 F164,X1 166 F166,X1 169 F169,X1 170 F170,X1 171 F171,X1 172 F172,X1 175 F175,X1 176 F176,X1 177 F177,X1 183 F183,X1 186 F186,X1 187 F187,X1 188 F188,X1 196 F196,X1 197 F197,X1 198 F198,X1 199 F199,X1 201 F201,X1 202 F202]
def table:Tr (Z3->Z3):=ph rows .leaf
theorem Zqy:∀ r∈rows,∀ call Zh args H,r.2 call Zh r.1 args H=fnT P TC call Zh r.1 args H:=by
 simp only [rows,List.forall_mem_cons];refine ⟨λc t a H=>(F14_eq c t a H).symm,λc t a H=>(F15_eq c t a H).symm,λc t a H=>(F16_eq c t a H).symm,λc t a H=>(F18_eq c t a H).symm,λc t a H=>(F20_eq c t a H).symm,λc t a H=>(F21_eq c t a H).symm,λc t a H=>(F23_eq c t a H).symm,λc t a H=>(F25_eq c t a H).symm,λc t a H=>(F27_eq c t a H).symm,λc t a H=>(F28_eq c t a H).symm,λc t a H=>(F30_eq c t a H).symm,λc t a H=>(F32_eq c t a H).symm,λc t a H=>(F34_eq c t a H).symm,λc t a H=>(F36_eq c t a H).symm,λc t a H=>(F38_eq c t a H).symm,λc t a H=>(F40_eq c t a H).symm,λc t a H=>(F42_eq c t a H).symm,λc t a H=>(F44_eq c t a H).symm,λc t a H=>(F46_eq c t a H).symm,λc t a H=>(F48_eq c t a H).symm,λc t a H=>(F52_eq c t a H).symm,λc t a H=>(F54_eq c t a H).symm,λc t a H=>(F56_eq c t a H).symm,λc t a H=>(F62_eq c t a H).symm,λc t a H=>(F63_eq c t a H).symm,λc t a H=>(F64_eq c t a H).symm,λc t a H=>(F65_eq c t a H).symm,λc t a H=>(F67_eq c t a H).symm,λc t a H=>(F68_eq c t a H).symm,λc t a H=>(F78_eq c t a H).symm,λc t a H=>(F82_eq c t a H).symm,λc t a H=>(F83_eq c t a H).symm,λc t a H=>(F84_eq c t a H).symm,λc t a H=>(F85_eq c t a H).symm,λc t a H=>(F86_eq c t a H).symm,λc t a H=>(F87_eq c t a H).symm,λc t a H=>(F88_eq c t a H).symm,λc t a H=>(F89_eq c t a H).symm,λc t a H=>(F90_eq c t a H).symm,λc t a H=>(F91_eq c t a H).symm,λc t a H=>(F92_eq c t a H).symm,λc t a H=>(F93_eq c t a H).symm,λc t a H=>(F94_eq c t a H).symm,λc t a H=>(F95_eq c t a H).symm,λc t a H=>(F97_eq c t a H).symm,λc t a H=>(F98_eq c t a H).symm,λc t a H=>(F99_eq c t a H).symm,λc t a H=>(Zt0 c t a H).symm,λc t a H=>(Ztz c t a H).symm,λc t a H=>(Zty c t a H).symm,λc t a H=>(Ztx c t a H).symm,λc t a H=>(Ztw c t a H).symm,λc t a H=>(Ztv c t a H).symm,λc t a H=>(Ztu c t a H).symm,λc t a H=>(Ztt c t a H).symm,λc t a H=>(Zts c t a H).symm,λc t a H=>(Ztr c t a H).symm,λc t a H=>(Ztq c t a H).symm,λc t a H=>(Ztp c t a H).symm,λc t a H=>(Zto c t a H).symm,λc t a H=>(Ztn c t a H).symm,λc t a H=>(Ztm c t a H).symm,λc t a H=>(Ztl c t a H).symm,λc t a H=>(Ztk c t a H).symm,λc t a H=>(Ztj c t a H).symm,λc t a H=>(Zti c t a H).symm,λc t a H=>(Zth c t a H).symm,λc t a H=>(Ztg c t a H).symm,λc t a H=>(Ztf c t a H).symm,λc t a H=>(Zte c t a H).symm,λc t a H=>(Ztd c t a H).symm,λc t a H=>(Ztc c t a H).symm,λc t a H=>(Ztb c t a H).symm,λc t a H=>(Zta c t a H).symm,λc t a H=>(Zs9 c t a H).symm,λc t a H=>(Zs8 c t a H).symm,λc t a H=>(Zs7 c t a H).symm,λc t a H=>(Zs6 c t a H).symm,λc t a H=>(Zs5 c t a H).symm,λc t a H=>(Zs4 c t a H).symm,λc t a H=>(Zs3 c t a H).symm,λc t a H=>(Zs2 c t a H).symm,λc t a H=>(Zs1 c t a H).symm,λc t a H=>(Zs0 c t a H).symm,λc t a H=>(Zsz c t a H).symm,λc t a H=>(Zsy c t a H).symm,λc t a H=>(Zsx c t a H).symm,λc t a H=>(Zsw c t a H).symm,λc t a H=>(Zsv c t a H).symm,λc t a H=>(Zsu c t a H).symm,λc t a H=>(Zst c t a H).symm,λc t a H=>(Zss c t a H).symm,λc t a H=>(Zsr c t a H).symm,λc t a H=>(Zsq c t a H).symm,λc t a H=>(Zsp c t a H).symm,λc t a H=>(Zso c t a H).symm,λc t a H=>(Zsn c t a H).symm,λc t a H=>(Zsm c t a H).symm,λc t a H=>(Zsl c t a H).symm,λc t a H=>(Zsk c t a H).symm,λc t a H=>(Zsj c t a H).symm,λc t a H=>(Zsi c t a H).symm,λc t a H=>(Zsh c t a H).symm,λc t a H=>(Zsg c t a H).symm,λc t a H=>(Zsf c t a H).symm,λc t a H=>(Zse c t a H).symm,λc t a H=>(Zsd c t a H).symm,by simp⟩
end
end Go.Proofs.YtgemobbfikjmoaaGreatDoor
