/- A second evaluator that holds rows by value, and that the first answers what it answers, part one.
   Conditions: none beyond the given statement's own. -/
import Derived.Test.YtgemobbfikjmoaaGreatDoorPaB
set_option linter.unusedVariables false
set_option linter.unusedSimpArgs false
set_option linter.defProp false
namespace Go.Ev
noncomputable section
def La {α:Type} (l:List α):Nat->List α:=
 List.rec (motive:=λ_=>Nat->List α) (λ_=>[]) (λx xs ih n=>Nat.casesOn (motive:=λ_=>List α) n (x::xs) (λn=>ih n)) l
def X7 {α:Type} (l:List α):Nat->List α:=
 List.rec (motive:=λ_=>Nat->List α) (λ_=>[]) (λx _ ih n=>Nat.casesOn (motive:=λ_=>List α) n [] (λn=>x::ih n)) l
def Zb {α:Type} (l:List α):Nat:=List.rec (motive:=λ_=>Nat) (nat_lit 0) (λ_ _ n=>Nat.succ n) l
def yy {α:Type} (vs:List α):List α->List α:=
 List.rec (motive:=λ_=>List α->List α) (λcs=>cs)
  (λv _ ih cs=>List.casesOn (motive:=λ_=>List α) cs [] (λ_ cs=>v::ih cs)) vs
def Kl {α:Type} (cs:List α):Nat->List α->List α:=
 List.rec (motive:=λ_=>Nat->List α->List α) (λ_ _=>[])
  (λc cs ih off vs=>Nat.casesOn (motive:=λ_=>List α) off (yy vs (c::cs)) (λoff=>c::ih off vs)) cs
def Vi {α:Type} (cs:List α) (off n:Nat):List α:=X7 (La cs off) n
def Ve {α β:Type} (f:α->β) (l:List α):List β:=List.rec (motive:=λ_=>List β) [] (λx _ ih=>f x::ih) l
def Z2 {α:Type} (p:α->Bool) (l:List α):Bool:=List.rec (motive:=λ_=>Bool) true (λx _ ih=>cond (p x) ih false) l
def Kk {α:Type} (p:α->Bool) (l:List α):Bool:=List.rec (motive:=λ_=>Bool) false (λx _ ih=>cond (p x) true ih) l
def Y5 {α:Type} (z:List α) (n:Nat):List α:=Nat.rec (motive:=λ_=>List α) [] (λ_ l=>List.append z l) n
inductive Cp where
 |nil |full |Jf
inductive Lf where
 |own (e:TypeId) |set |D7
inductive TV where
 |v (x:Value)
 |row (c:Cp) (q:Lf) (n:Nat) (es:List TV)
 |agg (cs:List TV)
 |Xh (cs:List TV)
 |ptr (b off:Nat)
 |el (q:Lf) (cs:List TV) (off:Nat)
 |vec (b off len cap n:Nat) (ag:Bool)
 |map (b:Nat)
 |fn (f:Fn) (first cap:List TV)
 |iface (t:TypeId) (x:TV)
 |gone
abbrev Zk:TV:=.Xh []
abbrev Xp:TV:=.row .nil .set (nat_lit 0) []
inductive Kc where
 |cells (cs:List TV)
 |map (es:List (Value×TV))
 |dead
abbrev TH:=List Kc
def K1 {β:Type} (r:Option (TV×TH)) (k:TV->TH->Option β):Option β:=Option.rec (motive:=λ_=>Option β) none (λp=>k p.1 p.2) r
def Qr (v:TV) (H:TH):Option (TV×TH):=some (v,H)
def Zy (x:TV):List TV:=match x with |.agg cs=>cs |x=>[x]
def Qi (es:List TV):List TV:=List.rec (motive:=λ_=>List TV) [] (λx _ ih=>List.append (Zy x) ih) es
def ry (x:Value):TV:=match x with |.slice none _ _=>Xp |x=>.v x
def Mq (x:Value):TV:=match x with
 |.agg cs=>.agg (Ve ry cs.toList)
 |.tuple cs=>.Xh (Ve ry cs.toList)
 |x=>ry x
def br:List TV->Option (List Value)
 |[]=>some []
 |x::xs=>match x with
  |.v a=>Zf (br xs) λl=>some (a::l)
  |_=>none
def se (x:TV):Option Value:=match x with
 |.v a=>some a
 |.agg cs=>Zf (br cs) λl=>some (.agg ⟨l⟩)
 |_=>none
def V3 (x:TV):TV:=match x with |.row c (.own _) n es=>.row c .set n es |x=>x
def Fv (x:TV):TV:=match x with |.row c (.own _) n es=>.row c .set n es |.agg cs=>.agg (Ve V3 cs) |x=>x
def Zg (x:TV):TV:=match x with
 |.row c (.own _) n es=>.row c .set n es
 |.agg cs=>.agg (Ve V3 cs)
 |.Xh cs=>.Xh (Ve Fv cs)
 |x=>x
def Ob (x:TV):TV:=match x with |.row _ (.own _) _ _=>Zk |x=>x
def zl (x:TV):TV:=match x with |.row _ (.own _) _ _=>Zk |.agg cs=>.agg (Ve Ob cs) |x=>x
def Qu (x:TV):TV:=match x with
 |.row c (.own _) n es=>.row c .D7 n es
 |.agg cs=>.agg (Ve Ob cs)
 |.Xh cs=>.Xh (Ve zl cs)
 |x=>x
def Zr (x:TV):TV:=match x with
 |.row _ .D7 _ _=>Zk
 |.el .D7 _ _=>Zk
 |x=>x
def Xs (x:TV):Bool:=match x with |.row _ (.own _) _ _=>true |_=>false
def Qv (x:TV):Bool:=match x with |.v _=>true |.row _ .set _ _=>true |.iface _ _=>true |_=>false
def closed (x:TV):Bool:=match x with |.agg cs=>Z2 Qv cs |x=>Qv x
def Vj (x:TV):Bool:=match x with
 |.v _=>true |.row _ q _ _=>(match q with |.D7=>false |_=>true)
 |.ptr _ _=>true |.vec _ _ _ _ _ _=>true |.map _=>true |.fn _ _ _=>true |.iface _ _=>true |_=>false
def Yu (x:TV):Bool:=match x with |.agg cs=>Z2 Vj cs |x=>Vj x
def Uq (x:TV):Bool:=match x with
 |.v _=>true |.row _ q _ _=>(match q with |.D7=>false |_=>true) |.iface _ _=>true |_=>false
def Oq (x:TV):Bool:=match x with |.agg cs=>Z2 Uq cs |x=>Uq x
def loose (x:TV):Bool:=match x with |.agg cs=>Z2 Uq cs |.Xh cs=>Z2 Oq cs |x=>Uq x
def passC (x:TV):Bool:=match x with
 |.v _=>true |.row _ .set _ _=>true
 |.ptr _ _=>true |.vec _ _ _ _ _ _=>true |.map _=>true |.fn _ _ _=>true |.iface _ _=>true |.el .set _ _=>true |_=>false
def pass (x:TV):Bool:=match x with |.agg cs=>Z2 Qv cs |x=>passC x
def notTup (z:Value):Bool:=match z with |.tuple _=>false |_=>true
def Ts (i:S8):Option Value:=Zf (zeroOf i) λz=>Zp (notTup z) (some z)
abbrev TE:=List (Tmp×Nat×TV)
def Pn (E:TE) (t:Tmp):Option (Nat×TV):=List.rec (motive:=λ_=>Option (Nat×TV)) none (λx _ ih=>cond (Nat.beq x.1 t) (some x.2) ih) E
def I7 (E:TE) (t:Tmp):TE:=List.rec (motive:=λ_=>TE) [] (λx _ ih=>cond (Nat.beq x.1 t) ih (x::ih)) E
def Ef (E:TE) (t:Tmp) (ep:Nat) (x:TV):TE:=(t,ep,x)::I7 E t
def putD (E:TE) (d:Option Tmp) (ep:Nat) (x:TV):TE:=match d with |none=>E |some d=>Ef E d ep x
def Gw (ep:Nat) (p:Nat×TV):TV:=cond (Nat.beq p.1 ep) p.2 (Zr p.2)
def VT:List Tmp->Type
 |[]=>Unit
 |_::ts=>TV×VT ts
def Mo:(Zs:List Tmp)->VT Zs->TE
 |[],_=>[]
 |t::ts,S=>(t,nat_lit 0,(show TV×VT ts from S).1)::Mo ts (show TV×VT ts from S).2
def mkT (E:TE):(Zs:List Tmp)->VT Zs
 |[]=>()
 |t::ts=>(Zr ((Pn E t).getD (nat_lit 0,Zk)).2,mkT (I7 E t) ts)
def Zl (args:List TV) (t:Tmp):TV:=(nth args t).getD Zk
def ig (args:List TV):(Zs:List Tmp)->VT Zs
 |[]=>()
 |t::ts=>(Zl args t,ig args ts)
inductive Md where
 |raw |take |settle |W8 (n:Nat) (ag:Bool) |comp (i:Nat) |Xi
structure TC where
 fuel:Nat
 Zs:FuncId->List Tmp
 tree:FuncId->Bool
 x9:FuncId->Bool
 Bs:Nat->Option (List TV)
 deep:FuncId->Bool
def Ub (c:Cp) (len n:Nat):Nat:=match c with |.Jf=>Nat.add Xk n |_=>len
def sj {β:Type} (n:Nat) (ag:Bool) (x:TV) (H:TH) (k:TV->TH->Option β):Option β:=
 match x with
 |.row c (.own _) m es=>Zp (Nat.beq m n)
   (k (.vec (Zb H) (nat_lit 0) (Zb es) (Ub c (Zb es) n) n ag) (List.append H [.cells (Qi es)]))
 |x=>k x H
def Qj (x:TV) (i:Nat):Option TV:=match x with |.Xh cs=>nth cs i |_=>none
def Z7 (x:TV) (i:Nat):TV:=match x with |.Xh cs=>.Xh (Kl cs i [Zk]) |x=>x
def ef (v:TV):Bool:=match v with |.row _ .D7 _ _=>false |.el .D7 _ _=>false |_=>true
def Zc (x:TV):TV:=cond (Xs x) (Qu x) (Zg x)
def Ze (x:TV):TV:=cond (Xs x) x (Zg x)
def Zf8 (n:Nat) (ag:Bool) (x:TV) (H:TH):Option (TV×TH):=cond (Xs x) (sj n ag x H Qr) (Zp (ef x) (some (Zg x,H)))
def rdTmp {β:Type} (m:Md) (ep:Nat) (t:Tmp) (x:TV) (E:TE) (H:TH) (k:TV->TE->TH->Option β):Option β:=
 match m with
 |.raw=>k x E H
 |.take=>k x (Ef E t ep (Qu x)) H
 |.settle=>k (Zg x) (Ef E t ep (Zg x)) H
 |.Xi=>k (Zc x) (Ef E t ep (Ze x)) H
 |.W8 n ag=>K1 (Zf8 n ag x H) λy H=>k y (Ef E t ep y) H
 |.comp i=>Zf (Qj x i) λy=>k y (Ef E t ep (Z7 x i)) H
def aa (m:Md):Bool:=match m with |.comp _=>true |.W8 _ _=>true |_=>false
def rdOp {β:Type} (P:Program) (C:TC) (m:Md) (ep:Nat) (E:TE) (H:TH) (o:Operand) (k:TV->TE->TH->Option β):Option β:=
 match o with
 |.tmp t=>Zf (Pn E t) λp=>rdTmp m ep t (Gw ep p) E H k
 |.const v=>Zp (!aa m) (Zp (plain v) (k (Mq v) E H))
 |.global g=>Zp (!aa m) (Zf (C.Bs g) λcs=>Zp (Nat.blt g P.globals.size) (k (.el .set cs (nat_lit 0)) E H))
 |.func f=>Zp (!aa m) (k (.fn (.func f) [] []) E H)
def Zab {β:Type} (P:Program) (C:TC) (ep:Nat):List (Md×Operand)->TE->TH->(List TV->TE->TH->Option β)->Option β
 |[],E,H,k=>k [] E H
 |(m,o)::l,E,H,k=>rdOp P C m ep E H o λv E H=>Zab P C ep l E H λvs E H=>k (v::vs) E H
def b1 (f:Value->Option Value) (x:TV):Option TV:=match x with |.v a=>Zf (f a) λr=>some (.v r) |_=>none
def b2 (f:Value->Value->Option Value) (x y:TV):Option TV:=
 match x with |.v a=>(match y with |.v b=>Zf (f a b) λr=>some (.v r) |_=>none) |_=>none
def Ot (c:Cp):Bool:=match c with |.nil=>true |_=>false
def Sc (x:TV):Option Bool:=match x with
 |.row c _ _ _=>some (Ot c)
 |.vec _ _ _ _ _ _=>some false
 |_=>none
def eqT (q:I5) (x y:TV):Option Bool:=
 match q with
 |.slice=>Zf (Sc x) λa=>Zf (Sc y) λb=>cond a (some b) (cond b (some false) none)
 |q=>Zf (se x) λa=>Zf (se y) λb=>An q a b
def Ja (q:I5) (x y:TV):Option TV:=Zf (eqT q x y) λr=>some (.v (.bool r))
def Jc (q:I5) (x y:TV):Option TV:=Zf (eqT q x y) λr=>some (.v (.bool (!r)))
def binT {β:Type} (P:Program) (op:BinOp) (t:TypeId) (x y:TV) (k:TV->Option β):Option β:=
 match op with
 |.add=>Za (b2 Z0 x y) k
 |.sub=>Za (b2 Qq x y) k
 |.mul=>Za (b2 Y2 x y) k
 |.quo=>Za (b2 Jp x y) k
 |.rem=>Za (b2 Y1 x y) k
 |.and=>Za (b2 Km x y) k
 |.or=>Za (b2 Ep x y) k
 |.xor=>Za (b2 Zo9 x y) k
 |.andNot=>Za (b2 Y6 x y) k
 |.shl=>Za (b2 Y8 x y) k
 |.shr=>Za (b2 K7 x y) k
 |.lss=>Za (b2 Xg x y) k
 |.leq=>Za (b2 Am x y) k
 |.gtr=>Za (b2 Vt x y) k
 |.geq=>Za (b2 K0 x y) k
 |.eql=>Zf (R0 P t) λq=>Za (Ja q x y) k
 |.neq=>Zf (R0 P t) λq=>Za (Jc q x y) k
def unT {β:Type} (op:UnOp) (x:TV) (k:TV->Option β):Option β:=
 match op with
 |.neg=>Za (b1 Cg x) k
 |.xor=>Za (b1 Zhk x) k
 |.not=>Za (b1 Gh x) k
 |.plus=>none
def Xa (c a b:TV):Option TV:=match c with |.v (.bool t)=>some (cond t a b) |_=>none
def On (x:TV):Option TV:=match x with |.ptr b off=>some (.ptr b off) |.el q cs off=>some (.el q cs off) |_=>none
def Ap (x:TV):Option Nat:=match x with |.v a=>asNat a |_=>none
def Yx {β:Type} (H:TH) (b:Nat) (k:List TV->Option β):Option β:=
 Zf (nth H b) λo=>match o with
  |.cells cs=>k cs
  |_=>none
def Kg (H:TH) (b:Nat) (o:Kc):TH:=Kl H b [o]
def Zv (H:TH) (o:Kc):TH:=List.append H [o]
def Zhm (ag:Bool) (n:Nat) (cs:List TV):Option TV:=cond ag (Zp (Nat.ble n (Zb cs)) (some (.agg (X7 cs n)))) (Zp (Nat.beq n 1) (nth cs (nat_lit 0)))
def qq (ag:Bool) (n:Nat) (len:Nat):List TV->Option (List TV):=
 Nat.rec (motive:=λ_=>List TV->Option (List TV)) (λ_=>some [])
  (λ_ ih cs=>Zf (Zhm ag n cs) λx=>Zf (ih (La cs n)) λl=>some (x::l)) len
def Un (H:TH) (b off len n:Nat) (ag:Bool):Option (List TV):=
 Yx H b λcs=>Zp (Nat.ble (Nat.add off (Nat.mul len n)) (Zb cs)) (Zp (Z2 Qv (Vi cs off (Nat.mul len n))) (qq ag n len (La cs off)))
inductive Ld where
 |Xi |take |settle |W8 (n:Nat) (ag:Bool)
def He (x:TV):TV:=match x with |.row c (.own _) n es=>.row c .D7 n es |x=>x
def Mc {β:Type} (m:Ld) (Zh base:Nat) (H:TH) (b:Nat) (cs:List TV) (off:Nat) (x:TV) (k:TV->TH->Option β):Option β:=
 match m with
 |.Xi=>k (He x) H
 |.take=>cond (Xs x) (Zp (Nat.ble Zh b) (k x (Kg H b (.cells (Kl cs off [Zk]))))) (k x H)
 |.settle=>cond (Xs x) (k (V3 x) (Kg H b (.cells (Kl cs off [V3 x])))) (k x H)
 |.W8 n ag=>cond (Xs x) (Zp (Nat.ble Zh b) (Zp (Nat.ble base b) (sj n ag x H λy H=>k y (Kg H b (.cells (Kl cs off [y])))))) (k x H)
def loadC {β:Type} (m:Ld) (Zh base:Nat) (ag:Bool) (n:Nat) (H:TH) (a:TV) (k:TV->TH->Option β):Option β:=
 match a with
 |.ptr b off=>Yx H b λcs=>
   cond ag (Zp (Nat.ble (Nat.add off n) (Zb cs))
     (cond (Kk Xs (Vi cs off n)) (k (.agg (Ve V3 (Vi cs off n))) (Kg H b (.cells (Kl cs off (Ve V3 (Vi cs off n)))))) (k (.agg (Vi cs off n)) H)))
    (Zf (nth cs off) λx=>Mc m Zh base H b cs off x k)
 |.el _ cs off=>
   cond ag (Zp (Nat.ble (Nat.add off n) (Zb cs)) (k (.agg (Vi cs off n)) H))
    (Zf (nth cs off) λx=>k x H)
 |_=>none
def loadT {β:Type} (m:Ld) (Zh base:Nat) (ag:Bool) (n:Nat) (H:TH) (a:TV) (k:TV->TH->Option β):Option β:=K1 (loadC m Zh base ag n H a Qr) k
def storeT (Zh base n:Nat) (H:TH) (a x:TV):Option TH:=
 match a with
 |.ptr b off=>Zp (Nat.ble Zh b) (Zp (Yu x) (Zp (cond (Nat.blt b base) (Oq x) true) (Yx H b λcs=>
   Zp (Nat.beq (Zb (Zy x)) n) (Zp (Nat.ble (Nat.add off n) (Zb cs)) (some (Kg H b (.cells (Kl cs off (Zy x)))))))))
 |_=>none
def Zhf:List (Nat×Nat×TV)->List TV->Option (List TV)
 |[],cs=>some cs
 |(off,size,x)::rest,cs=>
  Zp (Yu x) (Zp (Nat.beq (Zb (Zy x)) size) (Zp (Nat.ble (Nat.add off size) (Zb cs)) (Zhf rest (Kl cs off (Zy x)))))
def A9 (place:Nat->Option (Nat×Nat)):List Nat->List TV->Option (List (Nat×Nat×TV))
 |i::is,x::xs=>Zf (place i) λp=>Zf (A9 place is xs) λl=>some ((p.1,p.2,x)::l)
 |[],_=>some []
 |_,_=>none
def Uk (ps:List (Nat×Nat×TV)) (z:List TV):Option TV:=Zf (Zhf ps z) λcs=>some (.agg cs)
def Zfl {β:Type} (P:Program) (t:TypeId) (is:List Nat) (xs:List TV) (k:TV->Option β):Option β:=
 Zf (Y7 P t) λi=>Zf (Ts i) λz=>
  match i.desc with
  |.struct fs=>Zp (fs.toList.all λf=>(Y7 P f.type).isSome) (Zf (A9 (Jb P fs.toList) is xs) λps=>Za (Uk ps (Zy (Mq z))) k)
  |.array _ e=>Zf (Y7 P e) λj=>Zf (A9 (λi=>some (Nat.mul i j.size,j.size)) is xs) λps=>Za (Uk ps (Zy (Mq z))) k
  |_=>none
def Yf (n:Nat):List Nat->List TV->List TV->Option (List TV)
 |i::is,x::xs,es=>Zp (closed x) (Zp (Nat.beq (Zb (Zy x)) n) (Zp (Nat.blt i (Zb es)) (Yf n is xs (Kl es i [x]))))
 |[],_,es=>some es
 |_,_,_=>none
def litT {β:Type} (P:Program) (t:TypeId) (len:Nat) (is:List Nat) (xs:List TV) (k:TV->Option β):Option β:=
 Zf (G8 P t) λe=>Zf (Y7 P e) λi=>Zf (Ts i) λz=>
  Zp (Nat.blt len Xk) (Zp (Nat.ble (Nat.mul len i.size) 16777216) (Zp (Nat.beq (Ix (cellsOf z)) i.size)
   (Za (Yf i.size is xs (Y5 [Mq z] len)) λes=>k (.row .full (.own e) i.size es))))
def Zw (x:TV) (d:Nat):Option TV:=match x with
 |.ptr b off=>some (.ptr b (Nat.add off d))
 |.el q cs off=>some (.el q cs (Nat.add off d))
 |_=>none
def Zfa {β:Type} (P:Program) (t:TypeId) (x:TV) (f:Nat) (k:TV->Option β):Option β:=
 Zf (Y7 P t) λi=>Zf (structOf i.desc) λfs=>Zf (Jb P fs f) λp=>
  cond (Nat.beq p.2 0) none (Za (Zw x p.1) k)
def yv (ag:Bool) (n:Nat) (x:TV) (off:Nat):Option TV:=match x with
 |.agg cs=>cond ag (Zp (Nat.ble (Nat.add off n) (Zb cs)) (some (.agg (Vi cs off n)))) (nth cs off)
 |_=>none
def fieldT {β:Type} (P:Program) (t:TypeId) (x:TV) (f:Nat) (k:TV->Option β):Option β:=
 Zf (Y7 P t) λi=>Zf (structOf i.desc) λfs=>Zf (nth fs f) λfd=>Zf (Y7 P fd.type) λj=>
  Za (yv j.agg j.size x fd.offset) k
def vh (q:Lf):Lf:=match q with |.own _=>.D7 |q=>q
def Qt (len n:Nat) (x ix:TV):Option TV:=
 Zf (Ap ix) λj=>Zp (Nat.blt j len) (Zw x (Nat.mul j n))
def Qh (sz:Nat) (x ix:TV):Option TV:=
 Zf (Ap ix) λj=>
  match x with
  |.row _ q n es=>Zf (nth es j) λe=>Zp (Nat.beq n sz) (some (.el (vh q) (Zy e) (nat_lit 0)))
  |.vec b off len _ n _=>Zp (Nat.beq n sz)<| Zp (Nat.blt j len) (some (.ptr b (Nat.add off (Nat.mul j n))))
  |_=>none
def Zet {β:Type} (P:Program) (t:TypeId) (x ix:TV) (k:TV->Option β):Option β:=
 Zf (Y7 P t) λi=>
  match i.desc with
  |.array len e=>Zf (Y7 P e) λj=>Za (Qt len j.size x ix) k
  |.slice e=>Zf (Y7 P e) λj=>Za (Qh j.size x ix) k
  |_=>none
def ad (ag:Bool) (len n:Nat) (x ix:TV):Option TV:=
 Zf (Ap ix) λj=>Zp (Nat.blt j len) (yv ag n x (Nat.mul j n))
def Oa (x ix:TV):Option TV:=b2 Na x ix
def indexT {β:Type} (P:Program) (t:TypeId) (x ix:TV) (k:TV->Option β):Option β:=
 Zf (Y7 P t) λi=>
  match i.desc with
  |.array len e=>Zf (Y7 P e) λj=>Za (ad j.agg len j.size x ix) k
  |.string=>Za (Oa x ix) k
  |_=>none
def Zns {β:Type} (P:Program) (H:TH) (t:TypeId) (len cap:TV) (k:TV->TH->Option β):Option β:=
 Zf (G8 P t) λe=>Zf (Y7 P e) λi=>Zf (Ts i) λz=>
  Zp (Nat.beq (Ix (cellsOf z)) i.size)
   (Zf (se len) λl=>Zf (se cap) λc=>Za (Rw i.bytes l c) λp=>
    k (.vec (Zb H) (nat_lit 0) p.1 p.2 i.size i.agg) (Zv H (.cells (Y5 (Zy (Mq z)) p.2))))
def wa (x:Option TV) (d:Nat):Option Nat:=match x with |none=>some d |some v=>Ap v
def vl (len cap:Nat) (lo hi mx:Option TV):Option (Nat×Nat×Nat):=
 Zf (wa lo 0) λl=>Zf (wa hi len) λh=>Zf (wa mx cap) λm=>
  Zp (cond mx.isNone true hi.isSome) (Zp (Nat.ble l h) (Zp (Nat.ble h m) (Zp (Nat.ble m cap) (Zp (Nat.blt m Xk) (some (l,h,m))))))
def isFull (c:Cp):Bool:=match c with |.full=>true |_=>false
def Ao (n:Nat) (x:TV) (lo hi mx:Option TV):Option TV:=
 match x with
 |.row c q m es=>
  cond (Ot c) (Zf (vl 0 0 lo hi mx) λ_=>some Xp)
   (Zp (Nat.beq m n)<| Zf (wa lo 0) λl=>Zf (wa hi (Zb es)) λh=>
    Zp (Nat.ble l h) (Zp (Nat.ble h (Zb es)) (Zp (Nat.blt (Zb es) Xk)
     (cond mx.isNone (some (.row (cond (isFull c) (cond (Nat.beq h (Zb es)) .full .Jf) .Jf) (vh q) n (Vi es l (Nat.sub h l))))
      (Zf (wa mx 0) λm=>Zp hi.isSome (Zp (Nat.ble h m) (Zp (Nat.ble m (Zb es))
       (some (.row (cond (Nat.beq m h) .full .Jf) (vh q) n (Vi es l (Nat.sub h l)))))))))))
 |.vec b off len cap sz ag=>
  Zp (Nat.beq sz n) (cond (cond (Nat.ble Xk cap) mx.isNone false)
   (Zf (wa lo 0) λl=>Zf (wa hi len) λh=>Zp (Nat.ble l h) (Zp (Nat.ble h len) (Zp (Nat.beq cap (Nat.add Xk n))
    (some (.vec b (Nat.add off (Nat.mul l n)) (Nat.sub h l) cap n ag)))))
   (Zf (vl len (cond (Nat.ble Xk cap) len cap) lo hi mx) λp=>
    some (.vec b (cond (Nat.beq p.2.2 p.1) off (Nat.add off (Nat.mul p.1 n))) (Nat.sub p.2.1 p.1) (Nat.sub p.2.2 p.1) n ag)))
 |_=>none
def G5 (ag:Bool) (n len:Nat) (x:TV) (lo hi mx:Option TV):Option TV:=
 Zf (vl len len lo hi mx) λp=>
  match x with
  |.ptr b off=>some (.vec b (cond (Nat.beq p.2.2 p.1) off (Nat.add off (Nat.mul p.1 n))) (Nat.sub p.2.1 p.1) (Nat.sub p.2.2 p.1) n ag)
  |.el q cs off=>Zp (Nat.blt p.1 p.2.2) (Zp (Nat.ble (Nat.add off (Nat.mul len n)) (Zb cs)) (Zf (qq ag n (Nat.sub p.2.1 p.1) (La cs (Nat.add off (Nat.mul p.1 n)))) λes=>
    some (.row (cond (Nat.beq p.2.2 p.2.1) .full .Jf) (vh q) n es)))
  |_=>none
def Zl3 {β:Type} (P:Program) (t:TypeId) (x:TV) (lo hi mx:Option TV) (k:TV->Option β):Option β:=
 Zf (Y7 P t) λi=>
  match i.desc with
  |.array len e=>Zf (Y7 P e) λj=>Za (G5 j.agg j.size len x lo hi mx) k
  |.slice e=>Zf (Y7 P e) λj=>Za (Ao j.size x lo hi mx) k
  |_=>none
def I9 (k:Value):List (Value×TV)->Nat->Option (Option (Nat×TV))
 |[],_=>some none
 |e::es,i=>
  match Oe k e.1 with
  |some true=>some (some (i,e.2))
  |some false=>I9 k es (Nat.succ i)
  |none=>none
def Fm {β:Type} (H:TH) (b:Nat) (k:List (Value×TV)->Option β):Option β:=
 Zf (nth H b) λo=>match o with
  |.map es=>k es
  |_=>none
def okT (ok:Bool) (x:TV) (is:Bool):TV:=cond ok (.Xh [x,.v (.bool is)]) x
def Ba (H:TH) (q:Wp) (z:TV) (x:TV) (k:TV) (ok:Bool):Option TV:=
 Zf (se k) λk=>Zp (Ge q k)
  (match x with
   |.v (.map none)=>some (okT ok z false)
   |.map b=>Fm H b λes=>Zf (I9 k es (nat_lit 0)) λr=>
    match r with
    |some p=>some (okT ok p.2 true)
    |none=>some (okT ok z false)
   |_=>none)
def Ty:List (Value×TV)->Nat->Value->TV->List (Value×TV)
 |[],_,_,_=>[]
 |_::es,0,k,x=>(k,x)::es
 |e::es,n+1,k,x=>e::Ty es n k x
def xe (Zh:Nat) (H:TH) (q:Wp) (x k y:TV):Option TH:=
 Zf (se k) λk=>Zp (Ge q k) (Zp (closed y)
  (match x with
   |.map b=>Zp (Nat.ble Zh b) (Fm H b λes=>Zf (I9 k es (nat_lit 0)) λr=>
    match r with
    |some p=>some (Kg H b (.map (Ty es p.1 k y)))
    |none=>some (Kg H b (.map (List.append es [(k,y)]))))
   |_=>none))
def dz {β:Type} (P:Program) (H:TH) (t:TypeId) (x k:TV) (ok:Bool) (c:TV->Option β):Option β:=
 Zf (Y7 P t) λi=>Zf (mapOf i.desc) λp=>Zf (M9 P p.1) λq=>Zf (Y7 P p.2) λj=>Zf (Ts j) λz=>
  Za (Ba H q (Mq z) x k ok) c
def dw {β:Type} (P:Program) (Zh:Nat) (H:TH) (t:TypeId) (x k y:TV) (c:TH->Option β):Option β:=
 Zf (Y7 P t) λi=>Zf (mapOf i.desc) λp=>Zf (M9 P p.1) λq=>Za (xe Zh H q x k y) c
def Kn (x:TV):Option TV:=match x with
 |.row _ _ _ es=>some (.v (.int .i64 (.ofNat (Zb es))))
 |.vec _ _ len _ _ _=>some (.v (.int .i64 (.ofNat len)))
 |_=>none
def lenMT (H:TH) (x:TV):Option TV:=match x with
 |.v (.map none)=>some (.v (.int .i64 0))
 |.map b=>Fm H b λes=>some (.v (.int .i64 (.ofNat (Zb es))))
 |_=>none
def Znb {β:Type} (P:Program) (H:TH) (t:TypeId) (x:TV) (k:TV->Option β):Option β:=
 Zf (Y7 P t) λi=>
  match i.desc with
  |.slice _=>Za (Kn x) k
  |.array n _=>k (.v (.int .i64 (.ofNat n)))
  |.map _ _=>Za (lenMT H x) k
  |_=>none
def capT (x:TV):Option TV:=match x with
 |.row .nil _ _ _=>some (.v (.int .i64 (.ofNat 0)))
 |.row .full _ _ es=>some (.v (.int .i64 (.ofNat (Zb es))))
 |.vec _ _ _ cap _ _=>cond (Nat.ble Xk cap) none (some (.v (.int .i64 (.ofNat cap))))
 |_=>none
def Znc {β:Type} (P:Program) (t:TypeId) (x:TV) (k:TV->Option β):Option β:=
 Zf (Y7 P t) λi=>
  match i.desc with
  |.slice _=>Za (capT x) k
  |.array n _=>k (.v (.int .i64 (.ofNat n)))
  |_=>none
def ie (x:TV):Bool:=match x with |.v _=>true |_=>false
def Ro {β:Type} (mx:Bool) (v:TV) (vs:List TV) (k:TV->Option β):Option β:=
 match vs with
 |[]=>Zp (ie v) (k v)
 |w::vs=>Za (b2 (Y0 mx) v w) λv=>Ro mx v vs k
def Znl (size:Nat) (H:TH) (x:TV):Option (List TV):=match x with
 |.row c _ n es=>Zp (cond (Ot c) true (Nat.beq n size)) (some es)
 |.vec b off len _ n ag=>Zp (Nat.beq n size) (Un H b off len n ag)
 |_=>none
def wh {β:Type} (e:TypeId) (size:Nat) (H:TH) (c:Cp) (q:Lf) (es new:List TV) (k:TV->TH->Option β):Option β:=
 match c with
 |.Jf=>(match q with
  |.own e'=>Zp (Nat.beq e e') (k (.row .Jf (.own e) size (List.append es new)) H)
  |_=>none)
 |_=>k (.row .Jf (.own e) size (List.append es new)) H
def fc {β:Type} (Zh:Nat) (H:TH) (e:TypeId) (size bytes:Nat) (s x:TV) (k:TV->TH->Option β):Option β:=
 Zf (Znl size H x) λnew=>
  (match s with
   |.row c q n es=>Zp (cond (Ot c) true (Nat.beq n size))
    (cond (Nat.beq (Zb new) 0) (k (.row c q n es) H)
     (Zp (roomFor bytes (Nat.add (Zb es) (Zb new))) (wh e size H c q es new k)))
   |.vec b off len cap n ag=>
    Zp (Nat.beq n size) (cond (Nat.beq (Zb new) 0) (Zp (Nat.ble len cap) (k (.vec b off len cap n ag) H))
     (Zp (roomFor bytes (Nat.add len (Zb new)))
      (cond (Nat.ble Xk cap) none
       (cond (Nat.ble (Nat.add len (Zb new)) cap)
        (Zp (Nat.ble Zh b) (Yx H b λcs=>Zp (Nat.ble (Nat.add off (Nat.mul (Nat.add len (Zb new)) n)) (Zb cs))
         (k (.vec b off (Nat.add len (Zb new)) cap n ag) (Kg H b (.cells (Kl cs (Nat.add off (Nat.mul len n)) (Qi new)))))))
        (Zf (Un H b off len n ag) λes=>k (.row .Jf (.own e) size (List.append es new)) H)))))
   |_=>none)
def X6 {β:Type} (Zh:Nat) (H:TH) (e:TypeId) (size bytes:Nat) (s x:TV) (k:TV->TH->Option β):Option β:=K1 (fc Zh H e size bytes s x Qr) k
def Zc2 {β:Type} (e:TypeId) (size bytes:Nat) (z:TV) (H:TH) (s x:TV) (k:TV->TH->Option β):Option β:=
 Zf (Ap x) λn=>Zp (Nat.blt 0 n)
  (match s with
   |.row c _ m es=>Zp (cond (Ot c) true (cond (isFull c) (Nat.beq m size) false)) (Zp (roomFor bytes (Nat.add (Zb es) n)) (Zp (closed z)
    (k (.row .Jf (.own e) size (List.append es (Y5 [z] n))) H)))
   |_=>none)
def ee {β:Type} (P:Program) (Zh:Nat) (H:TH) (st xt:TypeId) (s x:TV) (k:TV->TH->Option β):Option β:=
 Zf (G8 P st) λe=>Zf (Y7 P e) λi=>Zf (Ts i) λz=>Zf (Y7 P xt) λj=>
  Zp (Nat.beq (Ix (cellsOf z)) i.size)
   (match j.desc with
    |.slice _=>X6 Zh H e i.size i.bytes s x k
    |.int _=>Zp (Nat.blt 0 i.size) (Zc2 e i.size i.bytes (Mq z) H s x k)
    |_=>none)
def Fg (Zh:Nat) (H:TH) (z:List TV) (x:TV):Option TH:=match x with
 |.row .nil _ _ _=>some H
 |.vec b off len _ n _=>cond (Nat.beq len 0) (some H) (Zp (Nat.ble Zh b) (Yx H b λcs=>Zp (Nat.ble (Nat.add off (Nat.mul len n)) (Zb cs))
   (some (Kg H b (.cells (Kl cs off (Y5 z len)))))))
 |_=>none
def gj (x:TV) (size:Nat):Bool:=match x with |.vec _ _ _ _ n _=>Nat.beq n size |_=>true
def Zav {β:Type} (P:Program) (Zh:Nat) (H:TH) (t:TypeId) (x:TV) (k:TH->Option β):Option β:=
 Zf (G8 P t) λe=>Zf (Y7 P e) λi=>Zf (Ts i) λz=>
  Zp (Nat.beq (Ix (cellsOf z)) i.size) (Zp ((cellsOf z).all single) (Zp (gj x i.size) (Za (Fg Zh H (Zy (Mq z)) x) k)))
def Nl {β:Type} (P:Program) (Zh:Nat) (H:TH) (b:Builtin) (ts:List TypeId) (vs:List TV) (k:TV->TH->Option β):Option β:=
 match b with
 |.append=>match ts,vs with
  |[st,xt],[s,x]=>ee P Zh H st xt s x k
  |_,_=>none
 |.len=>match ts,vs with
  |[t],[x]=>Znb P H t x λv=>k v H
  |_,_=>none
 |.cap=>match ts,vs with
  |[t],[x]=>Znc P t x λv=>k v H
  |_,_=>none
 |.min=>match vs with
  |v::vs=>Ro false v vs λv=>k v H
  |_=>none
 |.max=>match vs with
  |v::vs=>Ro true v vs λv=>k v H
  |_=>none
 |.clear=>match ts,vs with
  |[t],[x]=>Zav P Zh H t x λH=>k Zk H
  |_,_=>none
 |_=>none
abbrev Z3:=Nat->FuncId->List TV->TH->Option (TV×TH)
def Ms (len cap n:Nat):Bool:=cond (Nat.ble Xk cap) (cond (Nat.beq cap (Nat.add Xk n)) (Nat.blt len Xk) false) (Nat.ble len cap)
def inC (H:TH) (x:TV):Option TV:=match x with
 |.v a=>some (.v a)
 |.row c _ n es=>some (.row c .set n es)
 |.iface t y=>some (.iface t y)
 |.vec b off len cap n ag=>Zf (Un H b off len n ag) λes=>Zp (Ms len cap n) (some (.row (cond (Nat.beq len cap) .full .Jf) .set n es))
 |.fn f [] []=>some (.fn f [] [])
 |_=>none
def uj (H:TH):List TV->Option (List TV)
 |[]=>some []
 |x::xs=>Zf (inC H x) λy=>Zf (uj H xs) λl=>some (y::l)
def inT (H:TH) (x:TV):Option TV:=match x with
 |.agg cs=>Zf (uj H cs) λds=>some (.agg ds)
 |x=>inC H x
def qm (H:TH):List TV->Option (List TV)
 |[]=>some []
 |x::xs=>Zf (inT H x) λy=>Zf (qm H xs) λl=>some (y::l)
def Np (x:TV):Bool:=match x with |.row .nil _ _ _=>false |.row _ q _ _=>(match q with |.set=>false |_=>true) |.vec _ _ _ _ _ _=>true |_=>false
def No (x:TV):Bool:=match x with |.agg cs=>Kk Np cs |x=>Np x
def j7 (x:TV):Bool:=match x with |.agg cs=>Z2 ie cs |x=>ie x
def y9 (act:Bool) (H:TH) (x:TV):Option TV:=match x with
 |.v a=>some (.v a)
 |.row c q n es=>match q with
  |.own e=>Zp (cond act (Z2 j7 es) true) (some (.row c (.own e) n es))
  |.set=>Zp (cond act (Ot c) true) (some (.row c .set n es))
  |.D7=>none
 |.vec b off len cap n ag=>Zf (Un H b off len n ag) λes=>Zp (Ms len cap n)<| Zp (cond act (Z2 j7 es) true) (some (.row (cond (Nat.beq len cap) .full .Jf) .set n es))
 |.iface t y=>Zp (!act) (some (.iface t y))
 |_=>none
def B8 (act:Bool) (H:TH):List TV->Option (List TV)
 |[]=>some []
 |x::xs=>Zf (y9 act H x) λy=>Zf (B8 act H xs) λl=>some (y::l)
def p9 (act:Bool) (H:TH) (x:TV):Option TV:=match x with
 |.agg cs=>Zf (B8 act H cs) λds=>some (.agg ds)
 |x=>y9 act H x
def y5 (act:Bool) (H:TH):List TV->Option (List TV)
 |[]=>some []
 |x::xs=>Zf (p9 act H x) λy=>Zf (y5 act H xs) λl=>some (y::l)
def y7 (act:Bool) (H:TH) (x:TV):Option TV:=match x with
 |.Xh cs=>Zf (y5 act H cs) λds=>some (.Xh ds)
 |x=>p9 act H x
def Zf7 (call:Z3) (f:FuncId) (as:List TV) (act:Bool):Option TV:=
 K1 (call (nat_lit 0) f as []) λv H'=>y7 act H' v
def Zm (call:Z3) (f:FuncId) (vs:List TV) (H:TH):Option TV:=
 Zf (qm H vs) λas=>Zf7 call f as (Kk No vs)
def Qo {β:Type} (call:Z3) (Zh:Nat) (f:FuncId) (vs:List TV) (H:TH) (k:TV->TH->Option β):Option β:=
 Zp (Z2 pass vs) (K1 (call Zh f vs H) k)
def Xd {β:Type} (C:TC) (call:Z3) (Zh:Nat) (f:TV) (vs:List TV) (H:TH) (k:TV->TH->Option β):Option β:=
 match f with
 |.fn (.func g) first cap=>Qo call Zh g (List.append first (List.append vs cap)) H k
 |_=>none
def S6 {β:Type} (P:Program) (call:Z3) (Zh:Nat) (r:TV) (name:String) (vs:List TV) (H:TH) (k:TV->TH->Option β):Option β:=
 match r with
 |.iface t x=>Zf (Al P t name) λg=>Qo call Zh g (x::vs) H k
 |_=>none
def Zhr (asserted:TypeId) (z x:TV) (ok:Bool):Option TV:=match x with
 |.v .nilIface=>cond ok (some (.Xh [z,.v (.bool false)])) none
 |.iface t y=>cond (Nat.beq t asserted) (some (okT ok y true)) (cond ok (some (.Xh [z,.v (.bool false)])) none)
 |_=>none
def Gf (o:Operand) (d:Tmp):Bool:=match o with |.tmp t=>Nat.beq t d |_=>false
def Zb9 (o:Op) (d:Tmp):Bool:=match o with
 |.call ⟨.builtin .append,args,_⟩=>(match args.toList with |s::_=>Gf s d |_=>false)
 |_=>false
def En (ops:List Oper):Nat->Tmp->Bool
 |0,_=>false
 |n+1,d=>ops.any λo=>match o.op with
  |.store _ a _=>Gf a d
  |.fieldAddr _ x _=>cond (Gf x d) (match o.dst with |some t=>En ops n t |none=>false) false
  |.indexAddr _ x _=>cond (Gf x d) (match o.dst with |some t=>En ops n t |none=>false) false
  |_=>false
def Yn (P:Program) (t:TypeId):Nat×Bool:=
 (Zf (G8 P t) λe=>Zf (Y7 P e) λi=>some (i.size,i.agg)).getD (0,false)
def T6 (P:Program) (f:FuncId):List TypeId:=match nth P.funcs.toList f with |some fn=>fn.params.toList |none=>[]
def Zfs (P:Program) (d:Tmp):List Operand->List TypeId->Option (Nat×Bool)
 |o::os,t::ts=>cond (Gf o d) (match Y7 P t with |some ⟨.slice _,_,_,_,_⟩=>some (Yn P t) |_=>none) (Zfs P d os ts)
 |_,_=>none
def Ht (P:Program) (C:TC) (ops:List Oper):Nat->Tmp->Option (Nat×Bool)
 |0,_=>none
 |n+1,d=>ops.findSome? λo=>match o.op with
  |.indexAddr t x _=>cond (Gf x d) (match o.dst with |some e=>cond (En ops 4 e) (some (Yn P t)) none |none=>none) none
  |.move x=>cond (Gf x d) (match o.dst with |some e=>Ht P C ops n e |none=>none) none
  |.assign x=>cond (Gf x d) (match o.dst with |some e=>Ht P C ops n e |none=>none) none
  |.call ⟨.value (.func f),args,_⟩=>cond (C.x9 f) (Zfs P d args.toList (T6 P f)) none
  |.call ⟨.builtin .clear,args,ts⟩=>Zfs P d args.toList ts.toList
  |_=>none
def p8 (C:TC) (Zs res:List Tmp) (ops:List Oper):Nat->Tmp->Nat
 |0,_=>2
 |n+1,d=>ops.foldl (λu o=>Nat.max u (match o.op with
  |.move x=>cond (Gf x d) (match o.dst with |some e=>cond (Zs.contains e || res.contains e) 2 (p8 C Zs res ops n e) |none=>0) 0
  |.assign x=>cond (Gf x d) (match o.dst with |some e=>cond (Zs.contains e || res.contains e) 2 (p8 C Zs res ops n e) |none=>0) 0
  |.store _ _ x=>cond (Gf x d) 1 0
  |.box _ x=>cond (Gf x d) 1 0
  |.build _ parts=>cond (parts.toList.any λp=>Gf p.2 d) 1 0
  |.buildSlice _ _ parts=>cond (parts.toList.any λp=>Gf p.2 d) 1 0
  |.pick _ a b=>cond (Gf a d || Gf b d) 1 0
  |.mapUpdate _ _ _ x=>cond (Gf x d) 1 0
  |.makeInterface _ x=>cond (Gf x d) 1 0
  |.makeFunc _ a b=>cond (a.toList.any (λx=>Gf x d) || b.toList.any λx=>Gf x d) 1 0
  |.call ⟨.builtin _,_,_⟩=>cond (Zb9 o.op d) 2 0
  |.call ⟨.value (.func f),args,_⟩=>cond (cond (C.tree f) (!C.deep f) false) 0 (cond (args.toList.any λx=>Gf x d) 1 0)
  |.call ⟨_,args,_⟩=>cond (args.toList.any λx=>Gf x d) 1 0
  |_=>0)) 0
def Zle:Nat->Md
 |0=>.Xi
 |1=>.settle
 |_=>.take
def Zef (P:Program) (C:TC) (Zs res:List Tmp) (ops:List Oper) (dst:Option Tmp) (x:Operand):Md:=
 match x with
 |.tmp t=>(match dst with
  |some d=>(match Ht P C ops 4 d with
   |some p=>.W8 p.1 p.2
   |none=>cond (Zs.contains d) (cond (res.contains d || !Zs.contains t) .take .settle) (Zle (p8 C Zs res ops 4 d)))
  |none=>.take)
 |_=>.take
def Zen (P:Program) (C:TC) (Zs res:List Tmp) (ops:List Oper) (t:TypeId) (dst:Option Tmp):Ld:=
 match dst with
 |none=>.Xi
 |some d=>
  cond (ops.any λo=>Zb9 o.op d) .take
   (match Ht P C ops 4 d with
    |some p=>.W8 p.1 p.2
    |none=>cond (res.contains d) .take (cond (Zs.contains d) .settle (cond (Nat.beq (p8 C Zs res ops 4 d) 0) .Xi .settle)))
def Ip (dp:Bool) (Zs:List Tmp) (o:Operand):Md:=match o with |.tmp t=>cond (cond dp false (Zs.contains t)) .raw .settle |_=>.raw
def U3 (P:Program):List Operand->List TypeId->List (Md×Operand)
 |[],_=>[]
 |o::os,ts=>match ts with
  |[]=>(.settle,o)::U3 P os []
  |t::ts=>((match Y7 P t with |some ⟨.slice _,_,_,_,_⟩=>.W8 (Yn P t).1 (Yn P t).2 |_=>.settle),o)::U3 P os ts
def Gd:Option Operand->List (Md×Operand)
 |none=>[]
 |some o=>[(.raw,o)]
def Qw (P:Program) (C:TC) (Zs res:List Tmp) (ops:List Oper) (o:Oper):List (Md×Operand):=
 match o.op with
 |.move x=>[(Zef P C Zs res ops o.dst x,x)]
 |.assign x=>[(Zef P C Zs res ops o.dst x,x)]
 |.pick c a b=>[(.raw,c),(.settle,a),(.settle,b)]
 |.alloc _=>[]
 |.box _ x=>[(.take,x)]
 |.build _ parts=>parts.toList.map λp=>(.take,p.2)
 |.buildSlice _ _ parts=>parts.toList.map λp=>(.settle,p.2)
 |.load _ a=>[(.raw,a)]
 |.store _ a x=>[(.raw,a),(.take,x)]
 |.nilCheck x=>[(.raw,x)]
 |.binOp _ _ x y _=>[(.raw,x),(.raw,y)]
 |.unOp _ _ x=>[(.raw,x)]
 |.convert _ _ x=>[(.raw,x)]
 |.makeFunc _ first captured=>(first.toList++captured.toList).map λx=>(.settle,x)
 |.makeMap _ r=>Gd r
 |.makeSlice _ l c=>[(.raw,l),(.raw,c)]
 |.slice _ x lo hi mx=>((match o.dst with |some d=>cond (Zs.contains d) .settle .raw |none=>.raw),x)::(Gd lo++(Gd hi++Gd mx))
 |.fieldAddr _ x _=>[(.raw,x)]
 |.field _ x _=>[(.settle,x)]
 |.indexAddr t x i=>[(cond (match o.dst with |some d=>En ops 4 d |none=>false) (.W8 (Yn P t).1 (Yn P t).2) .raw,x),(.raw,i)]
 |.index _ x i=>[(.settle,x),(.raw,i)]
 |.lookup _ x k _=>[(.raw,x),(.raw,k)]
 |.mapUpdate _ m k x=>[(.raw,m),(.raw,k),(.settle,x)]
 |.extract x i=>[(.comp i,x)]
 |.makeInterface _ x=>[(.settle,x)]
 |.typeAssert x _ _ _=>[(.raw,x)]
 |.call ⟨.builtin .append,args,_⟩=>(match args.toList with |s::xs=>(.take,s)::xs.map λx=>(.raw,x) |[]=>[])
 |.call ⟨.builtin .clear,args,ts⟩=>U3 P args.toList ts.toList
 |.call ⟨.builtin _,args,_⟩=>args.toList.map λx=>(.raw,x)
 |.call ⟨.value (.func f),args,_⟩=>
  cond (C.tree f) (args.toList.map λx=>(Ip (C.deep f) Zs x,x)) (cond (C.x9 f) (U3 P args.toList (T6 P f)) (args.toList.map λx=>(.settle,x)))
 |.call ⟨.value f,args,_⟩=>(.raw,f)::args.toList.map λx=>(.settle,x)
 |.call ⟨.invoke r _,args,_⟩=>(.raw,r)::args.toList.map λx=>(.settle,x)
 |_=>[]
def ka:Option Operand->List TV->Option (Option TV×List TV)
 |none,vs=>some (none,vs)
 |some _,v::vs=>some (some v,vs)
 |some _,[]=>none
def idxs (parts:Array (Nat×Operand)):List Nat:=parts.toList.map (·.1)
def Zaq {β:Type} (P:Program) (C:TC) (call:Z3) (Zs res:List Tmp) (ops:List Oper) (Zh base:Nat) (dst:Option Tmp) (H:TH) (o:Op) (vs:List TV) (k:TV->TH->Option β):Option β:=
 match o with
 |.move _=>match vs with |[x]=>k x H |_=>none
 |.assign _=>match vs with |[x]=>k x H |_=>none
 |.pick _ _ _=>match vs with |[c,a,b]=>Za (Xa c a b) λv=>k v H |_=>none
 |.alloc e=>Zf (Y7 P e) λi=>Zf (Ts i) λz=>k (.ptr (Zb H) (nat_lit 0)) (Zv H (.cells (Zy (Mq z))))
 |.box _ _=>match vs with |[x]=>Zp (Yu x) (k (.ptr (Zb H) (nat_lit 0)) (Zv H (.cells (Zy x)))) |_=>none
 |.build t parts=>Zfl P t (idxs parts) vs λv=>k v H
 |.buildSlice t len parts=>litT P t len (idxs parts) vs λv=>k v H
 |.load t _=>match vs with |[a]=>Zf (Y7 P t) λi=>loadT (Zen P C Zs res ops t dst) Zh base i.agg i.size H a k |_=>none
 |.store t _ _=>match vs with |[a,x]=>Zf (Y7 P t) λi=>Za (storeT Zh base i.size H a x) λH=>k Zk H |_=>none
 |.nilCheck _=>match vs with |[x]=>Za (On x) λv=>k v H |_=>none
 |.binOp op t _ _ _=>match vs with |[x,y]=>binT P op t x y λv=>k v H |_=>none
 |.unOp op _ _=>match vs with |[x]=>unT op x λv=>k v H |_=>none
 |.convert s d _=>match vs with |[x]=>Zf (Y7 P s) λ_=>Zf (Y7 P d) λi=>Zf (intOf i.desc) λq=>Za (b1 (Ki q) x) λv=>k v H |_=>none
 |.makeFunc fn first _=>Zp (Z2 pass vs) (k (.fn fn (X7 vs first.size) (La vs first.size)) H)
 |.makeMap t r=>match r with
  |none=>k (.map (Zb H)) (Zv H (.map []))
  |some _=>match vs with |[x]=>Zf (Y7 P t) λi=>Zf (mapOf i.desc) λ_=>Zf (se x) λa=>Za (Aq a) λ_=>k (.map (Zb H)) (Zv H (.map [])) |_=>none
 |.makeSlice t _ _=>match vs with |[l,c]=>Zns P H t l c k |_=>none
 |.slice t _ lo hi mx=>match vs with
  |x::vs=>Zf (ka lo vs) λp=>Zf (ka hi p.2) λq=>Zf (ka mx q.2) λr=>Zl3 P t x p.1 q.1 r.1 λv=>k v H
  |_=>none
 |.fieldAddr t _ f=>match vs with |[x]=>Zfa P t x f λv=>k v H |_=>none
 |.field t _ f=>match vs with |[x]=>fieldT P t x f λv=>k v H |_=>none
 |.indexAddr t _ _=>match vs with |[x,i]=>Zet P t x i λv=>k v H |_=>none
 |.index t _ _=>match vs with |[x,i]=>indexT P t x i λv=>k v H |_=>none
 |.lookup t _ _ ok=>match vs with |[x,key]=>dz P H t x key ok λv=>k v H |_=>none
 |.mapUpdate t _ _ _=>match vs with |[m,key,x]=>dw P Zh H t m key x λH=>k Zk H |_=>none
 |.extract _ _=>match vs with |[x]=>k x H |_=>none
 |.makeInterface t _=>match vs with |[x]=>Zf (Y7 P t) λi=>Zp (L9 i.desc) (Zp (closed x) (k (.iface t x) H)) |_=>none
 |.typeAssert _ _ a ok=>match vs with |[x]=>Zf (Y7 P a) λi=>Zp (L9 i.desc) (Zf (Ts i) λz=>Za (Zhr a (Mq z) x ok) λv=>k v H) |_=>none
 |.call ⟨.builtin b,_,ts⟩=>Nl P Zh H b ts.toList vs k
 |.call ⟨.value (.func f),_,_⟩=>cond (C.tree f) (Za (Zm call f vs H) λv=>k v H) (Qo call Zh f vs H k)
 |.call ⟨.value _,_,_⟩=>match vs with |f::vs=>Xd C call Zh f vs H k |_=>none
 |.call ⟨.invoke _ name,_,_⟩=>match vs with |r::vs=>S6 P call Zh r name vs H k |_=>none
 |_=>none
def Xy (m:Md):Bool:=match m with |.W8 _ _=>true |_=>false
def tz (m:Ld):Bool:=match m with |.W8 _ _=>true |_=>false
def Vu (P:Program) (C:TC) (Zs res:List Tmp) (ops:List Oper) (o:Oper):Bool:=
 cond (Kk (λp=>Xy p.1) (Qw P C Zs res ops o)) true
  (match o.op with
   |.load t _=>tz (Zen P C Zs res ops t o.dst)
   |.call ⟨.builtin .append,_,_⟩=>true
   |.call ⟨.builtin _,_,_⟩=>false
   |.call ⟨.value (.func f),_,_⟩=>!C.tree f
   |.call _=>true
   |_=>false)
def Uo (P:Program) (C:TC) (Zs res:List Tmp) (ops:List Oper) (o:Oper) (ep:Nat):Nat:=cond (Vu P C Zs res ops o) (Nat.succ ep) ep
def isBT (x:TV) (want:Bool):Bool:=match x with |.v a=>isB a want |_=>false
def Hg (x:TV):Bool:=match x with |.v (.bool _)=>true |.gone=>true |_=>false
def Qp {β:Type} (x:TV) (want:Bool) (r:Option (TV×TH)) (H:TH) (k:TV->TH->Option β):Option β:=
 Zp (Hg x) (K1 (cond (isBT x want) r (some (.gone,H))) k)
def Zd6 {β:Type} (P:Program) (C:TC) (call:Z3) (Zs res:List Tmp) (all:List Oper) (Zh base ep:Nat) (E:TE) (H:TH) (o:Oper) (k:TV->TE->TH->Option β):Option β:=
 match o.guard with
 |none=>Zab P C ep (Qw P C Zs res all o) E H λvs E H=>Zaq P C call Zs res all Zh base o.dst H o.op vs λv H=>k v E H
 |some g=>Zf (nth all g.1) λp=>Zf p.dst λd=>Zf (Pn E d) λq=>
   Zab P C ep (Qw P C Zs res all o) E H λvs E H=>
    Qp q.2 g.2 (Zaq P C call Zs res all Zh base o.dst H o.op vs Qr) H λv H=>k v E H
def opsT {β:Type} (P:Program) (C:TC) (call:Z3) (Zs res:List Tmp) (Zh base nt:Nat) (all:List Oper):List Oper->Nat->TE->TH->(TE->TH->Option β)->Option β
 |[],_,E,H,k=>k E H
 |o::rest,ep,E,H,k=>cond (bound nt o.dst)
   (Zd6 P C call Zs res all Zh base ep E H o λv E H=>opsT P C call Zs res Zh base nt all rest (Uo P C Zs res all o ep) (putD E o.dst (Uo P C Zs res all o ep) v) H k) none
inductive Hd where
 |none |box (b:Nat) |own |set |any |row (n:Nat)
def hdT (x:TV):Hd:=match x with
 |.v _=>.none
 |.row c q _ _=>(match c with |.nil=>.none |_=>match q with |.own _=>.own |.set=>.set |.D7=>.any)
 |.ptr b _=>.box b
 |.vec b _ _ _ _ _=>.box b
 |.map b=>.box b
 |.el q _ _=>(match q with |.set=>.set |_=>.any)
 |.agg _=>.none
 |.fn _ _ _=>.none
 |.iface _ _=>.none
 |.Xh _=>.any
 |.gone=>.any
def Zp6 (a b:Hd):Bool:=match a,b with
 |.none,_=>true
 |_,.none=>true
 |.box i,.box j=>!(Nat.beq i j)
 |.box _,.own=>true
 |.box _,.set=>true
 |.own,.box _=>true
 |.set,.box _=>true
 |.own,.set=>true
 |.set,.own=>true
 |.row n,.box j=>Nat.blt j n
 |.box j,.row n=>Nat.blt j n
 |_,_=>false
def Tb (a b:List Hd):Bool:=Z2 (λx=>Z2 (λy=>Zp6 x y) b) a
def hdP (H:TH) (x:TV):Hd:=match x with
 |.row c q _ _=>(match c with |.nil=>.none |_=>match q with |.set=>.set |_=>.row (Zb H))
 |.el q _ _=>(match q with |.set=>.set |_=>.row (Zb H))
 |x=>hdT x
def hdX (x:TV) (h:Hd):Hd:=match hdT x with |.any=>h |d=>d
abbrev HE:=List (Tmp×Hd)
def Zba:HE->Tmp->Hd
 |[],_=>.any
 |(s,h)::E,t=>cond (Nat.beq s t) h (Zba E t)
def putH (E:HE) (d:Option Tmp) (h:Hd):HE:=match d with |none=>E |some d=>(d,h)::E
def Nx (H:TH):TE->HE
 |[]=>[]
 |(t,p)::E=>(t,hdP H p.2)::Nx H E
def rawT (P:Program) (C:TC) (ep:Nat) (E:TE) (o:Operand):Option TV:=
 match o with
 |.tmp t=>Zf (Pn E t) λp=>some (Gw ep p)
 |.const v=>Zp (plain v) (some (Mq v))
 |.global g=>Zf (C.Bs g) λcs=>Zp (Nat.blt g P.globals.size) (some (.el .set cs (nat_lit 0)))
 |.func f=>some (.fn (.func f) [] [])
def hdO (P:Program) (C:TC) (ep:Nat) (E:TE) (hs:HE) (o:Operand):Option Hd:=
 Zf (rawT P C ep E o) λv=>some (hdX v (match o with |.tmp t=>Zba hs t |_=>.any))
def Zbs (P:Program) (C:TC) (ep:Nat) (E:TE) (hs:HE):List Operand->Option (List Hd)
 |[]=>some []
 |o::os=>Zf (hdO P C ep E hs o) λv=>Zf (Zbs P C ep E hs os) λl=>some (v::l)
def Ur (C:TC) (o:Op):Bool:=match o with
 |.call ⟨.value (.func f),_,_⟩=>C.tree f
 |_=>false
def Zai (m:Md):Bool:=match m with |.raw=>true |.settle=>true |_=>false
def Rj (P:Program) (C:TC) (Zs res:List Tmp) (ops:List Oper) (o:Oper):Bool:=Z2 (λp=>Zai p.1) (Qw P C Zs res ops o)
def X3 (o:Kc):Bool:=match o with |.cells cs=>Z2 (λx=>!Xs x) cs |_=>true
def Zgp (P:Program) (C:TC) (Zs res:List Tmp) (ops:List Oper) (H:TH) (o:Oper):Bool:=
 cond (Ur C o.op) true (cond (Rj P C Zs res ops o) (Z2 X3 H) false)
def pz (C:TC) (Zh:Nat) (H:TH) (o:Oper):Nat:=cond (Ur C o.op) Zh (Zb H)
def dv {β:Type} (P:Program) (C:TC) (call:Z3) (Zs res:List Tmp) (Zh base nt:Nat) (all:List Oper):List Oper->List Row->Nat->HE->TE->TH->(TE->TH->Option β)->Option β
 |[],_,_,_,E,H,k=>k E H
 |o::rest,rows,ep,hs,E,H,k=>
  match rows with
  |[]=>none
  |r::rows=>
   cond (bound nt o.dst)
    (Zf (Zbs P C ep E hs r.apart) λa=>Zf (Zbs P C ep E hs r.own) λb=>Zp (Tb a b)
     (Zp (cond r.quiet (Zgp P C Zs res all H o) true)<| Zd6 P C call Zs res all (cond r.quiet (pz C Zh H o) Zh) base ep E H o λv E H=>dv P C call Zs res Zh base nt all rest rows (Uo P C Zs res all o ep) (putH hs o.dst (hdP H v)) (putD E o.dst (Uo P C Zs res all o ep) v) H k)) none
def xk {β:Type} (P:Program) (C:TC) (call:Z3) (Zs res:List Tmp) (Zh base nt:Nat) (ops:List Oper) (draw:Bool) (E:TE) (H:TH) (k:TE->TH->Option β):Option β:=
 match draw with
 |true=>(match L5 ops (Yp ops []) with |⟨ok,rows⟩=>cond ok (dv P C call Zs res Zh base nt ops ops rows (nat_lit 0) (Nx H E) E H k) none)
 |false=>opsT P C call Zs res Zh base nt ops ops (nat_lit 0) E H k
abbrev Gz (σ:Type):=Option (Ex×σ×TH)
abbrev Z4 (σ:Type):=σ->TH->Gz σ
def Zd {σ:Type} (f:σ->TH->(σ->TH->Gz σ)->Gz σ):Z4 σ:=λS H=>f S H λS H=>some (.normal,S,H)
def Zn {σ:Type} (e:Ex):Z4 σ:=λS H=>some (e,S,H)
def Zi {σ:Type} (f g:Z4 σ):Z4 σ:=λS H=>
 Option.rec (motive:=λ_=>Gz σ) none (λp=>Ex.casesOn (motive:=λ_=>Gz σ) p.1 (g p.2.1 p.2.2) (λ_=>some p) (some p)) (f S H)
def Z1 {σ:Type} (c:σ->Option TV) (f g:Z4 σ):Z4 σ:=λS H=>
 Za (c S) λv=>match v with
  |.v (.bool t)=>cond t (f S H) (g S H)
  |_=>none
def Z9 {σ:Type} (id:Nat) (f:Z4 σ):Z4 σ:=λS H=>
 Option.rec (motive:=λ_=>Gz σ) none (λp=>Ex.casesOn (motive:=λ_=>Gz σ) p.1 (some p) (λSl=>cond (Nat.beq Sl id) (some (.normal,p.2)) (some p)) (some p)) (f S H)
def Ym {σ:Type} (f:Z4 σ) (fuel:Nat):Z4 σ:=
 Nat.rec (motive:=λ_=>Z4 σ) (λ_ _=>none)
  (λ_ ih S H=>Option.rec (motive:=λ_=>Gz σ) none (λp=>Ex.casesOn (motive:=λ_=>Gz σ) p.1 (ih p.2.1 p.2.2) (λ_=>some p) (some p)) (f S H)) fuel
def Ch (P:Program) (C:TC) (call:Z3) (Zh base nt:Nat) (Zs res:List Tmp):Code->Z4 (VT Zs)
 |.skip=>Zn .normal
 |.label _=>Zn .normal
 |.ret=>Zn .ret
 |.exit id=>Zn (.exit id)
 |.region _ ops draw=>Zd λS H k=>xk P C call Zs res Zh base nt ops.toList draw (Mo Zs S) H λE H=>k (mkT E Zs) H
 |.seq a b=>Zi (Ch P C call Zh base nt Zs res a) (Ch P C call Zh base nt Zs res b)
 |.cond c a b=>Z1 (λS=>rawT P C (nat_lit 0) (Mo Zs S) c) (Ch P C call Zh base nt Zs res a) (Ch P C call Zh base nt Zs res b)
 |.block id c=>Z9 id (Ch P C call Zh base nt Zs res c)
 |.loop c=>Ym (Ch P C call Zh base nt Zs res c) C.fuel
 |.scope c=>Ch P C call Zh base nt Zs res c
 |_=>λ_ _=>none
def pr (rs:List ResultVar):List Tmp:=rs.filterMap fun |.tmp t=>some t |_=>none
def E9 {β:Type} (P:Program) (Zh:Nat):List ResultVar->TE->TH->(List TV->TH->Option β)->Option β
 |[],_,H,k=>k [] H
 |.tmp t::rs,E,H,k=>Zf (Pn E t) λp=>E9 P Zh rs (Ef E t (nat_lit 0) (Qu p.2)) H λvs H=>k (p.2::vs) H
 |.cell a t::rs,E,H,k=>Zf (Pn E a) λp=>Zf (Y7 P t) λi=>loadT .take Zh (Zb H) i.agg i.size H p.2 λv H=>E9 P Zh rs E H λvs H=>k (v::vs) H
def Qk (v:TV):Bool:=match v with |.row _ .D7 _ _=>false |.el .D7 _ _=>false |.Xh (_::_)=>false |_=>true
def Om:List TV->TV
 |[v]=>v
 |vs=>.Xh vs
def Xm (base:Nat) (v:TV) (H:TH):TV×TH:=cond (loose v) (v,X7 H base) (v,H)
def bodyT (P:Program) (C:TC) (call:Z3) (Zh nt:Nat) (Zs:List Tmp) (c:Code) (rs:List ResultVar) (args:List TV) (H:TH):Option (TV×TH):=
 Za (Ch P C call Zh (Zb H) nt Zs (pr rs) c (ig args Zs) H) λp=>
  Xr p.1 (E9 P Zh rs (Mo Zs p.2.1) p.2.2 λvs H'=>Zp (Z2 Qk vs) (some (Xm (Zb H) (Om vs) H')))
def fnT (P:Program) (C:TC) (call:Z3):Z3:=λZh f args H=>
 Zf (nth P.funcs.toList f) λfn=>Zf fn.body λc=>
  Zp (!(fn.name == "runtime.NumGoroutine")) (bodyT P C call Zh fn.ntmps (C.Zs f) c fn.results.toList args H)
def ph:List (Nat×(Z3->Z3))->Tr (Z3->Z3)->Tr (Z3->Z3)
 |[],t=>t
 |r::l,t=>ph l (t.put r.1 (some r.2))
def Aw (P:Program) (C:TC) (table:Tr (Z3->Z3)) (d:Nat):Z3:=
 Nat.rec (motive:=λ_=>Z3) (λ_ _ _ _=>none)
  (λ_ ih Zh f args H=>Option.rec (motive:=λ_=>Option (TV×TH)) (fnT P C ih Zh f args H) (λF=>F ih Zh f args H) (table.get f)) d
end
end Go.Ev
namespace Go.Ev
inductive Nr {α β:Type} (R:α->β->Prop):List α->List β->Prop where
 |nil:Nr R [] []
 |cons {a:α} {b:β} {as:List α} {bs:List β} (h:R a b) (t:Nr R as bs):Nr R (a::as) (b::bs)
theorem bleF {a b:Nat} (h:a < b):Nat.ble b a=false:=by
 cases e:Nat.ble b a with
 |false=>rfl
 |true=>exact absurd (Nat.le_of_ble_eq_true e) (by omega)
theorem Zfm {a b:Nat} (h:a < b):Nat.blt a b=true:=by rw [Nat.blt_eq];exact h
theorem Jq {α:Type} (l:List α) (n:Nat):La l n=l.drop n:=by
 induction l generalizing n with
 |nil=>simp [La]
 |cons x l ih=>
  cases n with
  |zero=>rfl
  |succ n=>rw [List.drop_succ_cons,<- ih];rfl
theorem Yh {α:Type} (l:List α) (n:Nat):X7 l n=l.take n:=by
 induction l generalizing n with
 |nil=>simp [X7]
 |cons x l ih=>
  cases n with
  |zero=>rfl
  |succ n=>rw [List.take_succ_cons,<- ih];rfl
theorem Zz {α:Type} (l:List α):Zb l=l.length:=by
 induction l with
 |nil=>rfl
 |cons x l ih=>rw [List.length_cons,<- ih];rfl
theorem Zi2 {α:Type} (vs cs:List α) (h:vs.length<=cs.length):yy vs cs=vs++cs.drop vs.length:=by
 induction vs generalizing cs with
 |nil=>rfl
 |cons v vs ih=>
  cases cs with
  |nil=>simp at h
  |cons c cs=>
   have:yy (v::vs) (c::cs)=v::yy vs cs:=rfl;rw [this,ih cs (by simpa using h)];rfl
theorem Ia {α:Type} (cs vs:List α) (off:Nat) (h:off+vs.length<=cs.length):Kl cs off vs=cs.take off++(vs++cs.drop (off+vs.length)):=by
 induction cs generalizing off with
 |nil=>
  have h1:vs=[]:=by cases vs with |nil=>rfl |cons=>simp at h
  have h2:off=0:=by subst h1;simpa using h
  subst h1 h2;rfl
 |cons c cs ih=>
  cases off with
  |zero=>
   have:Kl (c::cs) 0 vs=yy vs (c::cs):=rfl;rw [this,Zi2 _ _ (by simpa using h)];simp
  |succ off=>
   have:Kl (c::cs) (off+1) vs=c::Kl cs off vs:=rfl;rw [this,ih off (by simp at h;omega)]
   simp [show off+1+vs.length=off+vs.length+1 from by omega]
theorem M4 {α:Type} (cs:List α) (off n:Nat):Vi cs off n=(cs.drop off).take n:=by simp [Vi,Yh,Jq]
theorem J4 {α β:Type} (f:α->β) (l:List α):Ve f l=l.map f:=by
 induction l with
 |nil=>rfl
 |cons x l ih=>rw [List.map_cons,<- ih];rfl
theorem Ye {α:Type} (p:α->Bool) (l:List α):Z2 p l=l.all p:=by
 induction l with
 |nil=>rfl
 |cons x l ih=>
  show cond (p x) (Z2 p l) false=_;rw [ih,List.all_cons];cases p x <;> rfl
theorem xz {α:Type} (p:α->Bool) (l:List α):Kk p l=l.any p:=by
 induction l with
 |nil=>rfl
 |cons x l ih=>
  show cond (p x) true (Kk p l)=_;rw [ih,List.any_cons];cases p x <;> rfl
theorem Lo {α:Type} (cs:List α) (off:Nat) (x:α) (h:off < cs.length):Kl cs off [x]=cs.set off x:=by
 rw [Ia _ _ _ (by simp;omega),List.set_eq_take_append_cons_drop,if_pos h];simp
theorem U8:Qi []=[]:=rfl
theorem Jy (x:TV) (es:List TV):Qi (x::es)=Zy x++Qi es:=rfl
theorem U9 (a b:List TV):Qi (a++b)=Qi a++Qi b:=by
 induction a with
 |nil=>rfl
 |cons x a ih=>rw [List.cons_append,Jy,ih,Jy,List.append_assoc]
def Um (n:Nat) (es:List TV):Prop:=∀ x∈es,(Zy x).length=n/\∀ c∈Zy x,Qv c=true
theorem Um.cons {n:Nat} {x:TV} {es:List TV} (h:Um n (x::es)):(Zy x).length=n/\Um n es:=⟨(h x (List.mem_cons_self ..)).1,λy hy=>h y (List.mem_cons_of_mem _ hy)⟩
theorem Um.append {n:Nat} {a b:List TV} (h:Um n a) (k:Um n b):Um n (a++b):=λx hx=>(List.mem_append.1 hx).elim (h x) (k x)
theorem Um.closed {n:Nat}:∀ {es:List TV},Um n es->∀ c∈Qi es,Qv c=true
 |[],_,c,hc=>by rw [U8] at hc;cases hc
 |x::es,h,c,hc=>by
  rw [Jy] at hc;rcases List.mem_append.1 hc with hc |hc
  ·exact (h x (List.mem_cons_self ..)).2 c hc
  ·exact Um.closed h.cons.2 c hc
theorem K5 {n:Nat}:∀ {es:List TV},Um n es->(Qi es).length=es.length * n
 |[],_=>by simp [U8]
 |x::es,h=>by rw [Jy,List.length_append,h.cons.1,K5 h.cons.2,List.length_cons,Nat.succ_mul];omega
theorem Ru {n:Nat}:∀ {es:List TV} (l:Nat),Um n es->(Qi es).drop (l * n)=Qi (es.drop l)
 |es,0,_=>by simp
 |[],l+1,_=>by simp [U8]
 |x::es,l+1,h=>by
  rw [Jy,Nat.succ_mul,Nat.add_comm,<- List.drop_drop,List.drop_left' h.cons.1,Ru l h.cons.2,List.drop_succ_cons]
theorem Fc {n:Nat}:∀ {es:List TV} (l:Nat),Um n es->(Qi es).take (l * n)=Qi (es.take l)
 |es,0,_=>by simp [U8]
 |[],l+1,_=>by simp [U8]
 |x::es,l+1,h=>by
  rw [Jy,Nat.succ_mul,Nat.add_comm,List.take_succ_cons,Jy,List.take_append,h.cons.1,List.take_of_length_le (by rw [h.cons.1];omega),
   Nat.add_sub_cancel_left,Fc l h.cons.2]
theorem Zo6 {n:Nat} {es:List TV} {j:Nat} {x:TV} (h:Um n es) (hj:es[j]? = some x):((Qi es).drop (j * n)).take n=Zy x:=by
 have Jo:j < es.length:=by
  rcases Nat.lt_or_ge j es.length with h1 |h1
  ·exact h1
  ·rw [List.getElem?_eq_none h1] at hj;cases hj
 rw [Ru j h,List.drop_eq_getElem_cons Jo,Jy];rw [List.getElem?_eq_getElem Jo] at hj;cases hj;have h1:=(h es[j] (List.getElem_mem Jo)).1;rw [List.take_append,h1,List.take_of_length_le (by rw [h1];omega),Nat.sub_self,List.take_zero,List.append_nil]
def ke (a:Value):Bool:=match a with |.slice _ _ _=>false |_=>true
def Ci (c:Cp) (cap len n:Nat):Prop:=match c with
 |.nil=>False
 |.full=>cap=len/\len < Xk
 |.Jf=>(len<=cap/\cap < Xk)\/(cap=Xk+n/\len < Xk)
mutual
inductive KR (H:AH) (S:Nat->Prop):TV->Value->Prop where
 |v {a:Value} (h:flat a=true) (hn:ke a=true):KR H S (.v a) a
 |nil:KR H S Xp (.slice none 0 0)
 |row {c:Cp} {n:Nat} {es:List TV} {i off cap s:Nat} {cs:List Value} {e:TypeId} (hc:Ci c cap es.length n) (hi:S i) (hl:i < H.next) (hg:H.get i=some (.cells s cs e)) (hs:cs.length=s)
   (hb:off+es.length * n<=s) (he:Um n es) (h:W6 H S (Qi es) ((cs.drop off).take (es.length * n))):KR H S (.row c .set n es) (.slice (some ⟨i,off,none⟩) es.length cap)
 |agg {cs:List TV} {ds:Array Value} (hc:∀ c∈cs,Qv c=true) (h:W6 H S cs ds.toList):KR H S (.agg cs) (.agg ds)
 |iface {t:TypeId} {x:TV} {y:Value} (h:KR H S x y):KR H S (.iface t x) (.iface t y)
 |fn0 {f:Fn}:KR H S (.fn f [] []) (.func f #[] #[])
inductive W6 (H:AH) (S:Nat->Prop):List TV->List Value->Prop where
 |nil:W6 H S [] []
 |cons {x:TV} {y:Value} {xs:List TV} {ys:List Value} (h:KR H S x y) (t:W6 H S xs ys):W6 H S (x::xs) (y::ys)
end
mutual
inductive VR (H:AH) (S:Nat->Prop) (r:List Nat):TV->Value->List Nat->Prop where
 |k {x:TV} {y:Value} (h:KR H S x y):VR H S r x y []
 |D7 {c:Cp} {n:Nat} {es:List TV} {i off cap s:Nat} {cs:List Value} {e:TypeId} (hc:Ci c cap es.length n) (hi:i ∉ r) (hl:i < H.next) (hg:H.get i=some (.cells s cs e)) (hs:cs.length=s)
   (hb:off+es.length * n<=s) (he:Um n es) (h:W6 H S (Qi es) ((cs.drop off).take (es.length * n))):VR H S r (.row c .D7 n es) (.slice (some ⟨i,off,none⟩) es.length cap) []
 |own {c:Cp} {n:Nat} {es:List TV} {i:Nat} {cs:List Value} {e:TypeId} (hc:c≠.nil) (hu:es.length < Xk) (hl:i < H.next) (hg:H.get i=some (.cells (es.length * n) cs e)) (he:Um n es)
   (h:W6 H S (Qi es) cs):VR H S r (.row c (.own e) n es) (.slice (some ⟨i,0,none⟩) es.length (Ub c es.length n)) [i]
 |ptr {b i off:Nat} (h:r[b]? = some i):VR H S r (.ptr b off) (.pointer (some ⟨i,off,none⟩)) []
 |elS {cs:List TV} {i o off s:Nat} {ds:List Value} {e:TypeId} (hi:S i) (hl:i < H.next) (hg:H.get i=some (.cells s ds e)) (hs:ds.length=s) (hb:o+cs.length<=s) (hc:∀ c∈cs,Qv c=true) (h:W6 H S cs ((ds.drop o).take cs.length)) :
   VR H S r (.el .set cs off) (.pointer (some ⟨i,o+off,none⟩)) []
 |elB {cs:List TV} {i o off s:Nat} {ds:List Value} {e:TypeId} (hi:i ∉ r) (hl:i < H.next) (hg:H.get i=some (.cells s ds e)) (hs:ds.length=s) (hb:o+cs.length<=s) (hc:∀ c∈cs,Qv c=true) (h:W6 H S cs ((ds.drop o).take cs.length)) :
   VR H S r (.el .D7 cs off) (.pointer (some ⟨i,o+off,none⟩)) []
 |vec {b i off len cap n:Nat} {ag:Bool} (h:r[b]? = some i):VR H S r (.vec b off len cap n ag) (.slice (some ⟨i,off,none⟩) len cap) []
 |map {b i:Nat} (h:r[b]? = some i):VR H S r (.map b) (.map (some i)) []
 |fn {f:Fn} {first cap:List TV} {f' c':Array Value} (h:Y3 H S r first f'.toList []) (h':Y3 H S r cap c'.toList []):VR H S r (.fn f first cap) (.func f f' c') []
 |agg {cs:List TV} {ds:Array Value} {o:List Nat} (h:Y3 H S r cs ds.toList o):VR H S r (.agg cs) (.agg ds) o
 |Xh {cs:List TV} {ds:Array Value} {o:List Nat} (h:Y3 H S r cs ds.toList o):VR H S r (.Xh cs) (.tuple ds) o
 |Cq {y:Value}:VR H S r Zk y []
 |gone:VR H S r .gone undef []
inductive Y3 (H:AH) (S:Nat->Prop) (r:List Nat):List TV->List Value->List Nat->Prop where
 |nil:Y3 H S r [] [] []
 |cons {x:TV} {y:Value} {o:List Nat} {xs:List TV} {ys:List Value} {os:List Nat} (h:VR H S r x y o) (t:Y3 H S r xs ys os):Y3 H S r (x::xs) (y::ys) (o++os)
end
def Wb (H:AH) (S:Nat->Prop) (H':AH) (S':Nat->Prop):Prop:=H.next<=H'.next/\∀ i,i < H.next->S i->S' i/\H'.get i=H.get i
mutual
theorem KR.mono {H H':AH} {S S':Nat->Prop} (m:Wb H S H' S'):∀ {x:TV} {y:Value},KR H S x y->KR H' S' x y
 |_,_,.v h hn=>.v h hn
 |_,_,.nil=>.nil
 |_,_,.row hc hi hl hg hs hb he h=>.row hc (m.2 _ hl hi).1 (Nat.lt_of_lt_of_le hl m.1) ((m.2 _ hl hi).2.trans hg) hs hb he (W6.mono m h)
 |_,_,.agg hc h=>.agg hc (W6.mono m h)
 |_,_,.iface h=>.iface (KR.mono m h)
 |_,_,.fn0=>.fn0
theorem W6.mono {H H':AH} {S S':Nat->Prop} (m:Wb H S H' S'):∀ {x:List TV} {y:List Value},W6 H S x y->W6 H' S' x y
 |_,_,.nil=>.nil
 |_,_,.cons h t=>.cons (KR.mono m h) (W6.mono m t)
end
mutual
theorem VR.mono {H H':AH} {S S':Nat->Prop} {r r':List Nat} (m:Wb H S H' S') (g:∀ (b i:Nat),r[b]? = some i->r'[b]? = some i) (q:∀ i,i < H.next->i ∉ r->i ∉ r'/\H'.get i=H.get i) :
  ∀ {x:TV} {y:Value} {o:List Nat},(∀ i∈o,H'.get i=H.get i)->VR H S r x y o->VR H' S' r' x y o
 |_,_,_,_,.k h=>.k (h.mono m)
 |_,_,_,_,.D7 hc hi hl hg hs hb he h=>.D7 hc (q _ hl hi).1 (Nat.lt_of_lt_of_le hl m.1) ((q _ hl hi).2.trans hg) hs hb he (h.mono m)
 |_,_,_,w,.own hc hu hl hg he h=>.own hc hu (Nat.lt_of_lt_of_le hl m.1) ((w _ (List.mem_singleton.2 rfl)).trans hg) he (h.mono m)
 |_,_,_,_,.ptr h=>.ptr (g _ _ h)
 |_,_,_,_,.elS hi hl hg hs hb hc h=>.elS (m.2 _ hl hi).1 (Nat.lt_of_lt_of_le hl m.1) ((m.2 _ hl hi).2.trans hg) hs hb hc (h.mono m)
 |_,_,_,_,.elB hi hl hg hs hb hc h=>.elB (q _ hl hi).1 (Nat.lt_of_lt_of_le hl m.1) ((q _ hl hi).2.trans hg) hs hb hc (h.mono m)
 |_,_,_,_,.vec h=>.vec (g _ _ h)
 |_,_,_,_,.map h=>.map (g _ _ h)
 |_,_,_,_,.fn h h'=>.fn (Y3.mono m g q (λi hi=>by cases hi) h) (Y3.mono m g q (λi hi=>by cases hi) h')
 |_,_,_,w,.agg h=>.agg (Y3.mono m g q w h)
 |_,_,_,w,.Xh h=>.Xh (Y3.mono m g q w h)
 |_,_,_,_,.Cq=>.Cq
 |_,_,_,_,.gone=>.gone
theorem Y3.mono {H H':AH} {S S':Nat->Prop} {r r':List Nat} (m:Wb H S H' S') (g:∀ (b i:Nat),r[b]? = some i->r'[b]? = some i) (q:∀ i,i < H.next->i ∉ r->i ∉ r'/\H'.get i=H.get i) :
  ∀ {x:List TV} {y:List Value} {o:List Nat},(∀ i∈o,H'.get i=H.get i)->Y3 H S r x y o->Y3 H' S' r' x y o
 |_,_,_,_,.nil=>.nil
 |_,_,_,w,.cons h t=>.cons (VR.mono m g q (λi hi=>w i (List.mem_append_left _ hi)) h) (Y3.mono m g q (λi hi=>w i (List.mem_append_right _ hi)) t)
end
def Yl (x:TV):Prop:=match x with |.agg _=>False |.Xh (_::_)=>False |_=>True
def Vh (x:TV):Prop:=match x with |.Xh (_::_)=>False |_=>True
mutual
inductive NB:TV->Prop where
 |v (a:Value):NB (.v a)
 |row {c:Cp} {q:Lf} {n:Nat} {es:List TV} (h:∀ e,q=e->e≠.D7):NB (.row c q n es)
 |agg {cs:List TV} (h:Gq cs) (hc:∀ c∈cs,Yl c):NB (.agg cs)
 |Xh {cs:List TV} (h:Gq cs) (hc:∀ c∈cs,Vh c):NB (.Xh cs)
 |ptr (b off:Nat):NB (.ptr b off)
 |el {cs:List TV} {off:Nat}:NB (.el .set cs off)
 |vec (b off len cap n:Nat) (ag:Bool):NB (.vec b off len cap n ag)
 |map (b:Nat):NB (.map b)
 |fn {f:Fn} {first cap:List TV} (h:Gq first) (h':Gq cap):NB (.fn f first cap)
 |iface (t:TypeId) (x:TV):NB (.iface t x)
 |gone:NB .gone
inductive Gq:List TV->Prop where
 |nil:Gq []
 |cons {x:TV} {xs:List TV} (h:NB x) (t:Gq xs):Gq (x::xs)
end
theorem NB.row_ne {c:Cp} {q:Lf} {n:Nat} {es:List TV} (h:NB (.row c q n es)):q≠.D7:=by
 cases h with
 |row h=>exact h q rfl
theorem NB.Wh {c:Cp} {q:Lf} {n:Nat} {es:List TV} (h:q≠.D7):NB (.row c q n es):=.row λe he=>by rw [<- he];exact h
theorem Gq.mem:∀ {xs:List TV},Gq xs->∀ x∈xs,NB x
 |_,.nil,x,hx=>by cases hx
 |_,.cons h t,x,hx=>by
  rcases List.mem_cons.1 hx with rfl |hx
  ·exact h
  ·exact Gq.mem t x hx
theorem Gq.of:∀ {xs:List TV},(∀ x∈xs,NB x)->Gq xs
 |[],_=>.nil
 |x::xs,h=>.cons (h x (List.mem_cons_self ..)) (Gq.of λy hy=>h y (List.mem_cons_of_mem _ hy))
mutual
theorem VR.Mb {H H':AH} {S S':Nat->Prop} {r r':List Nat} (m:Wb H S H' S') (g:∀ (b i:Nat),r[b]? = some i->r'[b]? = some i) :
  ∀ {x:TV} {y:Value} {o:List Nat},NB x->(∀ i∈o,H'.get i=H.get i)->VR H S r x y o->VR H' S' r' x y o
 |_,_,_,_,_,.k h=>.k (h.mono m)
 |_,_,_,n,_,.D7 ..=>absurd rfl n.row_ne
 |_,_,_,_,w,.own hc hu hl hg he h=>.own hc hu (Nat.lt_of_lt_of_le hl m.1) ((w _ (List.mem_singleton.2 rfl)).trans hg) he (h.mono m)
 |_,_,_,_,_,.ptr h=>.ptr (g _ _ h)
 |_,_,_,_,_,.elS hi hl hg hs hb hc h=>.elS (m.2 _ hl hi).1 (Nat.lt_of_lt_of_le hl m.1) ((m.2 _ hl hi).2.trans hg) hs hb hc (h.mono m)
 |_,_,_,n,_,.elB ..=>by cases n
 |_,_,_,_,_,.vec h=>.vec (g _ _ h)
 |_,_,_,_,_,.map h=>.map (g _ _ h)
 |_,_,_,n,_,.fn h h'=>by
  cases n with
  |fn a b=>exact .fn (Y3.Mb m g a (λi hi=>by cases hi) h) (Y3.Mb m g b (λi hi=>by cases hi) h')
 |_,_,_,n,w,.agg h=>by
  cases n with
  |agg a _=>exact .agg (Y3.Mb m g a w h)
 |_,_,_,n,w,.Xh h=>by
  cases n with
  |Xh a _=>exact .Xh (Y3.Mb m g a w h)
 |_,_,_,_,_,.Cq=>.Cq
 |_,_,_,_,_,.gone=>.gone
theorem Y3.Mb {H H':AH} {S S':Nat->Prop} {r r':List Nat} (m:Wb H S H' S') (g:∀ (b i:Nat),r[b]? = some i->r'[b]? = some i) :
  ∀ {x:List TV} {y:List Value} {o:List Nat},Gq x->(∀ i∈o,H'.get i=H.get i)->Y3 H S r x y o->Y3 H' S' r' x y o
 |_,_,_,_,_,.nil=>.nil
 |_,_,_,n,w,.cons h t=>by
  cases n with
  |cons a b=>exact .cons (VR.Mb m g a (λi hi=>w i (List.mem_append_left _ hi)) h) (Y3.Mb m g b (λi hi=>w i (List.mem_append_right _ hi)) t)
end
theorem W6.length {H:AH} {S:Nat->Prop}:∀ {xs:List TV} {ys:List Value},W6 H S xs ys->xs.length=ys.length
 |_,_,.nil=>rfl
 |_,_,.cons _ t=>by simp [W6.length t]
theorem W6.append {H:AH} {S:Nat->Prop}:∀ {a b:List TV} {a' b':List Value},W6 H S a a'->W6 H S b b'->W6 H S (a++b) (a'++b')
 |_,_,_,_,.nil,h=>h
 |_,_,_,_,.cons h t,h'=>.cons h (W6.append t h')
theorem W6.take {H:AH} {S:Nat->Prop}:∀ (n:Nat) {a:List TV} {a':List Value},W6 H S a a'->W6 H S (a.take n) (a'.take n)
 |0,_,_,_=>by simpa using W6.nil
 |_+1,_,_,.nil=>by simpa using W6.nil
 |n+1,_,_,.cons h t=>by simpa using W6.cons h (W6.take n t)
theorem W6.drop {H:AH} {S:Nat->Prop}:∀ (n:Nat) {a:List TV} {a':List Value},W6 H S a a'->W6 H S (a.drop n) (a'.drop n)
 |0,_,_,h=>by simpa using h
 |_+1,_,_,.nil=>by simpa using W6.nil
 |n+1,_,_,.cons _ t=>by simpa using W6.drop n t
theorem W6.get {H:AH} {S:Nat->Prop}:∀ {xs:List TV} {ys:List Value},W6 H S xs ys->∀ {i:Nat} {x:TV},xs[i]? = some x->∃ y,ys[i]? = some y/\KR H S x y
 |_,_,.nil,i,x,h=>by simp at h
 |_,_,.cons h t,i,x,hi=>by
  cases i with
  |zero=>simp at hi;subst hi;exact ⟨_,rfl,h⟩
  |succ i=>simp at hi;simpa using W6.get t hi
theorem Y3.length {H:AH} {S:Nat->Prop} {r:List Nat}:∀ {xs:List TV} {ys:List Value} {o:List Nat},Y3 H S r xs ys o->xs.length=ys.length
 |_,_,_,.nil=>rfl
 |_,_,_,.cons _ t=>by simp [Y3.length t]
theorem Y3.append {H:AH} {S:Nat->Prop} {r:List Nat}:∀ {a b:List TV} {a' b':List Value} {o p:List Nat},Y3 H S r a a' o->Y3 H S r b b' p->Y3 H S r (a++b) (a'++b') (o++p)
 |_,_,_,_,_,_,.nil,h=>h
 |_,_,_,_,_,_,.cons h t,h'=>by rw [List.append_assoc];exact .cons h (Y3.append t h')
theorem Y3.split {H:AH} {S:Nat->Prop} {r:List Nat}:∀ {a b:List TV} {ys:List Value} {o:List Nat},Y3 H S r (a++b) ys o ->
  ∃ a' b' o1 o2,ys=a'++b'/\o=o1++o2/\Y3 H S r a a' o1/\Y3 H S r b b' o2
 |[],b,ys,o,h=>⟨[],ys,[],o,rfl,rfl,.nil,h⟩
 |x::a,b,ys,o,h=>by
  cases h with
  |cons h t=>
   obtain ⟨a',b',o1,o2,rfl,rfl,h1,h2⟩:=Y3.split t;exact ⟨_::a',b',_++o1,o2,rfl,by rw [List.append_assoc],.cons h h1,h2⟩
theorem W6.vrl {H:AH} {S:Nat->Prop} {r:List Nat}:∀ {xs:List TV} {ys:List Value},W6 H S xs ys->Y3 H S r xs ys []
 |_,_,.nil=>.nil
 |_,_,.cons h t=>.cons (o:=[]) (os:=[]) (.k h) (W6.vrl t)
theorem Y3.get {H:AH} {S:Nat->Prop} {r:List Nat}:∀ {xs:List TV} {ys:List Value} {o:List Nat},Y3 H S r xs ys o->∀ {i:Nat} {x:TV},xs[i]? = some x ->
  ∃ y a ox c,ys[i]? = some y/\o=a++(ox++c)/\VR H S r x y ox/\∀ x' y' o',VR H S r x' y' o'->Y3 H S r (xs.set i x') (ys.set i y') (a++(o'++c))
 |_,_,_,.nil,i,x,h=>by simp at h
 |_,_,_,.cons (o:=o) (os:=os) h t,i,x,hi=>by
  cases i with
  |zero=>
   simp at hi;subst hi;exact ⟨_,[],o,os,rfl,rfl,h,λx' y' o' h'=>(Y3.cons h' t:Y3 H S r _ _ (o'++os))⟩
  |succ i=>
   simp at hi;obtain ⟨y,a,ox,c,h1,rfl,h3,h4⟩:=Y3.get t hi;exact ⟨y,o++a,ox,c,by simpa using h1,by rw [List.append_assoc],h3,λx' y' o' h'=>by rw [List.append_assoc];exact .cons h (h4 _ _ _ h')⟩
theorem Y3.P9 {H:AH} {S:Nat->Prop} {r:List Nat} {xs:List TV} {ys:List Value} {o:List Nat} (h:Y3 H S r xs ys o) (off n:Nat) (hb:off+n<=xs.length) :
  ∃ a ox c,o=a++(ox++c)/\Y3 H S r ((xs.drop off).take n) ((ys.drop off).take n) ox /\
   ∀ vs ws o',vs.length=n->Y3 H S r vs ws o'->Y3 H S r (xs.take off++(vs++xs.drop (off+n))) (ys.take off++(ws++ys.drop (off+n))) (a++(o'++c)):=by
 have e:xs=xs.take off++((xs.drop off).take n++xs.drop (off+n)):=by
  rw [<- List.drop_drop,List.take_append_drop,List.take_append_drop]
 have h':=h;rw [e] at h';obtain ⟨y1,y2,o1,o2,rfl,rfl,h1,h2⟩:=Y3.split h';obtain ⟨y3,y4,o3,o4,rfl,rfl,h3,h4⟩:=Y3.split h2;have l1:y1.length=off:=by rw [<- h1.length,List.length_take];omega
 have l3:y3.length=n:=by rw [<- h3.length,List.length_take,List.length_drop];omega
 refine ⟨o1,o3,o4,rfl,?_,λvs ws o' hl hv=>?_⟩
 ·rw [List.drop_left' l1,List.take_left' l3];exact h3
 ·have e1:(y1++(y3++y4)).take off=y1:=List.take_left' l1;have e2:(y1++(y3++y4)).drop (off+n)=y4:=by rw [<- List.drop_drop,List.drop_left' l1,List.drop_left' l3]
  rw [e1,e2];exact h1.append (hv.append h4)
end Go.Ev
namespace Go.Ev
inductive Tp (H:AH) (S:Nat->Prop):List (Value×TV)->List MapEntry->Prop where
 |nil:Tp H S [] []
 |cons {e:Value×TV} {f:MapEntry} {es:List (Value×TV)} {fs:List MapEntry} (hk:f.key=e.1) (hv:KR H S e.2 f.val) (t:Tp H S es fs):Tp H S (e::es) (f::fs)
theorem Tp.mono {H H':AH} {S S':Nat->Prop} (m:Wb H S H' S'):∀ {x:List (Value×TV)} {y:List MapEntry},Tp H S x y->Tp H' S' x y
 |_,_,.nil=>.nil
 |_,_,.cons hk hv t=>.cons hk (hv.mono m) (Tp.mono m t)
theorem Tp.length {H:AH} {S:Nat->Prop}:∀ {x:List (Value×TV)} {y:List MapEntry},Tp H S x y->x.length=y.length
 |_,_,.nil=>rfl
 |_,_,.cons _ _ t=>by simp [Tp.length t]
def Zel (x:TV):Prop:=match x with |.row _ .D7 _ _=>True |.el .D7 _ _=>True |_=>False
def OV (x:TV):Prop:=NB x\/Zel x
inductive OR (H:AH) (S:Nat->Prop) (r:List Nat):Kc->Nat->List Nat->Prop where
 |cells {cs:List TV} {i s:Nat} {ds:List Value} {e:TypeId} {o:List Nat} (hg:H.get i=some (.cells s ds e)) (hs:ds.length=s) (nb:Gq cs) (hc:∀ c∈cs,Yl c) (h:Y3 H S r cs ds o):OR H S r (.cells cs) i o
 |map {es:List (Value×TV)} {i c:Nat} {fs:List MapEntry} (hg:H.get i=some (.map fs c)) (h:Tp H S es fs):OR H S r (.map es) i []
 |dead {i:Nat}:OR H S r .dead i []
theorem OR.mono {H H':AH} {S S':Nat->Prop} {r r':List Nat} (m:Wb H S H' S') (g:∀ (b i:Nat),r[b]? = some i->r'[b]? = some i) {o:Kc} {i:Nat} {w:List Nat} (h:OR H S r o i w)
  (hi:H'.get i=H.get i) (hw:∀ j∈w,H'.get j=H.get j):OR H' S' r' o i w:=by
 cases h with
 |cells hg hs nb hc h=>exact .cells (hi.trans hg) hs nb hc (h.Mb m g nb hw)
 |map hg h=>exact .map (hi.trans hg) (h.mono m)
 |dead=>exact .dead
inductive HL (H:AH) (S:Nat->Prop) (r:List Nat) (lo Zh:Nat):Nat->List Kc->List Nat->List Nat->Prop where
 |nil {b:Nat}:HL H S r lo Zh b [] [] []
 |cons {b:Nat} {o:Kc} {i:Nat} {w:List Nat} {T:List Kc} {rs O:List Nat} (h:OR H S r o i w) (J7:Zh<=b->∀ j∈w,lo<=j) (t:HL H S r lo Zh (b+1) T rs O):HL H S r lo Zh b (o::T) (i::rs) (w++O)
theorem HL.length {H:AH} {S:Nat->Prop} {r:List Nat} {lo Zh:Nat}:∀ {b:Nat} {T:List Kc} {rs O:List Nat},HL H S r lo Zh b T rs O->rs.length=T.length
 |_,_,_,_,.nil=>rfl
 |_,_,_,_,.cons _ _ t=>by simp [HL.length t]
theorem HL.mono {H H':AH} {S S':Nat->Prop} {r r':List Nat} {lo Zh:Nat} (m:Wb H S H' S') (g:∀ (b i:Nat),r[b]? = some i->r'[b]? = some i) :
  ∀ {b:Nat} {T:List Kc} {rs O:List Nat},HL H S r lo Zh b T rs O->(∀ j∈rs,H'.get j=H.get j)->(∀ j∈O,H'.get j=H.get j)->HL H' S' r' lo Zh b T rs O
 |_,_,_,_,.nil,_,_=>.nil
 |_,_,_,_,.cons h J7 t,a,c=>.cons (h.mono m g (a _ (List.mem_cons_self ..)) λj hj=>c j (List.mem_append_left _ hj)) J7
   (HL.mono m g t (λj hj=>a j (List.mem_cons_of_mem _ hj)) λj hj=>c j (List.mem_append_right _ hj))
theorem HL.push {H:AH} {S:Nat->Prop} {r:List Nat} {lo Zh:Nat} {o:Kc} {i:Nat} {w:List Nat} (h:OR H S r o i w) (J7:∀ j∈w,lo<=j) :
  ∀ {b:Nat} {T:List Kc} {rs O:List Nat},HL H S r lo Zh b T rs O->HL H S r lo Zh b (T++[o]) (rs++[i]) (O++w)
 |_,_,_,_,.nil=>by
  have:=HL.cons (lo:=lo) (Zh:=Zh) (b:=by assumption) h (λ_=>J7) HL.nil
  rwa [List.append_nil] at this
 |_,_,_,_,.cons h1 hlo1 t=>by
  rw [List.append_assoc];exact .cons h1 hlo1 (HL.push h J7 t)
theorem HL.weak {H:AH} {S:Nat->Prop} {r:List Nat} {lo Zh Dv Ct:Nat} (hh:∀ (b:Nat) (w:List Nat),(Zh<=b->∀ j∈w,lo<=j)->b < Ct\/(Ct<=b->∀ j∈w,Dv<=j)) :
  ∀ {b:Nat} {T:List Kc} {rs O:List Nat},HL H S r lo Zh b T rs O->HL H S r Dv Ct b T rs O
 |_,_,_,_,.nil=>.nil
 |_,_,_,_,.cons h J7 t=>.cons h (λhb=>(hh _ _ J7).elim (λh1=>by omega) λh1=>h1 hb) (HL.weak hh t)
theorem HL.at {H:AH} {S:Nat->Prop} {r:List Nat} {lo Zh:Nat}:∀ {b:Nat} {T:List Kc} {rs O:List Nat},HL H S r lo Zh b T rs O->∀ {k:Nat} {o:Kc},T[k]? = some o ->
  ∃ i a w c,rs[k]? = some i/\O=a++(w++c)/\OR H S r o i w/\(Zh<=b+k->∀ j∈w,lo<=j) /\
   ∀ (H':AH) (S':Nat->Prop) (r':List Nat) (o':Kc) (w':List Nat),Wb H S H' S'->(∀ (b i:Nat),r[b]? = some i->r'[b]? = some i)->(∀ m j,m≠k->rs[m]? = some j->H'.get j=H.get j) ->
    (∀ j∈a,H'.get j=H.get j)->(∀ j∈c,H'.get j=H.get j)->OR H' S' r' o' i w'->(Zh<=b+k->∀ j∈w',lo<=j)->HL H' S' r' lo Zh b (T.set k o') rs (a++(w'++c))
 |_,_,_,_,.nil,k,o,hk=>by simp at hk
 |b,_,_,_,.cons (i:=i) (w:=w) (O:=O) (rs:=rs) h J7 t,k,o,hk=>by
  cases k with
  |zero=>
   simp at hk;subst hk;refine ⟨i,[],w,O,rfl,rfl,h,J7,λH' S' r' o' w' m g hr _ hc ho hw=>?_⟩
   exact (HL.cons ho hw (t.mono m g (λj hj=>by
    obtain ⟨n,hn⟩:=List.mem_iff_getElem?.1 hj;exact hr (n+1) j (by omega) (by simpa using hn)) hc):HL H' S' r' lo Zh b (o'::_) (i::rs) (w'++O))
  |succ k=>
   simp at hk;obtain ⟨i2,a,w2,c,h1,rfl,h3,h4,h5⟩:=HL.at t hk;refine ⟨i2,w++a,w2,c,by simpa using h1,by simp [List.append_assoc],h3,λhb=>h4 (by omega),λH' S' r' o' w' m g hr ha hc ho hw=>?_⟩
   rw [List.append_assoc]
   exact HL.cons (h.mono m g (hr 0 i (by omega) rfl) λj hj=>ha j (List.mem_append_left _ hj)) J7
    (h5 H' S' r' o' w' m g (λn j hn hj=>hr (n+1) j (by omega) (by simpa using hj)) (λj hj=>ha j (List.mem_append_right _ hj)) hc ho λhb=>hw (by omega))
def act (r Oh X:List Nat) (i:Nat):Nat:=r.count i+Oh.count i+X.count i
def Ya (F:Nat->Prop) (r Oh X:List Nat) (i:Nat):Prop:=¬ F i/\act r Oh X i=0
structure Good (C:TC) (F:Nat->Prop) (lo Zh:Nat) (H:AH) (r:List Nat) (T:TH) (Oh X:List Nat):Prop where
 nd:∀ i,act r Oh X i<=1
 lt:∀ i,0 < act r Oh X i->i < H.next/\¬ F i
 fl:∀ i,F i->i < H.next
 lon:lo<=H.next
 pq:∀ (b i:Nat),Zh<=b->r[b]? = some i->lo<=i
 xlo:∀ i∈X,lo<=i
 heap:HL H (Ya F r Oh X) r lo Zh 0 T r Oh
 Bs:∀ g cs,C.Bs g=some cs->Ya F r Oh X g/\g < H.next/\∃ s ds e,H.get g=some (.cells s ds e)/\ds.length=s/\cs.length<=s/\(∀ c∈cs,Qv c=true)/\W6 H (Ya F r Oh X) cs (ds.take cs.length)
structure Mv (H:AH) (r Oh X:List Nat) (H':AH) (r' Vf X':List Nat):Prop where
 next:H.next<=H'.next
 same:∀ i,i < H.next->act r Oh X i=0->H'.get i=H.get i
 less:∀ i,i < H.next->act r' Vf X' i<=act r Oh X i
 pre:∀ (b i:Nat),r[b]? = some i->r'[b]? = some i
theorem Mv.refl (H:AH) (r Oh X:List Nat):Mv H r Oh X H r Oh X:=⟨Nat.le_refl _,λ_ _ _=>rfl,λ_ _=>Nat.le_refl _,λ_ _ h=>h⟩
theorem Mv.stay {F:Nat->Prop} {H H':AH} {r Oh X r' Vf X':List Nat} (h:Mv H r Oh X H' r' Vf X'):Wb H (Ya F r Oh X) H' (Ya F r' Vf X'):=
 ⟨h.next,λi hi hs=>⟨⟨hs.1,by have:=h.less i hi;have:=hs.2;omega⟩,h.same i hi hs.2⟩⟩
theorem Mv.trans {H H' H'':AH} {r Oh X r' Vf X' r'' Oh'' X'':List Nat} (h:Mv H r Oh X H' r' Vf X') (k:Mv H' r' Vf X' H'' r'' Oh'' X''):Mv H r Oh X H'' r'' Oh'' X'':=
 ⟨Nat.le_trans h.next k.next,λi hi ha=>by
  have:=h.less i hi;rw [k.same i (Nat.lt_of_lt_of_le hi h.next) (by omega),h.same i hi ha],λi hi=>Nat.le_trans (k.less i (Nat.lt_of_lt_of_le hi h.next)) (h.less i hi),λb i hb=>k.pre b i (h.pre b i hb)⟩
section
variable {C:TC} {F:Nat->Prop} {lo Zh:Nat} {H:AH} {r Oh X:List Nat} {T:TH}
theorem Good.len (h:Good C F lo Zh H r T Oh X):r.length=T.length:=h.heap.length
theorem Z8 {l:List Nat} {i:Nat}:0 < l.count i↔i∈l:=List.count_pos_iff
theorem Good.Eb (h:Good C F lo Zh H r T Oh X) {i:Nat} (hi:i∈r):i < H.next/\¬ F i/\r.count i=1/\Oh.count i=0/\X.count i=0:=by
 have h1:=Z8.2 hi;have h2:=h.nd i;have h3:=h.lt i (by unfold act;omega)
 unfold act at h2;exact ⟨h3.1,h3.2,by omega,by omega,by omega⟩
theorem Good.Za4 (h:Good C F lo Zh H r T Oh X) {i:Nat} (hi:i∈Oh):i < H.next/\¬ F i/\r.count i=0/\Oh.count i=1/\X.count i=0:=by
 have h1:=Z8.2 hi;have h2:=h.nd i;have h3:=h.lt i (by unfold act;omega)
 unfold act at h2;exact ⟨h3.1,h3.2,by omega,by omega,by omega⟩
theorem Good.mem_x (h:Good C F lo Zh H r T Oh X) {i:Nat} (hi:i∈X):i < H.next/\¬ F i/\r.count i=0/\Oh.count i=0/\X.count i=1:=by
 have h1:=Z8.2 hi;have h2:=h.nd i;have h3:=h.lt i (by unfold act;omega)
 unfold act at h2;exact ⟨h3.1,h3.2,by omega,by omega,by omega⟩
theorem Wz {l:List Nat} {b i:Nat} (h:l[b]? = some i):i∈l:=List.mem_of_getElem? h
theorem Good.inj (h:Good C F lo Zh H r T Oh X) {a b i:Nat} (ha:r[a]? = some i) (hb:r[b]? = some i):a=b:=by
 have h1:=(h.Eb (Wz ha)).2.2.1;clear h
 induction r generalizing a b with
 |nil=>simp at ha
 |cons x r ih=>
  cases a with
  |zero=>
   cases b with
   |zero=>rfl
   |succ b=>
    simp at ha hb;subst ha;have h2:=Z8.2 (List.mem_of_getElem? hb);rw [List.count_cons_self] at h1;omega
  |succ a=>
   cases b with
   |zero=>
    simp at ha hb;subst hb;have h2:=Z8.2 (List.mem_of_getElem? ha);rw [List.count_cons_self] at h1;omega
   |succ b=>
    simp at ha hb;have h2:=Z8.2 (List.mem_of_getElem? ha);have h3:=ih ha hb (by rw [List.count_cons] at h1;split at h1 <;> omega)
    omega
theorem Good.next {H':AH} {r' Vf X':List Nat} {T':TH} (h:Good C F lo Zh H r T Oh X) (m:Mv H r Oh X H' r' Vf X')
  (new:∀ i,H.next<=i->act r' Vf X' i<=1/\(0 < act r' Vf X' i->i < H'.next)) (rl:∀ (b i:Nat),Zh<=b->r'[b]? = some i->lo<=i) (xl:∀ i∈X',lo<=i)
  (hp:HL H' (Ya F r' Vf X') r' lo Zh 0 T' r' Vf):Good C F lo Zh H' r' T' Vf X' where
 nd i:=by
  rcases Nat.lt_or_ge i H.next with hi |hi
  ·exact Nat.le_trans (m.less i hi) (h.nd i)
  ·exact (new i hi).1
 lt i hi:=by
  rcases Nat.lt_or_ge i H.next with h1 |h1
  ·exact ⟨Nat.lt_of_lt_of_le h1 m.next,(h.lt i (Nat.lt_of_lt_of_le hi (m.less i h1))).2⟩
  ·exact ⟨(new i h1).2 hi,λhf=>by have:=h.fl i hf;omega⟩
 fl i hi:=Nat.lt_of_lt_of_le (h.fl i hi) m.next
 lon:=Nat.le_trans h.lon m.next
 pq:=rl
 xlo:=xl
 heap:=hp
 Bs g cs hg:=by
  obtain ⟨h1,h2,s,ds,e,h3,h4,h5,h6,h8⟩:=h.Bs g cs hg;have h7:=m.stay (F:=F);exact ⟨(h7.2 g h2 h1).1,Nat.lt_of_lt_of_le h2 m.next,s,ds,e,((h7.2 g h2 h1).2).trans h3,h4,h5,h6,h8.mono h7⟩
theorem Good.apart {Y:List Nat} (h:Good C F lo Zh H r T Oh (Y++X)):Good C (λi=>F i\/i∈Y) lo Zh H r T Oh X:=by
 have hs:Ya (λi=>F i\/i∈Y) r Oh X=Ya F r Oh (Y++X):=by
  funext i;apply propext;unfold Ya act;rw [List.count_append];constructor
  ·rintro ⟨a,b⟩
   have:Y.count i=0:=by
    rcases Nat.eq_zero_or_pos (Y.count i) with h1 |h1
    ·exact h1
    ·exact absurd (.inr (Z8.1 h1)) a
   exact ⟨λhf=>a (.inl hf),by omega⟩
  ·rintro ⟨a,b⟩;refine ⟨λhf=>hf.elim a λhy=>?_,by omega⟩
   have:=Z8.2 hy;omega
 have vv:∀ i,act r Oh (Y++X) i=act r Oh X i+Y.count i:=λi=>by unfold act;rw [List.count_append];omega
 refine ⟨λi=>by have:=h.nd i;have:=vv i;omega,λi hi=>?_,λi hi=>hi.elim (h.fl i) λhy=>?_,h.lon,h.pq,λi hi=>h.xlo i (List.mem_append_right _ hi),by rw [hs];exact h.heap,by rw [hs];exact h.Bs⟩
 ·have h1:=h.lt i (by have:=vv i;omega)
  refine ⟨h1.1,λhf=>hf.elim h1.2 λhy=>?_⟩;have:=Z8.2 hy;have:=h.nd i;have:=vv i;omega
 ·exact (h.lt i (by have:=vv i;have:=Z8.2 hy;omega)).1
theorem Good.join {Y:List Nat} (h:Good C (λi=>F i\/i∈Y) lo Zh H r T Oh X) (hy:∀ i,Y.count i<=1) (hf:∀ i∈Y,¬ F i) (hl:∀ i∈Y,lo<=i):Good C F lo Zh H r T Oh (Y++X):=by
 have hs:Ya (λi=>F i\/i∈Y) r Oh X=Ya F r Oh (Y++X):=by
  funext i;apply propext;unfold Ya act;rw [List.count_append];constructor
  ·rintro ⟨a,b⟩
   have:Y.count i=0:=by
    rcases Nat.eq_zero_or_pos (Y.count i) with h1 |h1
    ·exact h1
    ·exact absurd (.inr (Z8.1 h1)) a
   exact ⟨λhf=>a (.inl hf),by omega⟩
  ·rintro ⟨a,b⟩;refine ⟨λhf=>hf.elim a λhy=>?_,by omega⟩
   have:=Z8.2 hy;omega
 have vv:∀ i,act r Oh (Y++X) i=act r Oh X i+Y.count i:=λi=>by unfold act;rw [List.count_append];omega
 have none:∀ i,i∈Y->act r Oh X i=0:=λi hi=>by
  rcases Nat.eq_zero_or_pos (act r Oh X i) with h1 |h1
  ·exact h1
  ·exact absurd (.inr hi) (h.lt i h1).2
 refine ⟨λi=>?_,λi hi=>?_,λi hi=>h.fl i (.inl hi),h.lon,h.pq,λi hi=>(List.mem_append.1 hi).elim (hl i) (h.xlo i),by rw [<- hs];exact h.heap,by rw [<- hs];exact h.Bs⟩
 ·have:=vv i;rcases Nat.eq_zero_or_pos (Y.count i) with h1 |h1
  ·have:=h.nd i;omega
  ·have:=none i (Z8.1 h1);have:=hy i;omega
 ·have:=vv i;rcases Nat.eq_zero_or_pos (Y.count i) with h1 |h1
  ·have h2:=h.lt i (by omega)
   exact ⟨h2.1,λhf=>h2.2 (.inl hf)⟩
  ·exact ⟨h.fl i (.inr (Z8.1 h1)),hf i (Z8.1 h1)⟩
theorem P6 {Y:List Nat}:Ya (λi=>F i\/i∈Y) r Oh X=Ya F r Oh (Y++X):=by
 funext i;apply propext;unfold Ya act;rw [List.count_append];constructor
 ·rintro ⟨a,b⟩
  have:Y.count i=0:=by
   rcases Nat.eq_zero_or_pos (Y.count i) with h1 |h1
   ·exact h1
   ·exact absurd (.inr (Z8.1 h1)) a
  exact ⟨λhf=>a (.inl hf),by omega⟩
 ·rintro ⟨a,b⟩;refine ⟨λhf=>hf.elim a λhy=>?_,by omega⟩
  have:=Z8.2 hy;omega
theorem Good.less (h:Good C F lo Zh H r T Oh X) {X':List Nat} (hc:∀ i,X'.count i<=X.count i):Good C F lo Zh H r T Oh X':=by
 have m:Mv H r Oh X H r Oh X':=⟨Nat.le_refl _,λ_ _ _=>rfl,λi _=>by unfold act;have:=hc i;omega,λ_ _ h=>h⟩
 refine h.next m (λi hi=>?_) h.pq (λi hi=>h.xlo i (Z8.1 ?_)) (h.heap.mono m.stay (λ_ _ h=>h) (λ_ _=>rfl) λ_ _=>rfl)
 ·have h1:=hc i;have h2:=h.nd i;have h3:=h.lt i;unfold act at *;exact ⟨by omega,λh4=>(h3 (by omega)).1⟩
 ·have h1:=hc i;have h2:=Z8.2 hi;omega
end
def wv (w:Bool) (x:TV):TV:=cond w (Zr x) x
inductive Ko (w:Bool) (H:AH) (S:Nat->Prop) (r:List Nat) (ep:Nat) (Ev:Env):TE->List Nat->Prop where
 |nil:Ko w H S r ep Ev [] []
 |cons {t:Tmp} {p:Nat×TV} {y:Value} {o:List Nat} {E:TE} {O:List Nat} (he:p.1<=ep) (hv:OV (Gw ep p)) (ht:X4 Ev t=some y) (h:VR H S r (wv w (Gw ep p)) y o) (k:Ko w H S r ep Ev E O):Ko w H S r ep Ev ((t,p)::E) (o++O)
theorem Ft {x:TV} (h:OV x):NB (Zr x):=by
 unfold Zr;split
 ·exact .Xh .nil (λc hc=>by cases hc)
 ·exact .Xh .nil (λc hc=>by cases hc)
 ·rename_i h1 h2;rcases h with h |h
  ·exact h
  ·unfold Zel at h;split at h
   ·exact absurd rfl (h1 _ _ _)
   ·exact absurd rfl (h2 _ _)
   ·exact h.elim
theorem Nz {H:AH} {S:Nat->Prop} {r:List Nat} {x:TV} {y:Value} {o:List Nat} (h:VR H S r x y o):VR H S r (Zr x) y o:=by
 unfold Zr;split
 ·cases h with
  |k h=>cases h
  |D7=>exact .Cq
 ·cases h with
  |k h=>cases h
  |elB=>exact .Cq
 ·exact h
theorem Tx (x:TV):Zr (Zr x)=Zr x:=by
 cases x with
 |row c q n es=>cases q <;> rfl
 |el q cs off=>cases q <;> rfl
 |_=>rfl
theorem Zly (w:Bool) (x:TV):Zr (wv w x)=Zr x:=by
 cases w with
 |true=>exact Tx x
 |false=>rfl
theorem NB.Zr {x:TV} (h:NB x):Ev.Zr x=x:=by
 cases h with
 | @row c q n es h=>cases q with
  |D7=>exact absurd rfl (h _ rfl)
  |_=>rfl
 |_=>rfl
theorem NB.wv {x:TV} (h:NB x) (w:Bool):Ev.wv w x=x:=by
 cases w with
 |true=>exact h.Zr
 |false=>rfl
theorem Ko.weak {w:Bool} {H:AH} {S:Nat->Prop} {r:List Nat} {ep:Nat} {Ev:Env}:∀ {E:TE} {O:List Nat},Ko false H S r ep Ev E O->Ko w H S r ep Ev E O
 |_,_,.nil=>.nil
 |_,_,.cons he hv ht h k=>.cons he hv ht (by
   cases w with
   |true=>exact Nz h
   |false=>exact h) (Ko.weak k)
theorem Ko.less {w:Bool} {H:AH} {S:Nat->Prop} {r:List Nat} {ep:Nat} {Ev:Env} (t:Tmp):∀ {E:TE} {O:List Nat},Ko w H S r ep Ev E O->∃ O2,Ko w H S r ep Ev (I7 E t) O2/\∀ i,O2.count i<=O.count i
 |_,_,.nil=>⟨[],.nil,λ_=>Nat.le_refl _⟩
 |_,_,.cons (t:=s) (p:=p) (o:=o) he hv ht h k=>by
  obtain ⟨O3,h3,h4⟩:=Ko.less t k;show ∃ O',Ko w H S r ep Ev (cond (Nat.beq s t) (I7 _ t) ((s,p)::I7 _ t)) O'/\_;cases Nat.beq s t with
  |true=>exact ⟨O3,h3,λi=>by rw [List.count_append];have:=h4 i;omega⟩
  |false=>exact ⟨o++O3,.cons he hv ht h h3,λi=>by rw [List.count_append,List.count_append];have:=h4 i;omega⟩
theorem Ko.look {w:Bool} {H:AH} {S:Nat->Prop} {r:List Nat} {ep:Nat} {Ev:Env}:∀ {E:TE} {O:List Nat},Ko w H S r ep Ev E O->∀ {t:Tmp} {p:Nat×TV},Pn E t=some p ->
  ∃ y o O2,p.1<=ep/\OV (Gw ep p)/\X4 Ev t=some y/\VR H S r (wv w (Gw ep p)) y o/\Ko w H S r ep Ev (I7 E t) O2/\∀ i,o.count i+O2.count i<=O.count i
 |_,_,.nil,t,p,h=>by cases h
 |_,_,.cons (t:=s) (o:=o) (O:=O) he hv ht h k,t,p,hl=>by
  have hl:cond (Nat.beq s t) (some _) (Pn _ t)=some p:=hl;cases hb:Nat.beq s t with
  |true=>
   rw [hb] at hl;cases hl;have:=Qb hb;subst this;obtain ⟨O2,h1,h2⟩:=k.less s;refine ⟨_,o,O2,he,hv,ht,h,?_,λi=>by rw [List.count_append];have:=h2 i;omega⟩
   show Ko w H S r ep Ev (cond (Nat.beq s s) (I7 _ s) _) O2;rw [hb];exact h1
  |false=>
   rw [hb] at hl;obtain ⟨y,o1,O2,a1,a2,a3,a4,a6,a7⟩:=Ko.look k hl;refine ⟨y,o1,o++O2,a1,a2,a3,a4,?_,λi=>by rw [List.count_append,List.count_append];have:=a7 i;omega⟩
   show Ko w H S r ep Ev (cond (Nat.beq s t) (I7 _ t) _) (o++O2);rw [hb];exact .cons he hv ht h a6
theorem Zqm {w:Bool} {x:TV} (h:OV x) (hw:w=true):NB (wv w x):=by subst hw;exact Ft h
theorem Ko.mono {w:Bool} {H H':AH} {S S':Nat->Prop} {r r':List Nat} (m:Wb H S H' S') (g:∀ (b i:Nat),r[b]? = some i->r'[b]? = some i) (q:w=false->∀ i,i < H.next->i ∉ r->i ∉ r'/\H'.get i=H.get i) {ep:Nat} {Ev:Env} :
  ∀ {E:TE} {O:List Nat},(∀ i∈O,H'.get i=H.get i)->Ko w H S r ep Ev E O->Ko w H' S' r' ep Ev E O
 |_,_,_,.nil=>.nil
 |_,_,u,.cons he hv ht h k=>.cons he hv ht (by
   cases hw:w with
   |true=>rw [hw] at h;exact h.Mb m g (Zqm hv rfl) λi hi=>u i (List.mem_append_left _ hi)
   |false=>rw [hw] at h;exact h.mono m g (q hw) λi hi=>u i (List.mem_append_left _ hi)) (Ko.mono m g q (λi hi=>u i (List.mem_append_right _ hi)) k)
theorem Ko.succ {w:Bool} {H H':AH} {S S':Nat->Prop} {r r':List Nat} (m:Wb H S H' S') (g:∀ (b i:Nat),r[b]? = some i->r'[b]? = some i) {ep:Nat} {Ev:Env} :
  ∀ {E:TE} {O:List Nat},(∀ i∈O,H'.get i=H.get i)->Ko w H S r ep Ev E O->Ko false H' S' r' (ep+1) Ev E O
 |_,_,_,.nil=>.nil
 |_,_,u,.cons (p:=p) he hv ht h k=>by
  have e:Gw (ep+1) p=Zr (Gw ep p):=by
   have h1:Gw (ep+1) p=Zr p.2:=by
    show cond (Nat.beq p.1 (ep+1)) p.2 (Zr p.2)=_;rw [Wm (by omega)];rfl
   rw [h1];show Zr p.2=Zr (cond (Nat.beq p.1 ep) p.2 (Zr p.2));cases Nat.beq p.1 ep with
   |true=>rfl
   |false=>exact (Tx _).symm
  have hn:=Ft hv;have h:=Nz h;rw [Zly] at h;exact .cons (Nat.le_succ_of_le he) (by rw [e];exact .inl hn) ht (by show VR H' S' r' (Gw (ep+1) p) _ _;rw [e];exact h.Mb m g hn λi hi=>u i (List.mem_append_left _ hi)) (Ko.succ m g (λi hi=>u i (List.mem_append_right _ hi)) k)
theorem Ko.weaken {w:Bool} {H:AH} {S:Nat->Prop} {r:List Nat} {ep:Nat} {Ev za:Env}:∀ {E:TE} {O:List Nat},(∀ t p,(t,p)∈E->X4 za t=X4 Ev t)->Ko w H S r ep Ev E O->Ko w H S r ep za E O
 |_,_,_,.nil=>.nil
 |_,_,b,.cons he hv ht h k=>.cons he hv ((b _ _ (List.mem_cons_self ..)).trans ht) h (Ko.weaken (λt p hm=>b t p (List.mem_cons_of_mem _ hm)) k)
theorem Zn2 {E:TE} {t s:Tmp} {p:Nat×TV} (h:(s,p)∈I7 E t):s≠t:=by
 induction E with
 |nil=>cases h
 |cons x E ih=>
  obtain ⟨u,q⟩:=x;have h:(s,p)∈cond (Nat.beq u t) (I7 E t) ((u,q)::I7 E t):=h;cases hb:Nat.beq u t with
  |true=>rw [hb] at h;exact ih h
  |false=>
   rw [hb] at h;rcases List.mem_cons.1 h with h |h
   ·cases h;exact Vq hb
   ·exact ih h
theorem Zji {Ev:Env} {t s:Tmp} {y:Value} (h:s≠t):X4 ((t,y)::Ev) s=X4 Ev s:=by
 show cond (Nat.beq t s) (some y) (X4 Ev s)=_;rw [Wm (λe=>h e.symm)];rfl
theorem Zej {Ev:Env} {t:Tmp} {y:Value}:X4 ((t,y)::Ev) t=some y:=by
 show cond (Nat.beq t t) (some y) (X4 Ev t)=_;rw [Uj rfl];rfl
theorem W4 (ep:Nat) (x:TV):Gw ep (ep,x)=x:=by
 show cond (Nat.beq ep ep) x _=x;rw [Uj rfl];rfl
theorem Ko.put {H:AH} {S:Nat->Prop} {r:List Nat} {ep:Nat} {Ev:Env} {E:TE} {O o:List Nat} {x:TV} {y:Value} (h:Ko false H S r ep Ev E O) (d:Option Tmp) (hv:OV x) (hx:VR H S r x y o) :
  ∃ O2,Ko false H S r ep (Bv Ev d y) (putD E d ep x) O2/\∀ i,O2.count i<=O.count i+o.count i:=by
 cases d with
 |none=>exact ⟨O,h,λi=>by omega⟩
 |some d=>
  obtain ⟨O2,h1,h2⟩:=h.less d;exact ⟨o++O2,.cons (Nat.le_refl _) (by rw [W4];exact hv) Zej (by rw [W4];exact hx) (h1.weaken λt p hm=>Zji (Zn2 hm)),λi=>by rw [List.count_append];have:=h2 i;omega⟩
theorem Ko.L4 {w:Bool} {H:AH} {S:Nat->Prop} {r:List Nat} {ep:Nat} {Ev:Env} {E:TE} {O2 o:List Nat} {t:Tmp} {x:TV} {y:Value} (h:Ko w H S r ep Ev (I7 E t) O2) (ht:X4 Ev t=some y) (hv:OV x) (hx:VR H S r (wv w x) y o) :
  Ko w H S r ep Ev (Ef E t ep x) (o++O2):=.cons (Nat.le_refl _) (by rw [W4];exact hv) ht (by rw [W4];exact hx) h
end Go.Ev
namespace Go.Ev
section
variable {H:AH} {S S':Nat->Prop} {r:List Nat}
theorem Gq.map {f:TV->TV} (hf:∀ x,NB x->NB (f x)):∀ {l:List TV},Gq l->Gq (l.map f)
 |_,.nil=>.nil
 |_,.cons h t=>.cons (hf _ h) (Gq.map hf t)
theorem R4 {c:Cp} {len n:Nat} (hc:c≠.nil) (hu:len < Xk):Ci c (Ub c len n) len n:=by
 cases c with
 |nil=>exact absurd rfl hc
 |full=>exact ⟨rfl,hu⟩
 |Jf=>exact .inr ⟨rfl,hu⟩
theorem xm {c:Cp} {e:TypeId} {n:Nat} {es:List TV} {y:Value} {o:List Nat} (h:VR H S r (.row c (.own e) n es) y o) (hs:∀ i∈o,S' i) (m:Wb H S H S'):KR H S' (.row c .set n es) y:=by
 cases h with
 |k h=>cases h
 |own hc hu hl hg he h=>
  have ld:=h.length;rw [K5 he] at ld;exact .row (R4 hc hu) (hs _ (List.mem_singleton.2 rfl)) hl hg ld.symm (by omega) he (by rw [List.drop_zero,List.take_of_length_le (by omega)];exact h.mono m)
theorem Zgr {c:Cp} {e:TypeId} {n:Nat} {es:List TV} {y:Value} {o:List Nat} (h:VR H S r (.row c (.own e) n es) y o) (hr:∀ i∈o,i ∉ r):VR H S r (.row c .D7 n es) y []:=by
 cases h with
 |k h=>cases h
 |own hc hu hl hg he h=>
  have ld:=h.length;rw [K5 he] at ld;exact .D7 (R4 hc hu) (hr _ (List.mem_singleton.2 rfl)) hl hg ld.symm (by omega) he (by rw [List.drop_zero,List.take_of_length_le (by omega)];exact h)
theorem Zf5 {ys:List Value} {o:List Nat} (h:Y3 H S r [] ys o):o=[]:=by cases h;rfl
theorem J0 {x:TV} {y:Value} {o:List Nat} (h:VR H S r x y o) (h1:Xs x=false) (h2:Yl x):o=[]:=by
 cases h with
 |own=>cases h1
 |agg=>exact h2.elim
 | @Xh cs ds o h=>cases cs with
  |nil=>exact Zf5 h
  |cons=>exact h2.elim
 |_=>rfl
theorem xj {x:TV} (h:Xs x=false):V3 x=x:=by
 cases x with
 |row c q n es=>cases q <;> first |rfl |cases h
 |_=>rfl
theorem jh {x:TV} (h:Xs x=false):Ob x=x:=by
 cases x with
 |row c q n es=>cases q <;> first |rfl |cases h
 |_=>rfl
theorem Jw {x:TV} (h:Xs x=true):∃ c e n es,x=.row c (.own e) n es:=by
 cases x with
 |row c q n es=>cases q <;> first |exact ⟨_,_,_,_,rfl⟩ |cases h
 |_=>cases h
theorem W3 (m:Wb H S H S') {x:TV} {y:Value} {o:List Nat} (h:VR H S r x y o):VR H S' r x y o:=
 h.mono m (λ_ _ h=>h) (λ_ _ h=>⟨h,rfl⟩) λ_ _=>rfl
theorem Pa {x:TV} {y:Value} {o:List Nat} (h:VR H S r x y o) (hx:Yl x) (hs:∀ i∈o,S' i) (m:Wb H S H S'):VR H S' r (V3 x) y []:=by
 cases ho:Xs x with
 |true=>
  obtain ⟨c,e,n,es,rfl⟩:=Jw ho;exact .k (xm h hs m)
 |false=>
  have:=J0 h ho hx;subst this;rw [xj ho];exact W3 m h
theorem Bd {x:TV} {y:Value} {o:List Nat} (h:VR H S r x y o) (hx:Yl x):VR H S r (Ob x) y []:=by
 cases ho:Xs x with
 |true=>
  obtain ⟨c,e,n,es,rfl⟩:=Jw ho;exact .Cq
 |false=>
  have:=J0 h ho hx;subst this;rw [jh ho];exact h
theorem Hc {f:TV->TV} {p:TV->Prop} (hf:∀ x y o,VR H S r x y o->p x->(∀ i∈o,S' i)->VR H S' r (f x) y []):∀ {xs:List TV} {ys:List Value} {o:List Nat},Y3 H S r xs ys o->(∀ x∈xs,p x)->(∀ i∈o,S' i) ->
  Y3 H S' r (xs.map f) ys []
 |_,_,_,.nil,_,_=>.nil
 |_,_,_,.cons h t,hp,ho=>(Y3.cons (hf _ _ _ h (hp _ (List.mem_cons_self ..)) λi hi=>ho i (List.mem_append_left _ hi)) (Hc hf t (λx hx=>hp x (List.mem_cons_of_mem _ hx)) λi hi=>ho i (List.mem_append_right _ hi)):Y3 _ _ _ _ _ ([]++[]))
theorem E0 {cs:List TV} {y:Value} {o:List Nat} (h:VR H S r (.agg cs) y o):∃ ds,y=.agg ds/\Y3 H S r cs ds.toList o:=by
 cases h with
 |k h=>cases h with
  |agg _ h=>exact ⟨_,rfl,h.vrl⟩
 |agg h=>exact ⟨_,rfl,h⟩
theorem xg {c:TV} {cs:List TV} {y:Value} {o:List Nat} (h:VR H S r (.Xh (c::cs)) y o):∃ ds,y=.tuple ds/\Y3 H S r (c::cs) ds.toList o:=by
 cases h with
 |k h=>cases h
 |Xh h=>exact ⟨_,rfl,h⟩
theorem Zmj {x:TV} {y:Value} {o:List Nat} (h:VR H S r x y o) (hx:Vh x) (hn:NB x) (hs:∀ i∈o,S' i) (m:Wb H S H S'):VR H S' r (Fv x) y []:=by
 cases x with
 |agg cs=>
  obtain ⟨ds,rfl,h1⟩:=E0 h;cases hn with
  |agg _ hc=>
   show VR H S' r (.agg (Ve V3 cs)) _ _;rw [J4];exact .agg (Hc (p:=Yl) (λx y o a b c=>Pa a b c m) h1 hc hs)
 |row c q n es=>
  have:Fv (.row c q n es)=V3 (.row c q n es):=by cases q <;> rfl
  rw [this];exact Pa h trivial hs m
 |Xh cs=>
  cases cs with
  |nil=>exact Pa (x:=.Xh []) h trivial hs m
  |cons=>exact hx.elim
 |_=>exact Pa h trivial hs m
theorem il {x:TV} {y:Value} {o:List Nat} (h:VR H S r x y o) (hx:Vh x) (hn:NB x):VR H S r (zl x) y []:=by
 cases x with
 |agg cs=>
  obtain ⟨ds,rfl,h1⟩:=E0 h;cases hn with
  |agg _ hc=>
   show VR H S r (.agg (Ve Ob cs)) _ _;rw [J4]
   have:∀ {xs:List TV} {ys:List Value} {o:List Nat},Y3 H S r xs ys o->(∀ x∈xs,Yl x)->Y3 H S r (xs.map Ob) ys []:=by
    intro xs ys o h
    induction xs generalizing ys o with
    |nil=>intro _;cases h;exact .nil
    |cons x xs ih=>
     intro hp;cases h with
     |cons h t=>exact (Y3.cons (Bd h (hp _ (List.mem_cons_self ..))) (ih t λy hy=>hp y (List.mem_cons_of_mem _ hy)):Y3 _ _ _ _ _ ([]++[]))
   exact .agg (this h1 hc)
 |row c q n es=>
  have:zl (.row c q n es)=Ob (.row c q n es):=by cases q <;> rfl
  rw [this];exact Bd h trivial
 |Xh cs=>
  cases cs with
  |nil=>exact Bd (x:=.Xh []) h trivial
  |cons=>exact hx.elim
 |_=>exact Bd h trivial
theorem te {x:TV} (h:NB x):NB (V3 x):=by
 cases ho:Xs x with
 |true=>
  obtain ⟨c,e,n,es,rfl⟩:=Jw ho;exact .Wh (by intro h;cases h)
 |false=>rw [xj ho];exact h
theorem Znh {x:TV} (h:NB x):NB (Ob x):=by
 cases ho:Xs x with
 |true=>
  obtain ⟨c,e,n,es,rfl⟩:=Jw ho;exact .Xh .nil (λc hc=>by cases hc)
 |false=>rw [jh ho];exact h
theorem S4 {x:TV} (h:Yl x):Yl (V3 x):=by
 cases ho:Xs x with
 |true=>obtain ⟨c,e,n,es,rfl⟩:=Jw ho;trivial
 |false=>rw [xj ho];exact h
theorem Zfj {x:TV} (h:Yl x):Yl (Ob x):=by
 cases ho:Xs x with
 |true=>obtain ⟨c,e,n,es,rfl⟩:=Jw ho;trivial
 |false=>rw [jh ho];exact h
theorem tf {cs:List TV} (h:NB (.agg cs)):NB (.agg (Ve V3 cs)):=by
 cases h with
 |agg a b=>
  rw [J4];exact .agg (a.map λx=>te) λc hc=>by obtain ⟨x,hx,rfl⟩:=List.mem_map.1 hc;exact S4 (b x hx)
theorem Zgx {cs:List TV} (h:NB (.agg cs)):NB (.agg (Ve Ob cs)):=by
 cases h with
 |agg a b=>
  rw [J4];exact .agg (a.map λx=>Znh) λc hc=>by obtain ⟨x,hx,rfl⟩:=List.mem_map.1 hc;exact Zfj (b x hx)
theorem xo {x:TV} (h:NB x):NB (Fv x)/\(Vh x->Vh (Fv x)):=by
 cases x with
 |agg cs=>exact ⟨tf h,λ_=>trivial⟩
 |row c q n es=>cases q with
  |own e=>exact ⟨.Wh (by intro h;cases h),λ_=>trivial⟩
  |set=>exact ⟨h,λh=>h⟩
  |D7=>exact ⟨h,λh=>h⟩
 |_=>exact ⟨h,λh=>h⟩
theorem Za2 {x:TV} (h:NB x):NB (zl x)/\(Vh x->Vh (zl x)):=by
 cases x with
 |agg cs=>exact ⟨Zgx h,λ_=>trivial⟩
 |row c q n es=>cases q with
  |own e=>exact ⟨.Xh .nil (λc hc=>by cases hc),λ_=>trivial⟩
  |set=>exact ⟨h,λh=>h⟩
  |D7=>exact ⟨h,λh=>h⟩
 |_=>exact ⟨h,λh=>h⟩
theorem yo {x:TV} {y:Value} {o:List Nat} {w:Bool} (h:VR H S r (wv w x) y o) (hv:OV x) (hs:∀ i∈o,S' i) (m:Wb H S H S'):VR H S' r (wv w (Zg x)) y []/\OV (Zg x):=by
 cases x with
 |row c q n es=>
  cases q with
  |own e=>
   have h1:wv w (.row c (.own e) n es)=.row c (.own e) n es:=by cases w <;> rfl
   have h2:wv w (Zg (.row c (.own e) n es))=.row c .set n es:=by cases w <;> rfl
   rw [h1] at h;rw [h2];exact ⟨.k (xm h hs m),.inl (.Wh (by intro h;cases h))⟩
  |set=>
   have h1:wv w (.row c .set n es)=.row c .set n es:=by cases w <;> rfl
   have h2:wv w (Zg (.row c .set n es))=.row c .set n es:=by cases w <;> rfl
   rw [h1] at h;rw [h2];have:=J0 h rfl trivial;subst this;exact ⟨W3 m h,hv⟩
  |D7=>
   show VR H S' r (wv w (.row c .D7 n es)) y []/\_;have:o=[]:=J0 h (by cases w <;> rfl) (by cases w <;> trivial)
   subst this;exact ⟨W3 m h,hv⟩
 |agg cs=>
  have h1:wv w (.agg cs)=.agg cs:=by cases w <;> rfl
  have h2:wv w (Zg (.agg cs))=.agg (Ve V3 cs):=by cases w <;> rfl
  rw [h1] at h;rw [h2];have hn:NB (.agg cs):=hv.elim id λh=>h.elim;refine ⟨?_,.inl (tf hn)⟩;obtain ⟨ds,rfl,h3⟩:=E0 h;cases hn with
  |agg _ hc=>
   rw [J4];exact .agg (Hc (p:=Yl) (λx y o a b c=>Pa a b c m) h3 hc hs)
 |Xh cs=>
  have h1:wv w (.Xh cs)=.Xh cs:=by cases w <;> rfl
  have h2:wv w (Zg (.Xh cs))=.Xh (Ve Fv cs):=by cases w <;> rfl
  rw [h1] at h;rw [h2];have hn:NB (.Xh cs):=hv.elim id λh=>h.elim;cases cs with
  |nil=>exact ⟨.Cq,hv⟩
  |cons c cs=>
   obtain ⟨ds,rfl,h3⟩:=xg h;cases hn with
   |Xh a hc=>
    rw [J4];refine ⟨.Xh (Hc (p:=λx=>NB x/\Vh x) (λx y o a b c=>Zmj a b.2 b.1 c m) h3 (λx hx=>⟨a.mem x hx,hc x hx⟩) hs),?_⟩;show OV (.Xh (Ve Fv (c::cs)));rw [J4];refine .inl (.Xh (a.map λx hx=>(xo hx).1) λd hd=>?_);obtain ⟨x,hx,rfl⟩:=List.mem_map.1 hd;exact (xo (a.mem x hx)).2 (hc x hx)
 |el q cs off=>
  have:o=[]:=J0 h (by cases w <;> cases q <;> rfl) (by cases w <;> cases q <;> trivial)
  subst this;exact ⟨W3 m h,hv⟩
 |_=>
  have:o=[]:=J0 h (by cases w <;> rfl) (by cases w <;> trivial)
  subst this;exact ⟨W3 m h,hv⟩
theorem Zbp {x:TV} {y:Value} {o:List Nat} {w:Bool} (h:VR H S r (wv w x) y o) (hv:OV x) (hr:∀ i∈o,i ∉ r):VR H S r (wv w (Qu x)) y []/\OV (Qu x):=by
 cases x with
 |row c q n es=>
  cases q with
  |own e=>
   have h1:wv w (.row c (.own e) n es)=.row c (.own e) n es:=by cases w <;> rfl
   rw [h1] at h;refine ⟨?_,.inr trivial⟩;show VR H S r (wv w (.row c .D7 n es)) y [];cases w with
   |true=>exact .Cq
   |false=>exact Zgr h hr
  |set=>
   have:o=[]:=J0 h (by cases w <;> rfl) (by cases w <;> trivial)
   subst this;exact ⟨h,hv⟩
  |D7=>
   have:o=[]:=J0 h (by cases w <;> rfl) (by cases w <;> trivial)
   subst this;exact ⟨h,hv⟩
 |agg cs=>
  have h1:wv w (.agg cs)=.agg cs:=by cases w <;> rfl
  have h2:wv w (Qu (.agg cs))=.agg (Ve Ob cs):=by cases w <;> rfl
  rw [h1] at h;rw [h2];have hn:NB (.agg cs):=hv.elim id λh=>h.elim;have:=il (x:=.agg cs) h trivial hn;exact ⟨this,.inl (Zgx hn)⟩
 |Xh cs=>
  have h1:wv w (.Xh cs)=.Xh cs:=by cases w <;> rfl
  have h2:wv w (Qu (.Xh cs))=.Xh (Ve zl cs):=by cases w <;> rfl
  rw [h1] at h;rw [h2];have hn:NB (.Xh cs):=hv.elim id λh=>h.elim;cases cs with
  |nil=>exact ⟨.Cq,hv⟩
  |cons c cs=>
   obtain ⟨ds,rfl,h3⟩:=xg h;cases hn with
   |Xh a hc=>
    rw [J4]
    have key:∀ {xs:List TV} {ys:List Value} {o:List Nat},Y3 H S r xs ys o->(∀ x∈xs,NB x/\Vh x)->Y3 H S r (xs.map zl) ys []:=by
     intro xs ys o h
     induction xs generalizing ys o with
     |nil=>intro _;cases h;exact .nil
     |cons x xs ih=>
      intro hp;cases h with
      |cons h t=>exact (Y3.cons (il h (hp _ (List.mem_cons_self ..)).2 (hp _ (List.mem_cons_self ..)).1) (ih t λy hy=>hp y (List.mem_cons_of_mem _ hy)):Y3 _ _ _ _ _ ([]++[]))
    refine ⟨.Xh (key h3 λx hx=>⟨a.mem x hx,hc x hx⟩),?_⟩;show OV (.Xh (Ve zl (c::cs)));rw [J4];refine .inl (.Xh (a.map λx hx=>(Za2 hx).1) λd hd=>?_);obtain ⟨x,hx,rfl⟩:=List.mem_map.1 hd;exact (Za2 (a.mem x hx)).2 (hc x hx)
 |el q cs off=>
  have:o=[]:=J0 h (by cases w <;> cases q <;> rfl) (by cases w <;> cases q <;> trivial)
  subst this;exact ⟨h,hv⟩
 |_=>
  have:o=[]:=J0 h (by cases w <;> rfl) (by cases w <;> trivial)
  subst this;exact ⟨h,hv⟩
end
end Go.Ev
namespace Go.Ev
theorem P5 {F:Nat->Prop} {r Oh X r' Vf X':List Nat} (h:∀ i,act r Oh X i=act r' Vf X' i):Ya F r Oh X=Ya F r' Vf X':=by
 funext i;unfold Ya;rw [h i]
theorem Yt {x:TV} (h:Qv x=true):NB x/\Yl x:=by
 cases x with
 |v=>exact ⟨.v _,trivial⟩
 |row c q n es=>cases q with
  |set=>exact ⟨.Wh (by intro h;cases h),trivial⟩
  |_=>cases h
 |iface=>exact ⟨.iface _ _,trivial⟩
 |_=>cases h
theorem rq {H:AH} {S:Nat->Prop} {a:Value} (h:flat a=true):KR H S (ry a) a/\NB (ry a)/\Yl (ry a)/\Qv (ry a)=true:=by
 cases a with
 |slice a len cap=>
  cases a with
  |none=>
   have:len=0/\cap=0:=by
    cases len <;> cases cap <;> simp_all [flat]
   obtain ⟨rfl,rfl⟩:=this;exact ⟨.nil,.Wh (by intro h;cases h),trivial,rfl⟩
  |some=>cases h
 |_=>first |exact ⟨.v h rfl,.v _,trivial,rfl⟩ |cases h
theorem xn {H:AH} {S:Nat->Prop}:∀ {l:List Value},l.all flat=true->W6 H S (l.map ry) l/\Gq (l.map ry)/\∀ c∈l.map ry,Yl c/\Qv c=true
 |[],_=>⟨.nil,.nil,λc hc=>by cases hc⟩
 |a::l,h=>by
  simp only [List.all_cons,Bool.and_eq_true] at h;obtain ⟨h1,h2,h3,h4⟩:=rq (H:=H) (S:=S) h.1;obtain ⟨h5,h6,h7⟩:=xn (H:=H) (S:=S) h.2;refine ⟨.cons h1 h5,.cons h2 h6,λc hc=>?_⟩;rcases List.mem_cons.1 hc with rfl |hc
  ·exact ⟨h3,h4⟩
  ·exact h7 c hc
theorem rn {H:AH} {S:Nat->Prop} {r:List Nat} {a:Value} (h:plain a=true):VR H S r (Mq a) a []/\NB (Mq a):=by
 unfold plain at h;split at h
 ·obtain ⟨h5,h6,h7⟩:=xn (H:=H) (S:=S) h;show VR H S r (.agg (Ve ry _)) _ []/\NB (.agg (Ve ry _));rw [J4];exact ⟨.k (.agg (λc hc=>(h7 c hc).2) h5),.agg h6 λc hc=>(h7 c hc).1⟩
 ·obtain ⟨h5,h6,h7⟩:=xn (H:=H) (S:=S) h;show VR H S r (.Xh (Ve ry _)) _ []/\NB (.Xh (Ve ry _));rw [J4]
  exact ⟨.Xh h5.vrl,.Xh h6 λc hc=>by
   have:=(h7 c hc).2;cases c <;> first |trivial |cases this⟩
 ·obtain ⟨h1,h2,_,_⟩:=rq (H:=H) (S:=S) h
  have e:Mq a=ry a:=by
   cases a with
   |agg=>cases h
   |tuple=>cases h
   |_=>rfl
  rw [e];exact ⟨.k h1,h2⟩
theorem Zd9 {H:AH} {S:Nat->Prop} {a:Value} (h:plain a=true) (ht:∀ l,a≠.tuple l):KR H S (Mq a) a/\closed (Mq a)=true:=by
 unfold plain at h;split at h
 ·obtain ⟨h5,h6,h7⟩:=xn (H:=H) (S:=S) h;show KR H S (.agg (Ve ry _)) _/\Z2 Qv (Ve ry _)=true;rw [J4,Ye];exact ⟨.agg (λc hc=>(h7 c hc).2) h5,List.all_eq_true.2 λc hc=>(h7 c hc).2⟩
 ·exact absurd rfl (ht _)
 ·obtain ⟨h1,h2,_,h4⟩:=rq (H:=H) (S:=S) h
  have e:Mq a=ry a:=by
   cases a with
   |agg=>cases h
   |tuple=>cases h
   |_=>rfl
  rw [e]
  exact ⟨h1,by
   cases hx:ry a with
   |agg cs=>rw [hx] at h4;cases h4
   |_=>rw [hx] at h4;exact h4⟩
theorem Zqs {x:TV} (hv:OV x) (ho:Xs x=false) (hn:ef x=true):NB (Zg x):=by
 have h1:NB x:=by
  rcases hv with h |h
  ·exact h
  ·unfold Zel at h;split at h
   ·cases hn
   ·cases hn
   ·exact h.elim
 cases x with
 |row c q n es=>cases q with
  |own=>cases ho
  |set=>exact h1
  |D7=>cases hn
 |agg cs=>exact tf h1
 |Xh cs=>
  cases h1 with
  |Xh a b=>
   show NB (.Xh (Ve Fv cs));rw [J4];refine .Xh (a.map λx h=>(xo h).1) λc hc=>?_;obtain ⟨x,hx,rfl⟩:=List.mem_map.1 hc;exact (xo (a.mem x hx)).2 (b x hx)
 |_=>exact h1
theorem Zlj {n:Nat} {ag:Bool} {x:TV} {T:TH} {β:Type} {k:TV->TH->Option β} {ρ:β} (h:K1 (Zf8 n ag x T) k=some ρ):cond (Xs x) (sj n ag x T k) (Zp (ef x) (k (Zg x) T))=some ρ:=by
 unfold Zf8 at h;cases ho:Xs x with
 |false=>
  rw [ho] at h;cases hn:ef x with
  |false=>rw [hn] at h;cases h
  |true=>rw [hn] at h;exact h
 |true=>
  rw [ho] at h;obtain ⟨c,e,m,es,rfl⟩:=Jw ho;have h:K1 (Zp (Nat.beq m n) _) k=some ρ:=h;show Zp (Nat.beq m n) _=some ρ;cases hm:Nat.beq m n with
  |false=>rw [hm] at h;cases h
  |true=>rw [hm] at h;exact h
def RdR (w:Bool) (m:Md) (H:AH) (S:Nat->Prop) (r:List Nat) (x:TV) (y:Value) (ox:List Nat):Prop:=
 match m with
 |.raw=>ox=[]/\∃ o,VR H S r (wv w x) y o/\(w=false->∀ j∈o,j ∉ r)
 |.comp i=>∃ ds yz,y=.tuple ds/\ds.toList[i]? = some yz/\VR H S r (wv w x) yz ox
 |.W8 _ _=>VR H S r x y ox/\NB x
 |.settle=>ox=[]/\VR H S r (wv w x) y []
 |.Xi=>ox=[]/\VR H S r (wv w x) y []
 |_=>VR H S r (wv w x) y ox
theorem Dw {w:Bool} {H:AH} {S S':Nat->Prop} {r r':List Nat} {x:TV} {y:Value} {o:List Nat} (h:VR H S r (wv w x) y o) (hv:OV x) (m:Wb H S H S') (g:∀ (b i:Nat),r[b]? = some i->r'[b]? = some i) (hw:w=false->r'=r):VR H S' r' (wv w x) y o:=by
 cases w with
 |true=>exact h.Mb m g (Ft hv) λ_ _=>rfl
 |false=>
  have:=hw rfl;subst this;exact W3 m h
theorem RdR.mono {w:Bool} {md:Md} {H:AH} {S S':Nat->Prop} {r r':List Nat} {x:TV} {y:Value} {o:List Nat} (h:RdR w md H S r x y o) (hv:OV x) (m:Wb H S H S') (g:∀ (b i:Nat),r[b]? = some i->r'[b]? = some i) (hw:w=false->r'=r):RdR w md H S' r' x y o:=by
 cases md with
 |raw=>exact ⟨h.1,h.2.elim λo h=>⟨o,Dw h.1 hv m g hw,λe j hj=>by rw [hw e];exact h.2 e j hj⟩⟩
 |comp i=>
  obtain ⟨ds,yz,h1,h2,h3⟩:=h;exact ⟨ds,yz,h1,h2,Dw h3 hv m g hw⟩
 |W8 n ag=>exact ⟨h.1.Mb m g h.2 λ_ _=>rfl,h.2⟩
 |settle=>exact ⟨h.1,Dw h.2 hv m g hw⟩
 |Xi=>exact ⟨h.1,Dw h.2 hv m g hw⟩
 |_=>exact Dw (w:=w) h hv m g hw
theorem Good.L4 {C:TC} {F:Nat->Prop} {lo Zh:Nat} {H:AH} {r Oh X r' Vf X':List Nat} {T T':TH} (h:Good C F lo Zh H r T Oh X) (hc:∀ i,act r' Vf X' i<=act r Oh X i) (pre:∀ (b i:Nat),r[b]? = some i->r'[b]? = some i)
  (rl:∀ (b i:Nat),Zh<=b->r'[b]? = some i->lo<=i) (xl:∀ i∈X',lo<=i) (hp:HL H (Ya F r' Vf X') r' lo Zh 0 T' r' Vf):Good C F lo Zh H r' T' Vf X':=
 h.next ⟨Nat.le_refl _,λ_ _ _=>rfl,λi _=>hc i,pre⟩ (λi hi=>by
  have h1:=hc i;have h2:=h.nd i;have h3:=h.lt i;exact ⟨by omega,λh4=>(h3 (by omega)).1⟩) rl xl hp
theorem Jg {F:Nat->Prop} {H:AH} {r Oh X r' Vf X':List Nat} (hc:∀ i,act r' Vf X' i<=act r Oh X i):Wb H (Ya F r Oh X) H (Ya F r' Vf X'):=
 ⟨Nat.le_refl _,λi _ hs=>⟨⟨hs.1,by have:=hc i;have:=hs.2;omega⟩,rfl⟩⟩
theorem Zac {P:Program} {C:TC} {β:Type} {m:Md} {ep:Nat} {E:TE} {T:TH} {o:Operand} {k:TV->TE->TH->Option β} {ρ:β} (h:rdOp P C m ep E T o k=some ρ) :
  ∃ x E' l,k x E' (T++l)=some ρ/\∀ {w:Bool} {F:Nat->Prop} {lo Zh:Nat} {H:AH} {r Oh Xe Xv:List Nat} {Ev:Env},(Xy m=true->w=true)->Good C F lo Zh H r T Oh (Xe++Xv)->Ko w H (Ya F r Oh (Xe++Xv)) r ep Ev E Xe ->
   ∃ y r' Bm ox,K9 P Ev o=some y/\Good C F lo Zh H r' (T++l) Oh (Bm++(ox++Xv))/\Ko w H (Ya F r' Oh (Bm++(ox++Xv))) r' ep Ev E' Bm/\RdR w m H (Ya F r' Oh (Bm++(ox++Xv))) r' x y ox/\OV x /\
    (∀ (b i:Nat),r[b]? = some i->r'[b]? = some i)/\(w=false->r'=r)/\∀ i,act r' Oh (Bm++(ox++Xv)) i<=act r Oh (Xe++Xv) i:=by
 have Zs:∀ {x:TV} {y:Value} {w:Bool} {F:Nat->Prop} {lo Zh:Nat} {H:AH} {r Oh Xe Xv:List Nat} {Ev:Env},K9 P Ev o=some y->(∀ S:Nat->Prop,S=Ya F r Oh (Xe++Xv)->VR H S r x y []/\NB x)->aa m=false->Good C F lo Zh H r T Oh (Xe++Xv)->Ko w H (Ya F r Oh (Xe++Xv)) r ep Ev E Xe ->
   ∃ y r' Bm ox,K9 P Ev o=some y/\Good C F lo Zh H r' (T++[]) Oh (Bm++(ox++Xv))/\Ko w H (Ya F r' Oh (Bm++(ox++Xv))) r' ep Ev E Bm/\RdR w m H (Ya F r' Oh (Bm++(ox++Xv))) r' x y ox/\OV x /\
    (∀ (b i:Nat),r[b]? = some i->r'[b]? = some i)/\(w=false->r'=r)/\∀ i,act r' Oh (Bm++(ox++Xv)) i<=act r Oh (Xe++Xv) i:=by
  intro x y w F lo Zh H r Oh Xe Xv Ev hy hx hm hG hE;obtain ⟨h1,h2⟩:=hx _ rfl;refine ⟨y,r,Xe,[],hy,by rw [List.append_nil];exact hG,hE,?_,.inl h2,λ_ _ h=>h,λ_=>rfl,λ_=>Nat.le_refl _⟩
  have h3:VR H (Ya F r Oh (Xe++Xv)) r (wv w x) y []:=by rw [h2.wv];exact h1
  cases m with
  |raw=>exact ⟨rfl,_,h3,λ_ j hj=>by cases hj⟩
  |comp i=>cases hm
  |W8 n ag=>cases hm
  |settle=>exact ⟨rfl,h3⟩
  |Xi=>exact ⟨rfl,h3⟩
  |_=>exact h3
 have Zng:∀ {b:Bool},(!b)=true->b=false:=λ{b} h=>by cases b <;> first |rfl |cases h
 cases o with
 |const v=>
  obtain ⟨hm,h⟩:=Zt h;obtain ⟨h1,h2⟩:=Zt h;refine ⟨Mq v,E,[],by rw [List.append_nil];exact h2,λ{w F lo Zh H r Oh Xe Xv Ev} _ hG hE=>Zs (y:=v) ?_ (λS _=>rn h1) (Zng hm) hG hE⟩
  show Zp (plain v) (some v)=_;rw [h1];rfl
 |global g=>
  obtain ⟨hm,h⟩:=Zt h;obtain ⟨cs,h1,h2⟩:=Zj h;obtain ⟨h3,h4⟩:=Zt h2;refine ⟨_,E,[],by rw [List.append_nil];exact h4,λ{w F lo Zh H r Oh Xe Xv Ev} _ hG hE=>Zs (y:=.pointer (some ⟨g,0,none⟩)) ?_ (λS hS=>?_) (Zng hm) hG hE⟩
  ·show Zp (Nat.blt g P.globals.size) _=_;rw [h3];rfl
  ·obtain ⟨a1,a2,s,ds,e,a3,a4,a5,a7,a6⟩:=hG.Bs g cs h1;subst hS;exact ⟨.elS (o:=0) (off:=0) a1 a2 a3 a4 (by omega) a7 (by rw [List.drop_zero];exact a6),.el⟩
 |func f=>
  obtain ⟨hm,h⟩:=Zt h;exact ⟨_,E,[],by rw [List.append_nil];exact h,λ{w F lo Zh H r Oh Xe Xv Ev} _ hG hE=>Zs (y:=.func (.func f) #[] #[]) rfl (λS hS=>⟨.k .fn0,.fn .nil .nil⟩) (Zng hm) hG hE⟩
 |tmp t=>
  obtain ⟨p,h1,h2⟩:=Zj h;have h2:rdTmp m ep t (Gw ep p) E T k=some ρ:=h2;obtain ⟨x,hx⟩:∃ x,x=Gw ep p:=⟨_,rfl⟩;rw [<- hx] at h2;cases m with
  |raw=>
   refine ⟨x,E,[],by rw [List.append_nil];exact h2,λ{w F lo Zh H r Oh Xe Xv Ev} _ hG hE=>?_⟩
   obtain ⟨y,o,O2,_,a2,a3,a4,_,a6⟩:=hE.look h1;rw [<- hx] at a2 a4
   exact ⟨y,r,Xe,[],a3,by rw [List.append_nil];exact hG,hE,⟨rfl,o,a4,λ_ j hj hr=>by
    have h3:=(hG.Eb hr).2.2.2.2;rw [List.count_append] at h3;have h4:=a6 j;have h5:=Z8.2 hj;omega⟩,a2,λ_ _ h=>h,λ_=>rfl,λ_=>Nat.le_refl _⟩
  |take=>
   refine ⟨x,_,[],by rw [List.append_nil];exact h2,λ{w F lo Zh H r Oh Xe Xv Ev} _ hG hE=>?_⟩
   obtain ⟨y,o,O2,_,a2,a3,a4,a5,a6⟩:=hE.look h1;rw [<- hx] at a2 a4
   have af:∀ i∈o,i ∉ r:=λi hi hr=>by
    have:=(hG.Eb hr).2.2.2.2;rw [List.count_append] at this;have:=a6 i;have:=Z8.2 hi;omega
   have hc:∀ i,act r Oh (O2++(o++Xv)) i<=act r Oh (Xe++Xv) i:=λi=>by unfold act;simp only [List.count_append];have:=a6 i;omega
   have st:=Jg (F:=F) (H:=H) hc;obtain ⟨b1,b2⟩:=Zbp a4 a2 af;refine ⟨y,r,O2,o,a3,by rw [List.append_nil];exact hG.less λi=>by simp only [List.count_append];have:=a6 i;omega,?_,Dw a4 a2 st (λ_ _ h=>h) (λ_=>rfl),a2,λ_ _ h=>h,λ_=>rfl,hc⟩
   have:=Ko.L4 (a5.mono st (λ_ _ h=>h) (λ_ i _ hi=>⟨hi,rfl⟩) λ_ _=>rfl) a3 b2 (Dw b1 b2 st (λ_ _ h=>h) (λ_=>rfl));exact this
  |settle=>
   refine ⟨Zg x,_,[],by rw [List.append_nil];exact h2,λ{w F lo Zh H r Oh Xe Xv Ev} _ hG hE=>?_⟩
   obtain ⟨y,o,O2,_,a2,a3,a4,a5,a6⟩:=hE.look h1;rw [<- hx] at a2 a4;have hc:∀ i,act r Oh (O2++([]++Xv)) i<=act r Oh (Xe++Xv) i:=λi=>by unfold act;simp only [List.count_append,List.nil_append];have:=a6 i;omega
   have st:=Jg (F:=F) (H:=H) hc
   have hs:∀ i∈o,Ya F r Oh (O2++([]++Xv)) i:=λi hi=>by
    have h3:=Z8.2 hi;have h4:=hG.nd i;have h5:=a6 i;unfold act at h4;simp only [List.count_append] at h4;refine ⟨(hG.lt i ?_).2,?_⟩
    ·unfold act;simp only [List.count_append];omega
    ·unfold act;simp only [List.count_append,List.nil_append];omega
   obtain ⟨b1,b2⟩:=yo a4 a2 hs st;refine ⟨y,r,O2,[],a3,by rw [List.append_nil];exact hG.less λi=>by simp only [List.count_append,List.nil_append];have:=a6 i;omega,?_,⟨rfl,b1⟩,b2,λ_ _ h=>h,λ_=>rfl,hc⟩
   exact Ko.L4 (a5.mono st (λ_ _ h=>h) (λ_ i _ hi=>⟨hi,rfl⟩) λ_ _=>rfl) a3 b2 b1
  |Xi=>
   have h2:k (Zc x) (Ef E t ep (Ze x)) T=some ρ:=h2;unfold Zc Ze at h2;cases ho:Xs x with
   |true=>
    rw [ho] at h2;refine ⟨Qu x,_,[],by rw [List.append_nil];exact h2,λ{w F lo Zh H r Oh Xe Xv Ev} _ hG hE=>?_⟩
    obtain ⟨y,o,O2,_,a2,a3,a4,a5,a6⟩:=hE.look h1;rw [<- hx] at a2 a4
    have af:∀ i∈o,i ∉ r:=λi hi hr=>by
     have:=(hG.Eb hr).2.2.2.2;rw [List.count_append] at this;have:=a6 i;have:=Z8.2 hi;omega
    obtain ⟨b1,b2⟩:=Zbp a4 a2 af;have hc:∀ i,act r Oh ((o++O2)++([]++Xv)) i<=act r Oh (Xe++Xv) i:=λi=>by unfold act;simp only [List.count_append,List.nil_append];have:=a6 i;omega
    have st:=Jg (F:=F) (H:=H) hc;refine ⟨y,r,o++O2,[],a3,by rw [List.append_nil];exact hG.less λi=>by simp only [List.count_append,List.nil_append];have:=a6 i;omega,?_,⟨rfl,Dw b1 b2 st (λ_ _ h=>h) (λ_=>rfl)⟩,b2,λ_ _ h=>h,λ_=>rfl,hc⟩
    exact Ko.L4 (a5.mono st (λ_ _ h=>h) (λ_ i _ hi=>⟨hi,rfl⟩) λ_ _=>rfl) a3 a2 (Dw a4 a2 st (λ_ _ h=>h) (λ_=>rfl))
   |false=>
    rw [ho] at h2;refine ⟨Zg x,_,[],by rw [List.append_nil];exact h2,λ{w F lo Zh H r Oh Xe Xv Ev} _ hG hE=>?_⟩
    obtain ⟨y,o,O2,_,a2,a3,a4,a5,a6⟩:=hE.look h1;rw [<- hx] at a2 a4;have hc:∀ i,act r Oh (O2++([]++Xv)) i<=act r Oh (Xe++Xv) i:=λi=>by unfold act;simp only [List.count_append,List.nil_append];have:=a6 i;omega
    have st:=Jg (F:=F) (H:=H) hc
    have hs:∀ i∈o,Ya F r Oh (O2++([]++Xv)) i:=λi hi=>by
     have h3:=Z8.2 hi;have h4:=hG.nd i;have h5:=a6 i;unfold act at h4;simp only [List.count_append] at h4;refine ⟨(hG.lt i ?_).2,?_⟩
     ·unfold act;simp only [List.count_append];omega
     ·unfold act;simp only [List.count_append,List.nil_append];omega
    obtain ⟨b1,b2⟩:=yo a4 a2 hs st;refine ⟨y,r,O2,[],a3,by rw [List.append_nil];exact hG.less λi=>by simp only [List.count_append,List.nil_append];have:=a6 i;omega,?_,⟨rfl,b1⟩,b2,λ_ _ h=>h,λ_=>rfl,hc⟩
    exact Ko.L4 (a5.mono st (λ_ _ h=>h) (λ_ i _ hi=>⟨hi,rfl⟩) λ_ _=>rfl) a3 b2 b1
  |comp j=>
   obtain ⟨z,h3,h4⟩:=Zj h2;refine ⟨z,_,[],by rw [List.append_nil];exact h4,λ{w F lo Zh H r Oh Xe Xv Ev} _ hG hE=>?_⟩
   obtain ⟨y,o,O2,_,a2,a3,a4,a5,a6⟩:=hE.look h1;rw [<- hx] at a2 a4;unfold Qj at h3;split at h3
   ·rename_i cs;rw [Xq] at h3;have hn:NB (.Xh cs):=a2.elim id λh=>h.elim
    have a4:VR H (Ya F r Oh (Xe++Xv)) r (.Xh cs) y o:=by
     have e:wv w (.Xh cs)=.Xh cs:=hn.wv w;rw [e] at a4;exact a4
    cases cs with
    |nil=>simp at h3
    |cons c0 cs=>
    obtain ⟨ds,rfl,b1⟩:=xg a4;obtain ⟨yz,u2,u3,c1,u1,rfl,c3,c4⟩:=b1.get h3;cases hn with
    |Xh n1 n2=>
    have nz:NB z:=n1.mem z (List.mem_of_getElem? h3)
    have hi:j < (c0::cs).length:=by
     rcases Nat.lt_or_ge j (c0::cs).length with h |h
     ·exact h
     ·rw [List.getElem?_eq_none h] at h3;cases h3
    have hg:Z7 (.Xh (c0::cs)) j=.Xh ((c0::cs).set j Zk):=by
     show TV.Xh (Kl (c0::cs) j [Zk])=_;rw [Lo _ _ _ hi]
    have hc:∀ i,act r Oh ((u2++c1++O2)++(u3++Xv)) i<=act r Oh (Xe++Xv) i:=λi=>by unfold act;simp only [List.count_append];have:=a6 i;simp only [List.count_append] at this;omega
    have st:=Jg (F:=F) (H:=H) hc;have hvz:VR H (Ya F r Oh (Xe++Xv)) r (wv w z) yz u3:=by rw [nz.wv];exact c3
    have Ut:(ds.toList.set j yz)=ds.toList:=by
     apply List.ext_getElem?;intro q;rw [List.getElem?_set];split
     ·rename_i hq;subst hq;rw [u1];split
      ·rfl
      ·rename_i hq2;rw [List.getElem?_eq_none (by omega)] at u1;cases u1
     ·rfl
    have hgone:VR H (Ya F r Oh (Xe++Xv)) r (.Xh ((c0::cs).set j Zk)) (.tuple ds) (u2++c1):=by
     have h9:=c4 Zk yz [] .Cq;rw [Ut,List.nil_append] at h9;exact .Xh h9
    have nbg:NB (.Xh ((c0::cs).set j Zk)):=by
     refine .Xh (Gq.of λd hd=>?_) λd hd=>?_
     ·rcases List.mem_or_eq_of_mem_set hd with hd |rfl
      ·exact n1.mem d hd
      ·exact .Xh .nil λc hc=>by cases hc
     ·rcases List.mem_or_eq_of_mem_set hd with hd |rfl
      ·exact n2 d hd
      ·trivial
    refine ⟨.tuple ds,r,u2++c1++O2,u3,a3,by rw [List.append_nil];exact hG.less λi=>by simp only [List.count_append];have:=a6 i;simp only [List.count_append] at this;omega,?_,⟨ds,yz,rfl,u1,Dw hvz (.inl nz) st (λ_ _ h=>h) (λ_=>rfl)⟩,.inl nz,λ_ _ h=>h,λ_=>rfl,hc⟩
    rw [hg];refine Ko.L4 (a5.mono st (λ_ _ h=>h) (λ_ i _ hi=>⟨hi,rfl⟩) λ_ _=>rfl) a3 (.inl nbg) ?_;exact Dw (by rw [nbg.wv];exact hgone) (.inl nbg) st (λ_ _ h=>h) (λ_=>rfl)
   ·cases h3
  |W8 n ag=>
   have h2:cond (Xs x) (sj n ag x T λx T=>k x (Ef E t ep x) T) (Zp (ef x) (k (Zg x) (Ef E t ep (Zg x)) T))=some ρ:=Zlj (k:=λy T=>k y (Ef E t ep y) T) h2;cases ho:Xs x with
   |false=>
    rw [ho] at h2;obtain ⟨hnb,h2⟩:=Zt (show Zp (ef x) _=some ρ from h2);refine ⟨Zg x,_,[],by rw [List.append_nil];exact h2,λ{w F lo Zh H r Oh Xe Xv Ev} _ hG hE=>?_⟩
    obtain ⟨y,o,O2,_,a2,a3,a4,a5,a6⟩:=hE.look h1;rw [<- hx] at a2 a4;have hc:∀ i,act r Oh (O2++([]++Xv)) i<=act r Oh (Xe++Xv) i:=λi=>by unfold act;simp only [List.count_append,List.nil_append];have:=a6 i;omega
    have st:=Jg (F:=F) (H:=H) hc
    have hs:∀ i∈o,Ya F r Oh (O2++([]++Xv)) i:=λi hi=>by
     have h3:=Z8.2 hi;have h4:=hG.nd i;have h5:=a6 i;unfold act at h4;simp only [List.count_append] at h4;refine ⟨(hG.lt i ?_).2,?_⟩
     ·unfold act;simp only [List.count_append];omega
     ·unfold act;simp only [List.count_append,List.nil_append];omega
    obtain ⟨b1,b2⟩:=yo a4 a2 hs st;have b3:NB (Zg x):=Zqs a2 ho hnb;have b4:VR H (Ya F r Oh (O2++([]++Xv))) r (Zg x) y []:=by rw [b3.wv] at b1;exact b1
    refine ⟨y,r,O2,[],a3,by rw [List.append_nil];exact hG.less λi=>by simp only [List.count_append,List.nil_append];have:=a6 i;omega,?_,⟨b4,b3⟩,b2,λ_ _ h=>h,λ_=>rfl,hc⟩
    exact Ko.L4 (a5.mono st (λ_ _ h=>h) (λ_ i _ hi=>⟨hi,rfl⟩) λ_ _=>rfl) a3 b2 b1
   |true=>
    rw [ho] at h2;obtain ⟨c,e,mm,es,rfl⟩:=Jw ho;obtain ⟨h5,h6⟩:=Zt h2;have h5:=Qb h5;subst h5;refine ⟨_,_,[.cells (Qi es)],h6,λ{w F lo Zh H r Oh Xe Xv Ev} hw hG hE=>?_⟩;have hw:=hw rfl;subst hw;obtain ⟨y,o,O2,_,a2,a3,a4,a5,a6⟩:=hE.look h1;rw [<- hx] at a2 a4;have a4:VR H (Ya F r Oh (Xe++Xv)) r (.row c (.own e) mm es) y o:=a4;have hlen:=hG.len;cases a4 with
    |k h=>cases h
    | @own _ _ _ i cs _ hc0 hu hl hg he hk=>
     have hc:∀ j,act (r++[i]) Oh (O2++([]++Xv)) j<=act r Oh (Xe++Xv) j:=λj=>by unfold act;simp only [List.count_append,List.nil_append];have:=a6 j;omega
     have st:=Jg (F:=F) (H:=H) hc
     have pre:∀ (b j:Nat),r[b]? = some j->(r++[i])[b]? = some j:=λb j hb=>by
      rw [List.getElem?_append_left (by
       rcases Nat.lt_or_ge b r.length with h |h
       ·exact h
       ·rw [List.getElem?_eq_none h] at hb;cases hb)];exact hb
     have iz:(r++[i])[Zb T]? = some i:=by rw [Zz,<- hlen];simp
     have hx:lo<=i:=hG.xlo i (List.mem_append_left _ (Z8.1 (by have:=a6 i;simp at this;omega)))
     have hkl:=hk.length;rw [K5 he] at hkl
     have nbf:Gq (Qi es):=by
      exact Gq.of λc hc=>(Yt (he.closed c hc)).1
     refine ⟨_,r++[i],O2,[],a3,?_,?_,?_,.inl (.vec _ _ _ _ _ _),pre,(λh=>by cases h),hc⟩
     ·refine hG.L4 hc pre (λb j hb hj=>?_) (λj hj=>?_) ?_
      ·rcases Nat.lt_or_ge b r.length with Pq |Pq
       ·rw [List.getElem?_append_left Pq] at hj;exact hG.pq b j hb hj
       ·rw [List.getElem?_append_right Pq] at hj;cases Hl:b - r.length with
        |zero=>rw [Hl] at hj;simp at hj;omega
        |succ q=>rw [Hl] at hj;simp at hj
      ·refine hG.xlo j ?_;rw [List.nil_append] at hj;rcases List.mem_append.1 hj with hj |hj
       ·exact List.mem_append_left _ (Z8.1 (by have:=a6 j;have:=Z8.2 hj;omega))
       ·exact List.mem_append_right _ hj
      ·have h7:=HL.push (lo:=lo) (Zh:=Zh) (o:=.cells (Qi es)) (i:=i) (w:=[]) (H:=H) (S:=Ya F (r++[i]) Oh (O2++([]++Xv))) (r:=r++[i]) (.cells hg hkl.symm nbf (λc hc=>(Yt (he.closed c hc)).2) (hk.mono st).vrl) (λj hj=>by cases hj)
        (hG.heap.mono st pre (λ_ _=>rfl) λ_ _=>rfl)
       rwa [List.append_nil] at h7
     ·exact Ko.L4 (o:=[]) (a5.mono st pre (λh=>by cases h) λ_ _=>rfl) a3 (.inl (.vec _ _ _ _ _ _)) (by rw [Zz es];exact .vec iz)
     ·refine ⟨?_,.vec _ _ _ _ _ _⟩;show VR H _ _ (.vec (Zb T) 0 (Zb es) (Ub c (Zb es) mm) mm ag) _ [];rw [Zz es];exact .vec iz
inductive VM (w:Bool) (H:AH) (S:Nat->Prop) (r:List Nat):List Md->List TV->List Value->List Nat->Prop where
 |nil:VM w H S r [] [] [] []
 |cons {m:Md} {x:TV} {y:Value} {ox:List Nat} {ms:List Md} {xs:List TV} {ys:List Value} {os:List Nat} (h:RdR w m H S r x y ox) (hv:OV x) (t:VM w H S r ms xs ys os):VM w H S r (m::ms) (x::xs) (y::ys) (ox++os)
theorem VM.mono {w:Bool} {H:AH} {S S':Nat->Prop} {r r':List Nat} (m:Wb H S H S') (g:∀ (b i:Nat),r[b]? = some i->r'[b]? = some i) (hw:w=false->r'=r):∀ {ms:List Md} {xs:List TV} {ys:List Value} {os:List Nat},VM w H S r ms xs ys os->VM w H S' r' ms xs ys os
 |_,_,_,_,.nil=>.nil
 |_,_,_,_,.cons h hv t=>.cons (h.mono hv m g hw) hv (VM.mono m g hw t)
theorem N5 {P:Program} {C:TC} {β:Type} {ep:Nat}:∀ {l:List (Md×Operand)} {E:TE} {T:TH} {k:List TV->TE->TH->Option β} {ρ:β},Zab P C ep l E T k=some ρ ->
  ∃ xs E' q,xs.length=l.length/\k xs E' (T++q)=some ρ/\∀ {w:Bool} {F:Nat->Prop} {lo Zh:Nat} {H:AH} {r Oh Xe Xv:List Nat} {Ev:Env},(Kk (λp:Md×Operand=>Xy p.1) l=true->w=true)->Good C F lo Zh H r T Oh (Xe++Xv)->Ko w H (Ya F r Oh (Xe++Xv)) r ep Ev E Xe ->
   ∃ ys r' Bm os,Kz P Ev (l.map (·.2))=some ys/\Good C F lo Zh H r' (T++q) Oh (Bm++(os++Xv))/\Ko w H (Ya F r' Oh (Bm++(os++Xv))) r' ep Ev E' Bm/\VM w H (Ya F r' Oh (Bm++(os++Xv))) r' (l.map (·.1)) xs ys os /\
    (∀ (b i:Nat),r[b]? = some i->r'[b]? = some i)/\(w=false->r'=r)/\∀ i,act r' Oh (Bm++(os++Xv)) i<=act r Oh (Xe++Xv) i
 |[],E,T,k,ρ,h=>⟨[],E,[],rfl,by rw [List.append_nil];exact h,λ{w F lo Zh H r Oh Xe Xv Ev} _ hG hE=>⟨[],r,Xe,[],rfl,by rw [List.append_nil];exact hG,hE,.nil,λ_ _ h=>h,λ_=>rfl,λ_=>Nat.le_refl _⟩⟩
 |(m,o)::l,E,T,k,ρ,h=>by
  have h:rdOp P C m ep E T o (λv E H=>Zab P C ep l E H λvs E H=>k (v::vs) E H)=some ρ:=h;obtain ⟨x,E1,q1,h1,a⟩:=Zac h;obtain ⟨xs,E2,q2,h3,h2,b⟩:=N5 h1;refine ⟨x::xs,E2,q1++q2,by simp [h3],by rw [<- List.append_assoc];exact h2,λ{w F lo Zh H r Oh Xe Xv Ev} hw hG hE=>?_⟩
  have hw:cond (Xy m) true (Kk (λp:Md×Operand=>Xy p.1) l)=true->w=true:=hw;obtain ⟨y,r1,Gp,ox,a1,a2,a3,a4,a5,a6,a7,a8⟩:=a (w:=w) (λh=>hw (by rw [h];rfl)) hG hE
  obtain ⟨ys,r2,Xe2,os,b1,b2,b3,b4,b6,b7,b8⟩:=b (w:=w) (λh=>hw (by rw [h];cases Xy m <;> rfl)) a2 a3
  have e:∀ i,act r2 Oh (Xe2++(os++(ox++Xv))) i=act r2 Oh (Xe2++((ox++os)++Xv)) i:=λi=>by unfold act;simp only [List.count_append];omega
  have eS:Ya F r2 Oh (Xe2++(os++(ox++Xv)))=Ya F r2 Oh (Xe2++((ox++os)++Xv)):=P5 e;refine ⟨y::ys,r2,Xe2,ox++os,?_,by rw [<- List.append_assoc T];exact b2.less λi=>by simp only [List.count_append];omega,by rw [<- eS];exact b3,?_,λb i h=>b6 b i (a6 b i h),λh=>(b7 h).trans (a7 h),λi=>by rw [<- e];exact Nat.le_trans (b8 i) (a8 i)⟩
  ·show Zf (K9 P Ev o) _=_;rw [a1];show Zf (Kz P Ev (l.map (·.2))) _=_;rw [b1];rfl
  ·rw [<- eS];exact .cons (a4.mono a5 (Jg b8) b6 b7) a5 b4
end Go.Ev
namespace Go.Ev
mutual
inductive qz (n:Nat):TV->Prop where
 |v (a:Value):qz n (.v a)
 |row (c:Cp) (q:Lf) (m:Nat) (es:List TV):qz n (.row c q m es)
 |agg {cs:List TV} (h:Gn n cs):qz n (.agg cs)
 |Xh {cs:List TV} (h:Gn n cs):qz n (.Xh cs)
 |ptr {b off:Nat} (h:b < n):qz n (.ptr b off)
 |el (q:Lf) (cs:List TV) (off:Nat):qz n (.el q cs off)
 |vec {b off len cap m:Nat} {ag:Bool} (h:b < n):qz n (.vec b off len cap m ag)
 |map {b:Nat} (h:b < n):qz n (.map b)
 |fn {f:Fn} {first cap:List TV} (h:Gn n first) (h':Gn n cap):qz n (.fn f first cap)
 |iface (t:TypeId) (x:TV):qz n (.iface t x)
 |gone:qz n .gone
inductive Gn (n:Nat):List TV->Prop where
 |nil:Gn n []
 |cons {x:TV} {xs:List TV} (h:qz n x) (t:Gn n xs):Gn n (x::xs)
end
theorem Gn.mem {n:Nat}:∀ {xs:List TV},Gn n xs->∀ x∈xs,qz n x
 |_,.nil,x,hx=>by cases hx
 |_,.cons h t,x,hx=>by
  rcases List.mem_cons.1 hx with rfl |hx
  ·exact h
  ·exact Gn.mem t x hx
theorem Gn.of {n:Nat}:∀ {xs:List TV},(∀ x∈xs,qz n x)->Gn n xs
 |[],_=>.nil
 |x::xs,h=>.cons (h x (List.mem_cons_self ..)) (Gn.of λy hy=>h y (List.mem_cons_of_mem _ hy))
def BelO (n:Nat) (o:Kc):Prop:=match o with |.cells cs=>Gn n cs |_=>True
def Low (n:Nat) (T:TH):Prop:=∀ b o,b < n->T[b]? = some o->BelO n o
theorem ku {n:Nat} {x:TV} (h:Uq x=true):qz n x:=by
 cases x with
 |v=>exact .v _
 |row=>exact .row ..
 |iface=>exact .iface ..
 |_=>cases h
theorem kr {n:Nat} {x:TV} (h:Oq x=true):qz n x:=by
 cases x with
 |agg cs=>
  have h:Z2 Uq cs=true:=h;rw [Ye,List.all_eq_true] at h;exact .agg (Gn.of λc hc=>ku (h c hc))
 |v=>exact .v _
 |row=>exact .row ..
 |iface=>exact .iface ..
 |_=>cases h
theorem Zjf {n:Nat} {x:TV} (h:loose x=true):qz n x:=by
 cases x with
 |agg cs=>
  have h:Z2 Uq cs=true:=h;rw [Ye,List.all_eq_true] at h;exact .agg (Gn.of λc hc=>ku (h c hc))
 |Xh cs=>
  have h:Z2 Oq cs=true:=h;rw [Ye,List.all_eq_true] at h;exact .Xh (Gn.of λc hc=>kr (h c hc))
 |v=>exact .v _
 |row=>exact .row ..
 |iface=>exact .iface ..
 |_=>cases h
theorem qa {n:Nat} {x:TV} (h:Qv x=true):qz n x:=by
 cases x with
 |v=>exact .v _
 |row=>exact .row ..
 |iface=>exact .iface ..
 |_=>cases h
def Mm (base:Nat) (T T':TH):Prop:=T.length<=T'.length/\∀ n,n<=base->Low n T->Low n T'
theorem Mm.refl (base:Nat) (T:TH):Mm base T T:=⟨Nat.le_refl _,λ_ _ h=>h⟩
theorem Mm.trans {base:Nat} {T T' T'':TH} (h:Mm base T T') (k:Mm base T' T''):Mm base T T'':=⟨Nat.le_trans h.1 k.1,λn hn hl=>k.2 n hn (h.2 n hn hl)⟩
theorem Mm.append {base:Nat} {T l:TH} (hb:base<=T.length):Mm base T (T++l):=
 ⟨by simp,λn hn h b o hbn ho=>h b o hbn (by rwa [List.getElem?_append_left (by omega)] at ho)⟩
theorem Mm.less {base base':Nat} {T T':TH} (h:Mm base T T') (hb:base'<=base):Mm base' T T':=⟨h.1,λn hn=>h.2 n (by omega)⟩
theorem Mm.set {base:Nat} {T:TH} {b:Nat} {o:Kc} (h:∀ n,n<=base->b < n->Low n T->BelO n o):Mm base T (T.set b o):=by
 refine ⟨by simp,λn hn hl c q hc hq=>?_⟩
 rw [List.getElem?_set] at hq;split at hq
 ·rename_i e;subst e;split at hq
  ·cases hq;exact h n hn hc hl
  ·cases hq
 ·exact hl c q hc hq
def Ux (C:TC) (F:Nat->Prop) (lo Zh base:Nat) (ends:Bool) (H:AH) (r:List Nat) (T:TH) (Oh os:List Nat) (v:TV) (T':TH) (v':Value) (H':AH):Prop:=
 ∃ r' Vf o,Good C F lo Zh H' r' T' Vf o/\VR H' (Ya F r' Vf o) r' v v' o/\OV v/\Mv H r Oh os H' r' Vf o/\(ends=false->∀ i,i < H.next->i ∉ r->i ∉ r'/\H'.get i=H.get i)/\Mm base T T'
section
variable {C:TC} {F:Nat->Prop} {lo Zh base:Nat} {ends:Bool} {H:AH} {r:List Nat} {T:TH} {Oh os:List Nat}
theorem Ux.Zs {v:TV} {v':Value} {o:List Nat} (hG:Good C F lo Zh H r T Oh os) (hv:VR H (Ya F r Oh os) r v v' o) (hn:OV v) (hc:∀ i,o.count i<=os.count i):Ux C F lo Zh base ends H r T Oh os v T v' H:=by
 have ha:∀ i,act r Oh o i<=act r Oh os i:=λi=>by unfold act;have:=hc i;omega
 exact ⟨r,Oh,o,hG.less hc,W3 (Jg ha) hv,hn,⟨Nat.le_refl _,λ_ _ _=>rfl,λi _=>ha i,λ_ _ h=>h⟩,λ_ i _ hi=>⟨hi,rfl⟩,.refl _ _⟩
theorem Ux.flat {a:Value} (hG:Good C F lo Zh H r T Oh os) (hf:flat a=true) (hs:ke a=true):Ux C F lo Zh base ends H r T Oh os (.v a) T a H:=
 .Zs hG (.k (.v hf hs)) (.inl (.v a)) λi=>by simp
theorem Ux.bool {b:Bool} (hG:Good C F lo Zh H r T Oh os):Ux C F lo Zh base ends H r T Oh os (.v (.bool b)) T (.bool b) H:=.flat hG rfl rfl
theorem Good.L0 {X:List Nat} (h:Good C F lo Zh H r T Oh X) {i:Nat} (hi:H.next<=i):act r Oh X i=0:=by
 rcases Nat.eq_zero_or_pos (act r Oh X i) with h1 |h1
 ·exact h1
 ·have:=(h.lt i h1).1;omega
theorem Ux.box {o:Kc} {ob:Ir} {w:List Nat} {v:TV} {v':Value} (hG:Good C F lo Zh H r T Oh os) (hb:base<=T.length) (hw:∀ i,w.count i<=os.count i)
  (ho:∀ S r',Wb H (Ya F r Oh os) (H.push ob) S->(∀ (b i:Nat),r[b]? = some i->r'[b]? = some i)->OR (H.push ob) S r' o H.next w)
  (hv:∀ S r',r'[T.length]? = some H.next->VR (H.push ob) S r' v v' []) (hn:OV v):Ux C F lo Zh base ends H r T Oh os v (T++[o]) v' (H.push ob):=by
 have hlen:=hG.len;have get:∀ i,i < H.next->(H.push ob).get i=H.get i:=λi hi=>by rw [AH.Yq,if_neg (by omega)]
 have pre:∀ (b i:Nat),r[b]? = some i->(r++[H.next])[b]? = some i:=λb i hb=>by
  rw [List.getElem?_append_left (by
   rcases Nat.lt_or_ge b r.length with h |h
   ·exact h
   ·rw [List.getElem?_eq_none h] at hb;cases hb)];exact hb
 have iz:(r++[H.next])[T.length]? = some H.next:=by rw [<- hlen];simp
 have vv:∀ i,act (r++[H.next]) (Oh++w) [] i=r.count i+[H.next].count i+Oh.count i+w.count i:=λi=>by unfold act;simp only [List.count_append,List.count_nil];omega
 have fr:∀ i,i≠H.next->[H.next].count i=0:=λi hi=>List.count_eq_zero.2 (by simpa using hi)
 have m:Mv H r Oh os (H.push ob) (r++[H.next]) (Oh++w) []:=by
  refine ⟨by simp,λi hi _=>get i hi,λi hi=>?_,pre⟩
  have:=hw i;have:=fr i (by omega)
  have:=vv i;unfold act;unfold act at this;omega
 have st:=m.stay (F:=F);refine ⟨r++[H.next],Oh++w,[],hG.next m (λi hi=>?_) (λb i w7 hi=>?_) (λi hi=>by cases hi) ?_,hv _ _ iz,hn,m,λ_ i hi hr=>⟨λh=>?_,get i hi⟩,.append hb⟩
 ·have h1:=hG.L0 hi;have h2:=hw i;have h3:=vv i;unfold act at h1
  by_cases he:i=H.next
  ·subst he;have h4:[H.next].count H.next=1:=by simp
   exact ⟨by omega,λ_=>by simp⟩
  ·have h4:=fr i he;exact ⟨by omega,λh=>by omega⟩
 ·rcases Nat.lt_or_ge b r.length with h |h
  ·rw [List.getElem?_append_left h] at hi;exact hG.pq b i w7 hi
  ·rw [List.getElem?_append_right h] at hi;cases Hl:b - r.length with
   |zero=>rw [Hl] at hi;simp at hi;have:=hG.lon;omega
   |succ q=>rw [Hl] at hi;simp at hi
 ·refine HL.push (ho _ _ st pre) (λj hj=>hG.xlo j (Z8.1 ?_)) (hG.heap.mono st pre (λj hj=>get j (hG.Eb hj).1) λj hj=>get j (hG.Za4 hj).1);have:=hw j;have:=Z8.2 hj;omega
 ·rcases List.mem_append.1 h with h |h
  ·exact hr h
  ·rw [List.mem_singleton] at h;omega
theorem Ux.row {ob:Ir} {v:TV} {v':Value} (hG:Good C F lo Zh H r T Oh os)
  (hv:∀ S r',Wb H (Ya F r Oh os) (H.push ob) S->VR (H.push ob) S r' v v' [H.next]) (hn:OV v):Ux C F lo Zh base ends H r T Oh os v T v' (H.push ob):=by
 have get:∀ i,i < H.next->(H.push ob).get i=H.get i:=λi hi=>by rw [AH.Yq,if_neg (by omega)]
 have fr:∀ i,i≠H.next->[H.next].count i=0:=λi hi=>List.count_eq_zero.2 (by simpa using hi)
 have m:Mv H r Oh os (H.push ob) r Oh [H.next]:=by
  refine ⟨by simp,λi hi _=>get i hi,λi hi=>?_,λ_ _ h=>h⟩
  have:=fr i (by omega)
  unfold act;omega
 have st:=m.stay (F:=F);refine ⟨r,Oh,[H.next],hG.next m (λi hi=>?_) hG.pq (λi hi=>by rw [List.mem_singleton] at hi;have:=hG.lon;omega) (hG.heap.mono st (λ_ _ h=>h) (λj hj=>get j (hG.Eb hj).1) λj hj=>get j (hG.Za4 hj).1),hv _ _ st,hn,m,λ_ i hi hr=>⟨hr,get i hi⟩,.refl _ _⟩
 have h1:=hG.L0 hi;unfold act at h1 ⊢
 by_cases he:i=H.next
 ·subst he;have h4:[H.next].count H.next=1:=by simp
  exact ⟨by omega,λ_=>by simp⟩
 ·have h4:=fr i he;exact ⟨by omega,λh=>by omega⟩
theorem Ux.write {b i:Nat} {o o':Kc} {ob:Ir} {v:TV} {v':Value} (hG:Good C F lo Zh H r T Oh os) (hb:T[b]? = some o) (hi:r[b]? = some i) (Oc:Zh<=b)
  (ho:∀ w,OR H (Ya F r Oh os) r o i w->(∀ j,w.count j<=Oh.count j)->∃ w',(∀ j,w'.count j<=w.count j+os.count j)/\(∀ S,Wb H (Ya F r Oh os) (H.set i ob) S->OR (H.set i ob) S r o' i w'))
  (uk:∀ n,n<=base->b < n->Low n T->BelO n o') (hv:∀ H' S,VR H' S r v v' []) (hn:OV v):Ux C F lo Zh base ends H r T Oh os v (T.set b o') v' (H.set i ob):=by
 obtain ⟨i2,a,w,c,h1,rfl,h3,h4,h5⟩:=hG.heap.at hb;rw [hi] at h1;cases h1;obtain ⟨w',hw,af⟩:=ho w h3 λj=>by simp only [List.count_append];omega
 have hir:=hG.Eb (Wz hi);have get:∀ j,j≠i->(H.set i ob).get j=H.get j:=λj hj=>by rw [AH.D2,if_neg hj]
 have vv:∀ j,act r (a++(w'++c)) [] j<=act r (a++(w++c)) os j:=λj=>by unfold act;simp only [List.count_append,List.count_nil];have:=hw j;omega
 have m:Mv H r (a++(w++c)) os (H.set i ob) r (a++(w'++c)) []:=by
  refine ⟨by simp,λj hj ha=>get j λe=>?_,λj hj=>vv j,λ_ _ h=>h⟩
  subst e;have:=hir.2.2.1;unfold act at ha;omega
 have st:=m.stay (F:=F);refine ⟨r,a++(w'++c),[],hG.next m (λj hj=>?_) hG.pq (λj hj=>by cases hj) ?_,hv _ _,hn,m,λ_ j hj hr=>⟨hr,get j λe=>hr (e ▸ Wz hi)⟩,.set uk⟩
 ·have h6:=hG.L0 hj;have h7:=vv j;exact ⟨by omega,λh=>by omega⟩
 ·refine h5 _ _ _ _ _ st (λ_ _ h=>h) (λn j hn hj=>get j λe=>hn (hG.inj hj (e ▸ hi))) (λj hj=>get j λe=>?_) (λj hj=>get j λe=>?_) (af _ st) λw7 j hj=>?_
  ·have:=hir.2.2.2.1;simp only [List.count_append] at this;have:=Z8.2 hj;subst e;omega
  ·have:=hir.2.2.2.1;simp only [List.count_append] at this;have:=Z8.2 hj;subst e;omega
  ·rcases Nat.eq_zero_or_pos (w.count j) with h |h
   ·exact hG.xlo j (Z8.1 (by have:=hw j;have:=Z8.2 hj;omega))
   ·exact h4 w7 j (Z8.1 h)
end
section
variable {H:AH} {S:Nat->Prop} {r:List Nat}
theorem V0 {a:Value} {y:Value} {o:List Nat} (h:VR H S r (.v a) y o):y=a/\flat a=true/\ke a=true/\o=[]:=by
 cases h with
 |k h=>cases h with
  |v h1 h2=>exact ⟨rfl,h1,h2,rfl⟩
theorem wv_v (w:Bool) (a:Value):wv w (.v a)=.v a:=by cases w <;> rfl
theorem M5 {b off:Nat} {y:Value} {o:List Nat} (h:VR H S r (.ptr b off) y o):∃ i,r[b]? = some i/\y=.pointer (some ⟨i,off,none⟩)/\o=[]:=by
 cases h with
 |k h=>cases h
 |ptr h=>exact ⟨_,h,rfl,rfl⟩
theorem U1 {b off len cap n:Nat} {ag:Bool} {y:Value} {o:List Nat} (h:VR H S r (.vec b off len cap n ag) y o):∃ i,r[b]? = some i/\y=.slice (some ⟨i,off,none⟩) len cap/\o=[]:=by
 cases h with
 |k h=>cases h
 |vec h=>exact ⟨_,h,rfl,rfl⟩
theorem xq {b:Nat} {y:Value} {o:List Nat} (h:VR H S r (.map b) y o):∃ i,r[b]? = some i/\y=.map (some i)/\o=[]:=by
 cases h with
 |k h=>cases h
 |map h=>exact ⟨_,h,rfl,rfl⟩
theorem Lt {t:TypeId} {x:TV} {y:Value} {o:List Nat} (h:VR H S r (.iface t x) y o):∃ z,y=.iface t z/\KR H S x z/\o=[]:=by
 cases h with
 |k h=>cases h with
  |iface h=>exact ⟨_,rfl,h,rfl⟩
def RowV (H:AH) (S:Nat->Prop) (c:Cp) (n:Nat) (es:List TV) (y:Value):Prop:=
 ∃ i off cap s cs e,y=.slice (some ⟨i,off,none⟩) es.length cap/\Ci c cap es.length n/\i < H.next/\H.get i=some (.cells s cs e)/\cs.length=s/\off+es.length * n<=s/\Um n es/\W6 H S (Qi es) ((cs.drop off).take (es.length * n))
theorem Ud {c:Cp} {q:Lf} {n:Nat} {es:List TV} {y:Value} {o:List Nat} (h:VR H S r (.row c q n es) y o) :
  (c=.nil/\q=.set/\n=0/\es=[]/\y=.slice none 0 0/\o=[])\/(c≠.nil/\RowV H S c n es y):=by
 have hc:∀ {c:Cp} {cap len n:Nat},Ci c cap len n->c≠.nil:=λh e=>by subst e;exact h
 cases h with
 |k h=>cases h with
  |nil=>exact .inl ⟨rfl,rfl,rfl,rfl,rfl,rfl⟩
  |row h1 h2 h3 h4 h5 h6 h7 h8=>exact .inr ⟨hc h1,⟨_,_,_,_,_,_,rfl,h1,h3,h4,h5,h6,h7,h8⟩⟩
 |D7 h1 h2 h3 h4 h5 h6 h7 h8=>exact .inr ⟨hc h1,⟨_,_,_,_,_,_,rfl,h1,h3,h4,h5,h6,h7,h8⟩⟩
 |own h1 h2 h3 h4 h5 h6=>
  have h7:=h6.length;rw [K5 h5] at h7;exact .inr ⟨h1,⟨_,0,_,_,_,_,rfl,R4 h1 h2,h3,h4,h7.symm,by omega,h5,by rw [List.drop_zero,List.take_of_length_le (by omega)];exact h6⟩⟩
end
end Go.Ev
namespace Go.Ev
section
variable {H:AH} {S:Nat->Prop} {r:List Nat}
def Pb (a:Value):Bool:=match a with |.int _ _=>true |.bool _=>true |_=>false
theorem Vm {a:Value} (h:Pb a=true):flat a=true/\ke a=true:=by cases a <;> first |exact ⟨rfl,rfl⟩ |cases h
theorem Zp4 {f:Value->Option Value} {x v:TV} (h:b1 f x=some v):∃ a u,x=.v a/\f a=some u/\v=.v u:=by
 unfold b1 at h;split at h
 ·obtain ⟨u,h1,h2⟩:=Zj h;cases h2;exact ⟨_,_,rfl,h1,rfl⟩
 ·cases h
theorem Zfr {f:Value->Value->Option Value} {x y v:TV} (h:b2 f x y=some v):∃ a b u,x=.v a/\y=.v b/\f a b=some u/\v=.v u:=by
 unfold b2 at h;split at h
 ·split at h
  ·obtain ⟨u,h1,h2⟩:=Zj h;cases h2;exact ⟨_,_,_,rfl,rfl,h1,rfl⟩
  ·cases h
 ·cases h
theorem mh:∀ {cs:List TV} {l:List Value} {ys:List Value} {o:List Nat},br cs=some l->Y3 H S r cs ys o->ys=l
 |[],l,ys,o,h,hr=>by cases h;cases hr;rfl
 |x::cs,l,ys,o,h,hr=>by
  unfold br at h;split at h
  ·obtain ⟨l2,h1,h2⟩:=Zj h;cases h2;cases hr with
   |cons a t=>
    obtain ⟨rfl,_⟩:=V0 a;rw [mh h1 t]
  ·cases h
theorem Cr {x:TV} {a y:Value} {o:List Nat} (h:se x=some a) (hr:VR H S r x y o):y=a:=by
 unfold se at h;split at h
 ·cases h;exact (V0 hr).1
 ·obtain ⟨l,h1,h2⟩:=Zj h;cases h2;obtain ⟨ds,rfl,h3⟩:=E0 hr;have:=mh h1 h3;rw [<- this]
 ·cases h
theorem Zpi {q:I5} {x y:TV} {b:Bool} {x' y':Value} {o o':List Nat} (h:eqT q x y=some b) (hx:VR H S r x x' o) (hy:VR H S r y y' o'):An q x' y'=some b:=by
 have nil:∀ {x:TV} {b:Bool} {x':Value} {o:List Nat},Sc x=some b->VR H S r x x' o->∃ a len cap,x'=.slice a len cap/\a.isNone=b:=by
  intro x b x' o h hr;unfold Sc at h;split at h
  ·rename_i c q n es;cases h;rcases Ud hr with ⟨rfl,_,_,_,rfl,_⟩ |⟨hc,i,off,cap,_,_,_,rfl,_⟩
   ·exact ⟨_,_,_,rfl,rfl⟩
   ·refine ⟨_,_,_,rfl,?_⟩;cases c with
    |nil=>exact absurd rfl hc
    |_=>rfl
  ·cases h;obtain ⟨i,_,rfl,_⟩:=U1 hr;exact ⟨_,_,_,rfl,rfl⟩
  ·cases h
 cases q with
 |slice=>
  obtain ⟨a,h1,hA⟩:=Zj (show Zf (Sc x) (λa=>Zf (Sc y) λb=>cond a (some b) (cond b (some false) none))=some b from h);obtain ⟨c,h2,hB⟩:=Zj hA;obtain ⟨a1,l1,c1,rfl,e1⟩:=nil h1 hx;obtain ⟨a2,l2,c2,rfl,e2⟩:=nil h2 hy;cases a1 with
  |none=>
   have:a=true:=e1.symm;subst this;cases hB;show some a2.isNone=_;rw [e2]
  |some=>
   have:a=false:=e1.symm;subst this;cases c with
   |false=>cases hB
   |true=>
    cases hB;cases a2 with
    |none=>rfl
    |some=>cases e2
 |_=>
  obtain ⟨a,h1,hA⟩:=Zj (show Zf (se x) (λa=>Zf (se y) λb=>An _ a b)=some b from h);obtain ⟨c,h2,hB⟩:=Zj hA;rw [Cr h1 hx,Cr h2 hy];exact hB
theorem je {x y u:Value} {f:IntKind->Int->Int->Option Value} (hf:∀ k a b u,f k a b=some u->Pb u=true) (h:Dk x y f=some u):Pb u=true:=by
 obtain ⟨k,a,b,_,_,h1⟩:=J1 h;exact hf _ _ _ _ h1
theorem Zp3 {P:Program} {op:BinOp} {t:TypeId} {β:Type} {x y:TV} {k:TV->Option β} {ρ:β} (h:binT P op t x y k=some ρ) :
  ∃ u,k (.v u)=some ρ/\Pb u=true/\∀ {H:AH} {S:Nat->Prop} {r:List Nat} {x' y':Value} {o o':List Nat},VR H S r x x' o->VR H S r y y' o'->∀ {γ:Type} (k':Value->Option γ),Zhl P op t x' y' k'=k' u:=by
 have num:∀ {f:Value->Value->Option Value} (hs:∀ a b u,f a b=some u->Pb u=true),Za (b2 f x y) k=some ρ ->
   ∃ u,k (.v u)=some ρ/\Pb u=true/\∀ {H:AH} {S:Nat->Prop} {r:List Nat} {x' y':Value} {o o':List Nat},VR H S r x x' o->VR H S r y y' o'->∀ {γ:Type} (k':Value->Option γ),Za (f x' y') k'=k' u:=by
  intro f hs h;obtain ⟨v,h1,h2⟩:=Z5 h;obtain ⟨a,b,u,rfl,rfl,h3,rfl⟩:=Zfr h1;refine ⟨u,h2,hs _ _ _ h3,λhx hy γ k'=>?_⟩;obtain ⟨rfl,_⟩:=V0 hx;obtain ⟨rfl,_⟩:=V0 hy;rw [h3];rfl
 have s1:∀ {f:IntKind->Int->Int->Value} (hf:∀ k a b,Pb (f k a b)=true) (a b u:Value),Dk a b (λk a b=>some (f k a b))=some u->Pb u=true:=λhf a b u h=>
  je (λk a b u h=>by cases h;exact hf _ _ _) h
 have s2:∀ {c:Int->Bool} {f:IntKind->Int->Int->Value} (hf:∀ k a b,Pb (f k a b)=true) (a b u:Value),Dk a b (λk a b=>cond (c b) none (some (f k a b)))=some u->Pb u=true:=λ{c f} hf a b u h=>
  je (λk a b u h=>by
   cases hc:c b with
   |true=>rw [hc] at h;cases h
   |false=>rw [hc] at h;cases h;exact hf _ _ _) h
 unfold binT at h;cases op with
 |add=>exact num (s1 λ_ _ _=>rfl) h
 |sub=>exact num (s1 λ_ _ _=>rfl) h
 |mul=>exact num (s1 λ_ _ _=>rfl) h
 |quo=>exact num (s2 λ_ _ _=>rfl) h
 |rem=>exact num (s2 λ_ _ _=>rfl) h
 |and=>exact num (s1 λ_ _ _=>rfl) h
 |or=>exact num (s1 λ_ _ _=>rfl) h
 |xor=>exact num (s1 λ_ _ _=>rfl) h
 |andNot=>exact num (s1 λ_ _ _=>rfl) h
 |lss=>exact num (s1 (f:=λ_ a b=>.bool (Vo a b)) λ_ _ _=>rfl) h
 |leq=>exact num (s1 (f:=λ_ a b=>.bool (!Vo b a)) λ_ _ _=>rfl) h
 |gtr=>exact num (s1 (f:=λ_ a b=>.bool (Vo b a)) λ_ _ _=>rfl) h
 |geq=>exact num (s1 (f:=λ_ a b=>.bool (!Vo a b)) λ_ _ _=>rfl) h
 |shl=>
  refine num (λa b u h=>?_) h;unfold Y8 at h;split at h
  ·split at h
   ·obtain ⟨n,_,h2⟩:=Zj h;cases h2;rfl
   ·cases h
  ·cases h
 |shr=>
  refine num (λa b u h=>?_) h;unfold K7 at h;split at h
  ·split at h
   ·obtain ⟨n,_,h2⟩:=Zj h;cases h2;rfl
   ·cases h
  ·cases h
 |eql=>
  obtain ⟨q,hq,hA⟩:=Zj h;obtain ⟨v,h1,h2⟩:=Z5 hA;obtain ⟨b,h3,h4⟩:=Zj (show Zf (eqT q x y) (λr=>some (TV.v (.bool r)))=some v from h1);cases h4;refine ⟨_,h2,rfl,λhx hy γ k'=>?_⟩;show Zf (R0 P t) (λq=>Za (Zpf q _ _) k')=_;rw [hq];show Za (Zf (An q _ _) _) k'=_;rw [Zpi h3 hx hy];rfl
 |neq=>
  obtain ⟨q,hq,hA⟩:=Zj h;obtain ⟨v,h1,h2⟩:=Z5 hA;obtain ⟨b,h3,h4⟩:=Zj (show Zf (eqT q x y) (λr=>some (TV.v (.bool (!r))))=some v from h1);cases h4;refine ⟨_,h2,rfl,λhx hy γ k'=>?_⟩;show Zf (R0 P t) (λq=>Za (Zpe q _ _) k')=_;rw [hq];show Za (Zf (An q _ _) _) k'=_;rw [Zpi h3 hx hy];rfl
theorem Zqf {op:UnOp} {β:Type} {x:TV} {k:TV->Option β} {ρ:β} (h:unT op x k=some ρ) :
  ∃ u,k (.v u)=some ρ/\Pb u=true/\∀ {H:AH} {S:Nat->Prop} {r:List Nat} {x':Value} {o:List Nat},VR H S r x x' o->∀ {γ:Type} (k':Value->Option γ),evUn op x' k'=k' u:=by
 have one:∀ {f:Value->Option Value} (hs:∀ a u,f a=some u->Pb u=true),Za (b1 f x) k=some ρ ->
   ∃ u,k (.v u)=some ρ/\Pb u=true/\∀ {H:AH} {S:Nat->Prop} {r:List Nat} {x':Value} {o:List Nat},VR H S r x x' o->∀ {γ:Type} (k':Value->Option γ),Za (f x') k'=k' u:=by
  intro f hs h;obtain ⟨v,h1,h2⟩:=Z5 h;obtain ⟨a,u,rfl,h3,rfl⟩:=Zp4 h1;refine ⟨u,h2,hs _ _ h3,λhx γ k'=>?_⟩;obtain ⟨rfl,_⟩:=V0 hx;rw [h3];rfl
 unfold unT at h;cases op with
 |neg=>exact one (λa u h=>by unfold Cg at h;split at h <;> cases h;rfl) h
 |xor=>exact one (λa u h=>by unfold Zhk at h;split at h <;> cases h;rfl) h
 |not=>exact one (λa u h=>by unfold Gh at h;split at h <;> cases h;rfl) h
 |plus=>cases h
theorem De {x:TV} {n:Nat} (h:Ap x=some n):∃ a,x=.v a/\asNat a=some n:=by
 unfold Ap at h;split at h
 ·exact ⟨_,rfl,h⟩
 ·cases h
theorem Y3.stay {S':Nat->Prop} (m:Wb H S H S') {xs:List TV} {ys:List Value} {o:List Nat} (h:Y3 H S r xs ys o):Y3 H S' r xs ys o:=h.mono m (λ_ _ h=>h) (λ_ _ h=>⟨h,rfl⟩) λ_ _=>rfl
theorem Y3.getS:∀ {xs:List TV} {ys:List Value} {o:List Nat},Y3 H S r xs ys o->∀ {i:Nat} {x:TV},xs[i]? = some x ->
  ∃ y a ox c,ys[i]? = some y/\o=a++(ox++c)/\VR H S r x y ox/\∀ S',Wb H S H S'->∀ x' y' o',VR H S' r x' y' o'->Y3 H S' r (xs.set i x') (ys.set i y') (a++(o'++c))
 |_,_,_,.nil,i,x,h=>by simp at h
 |_,_,_,.cons (o:=o) (os:=os) h t,i,x,hi=>by
  cases i with
  |zero=>
   simp at hi;subst hi;exact ⟨_,[],o,os,rfl,rfl,h,λS' m x' y' o' h'=>(Y3.cons h' (t.stay m):Y3 H S' r _ _ (o'++os))⟩
  |succ i=>
   simp at hi;obtain ⟨y,a,ox,c,h1,rfl,h3,h4⟩:=Y3.getS t hi;exact ⟨y,o++a,ox,c,by simpa using h1,by rw [List.append_assoc],h3,λS' m x' y' o' h'=>by rw [List.append_assoc];exact .cons (W3 m h) (h4 S' m _ _ _ h')⟩
theorem Y3.segS {xs:List TV} {ys:List Value} {o:List Nat} (h:Y3 H S r xs ys o) (off n:Nat) (hb:off+n<=xs.length) :
  ∃ a ox c,o=a++(ox++c)/\Y3 H S r ((xs.drop off).take n) ((ys.drop off).take n) ox /\
   ∀ S',Wb H S H S'->∀ vs ws o',Y3 H S' r vs ws o'->Y3 H S' r (xs.take off++(vs++xs.drop (off+n))) (ys.take off++(ws++ys.drop (off+n))) (a++(o'++c)):=by
 have e:xs=xs.take off++((xs.drop off).take n++xs.drop (off+n)):=by
  rw [<- List.drop_drop,List.take_append_drop,List.take_append_drop]
 have h':=h;rw [e] at h';obtain ⟨y1,y2,o1,o2,rfl,rfl,h1,h2⟩:=Y3.split h';obtain ⟨y3,y4,o3,o4,rfl,rfl,h3,h4⟩:=Y3.split h2;have l1:y1.length=off:=by rw [<- h1.length,List.length_take];omega
 have l3:y3.length=n:=by rw [<- h3.length,List.length_take,List.length_drop];omega
 refine ⟨o1,o3,o4,rfl,?_,λS' m vs ws o' hv=>?_⟩
 ·rw [List.drop_left' l1,List.take_left' l3];exact h3
 ·have e1:(y1++(y3++y4)).take off=y1:=List.take_left' l1;have e2:(y1++(y3++y4)).drop (off+n)=y4:=by rw [<- List.drop_drop,List.drop_left' l1,List.drop_left' l3]
  rw [e1,e2];exact (h1.stay m).append (hv.append (h4.stay m))
theorem R3 {x:TV} {y:Value} {o:List Nat} (h:VR H S r x y o) (hs:Yu x=true):Y3 H S r (Zy x) (cellsOf y) o/\(cellsOf y).all single=true/\(∀ c∈Zy x,Yl c/\Vj c=true):=by
 have one:∀ {x:TV} {y:Value} {o:List Nat},VR H S r x y o->Vj x=true->single y=true/\cellsOf y=[y]/\Zy x=[x]/\Yl x:=by
  intro x y o h hs;cases x with
  |v a=>
   obtain ⟨rfl,h1,_⟩:=V0 h;cases y <;> first |exact ⟨rfl,rfl,rfl,trivial⟩ |cases h1
  |row c q n es=>
   rcases Ud h with ⟨_,_,_,_,rfl,_⟩ |⟨_,_,_,_,_,_,_,rfl,_⟩ <;> exact ⟨rfl,rfl,rfl,trivial⟩
  |ptr b off=>obtain ⟨_,_,rfl,_⟩:=M5 h;exact ⟨rfl,rfl,rfl,trivial⟩
  |vec b off len cap n ag=>obtain ⟨_,_,rfl,_⟩:=U1 h;exact ⟨rfl,rfl,rfl,trivial⟩
  |map b=>obtain ⟨_,_,rfl,_⟩:=xq h;exact ⟨rfl,rfl,rfl,trivial⟩
  |fn f a b=>
   cases h with
   |k h=>cases h;exact ⟨rfl,rfl,rfl,trivial⟩
   |fn=>exact ⟨rfl,rfl,rfl,trivial⟩
  |iface t x=>obtain ⟨_,rfl,_⟩:=Lt h;exact ⟨rfl,rfl,rfl,trivial⟩
  |agg=>cases hs
  |Xh=>cases hs
  |el=>cases hs
  |gone=>cases hs
 cases x with
 |agg cs=>
  obtain ⟨ds,rfl,h1⟩:=E0 h;have hs:Z2 Vj cs=true:=hs;rw [Ye,List.all_eq_true] at hs;refine ⟨h1,?_,λc hc=>⟨?_,hs c hc⟩⟩
  ·show ds.toList.all single=true
   have:∀ {cs:List TV} {ys:List Value} {o:List Nat},Y3 H S r cs ys o->(∀ c∈cs,Vj c=true)->ys.all single=true:=by
    intro cs ys o h
    induction cs generalizing ys o with
    |nil=>intro _;cases h;rfl
    |cons c cs ih=>
     intro hp;cases h with
     |cons h t=>
      rw [List.all_cons,(one h (hp _ (List.mem_cons_self ..))).1,ih t λd hd=>hp d (List.mem_cons_of_mem _ hd)];rfl
   exact this h1 hs
  ·have:=hs c hc;cases c <;> first |trivial |cases this
 |Xh=>cases hs
 |_=>
  have h1:=one h hs;refine ⟨?_,?_,λc hc=>?_⟩
  ·rw [h1.2.1,h1.2.2.1];have:=Y3.cons h (Y3.nil (H:=H) (S:=S) (r:=r))
   rwa [List.append_nil] at this
  ·rw [h1.2.1,List.all_cons,h1.1];rfl
  ·rw [h1.2.2.1,List.mem_singleton] at hc;subst hc;exact ⟨h1.2.2.2,hs⟩
theorem xh {x:TV} (h:Yu x=true) (hv:OV x):Gq (Zy x):=by
 have hn:NB x:=by
  rcases hv with h1 |h1
  ·exact h1
  ·unfold Zel at h1;split at h1
   ·cases h
   ·cases h
   ·exact h1.elim
 cases x with
 |agg cs=>
  cases hn with
  |agg a _=>exact a
 |_=>exact .cons hn .nil
end
section
variable {C:TC} {F:Nat->Prop} {lo Zh base:Nat} {ends:Bool} {H:AH} {r:List Nat} {T:TH} {Oh os:List Nat}
theorem E5 {β:Type} {b:Nat} {k:List TV->Option β} {ρ:β} (h:Yx T b k=some ρ):∃ cs,T[b]? = some (.cells cs)/\k cs=some ρ:=by
 obtain ⟨o,h1,h2⟩:=Zj h;rw [Xq] at h1;cases o with
 |cells cs=>exact ⟨cs,h1,h2⟩
 |_=>cases h2
theorem U4 {b:Nat} {o o':Kc} (h:T[b]? = some o):Kg T b o'=T.set b o':=Lo _ _ _ (by
 rcases Nat.lt_or_ge b T.length with h1 |h1
 ·exact h1
 ·rw [List.getElem?_eq_none h1] at h;cases h)
theorem Good.Ll (hG:Good C F lo Zh H r T Oh os) {b:Nat} {cs:List TV} (hb:T[b]? = some (.cells cs)) :
  ∃ i s ds e a w c,r[b]? = some i/\Oh=a++(w++c)/\H.get i=some (.cells s ds e)/\ds.length=s/\Gq cs/\(∀ c∈cs,Yl c)/\Y3 H (Ya F r Oh os) r cs ds w/\cs.length=s:=by
 obtain ⟨i,a,w,c,h1,h2,h3,_,_⟩:=hG.heap.at hb;cases h3 with
 |cells hg hs nb hc h=>exact ⟨i,_,_,_,a,w,c,h1,h2,hg,hs,nb,hc,h,by rw [h.length,hs]⟩
theorem Ux.told {b:Nat} {cs qw:List TV} {v:TV} {v':Value} (hG:Good C F lo Zh H r T Oh os) (hb:T[b]? = some (.cells cs))
  (h:∀ s ds e w,H.get (r.getD b 0)=some (.cells s ds e)->ds.length=s->Y3 H (Ya F r Oh os) r cs ds w->Gq cs->(∀ c∈cs,Yl c)->(∀ j,w.count j<=1) ->
   ∃ w' wv,(∀ j,w'.count j+wv.count j<=w.count j)/\(wv≠[]->Zh<=b)/\Gq qw/\(∀ c∈qw,Yl c) /\
    ∀ S',Wb H (Ya F r Oh os) H S'->(∀ j,w'.count j+wv.count j < w.count j->S' j)->Y3 H S' r qw ds w'/\VR H S' r v v' wv)
  (uk:∀ n,n<=base->b < n->Gn n cs->Gn n qw) (hn:OV v):Ux C F lo Zh base ends H r T Oh os v (T.set b (.cells qw)) v' H:=by
 obtain ⟨i,a,w,c,h1,rfl,h3,h4,h5⟩:=hG.heap.at hb;have hri:r.getD b 0=i:=by rw [List.getD_eq_getElem?_getD,h1];rfl
 cases h3 with
 |cells hg hs nb hc hw=>
  obtain ⟨w',wv,k1,k2,k3,k4,k5⟩:=h _ _ _ w (by rw [hri];exact hg) hs hw nb hc λj=>by have:=hG.nd j;unfold act at this;simp only [List.count_append] at this;omega
  have vv:∀ j,act r (a++(w'++c)) wv j<=act r (a++(w++c)) os j:=λj=>by unfold act;simp only [List.count_append];have:=k1 j;omega
  have st:=Jg (F:=F) (H:=H) vv
  have hS:∀ j,w'.count j+wv.count j < w.count j->Ya F r (a++(w'++c)) wv j:=λj hj=>by
   have h6:=hG.nd j;have h7:=(hG.lt j (by unfold act;simp only [List.count_append];omega)).2
   unfold act at h6;simp only [List.count_append] at h6;refine ⟨h7,?_⟩;unfold act;simp only [List.count_append];omega
  obtain ⟨k6,k7⟩:=k5 _ st hS;refine ⟨r,a++(w'++c),wv,hG.L4 vv (λ_ _ h=>h) hG.pq (λj hj=>?_) ?_,k7,hn,⟨Nat.le_refl _,λ_ _ _=>rfl,λj _=>vv j,λ_ _ h=>h⟩,λ_ j _ hj=>⟨hj,rfl⟩,.set λn hn hbn hl=>?_⟩
  ·have h8:wv≠[]:=by intro e;rw [e] at hj;cases hj
   exact h4 (by have:=k2 h8;omega) j (Z8.1 (by have:=k1 j;have:=Z8.2 hj;omega))
  ·refine h5 _ _ _ _ _ st (λ_ _ h=>h) (λ_ _ _ _=>rfl) (λ_ _=>rfl) (λ_ _=>rfl) (.cells hg hs k3 k4 k6) λw7 j hj=>h4 w7 j (Z8.1 (by have:=k1 j;have:=Z8.2 hj;omega))
  ·exact uk n hn hbn (hl b _ hbn hb)
end
end Go.Ev
namespace Go.Ev
section
variable {C:TC} {F:Nat->Prop} {lo Zh base:Nat} {ends:Bool} {H:AH} {r:List Nat} {T:TH} {Oh os:List Nat}
theorem N8 {S:Nat->Prop}:∀ {xs:List TV} {ys:List Value} {o:List Nat},Y3 H S r xs ys o->(∀ x∈xs,Yl x)->xs.any Xs=false->o=[]
 |_,_,_,.nil,_,_=>rfl
 |x::xs,_,_,.cons h t,hc,ha=>by
  rw [List.any_cons,Bool.or_eq_false_iff] at ha;rw [J0 h ha.1 (hc x (List.mem_cons_self ..)),N8 t (λy hy=>hc y (List.mem_cons_of_mem _ hy)) ha.2];rfl
theorem Px {i s off n:Nat} {ds:List Value} {e:TypeId} {ag:Bool} {y:Value} (hg:H.get i=some (.cells s ds e)) (hy:cellAt ag n s ds off=some y):I0 H ag n (.pointer (some ⟨i,off,none⟩))=some y:=by
 show (match H.get i with |some (.cells s cs e)=>cellAt ag n s cs off |_=>none)=_
 rw [hg];exact hy
theorem Zn3 {S:Nat->Prop} {x:TV} {y:Value} {o:List Nat} (h:VR H S r x y o) (hc:Yl x) (hn:NB x) (hr:∀ i∈o,i ∉ r):VR H S r (He x) y []/\OV (He x):=by
 cases ho:Xs x with
 |true=>
  obtain ⟨c,e,n,es,rfl⟩:=Jw ho;exact ⟨Zgr h hr,.inr trivial⟩
 |false=>
  have:=J0 h ho hc;subst this
  have e:He x=x:=by
   cases x with
   |row c q n es=>cases q <;> first |rfl |cases ho
   |_=>rfl
  rw [e];exact ⟨h,.inl hn⟩
theorem Gn.set {n:Nat} {cs:List TV} {i:Nat} {x:TV} (h:Gn n cs) (hx:qz n x):Gn n (cs.set i x):=Gn.of λc hc=>by
 rcases List.mem_or_eq_of_mem_set hc with hc |rfl
 ·exact h.mem c hc
 ·exact hx
theorem Gq.set {cs:List TV} {i:Nat} {x:TV} (h:Gq cs) (hx:NB x):Gq (cs.set i x):=Gq.of λc hc=>by
 rcases List.mem_or_eq_of_mem_set hc with hc |rfl
 ·exact h.mem c hc
 ·exact hx
theorem Zcw {cs:List TV} {i:Nat} {x:TV} (h:∀ c∈cs,Yl c) (hx:Yl x):∀ c∈cs.set i x,Yl c:=λc hc=>by
 rcases List.mem_or_eq_of_mem_set hc with hc |rfl
 ·exact h c hc
 ·exact hx
theorem yn {l:List Value} {i:Nat} {y:Value} (h:l[i]? = some y):l.set i y=l:=by
 apply List.ext_getElem?;intro q;rw [List.getElem?_set];split
 ·rename_i hq;subst hq;rw [h];split
  ·rfl
  ·rename_i hq2;rw [List.getElem?_eq_none (by omega)] at h;cases h
 ·rfl
theorem Dj {α:Type} {l:List α} {i:Nat} {x:α} (h:l[i]? = some x):i < l.length:=by
 rcases Nat.lt_or_ge i l.length with h1 |h1
 ·exact h1
 ·rw [List.getElem?_eq_none h1] at h;cases h
theorem Ux.W7 {b off:Nat} {cs es:List TV} {c:Cp} {e:TypeId} {n:Nat} {ag:Bool} (hG:Good C F lo Zh H r T Oh os) (hb:T[b]? = some (.cells cs)) (hx:cs[off]? = some (.row c (.own e) n es)) (Oc:Zh<=b) (Hl:base<=b) (Cd:base<=T.length) (he:ends=true)
  {i s:Nat} {ds:List Value} {ed:TypeId} {y:Value} (hr:r[b]? = some i) (hg:H.get i=some (.cells s ds ed)) (hy:ds[off]? = some y) :
  Ux C F lo Zh base ends H r T Oh os (.vec T.length 0 es.length (Ub c es.length n) n ag) ((T++[Kc.cells (Qi es)]).set b (.cells (cs.set off (.vec T.length 0 es.length (Ub c es.length n) n ag)))) y H:=by
 subst he;obtain ⟨i',a,w,c2,h1,rfl,h3,h4,h5⟩:=hG.heap.at hb;rw [hr] at h1;cases h1;have hlen:=hG.len;have Pq:=Dj hb;cases h3 with
 |cells hg' hs nb hc hw=>
  rw [hg] at hg';cases hg';obtain ⟨y',u,ox,z,h6,rfl,h8,h9⟩:=hw.get hx;rw [hy] at h6;cases h6;cases h8 with
  |k h=>cases h
  | @own _ _ _ i0 cs0 _ hc0 hu hl hg0 hee hk=>
   have vv:∀ j,act (r++[i0]) (a++(u++([]++z)++c2)++[]) [] j<=act r (a++(u++([i0]++z)++c2)) os j:=λj=>by unfold act;simp only [List.count_append,List.count_nil];omega
   have st:=Jg (F:=F) (H:=H) vv;have pre:∀ (b j:Nat),r[b]? = some j->(r++[i0])[b]? = some j:=λb j hb=>by rw [List.getElem?_append_left (Dj hb)];exact hb
   have iz:(r++[i0])[T.length]? = some i0:=by rw [<- hlen];simp
   have hkl:=hk.length;rw [K5 hee] at hkl;have hv:∀ S,VR H S (r++[i0]) (.vec T.length 0 es.length (Ub c es.length n) n ag) (.slice (some ⟨i0,0,none⟩) es.length (Ub c es.length n)) []:=λS=>.vec iz;have J7:lo<=i0:=h4 (by omega) i0 (by simp)
   have others:Y3 H (Ya F (r++[i0]) (a++(u++([]++z)++c2)++[]) []) (r++[i0]) (cs.set off (.vec T.length 0 es.length (Ub c es.length n) n ag)) ds (u++([]++z)):=by
    have h10:=h9 Zk (.slice (some ⟨i0,0,none⟩) es.length (Ub c es.length n)) [] .Cq;rw [yn hy] at h10;have nbu:Gq (cs.set off Zk):=nb.set (.Xh .nil λc hc=>by cases hc)
    have h11:=h10.Mb st pre nbu λ_ _=>rfl;obtain ⟨y2,u2,o2,z2,k1,k2,k3,k4⟩:=h11.get (i:=off) (x:=Zk) (by rw [List.getElem?_set];simp [Dj hx])
    have:=k4 _ (.slice (some ⟨i0,0,none⟩) es.length (Ub c es.length n)) [] (hv _);rw [yn hy,List.set_set] at this;have jt:∀ j,(u2++([]++z2)).count j<=(u++([]++z)).count j:=λj=>by rw [k2];simp only [List.count_append,List.count_nil];omega
    have e2:o2=[]:=by
     cases k3 with
     |Cq=>rfl
     |k h=>cases h
     |Xh h=>exact Zf5 h
    rw [e2] at k2;rw [<- k2] at this;exact this
   refine ⟨r++[i0],a++(u++([]++z)++c2)++[],[],hG.L4 vv pre (λq j hq hj=>?_) (λj hj=>by cases hj) ?_,hv _,.inl (.vec _ _ _ _ _ _),⟨Nat.le_refl _,λ_ _ _=>rfl,λj _=>vv j,pre⟩,(λh=>by cases h),?_⟩
   ·rcases Nat.lt_or_ge q r.length with h |h
    ·rw [List.getElem?_append_left h] at hj;exact hG.pq q j hq hj
    ·rw [List.getElem?_append_right h] at hj;cases hbb2:q - r.length with
     |zero=>rw [hbb2] at hj;simp at hj;omega
     |succ q=>rw [hbb2] at hj;simp at hj
   ·rw [List.set_append_left _ _ Pq];refine HL.push (.cells hg0 hkl.symm (Gq.of λc hc=>(Yt (hee.closed c hc)).1) (λc hc=>(Yt (hee.closed c hc)).2) (hk.mono st).vrl) (λj hj=>by cases hj) ?_
    have h12:=h5 H (Ya F (r++[i0]) (a++(u++([]++z)++c2)++[]) []) (r++[i0]) (.cells (cs.set off (.vec T.length 0 es.length (Ub c es.length n) n ag))) (u++([]++z)) st pre (λ_ _ _ _=>rfl) (λ_ _=>rfl) (λ_ _=>rfl)
     (.cells hg hs (nb.set (.vec _ _ _ _ _ _)) (Zcw hc trivial) others) λw7 j hj=>h4 w7 j (by simp only [List.nil_append,List.mem_append] at hj ⊢;rcases hj with hj |hj <;> simp [hj])
    exact h12
   ·rw [List.set_append_left _ _ Pq];exact (Mm.set λn hn hbn _=>absurd hbn (by omega)).trans (.append (by rw [List.length_set];exact Cd))
theorem Zjj {m:Ld} {ag:Bool} {n:Nat} {a:TV} {β:Type} {k:TV->TH->Option β} {ρ:β} (h:loadC m Zh base ag n T a k=some ρ) :
  ∃ v T',k v T'=some ρ/\∀ {C:TC} {F:Nat->Prop} {lo:Nat} {H:AH} {r Oh os:List Nat} {ends:Bool} {a':Value} {o:List Nat},Good C F lo Zh H r T Oh os->VR H (Ya F r Oh os) r a a' o->(tz m=true->ends=true)->base<=T.length ->
   ∃ v',I0 H ag n a'=some v'/\Ux C F lo Zh base ends H r T Oh os v T' v' H:=by
 cases a with
 |el q cs off=>
  have elem:∀ {H:AH} {S:Nat->Prop} {r:List Nat} {a':Value} {o:List Nat},VR H S r (.el q cs off) a' o->∃ i o' s ds e,a'=.pointer (some ⟨i,o'+off,none⟩)/\H.get i=some (.cells s ds e)/\ds.length=s/\o'+cs.length<=s/\(∀ c∈cs,Qv c=true)/\W6 H S cs ((ds.drop o').take cs.length):=by
   intro H S r a' o h;cases h with
   |k h=>cases h
   |elS hi hl hg hs hb hc h=>exact ⟨_,_,_,_,_,rfl,hg,hs,hb,hc,h⟩
   |elB hi hl hg hs hb hc h=>exact ⟨_,_,_,_,_,rfl,hg,hs,hb,hc,h⟩
  cases ag with
  |true=>
   obtain ⟨h1,h2⟩:=Zt h;have h1:=Qa h1;rw [Zz] at h1;have h1:off+n<=cs.length:=h1;refine ⟨_,T,h2,λ{C F lo H r Oh os ends a' o} hG ha _ _=>?_⟩;obtain ⟨i,o',s,ds,e,rfl,hg,hs,hb,hc,hk⟩:=elem ha;refine ⟨.agg ⟨P9 ds (o'+off) n⟩,Px hg ?_,.Zs hG (o:=[]) (.k ?_) (.inl ?_) λi=>by simp⟩
   ·show Zp (Nat.ble (o'+off+n) s) _=_;rw [Nat.ble_eq_true_of_le (by omega)];rfl
   ·rw [M4];refine .agg (λc Ow=>hc c (List.mem_of_mem_drop (List.mem_of_mem_take Ow))) ?_;show W6 H _ ((cs.drop off).take n) (P9 ds (o'+off) n);rw [Dz];have:=(hk.drop off).take n
    rwa [List.drop_take,List.take_take,Nat.min_eq_left (by omega),List.drop_drop] at this
   ·rw [M4];exact .agg (Gq.of λc Ow=>(Yt (hc c (List.mem_of_mem_drop (List.mem_of_mem_take Ow)))).1) λc Ow=>(Yt (hc c (List.mem_of_mem_drop (List.mem_of_mem_take Ow)))).2
  |false=>
   obtain ⟨x,h1,h2⟩:=Zj (show Zf (nth cs off) (λx=>k x T)=some ρ from h);rw [Xq] at h1;refine ⟨x,T,h2,λ{C F lo H r Oh os ends a' o} hG ha _ _=>?_⟩;obtain ⟨i,o',s,ds,e,rfl,hg,hs,hb,hc,hk⟩:=elem ha;obtain ⟨y,h3,h4⟩:=hk.get h1;rw [List.getElem?_take,if_pos (Dj h1),List.getElem?_drop] at h3;refine ⟨y,Px hg (by show nth ds (o'+off)=_;rw [Xq];exact h3),.Zs hG (o:=[]) (.k h4) (.inl (Yt (hc x (List.mem_of_getElem? h1))).1) λi=>by simp⟩
 |ptr b off=>
  obtain ⟨cs,hb,hA⟩:=E5 (show Yx T b _=some ρ from h);have Pq:=Dj hb;cases ag with
  |true=>
   obtain ⟨h1,h2⟩:=Zt hA;have h1:=Qa h1;rw [Zz] at h1;have h1:off+n<=cs.length:=h1;have h2:cond (Kk Xs (Vi cs off n)) (k (.agg (Ve V3 (Vi cs off n))) (Kg T b (.cells (Kl cs off (Ve V3 (Vi cs off n)))))) (k (.agg (Vi cs off n)) T)=some ρ:=h2;rw [M4,xz] at h2;obtain ⟨sg,hsg⟩:∃ sg,sg=(cs.drop off).take n:=⟨_,rfl⟩;rw [<- hsg] at h2;have hsl:sg.length=n:=by rw [hsg,List.length_take,List.length_drop];omega
   cases hany:sg.any Xs with
   |false=>
    rw [hany] at h2;refine ⟨_,T,h2,λ{C F lo H r Oh os ends a' o} hG ha _ _=>?_⟩;obtain ⟨i,hr,rfl,_⟩:=M5 ha;obtain ⟨i',s,ds,e,a,w,c,k1,k2,hg,hs,nb,hce,hw,Tm⟩:=hG.Ll hb;rw [hr] at k1;cases k1;obtain ⟨a1,ox,c1,k3,k4,_⟩:=hw.P9 off n h1;rw [<- hsg] at k4;have hce':∀ x∈sg,Yl x:=λx hx=>hce x (by rw [hsg] at hx;exact List.mem_of_mem_drop (List.mem_of_mem_take hx))
    have:=N8 k4 hce' hany;subst this;refine ⟨.agg ⟨P9 ds off n⟩,Px hg ?_,.Zs hG (o:=[]) (.agg ?_) (.inl (.agg ?_ hce')) λi=>by simp⟩
    ·show Zp (Nat.ble (off+n) s) _=_;rw [Nat.ble_eq_true_of_le (by omega)];rfl
    ·show Y3 H _ _ sg (P9 ds off n) [];rw [Dz];exact k4
    ·exact Gq.of λx hx=>nb.mem x (by rw [hsg] at hx;exact List.mem_of_mem_drop (List.mem_of_mem_take hx))
   |true=>
    rw [hany] at h2;refine ⟨_,_,h2,λ{C F lo H r Oh os ends a' o} hG ha _ _=>?_⟩;obtain ⟨i,hr,rfl,_⟩:=M5 ha;obtain ⟨i',s,ds,e,a,w,c,k1,k2,hg,hs,nb,hce,hw,Tm⟩:=hG.Ll hb;rw [hr] at k1;cases k1
    have hov:Kl cs off (Ve V3 sg)=cs.take off++(sg.map V3++cs.drop (off+n)):=by
     rw [J4,Ia _ _ _ (by simp [hsl];omega),List.length_map,hsl]
    have hce':∀ x∈sg,Yl x:=λx hx=>hce x (by rw [hsg] at hx;exact List.mem_of_mem_drop (List.mem_of_mem_take hx))
    have nb':Gq sg:=Gq.of λx hx=>nb.mem x (by rw [hsg] at hx;exact List.mem_of_mem_drop (List.mem_of_mem_take hx))
    refine ⟨.agg ⟨P9 ds off n⟩,Px hg ?_,?_⟩
    ·show Zp (Nat.ble (off+n) s) _=_;rw [Nat.ble_eq_true_of_le (by omega)];rfl
    ·rw [U4 hb,hov,J4]
     have ko:∀ x∈cs.take off++(sg.map V3++cs.drop (off+n)),x∈cs\/∃ y∈sg,x=V3 y:=by
      intro x hx;rcases List.mem_append.1 hx with hx |hx
      ·exact .inl (List.mem_of_mem_take hx)
      ·rcases List.mem_append.1 hx with hx |hx
       ·obtain ⟨y,hy,rfl⟩:=List.mem_map.1 hx;exact .inr ⟨y,hy,rfl⟩
       ·exact .inl (List.mem_of_mem_drop hx)
     refine Ux.told hG hb (λs' ds' e' w' hg' hs' hw' _ _ Th=>?_) (λm hm hbm hl=>Gn.of λx hx=>?_) (.inl (.agg (nb'.map λx=>te) λx hx=>?_))
     ·have hri:r.getD b 0=i:=by rw [List.getD_eq_getElem?_getD,hr];rfl
      rw [hri,hg] at hg';cases hg';obtain ⟨a1,ox,c1,rfl,k4,k5⟩:=hw'.segS off n h1;rw [<- hsg] at k4;have hds:ds.take off++((ds.drop off).take n++ds.drop (off+n))=ds:=by rw [<- List.drop_drop,List.take_append_drop,List.take_append_drop]
      refine ⟨a1++([]++c1),[],λj=>by simp only [List.count_append,List.count_nil];omega,λh=>absurd rfl h,Gq.of λx hx=>?_,λx hx=>?_,λS' st hS=>?_⟩
      ·rcases ko x hx with hx |⟨y,hy,rfl⟩
       ·exact nb.mem x hx
       ·exact te (nb'.mem y hy)
      ·rcases ko x hx with hx |⟨y,hy,rfl⟩
       ·exact hce x hx
       ·exact S4 (hce' y hy)
      ·have Ut:Y3 H S' r (sg.map V3) ((ds.drop off).take n) []:=Hc (p:=Yl) (λx y o a b c=>Pa a b c st) k4 hce' λj hj=>hS j (by
        have h13:=Z8.2 hj;have h14:=Th j;simp only [List.count_append,List.count_nil] at h14 ⊢;omega)
       refine ⟨?_,.agg ?_⟩
       ·have k6:=k5 S' st (sg.map V3) ((ds.drop off).take n) [] Ut
        rwa [hds] at k6
       ·show Y3 H S' r (sg.map V3) (P9 ds off n) [];rw [Dz];exact Ut
     ·rcases ko x hx with hx |⟨y,hy,rfl⟩
      ·exact hl.mem x hx
      ·have hy2:=hl.mem y (by rw [hsg] at hy;exact List.mem_of_mem_drop (List.mem_of_mem_take hy))
       cases ho:Xs y with
       |true=>obtain ⟨_,_,_,_,rfl⟩:=Jw ho;exact .row ..
       |false=>rw [xj ho];exact hy2
     ·obtain ⟨y,hy,rfl⟩:=List.mem_map.1 hx;exact S4 (hce' y hy)
  |false=>
   obtain ⟨x,hx,h2⟩:=Zj (show Zf (nth cs off) (λx=>Mc m Zh base T b cs off x k)=some ρ from hA);rw [Xq] at hx;have hxl:=Dj hx
   have ev:∀ {C:TC} {F:Nat->Prop} {lo:Nat} {H:AH} {r Oh os:List Nat} {a':Value} {o:List Nat},Good C F lo Zh H r T Oh os->VR H (Ya F r Oh os) r (.ptr b off) a' o ->
     ∃ i s ds e y,a'=.pointer (some ⟨i,off,none⟩)/\r[b]? = some i/\H.get i=some (.cells s ds e)/\ds[off]? = some y/\I0 H false n a'=some y:=by
    intro C F lo H r Oh os a' o hG ha;obtain ⟨i,hr,rfl,_⟩:=M5 ha;obtain ⟨i',s,ds,e,a,w,c,k1,k2,hg,hs,nb,hce,hw,Tm⟩:=hG.Ll hb;rw [hr] at k1;cases k1;obtain ⟨y,_,_,_,h3,_⟩:=hw.get hx;exact ⟨i,s,ds,e,y,rfl,hr,hg,h3,Px hg (by show nth ds off=_;rw [Xq];exact h3)⟩
   have hand:∀ {x' z:TV} {C:TC} {F:Nat->Prop} {lo:Nat} {H:AH} {r Oh os:List Nat} {ends:Bool} {a':Value} {o:List Nat} (mv:Bool),(mv=true->Zh<=b)->NB x'->Yl x'->OV z->(∀ n,qz n x->qz n x') ->
     (∀ S S' y ox,VR H S r x y ox->Wb H S H S'->(mv=false->∀ j∈ox,S' j)->VR H S' r x' y []/\VR H S' r z y (cond mv ox [])) ->
     Good C F lo Zh H r T Oh os->VR H (Ya F r Oh os) r (.ptr b off) a' o->∃ v',I0 H false n a'=some v'/\Ux C F lo Zh base ends H r T Oh os z (T.set b (.cells (cs.set off x'))) v' H:=by
    intro x' z C F lo H r Oh os ends a' o mv hmv hnx hcx hnz hbel hrel hG ha;obtain ⟨i,s,ds,e,y,rfl,hr,hg,hy,hev⟩:=ev hG ha;refine ⟨y,hev,Ux.told hG hb (λs' ds' e' w' hg' hs' hw' nb hce Th=>?_) (λm hm hbm hl=>hl.set (hbel m (hl.mem x (List.mem_of_getElem? hx)))) hnz⟩;have hri:r.getD b 0=i:=by rw [List.getD_eq_getElem?_getD,hr];rfl
    rw [hri,hg] at hg';cases hg';obtain ⟨y',a1,ox,c1,k1,rfl,k3,k4⟩:=hw'.getS hx;rw [hy] at k1;cases k1;refine ⟨a1++([]++c1),cond mv ox [],λj=>by cases mv <;> simp only [List.count_append,List.count_nil,cond_true,cond_false] <;> omega,λh=>hmv (by cases mv <;> first |rfl |exact absurd rfl h),nb.set hnx,Zcw hce hcx,λS' st hS=>?_⟩
    obtain ⟨q1,q2⟩:=hrel _ S' y ox k3 st λhm j hj=>hS j (by
     subst hm;have h13:=Z8.2 hj;have h14:=Th j;simp only [List.count_append,List.count_nil,cond_false] at h14 ⊢;omega)
    have h15:=k4 S' st x' y [] q1;rw [yn hy] at h15;exact ⟨h15,q2⟩
   have plain:∀ {z:TV} (hz:z=x\/z=He x) (ho:z=x->Xs x=false) {C:TC} {F:Nat->Prop} {lo:Nat} {H:AH} {r Oh os:List Nat} {ends:Bool} {a':Value} {o:List Nat},Good C F lo Zh H r T Oh os->VR H (Ya F r Oh os) r (.ptr b off) a' o ->
     ∃ v',I0 H false n a'=some v'/\Ux C F lo Zh base ends H r T Oh os z T v' H:=by
    intro z hz ho C F lo H r Oh os ends a' o hG ha;obtain ⟨i,s,ds,e,y,rfl,hr,hg,hy,hev⟩:=ev hG ha;obtain ⟨i',s',ds',e',a,w,c,k1,rfl,hg',hs,nb,hce,hw,Tm⟩:=hG.Ll hb;rw [hr] at k1;cases k1;rw [hg] at hg';cases hg';obtain ⟨y',a1,ox,c1,k1,rfl,k3,_⟩:=hw.get hx;rw [hy] at k1;cases k1;have hcx:=hce x (List.mem_of_getElem? hx);have hnx:=nb.mem x (List.mem_of_getElem? hx);refine ⟨y,hev,?_⟩;rcases hz with rfl |rfl
    ·have:=J0 k3 (ho rfl) hcx;subst this;exact .Zs hG k3 (.inl hnx) λi=>by simp
    ·obtain ⟨q1,q2⟩:=Zn3 k3 hcx hnx λj hj hjr=>by
      have:=(hG.Eb hjr).2.2.2.1;simp only [List.count_append] at this;have:=Z8.2 hj;omega
     exact .Zs hG q1 q2 λi=>by simp
   cases m with
   |Xi=>exact ⟨_,T,h2,λhG ha _ _=>plain (.inr rfl) (λe=>by
     cases ho:Xs x with
     |false=>rfl
     |true=>obtain ⟨_,_,_,_,rfl⟩:=Jw ho;cases e) hG ha⟩
   |take=>
    have h2:cond (Xs x) (Zp (Nat.ble Zh b) (k x (Kg T b (.cells (Kl cs off [Zk]))))) (k x T)=some ρ:=h2;cases ho:Xs x with
    |false=>rw [ho] at h2;exact ⟨_,T,h2,λhG ha _ _=>plain (.inl rfl) (λ_=>ho) hG ha⟩
    |true=>
     rw [ho] at h2;obtain ⟨h3,h4⟩:=Zt h2;rw [U4 hb,Lo _ _ _ hxl] at h4;obtain ⟨c,e,q,es,rfl⟩:=Jw ho;exact ⟨_,_,h4,λhG ha _ _=>hand true (λ_=>Qa h3) (.Xh .nil λc hc=>by cases hc) trivial (.inl (.Wh (by intro h;cases h))) (λn _=>.Xh .nil) (λS S' y ox hv st _=>⟨.Cq,W3 st hv⟩) hG ha⟩
   |settle=>
    have h2:cond (Xs x) (k (V3 x) (Kg T b (.cells (Kl cs off [V3 x])))) (k x T)=some ρ:=h2;cases ho:Xs x with
    |false=>rw [ho] at h2;exact ⟨_,T,h2,λhG ha _ _=>plain (.inl rfl) (λ_=>ho) hG ha⟩
    |true=>
     rw [ho] at h2;have h4:k (V3 x) (Kg T b (.cells (Kl cs off [V3 x])))=some ρ:=h2;rw [U4 hb,Lo _ _ _ hxl] at h4;obtain ⟨c,e,q,es,rfl⟩:=Jw ho;exact ⟨_,_,h4,λhG ha _ _=>hand false (λh=>by cases h) (.Wh (by intro h;cases h)) trivial (.inl (.Wh (by intro h;cases h))) (λn _=>.row ..) (λS S' y ox hv st hS=>⟨.k (xm hv (hS rfl) st),.k (xm hv (hS rfl) st)⟩) hG ha⟩
   |W8 n' ag'=>
    have h2:cond (Xs x) (Zp (Nat.ble Zh b) (Zp (Nat.ble base b) (sj n' ag' x T λy H=>k y (Kg H b (.cells (Kl cs off [y])))))) (k x T)=some ρ:=h2;cases ho:Xs x with
    |false=>rw [ho] at h2;exact ⟨_,T,h2,λhG ha _ _=>plain (.inl rfl) (λ_=>ho) hG ha⟩
    |true=>
     rw [ho] at h2;obtain ⟨h3,h4⟩:=Zt h2;obtain ⟨h5,h6⟩:=Zt h4;obtain ⟨c,e,q,es,rfl⟩:=Jw ho;obtain ⟨h7,h8⟩:=Zt h6;have h7:=Qb h7;subst h7;have ur:(T++[Kc.cells (Qi es)])[b]? = some (.cells cs):=by rw [List.getElem?_append_left Pq];exact hb
     have h8:k (.vec (Zb T) 0 (Zb es) (Ub c (Zb es) q) q ag') (Kg (T++[Kc.cells (Qi es)]) b (.cells (Kl cs off [.vec (Zb T) 0 (Zb es) (Ub c (Zb es) q) q ag'])))=some ρ:=h8;rw [U4 ur,Lo _ _ _ hxl,Zz,Zz] at h8;refine ⟨_,_,h8,λ{C F lo H r Oh os ends a' o} hG ha he Cd=>?_⟩;obtain ⟨i,s,ds,ed,y,rfl,hr,hg,hy,hev⟩:=ev hG ha;exact ⟨y,hev,Ux.W7 hG hb hx (Qa h3) (Qa h5) Cd (he rfl) hr hg hy⟩
 |_=>cases h
theorem we {β:Type} {r:Option (TV×TH)} {k:TV->TH->Option β} {ρ:β} (h:K1 r k=some ρ):∃ p:TV×TH,r=some p/\k p.1 p.2=some ρ:=by
 cases r with
 |none=>cases h
 |some p=>exact ⟨p,rfl,h⟩
theorem ew {m:Ld} {ag:Bool} {n:Nat} {a:TV} {β:Type} {k:TV->TH->Option β} {ρ:β} (h:loadT m Zh base ag n T a k=some ρ) :
  ∃ v T',k v T'=some ρ/\∀ {C:TC} {F:Nat->Prop} {lo:Nat} {H:AH} {r Oh os:List Nat} {ends:Bool} {a':Value} {o:List Nat},Good C F lo Zh H r T Oh os->VR H (Ya F r Oh os) r a a' o->(tz m=true->ends=true)->base<=T.length ->
   ∃ v',I0 H ag n a'=some v'/\Ux C F lo Zh base ends H r T Oh os v T' v' H:=by
 obtain ⟨p,h1,h2⟩:=we h;obtain ⟨v,T',h3,h4⟩:=Zjj h1;cases h3;exact ⟨v,T',h2,h4⟩
end
end Go.Ev
namespace Go.Ev
section
variable {C:TC} {F:Nat->Prop} {lo Zh base:Nat} {ends:Bool} {H:AH} {r:List Nat} {T:TH} {Oh os:List Nat}
theorem Zm5 {ds ws:List Value} {off:Nat} (h:off+ws.length<=ds.length):over ds off ws=ds.take off++(ws++ds.drop (off+ws.length)):=Rl _ _ _ h
theorem Ux.wrote {b i s off:Nat} {cs vs:List TV} {ds ws:List Value} {e:TypeId} {o:List Nat} {v:TV} {v':Value} (hG:Good C F lo Zh H r T Oh os) (hb:T[b]? = some (.cells cs)) (hr:r[b]? = some i) (hg:H.get i=some (.cells s ds e)) (Oc:Zh<=b)
  (Ov:off+vs.length<=cs.length) (hv:Y3 H (Ya F r Oh os) r vs ws o) (hc:∀ j,o.count j<=os.count j) (hnb:Gq vs) (hce:∀ c∈vs,Yl c) (uk:∀ n,n<=base->b < n->Gn n vs)
  (ae:∀ H' S,VR H' S r v v' []) (hn:OV v):Ux C F lo Zh base ends H r T Oh os v (T.set b (.cells (Kl cs off vs))) v' (H.set i (.cells s (over ds off ws) e)):=by
 obtain ⟨i',s',ds',e',a,w,c,k1,k2,hg',hs,nb,hcc,hw,Tm⟩:=hG.Ll hb;rw [hr] at k1;cases k1;rw [hg] at hg';cases hg';have hlv:=hv.length;have hov:Kl cs off vs=cs.take off++(vs++cs.drop (off+vs.length)):=Ia _ _ _ Ov;have how:over ds off ws=ds.take off++(ws++ds.drop (off+vs.length)):=by rw [Zm5 (by omega),hlv]
 have ko:∀ x∈cs.take off++(vs++cs.drop (off+vs.length)),x∈cs\/x∈vs:=by
  intro x hx;rcases List.mem_append.1 hx with hx |hx
  ·exact .inl (List.mem_of_mem_take hx)
  ·rcases List.mem_append.1 hx with hx |hx
   ·exact .inr hx
   ·exact .inl (List.mem_of_mem_drop hx)
 have hir:=hG.Eb (Wz hr);refine Ux.write hG hb hr Oc (λw2 ho hle=>?_) (λn hn hbn hl=>?_) ae hn
 ·cases ho with
  |cells hg2 hs2 nb2 na hw2=>
   rw [hg] at hg2;cases hg2;obtain ⟨a1,ox,c1,rfl,k4,k5⟩:=hw2.P9 off vs.length Ov;refine ⟨a1++(o++c1),λj=>by simp only [List.count_append];have:=hc j;omega,λS st=>?_⟩
   have h1:=k5 vs ws o rfl hv;have h1:Y3 H (Ya F r Oh os) r (cs.take off++(vs++cs.drop (off+vs.length))) (over ds off ws) (a1++(o++c1)):=by rw [how];exact h1
   rw [hov];refine .cells (e:=e) (s:=s) (by rw [AH.D2,if_pos rfl]) ?_ (Gq.of λx hx=>(ko x hx).elim (nb.mem x) (hnb.mem x)) (λx hx=>(ko x hx).elim (hcc x) (hce x)) ?_
   ·rw [<- h1.length,<- Tm];simp only [List.length_append,List.length_take,List.length_drop];omega
   ·refine h1.Mb st (λ_ _ h=>h) (Gq.of λx hx=>(ko x hx).elim (nb.mem x) (hnb.mem x)) λj hj=>?_;rw [AH.D2,if_neg];intro e2;subst e2;have h2:=Z8.2 hj;have h3:=hc j;have h6:=hle j;simp only [List.count_append] at h2 h6;have:=hir.2.2.2.1;have:=hir.2.2.2.2;omega
 ·rw [hov];exact Gn.of λx hx=>(ko x hx).elim ((hl b _ hbn hb:Gn n cs).mem x) ((uk n hn hbn).mem x)
theorem Zdn {n:Nat} {a x:TV} {T':TH} (h:storeT Zh base n T a x=some T') {a' x':Value} {oa ox:List Nat} (hG:Good C F lo Zh H r T Oh os) (ha:VR H (Ya F r Oh os) r a a' oa) (hx:VR H (Ya F r Oh os) r x x' ox) (hv:OV x) (hc:∀ j,ox.count j<=os.count j) :
  ∃ H',Hx lo H n a' x'=some H'/\Ux C F lo Zh base ends H r T Oh os Zk T' undef H':=by
 unfold storeT at h;split at h
 ·rename_i b off;obtain ⟨h1,hA⟩:=Zt h;obtain ⟨h2,hB⟩:=Zt hA;obtain ⟨h3,hC⟩:=Zt hB;obtain ⟨cs,hb,hD⟩:=E5 hC;obtain ⟨h4,hE⟩:=Zt hD;obtain ⟨h5,hF⟩:=Zt hE;cases hF;have h1:=Qa h1;have h4:=Qb h4;have h5:=Qa h5;rw [Zz] at h4 h5;have h5:off+n<=cs.length:=h5;obtain ⟨i,hr,rfl,_⟩:=M5 ha;obtain ⟨i',s,ds,e,a,w,c,k1,k2,hg,hs,nb,hcc,hw,Tm⟩:=hG.Ll hb;rw [hr] at k1;cases k1;obtain ⟨q1,q2,q3⟩:=R3 hx h2;have hl:=q1.length;have J7:=hG.pq b i h1 hr;refine ⟨H.set i (.cells s (over ds off (cellsOf x')) e),?_,?_⟩
  ·show Pv lo H n i off (cellsOf x')=_;unfold Pv Kp;rw [hg];show Zp (Nat.ble lo i) (Zp (Nat.beq (Ix (cellsOf x')) n) (Zp (Nat.ble (off+n) s) (Zp ((cellsOf x').all single) _)))=_;rw [Nat.ble_eq_true_of_le J7,K4,Uj (by omega),Nat.ble_eq_true_of_le (by omega),q2];rfl
  ·rw [U4 hb];refine Ux.wrote hG hb hr hg h1 (by omega) q1 hc (xh h2 hv) (λc hc=>(q3 c hc).1) (λm hm hbm=>?_) (λ_ _=>.Cq) (.inl (.Xh .nil λc hc=>by cases hc))
   have h3:cond (Nat.blt b base) (Oq x) true=true:=h3;rw [show Nat.blt b base=true from by rw [Nat.blt_eq];omega] at h3
   have:∀ c∈Zy x,qz m c:=by
    have hb:=kr (n:=m) h3;cases x with
    |agg cs=>cases hb with
     |agg hb=>exact hb.mem
    |_=>intro c hc;rw [show Zy _=[_] from rfl,List.mem_singleton] at hc;subst hc;exact hb
   exact Gn.of this
 ·cases h
theorem E4 {i:S8} {z:Value} (h:Ts i=some z):zeroOf i=some z/\plain z=true/\∀ l,z≠.tuple l:=by
 obtain ⟨z',h1,h2⟩:=Zj h;obtain ⟨h3,h4⟩:=Zt h2;cases h4;obtain ⟨z2,h5,h6⟩:=Zj (show Zf i.zero (λz=>Zp (plain z) (some z))=some z from h1);obtain ⟨h7,h8⟩:=Zt h6;cases h8;refine ⟨h1,h7,λl e=>?_⟩;subst e;cases h3
theorem Ee {S:Nat->Prop} {z:Value} (hp:plain z=true) (ht:∀ l,z≠.tuple l):W6 H S (Zy (Mq z)) (cellsOf z)/\(∀ c∈Zy (Mq z),Qv c=true):=by
 obtain ⟨h1,h2⟩:=Zd9 (H:=H) (S:=S) hp ht;generalize Mq z=x at h1 h2;cases h1 with
 |agg hc h=>exact ⟨h,hc⟩
 |v h3 h4=>exact ⟨by
   have:cellsOf z=[z]:=by cases z <;> first |rfl |cases h3
   rw [this];exact .cons (.v h3 h4) .nil,λc hc=>by rw [show Zy _=[_] from rfl,List.mem_singleton] at hc;subst hc;rfl⟩
 |nil=>exact ⟨.cons .nil .nil,λc hc=>by rw [show Zy _=[_] from rfl,List.mem_singleton] at hc;subst hc;rfl⟩
 |row a b c d e f g h=>exact ⟨.cons (.row a b c d e f g h) .nil,λc hc=>by rw [show Zy _=[_] from rfl,List.mem_singleton] at hc;subst hc;rfl⟩
 |iface h=>exact ⟨.cons (.iface h) .nil,λc hc=>by rw [show Zy _=[_] from rfl,List.mem_singleton] at hc;subst hc;rfl⟩
 |fn0=>cases h2
theorem Zk7 {e:TypeId} {z:Value} (hp:plain z=true) (ht:∀ l,z≠.tuple l) (hG:Good C F lo Zh H r T Oh os) (hb:base<=T.length) :
  Ux C F lo Zh base ends H r T Oh os (.ptr (Zb T) 0) (Zv T (.cells (Zy (Mq z)))) (Oo H) (Ez H e z):=by
 rw [Zz];show Ux C F lo Zh base ends H r T Oh os _ (T++[_]) _ (H.push (.cells (Ix (cellsOf z)) (cellsOf z) e));refine Ux.box (w:=[]) hG hb (λi=>by simp) (λS r' st _=>?_) (λS r' hr=>.ptr hr) (.inl (.ptr _ _))
 obtain ⟨h1,h2⟩:=Ee (H:=H) (S:=Ya F r Oh os) hp ht;exact .cells (by rw [AH.Yq,if_pos rfl]) (by rw [K4]) (Gq.of λc hc=>(Yt (h2 c hc)).1) (λc hc=>(Yt (h2 c hc)).2) (h1.mono st).vrl
theorem Zsa {e:TypeId} {x:TV} {x':Value} {ox:List Nat} (hs:Yu x=true) (hv:OV x) (hx:VR H (Ya F r Oh os) r x x' ox) (hc:∀ j,ox.count j<=os.count j) (hG:Good C F lo Zh H r T Oh os) (hb:base<=T.length) :
  Ux C F lo Zh base ends H r T Oh os (.ptr (Zb T) 0) (Zv T (.cells (Zy x))) (Oo H) (Ez H e x'):=by
 rw [Zz];show Ux C F lo Zh base ends H r T Oh os _ (T++[_]) _ (H.push (.cells (Ix (cellsOf x')) (cellsOf x') e));obtain ⟨q1,q2,q3⟩:=R3 hx hs;refine Ux.box (w:=ox) hG hb hc (λS r' st pre=>?_) (λS r' hr=>.ptr hr) (.inl (.ptr _ _));refine .cells (by rw [AH.Yq,if_pos rfl]) (by rw [K4]) (xh hs hv) (λc hc=>(q3 c hc).1) (q1.Mb st pre (xh hs hv) λj hj=>?_)
 rw [AH.Yq,if_neg];have:=(hG.mem_x (Z8.1 (Nat.lt_of_lt_of_le (Z8.2 hj) (hc j)))).1;omega
theorem mj {S:Nat->Prop}:∀ {ps:List (Nat×Nat×TV)} {qs:List (Nat×Nat×Value)} {cs out:List TV} {ds:List Value} {o0 o1:List Nat},Zhf ps cs=some out->Y3 H S r cs ds o0->Y3 H S r (ps.map (·.2.2)) (qs.map (·.2.2)) o1->ps.map (λp=>(p.1,p.2.1))=qs.map (λp=>(p.1,p.2.1)) ->
  (∀ p∈ps,OV p.2.2)->Gq cs->(∀ c∈cs,Yl c)->∃ out' o,Er qs ds=some out'/\Y3 H S r out out' o/\(∀ j,o.count j<=o0.count j+o1.count j)/\Gq out/\∀ c∈out,Yl c
 |[],[],cs,out,ds,o0,o1,h,hr,_,_,_,nb,hc=>by cases h;exact ⟨ds,o0,rfl,hr,λj=>by omega,nb,hc⟩
 |[],_::_,_,_,_,_,_,_,_,_,he,_,_,_=>by cases he
 |_::_,[],_,_,_,_,_,_,_,_,he,_,_,_=>by cases he
 |(off,size,x)::ps,(Sb,size',y)::qs,cs,out,ds,o0,o1,h,hr,hv,he,ho,nb,hc=>by
  obtain ⟨h1,hA⟩:=Zt h;obtain ⟨h2,hB⟩:=Zt hA;obtain ⟨h3,h4⟩:=Zt hB;have h2:=Qb h2;have h3:=Qa h3;rw [Zz] at h2 h3;have h3:off+size<=cs.length:=h3;simp only [List.map_cons,List.cons.injEq,Prod.mk.injEq] at he;obtain ⟨⟨e1,e2⟩,he⟩:=he;subst e1 e2;cases hv with
  | @cons _ _ ox _ _ ot hx ht=>
   have hx:VR H S r x y ox:=hx;obtain ⟨q1,q2,q3⟩:=R3 hx h1;have nbx:=xh h1 (ho _ (List.mem_cons_self ..));have hl:=q1.length;have hds:=hr.length;obtain ⟨a1,o2,c1,rfl,k4,k5⟩:=hr.P9 off size h3;have k6:=k5 (Zy x) (cellsOf y) ox h2 q1;have hov:Kl cs off (Zy x)=cs.take off++(Zy x++cs.drop (off+size)):=by rw [Ia _ _ _ (by omega),h2]
   have how:over ds off (cellsOf y)=ds.take off++(cellsOf y++ds.drop (off+size)):=by rw [Rl _ _ _ (by omega),<- hl,h2]
   rw [hov] at h4
   have ko:∀ z∈cs.take off++(Zy x++cs.drop (off+size)),z∈cs\/z∈Zy x:=by
    intro z hz;rcases List.mem_append.1 hz with hz |hz
    ·exact .inl (List.mem_of_mem_take hz)
    ·rcases List.mem_append.1 hz with hz |hz
     ·exact .inr hz
     ·exact .inl (List.mem_of_mem_drop hz)
   obtain ⟨out',o,r1,r2,r3,r4,r5⟩:=mj h4 k6 ht he (λp hp=>ho p (List.mem_cons_of_mem _ hp)) (Gq.of λz hz=>(ko z hz).elim (nb.mem z) (nbx.mem z)) (λz hz=>(ko z hz).elim (hc z) λh=>(q3 z h).1);refine ⟨out',o,?_,r2,λj=>?_,r4,r5⟩
   ·show Zp (Nat.beq (Ix (cellsOf y)) size) (Zp (Nat.ble (off+size) (Ix ds)) (Er qs (over ds off (cellsOf y))))=_;rw [K4,Uj (by omega),K4,Nat.ble_eq_true_of_le (by omega),how];exact r1
   ·have:=r3 j;simp only [List.count_append] at this ⊢;omega
theorem zh {P:Program} {E:Env} {place:Nat->Option (Nat×Nat)}:∀ {parts:List (Nat×Operand)} {xs:List TV} {ys:List Value} {ps:List (Nat×Nat×TV)},A9 place (parts.map (·.1)) xs=some ps->xs.length=parts.length->Kz P E (parts.map (·.2))=some ys ->
  ∃ qs,V4 P E place parts=some qs/\ps.map (·.2.2)=xs/\qs.map (·.2.2)=ys/\ps.map (λp=>(p.1,p.2.1))=qs.map (λp=>(p.1,p.2.1))
 |[],xs,ys,ps,h,hl,he=>by
  have:xs=[]:=List.length_eq_zero_iff.1 hl;subst this;cases h;cases he;exact ⟨[],rfl,rfl,rfl,rfl⟩
 |(i,o)::parts,[],ys,ps,h,hl,he=>by cases hl
 |(i,o)::parts,x::xs,ys,ps,h,hl,he=>by
  obtain ⟨p,h1,hA⟩:=Zj (show Zf (place i) (λp=>Zf (A9 place (parts.map (·.1)) xs) λl=>some ((p.1,p.2,x)::l))=some ps from h)
  obtain ⟨l,h2,h3⟩:=Zj hA;cases h3;obtain ⟨y,h4,hB⟩:=Zj (show Zf (K9 P E o) (λv=>Zf (Kz P E (parts.map (·.2))) λvs=>some (v::vs))=some ys from he);obtain ⟨l2,h5,h6⟩:=Zj hB;cases h6;obtain ⟨qs,k1,k2,k3,k4⟩:=zh h2 (by simpa using hl) h5
  refine ⟨(p.1,p.2,y)::qs,?_,by simp [k2],by simp [k3],by simp [k4]⟩
  show Zf (K9 P E o) (λv=>Zf (place i) λp=>Zf (V4 P E place parts) λvs=>some ((p.1,p.2,v)::vs))=_;rw [h4,Zo,h1,Zo,k1];rfl
theorem Zfk {P:Program} {t:TypeId} {parts:List (Nat×Operand)} {xs:List TV} {β:Type} {k:TV->Option β} {ρ:β} (h:Zfl P t (parts.map (·.1)) xs k=some ρ) (hl:xs.length=parts.length) :
  ∃ v,k v=some ρ/\∀ {E:Env} {H:AH} {S:Nat->Prop} {r:List Nat} {ys:List Value} {o:List Nat},Y3 H S r xs ys o->(∀ x∈xs,OV x)->Kz P E (parts.map (·.2))=some ys ->
   ∃ v' o',(∀ {γ:Type} (k':Value->Option γ),F7 P E t parts k'=k' v')/\VR H S r v v' o'/\(∀ j,o'.count j<=o.count j)/\OV v:=by
 obtain ⟨i,hi,hA⟩:=Zj h;obtain ⟨z,hz,hB⟩:=Zj hA;obtain ⟨z1,z2,z3⟩:=E4 hz
 have key:∀ {place:Nat->Option (Nat×Nat)} {ps:List (Nat×Nat×TV)},A9 place (parts.map (·.1)) xs=some ps->Za (Uk ps (Zy (Mq z))) k=some ρ ->
   ∃ v,k v=some ρ/\∀ {E:Env} {H:AH} {S:Nat->Prop} {r:List Nat} {ys:List Value} {o:List Nat},Y3 H S r xs ys o->(∀ x∈xs,OV x)->Kz P E (parts.map (·.2))=some ys ->
    ∃ v' o',(∀ {γ:Type} (k':Value->Option γ),Zf (V4 P E place parts) (λps=>Za (my ps (cellsOf z)) k')=k' v')/\VR H S r v v' o'/\(∀ j,o'.count j<=o.count j)/\OV v:=by
  intro place ps hps hk;obtain ⟨v,h1,h2⟩:=Z5 hk;obtain ⟨out,h3,h4⟩:=Zj (show Zf (Zhf ps (Zy (Mq z))) (λcs=>some (TV.agg cs))=some v from h1);cases h4;refine ⟨_,h2,λ{E H S r ys o} hx hv he=>?_⟩;obtain ⟨qs,k1,k2,k3,k4⟩:=zh hps hl he;obtain ⟨z4,z5⟩:=Ee (H:=H) (S:=S) z2 z3;obtain ⟨out',o',r1,r2,r3,r4,r5⟩:=mj h3 (z4.vrl (r:=r)) (by rw [k2,k3];exact hx) k4 (λp hp=>hv _ (by rw [<- k2];exact List.mem_map_of_mem hp)) (Gq.of λc hc=>(Yt (z5 c hc)).1) (λc hc=>(Yt (z5 c hc)).2)
  refine ⟨.agg ⟨out'⟩,o',λk'=>?_,.agg r2,λj=>by have:=r3 j;simpa using this,.inl (.agg r4 r5)⟩
  rw [k1,Zo];show Za (Zf (Er qs (cellsOf z)) _) k'=_;rw [r1];rfl
 split at hB
 ·rename_i fs hd;obtain ⟨h1,hC⟩:=Zt hB;obtain ⟨ps,hps,hk⟩:=Zj hC;obtain ⟨v,q1,q2⟩:=key hps hk;refine ⟨v,q1,λ{E H S r ys o} hx hv he=>?_⟩;obtain ⟨v',o',p1,p2,p3,p4⟩:=q2 hx hv he;refine ⟨v',o',λk'=>?_,p2,p3,p4⟩;show Zf (Y7 P t) _=_;rw [hi,Zo,z1,Zo,hd];show Zp (fs.toList.all λf=>(Y7 P f.type).isSome) (Zf (V4 P E (Jb P fs.toList) parts) λps=>Za (my ps (cellsOf z)) k')=_;rw [h1];exact p1 k'
 ·rename_i n e hd;obtain ⟨j,hj,hC⟩:=Zj hB;obtain ⟨ps,hps,hk⟩:=Zj hC;obtain ⟨v,q1,q2⟩:=key hps hk;refine ⟨v,q1,λ{E H S r ys o} hx hv he=>?_⟩;obtain ⟨v',o',p1,p2,p3,p4⟩:=q2 hx hv he;refine ⟨v',o',λk'=>?_,p2,p3,p4⟩;show Zf (Y7 P t) _=_;rw [hi,Zo,z1,Zo,hd];show Zf (Y7 P e) _=_;rw [hj];exact p1 k'
 ·cases hB
end
end Go.Ev
namespace Go.Ev
section
variable {H:AH} {S:Nat->Prop} {r:List Nat}
theorem vw {x:TV} {y:Value} {o:List Nat} (hc:Qv x=true) (h:VR H S r x y o):KR H S x y/\o=[]:=by
 cases x with
 |v a=>obtain ⟨rfl,h1,h2,h3⟩:=V0 h;exact ⟨.v h1 h2,h3⟩
 |row c q n es=>cases q with
  |set=>
   cases h with
   |k h=>exact ⟨h,rfl⟩
  |_=>cases hc
 |iface t x=>obtain ⟨z,rfl,h1,h2⟩:=Lt h;exact ⟨.iface h1,h2⟩
 |_=>cases hc
theorem Mk:∀ {xs:List TV} {ys:List Value} {o:List Nat},(∀ c∈xs,Qv c=true)->Y3 H S r xs ys o->W6 H S xs ys/\o=[]
 |_,_,_,_,.nil=>⟨.nil,rfl⟩
 |x::xs,_,_,hc,.cons h t=>by
  obtain ⟨h1,rfl⟩:=vw (hc x (List.mem_cons_self ..)) h;obtain ⟨h2,rfl⟩:=Mk (λc hx=>hc c (List.mem_cons_of_mem _ hx)) t;exact ⟨.cons h1 h2,rfl⟩
theorem Nj {x:TV} (h:closed x=true):(∃ cs,x=.agg cs/\∀ c∈cs,Qv c=true)\/(Qv x=true/\Zy x=[x]):=by
 cases x with
 |agg cs=>
  have h:Z2 Qv cs=true:=h;rw [Ye,List.all_eq_true] at h;exact .inl ⟨cs,rfl,h⟩
 |_=>exact .inr ⟨h,rfl⟩
theorem S3 {x:TV} {y:Value} {o:List Nat} (hc:closed x=true) (h:VR H S r x y o):KR H S x y/\o=[]:=by
 rcases Nj hc with ⟨cs,rfl,na⟩ |⟨na,_⟩
 ·obtain ⟨ds,rfl,h1⟩:=E0 h;obtain ⟨h2,h3⟩:=Mk na h1;exact ⟨.agg na h2,h3⟩
 ·exact vw na h
theorem Ni {x:TV} (hc:closed x=true):∀ c∈Zy x,Qv c=true:=by
 rcases Nj hc with ⟨cs,rfl,na⟩ |⟨na,e⟩
 ·exact na
 ·intro c h;rw [e,List.mem_singleton] at h;subst h;exact na
theorem Zct {x:TV} (hc:closed x=true):Yu x=true:=by
 have one:∀ {x:TV},Qv x=true->Vj x=true:=λ{x} h=>by
  cases x with
  |row c q n es=>cases q <;> first |rfl |cases h
  |_=>first |rfl |cases h
 cases x with
 |agg cs=>
  have hc:Z2 Qv cs=true:=hc;show Z2 Vj cs=true;rw [Ye,List.all_eq_true] at hc ⊢;exact λc h=>one (hc c h)
 |v a=>exact one (x:=.v a) hc
 |row c q n es=>exact one (x:=.row c q n es) hc
 |iface t y=>exact one (x:=.iface t y) hc
 |_=>cases hc
theorem Zn9 {x:TV} {y:Value} (hc:closed x=true) (h:KR H S x y):W6 H S (Zy x) (cellsOf y):=by
 obtain ⟨q1,_,_⟩:=R3 (r:=[]) (.k h) (Zct hc);exact (Mk (Ni hc) q1).1
theorem Zkb {n:Nat} {es:List TV} {i:Nat} {x:TV} (he:Um n es) (hi:i < es.length):Qi (es.set i x)=(Qi es).take (i * n)++(Zy x++(Qi es).drop (i * n+n)):=by
 rw [List.set_eq_take_append_cons_drop,if_pos hi,U9,Jy,Fc i he,show i * n+n=(i+1) * n by rw [Nat.succ_mul],Ru (i+1) he]
theorem Um.set {n:Nat} {es:List TV} {i:Nat} {x:TV} (he:Um n es) (hx:(Zy x).length=n/\∀ c∈Zy x,Qv c=true):Um n (es.set i x):=λy hy=>by
 rcases List.mem_or_eq_of_mem_set hy with hy |rfl
 ·exact he y hy
 ·exact hx
theorem vg {P:Program} {E:Env} {n:Nat}:∀ {parts:List (Nat×Operand)} {xs es out:List TV} {ys ds:List Value} {o:List Nat},Yf n (parts.map (·.1)) xs es=some out->xs.length=parts.length->Kz P E (parts.map (·.2))=some ys->Y3 H S r xs ys o->Um n es->W6 H S (Qi es) ds ->
  ∃ qs ds',V4 P E (λj=>some (Nat.mul j n,n)) parts=some qs/\Er qs ds=some ds'/\W6 H S (Qi out) ds'/\Um n out/\out.length=es.length
 |[],xs,es,out,ys,ds,o,h,hl,he,hr,hE,hk=>by
  have:xs=[]:=List.length_eq_zero_iff.1 hl;subst this;cases h;exact ⟨[],ds,rfl,rfl,hk,hE,rfl⟩
 |(i,x0)::parts,[],es,out,ys,ds,o,h,hl,he,hr,hE,hk=>by cases hl
 |(i,x0)::parts,x::xs,es,out,ys,ds,o,h,hl,he,hr,hE,hk=>by
  obtain ⟨h1,hA⟩:=Zt (show Zp (closed x) (Zp (Nat.beq (Zb (Zy x)) n) (Zp (Nat.blt i (Zb es)) (Yf n (parts.map (·.1)) xs (Kl es i [x]))))=some out from h)
  obtain ⟨h2,hB⟩:=Zt hA;obtain ⟨h3,h4⟩:=Zt hB;have h2:=Qb h2;rw [Zz] at h2;rw [Nat.blt_eq,Zz] at h3;rw [Lo _ _ _ h3] at h4;obtain ⟨y,h5,hC⟩:=Zj (show Zf (K9 P E x0) (λv=>Zf (Kz P E (parts.map (·.2))) λvs=>some (v::vs))=some ys from he);obtain ⟨l2,h6,h7⟩:=Zj hC;cases h7;cases hr with
  |cons hx ht=>
   obtain ⟨k1,_⟩:=S3 h1 hx;have k2:=Zn9 h1 k1;have ld:=k2.length;have hdl:=hk.length;rw [K5 hE] at hdl
   have Ov:i * n+n<=es.length * n:=by
    have:=Nat.mul_le_mul_right n (show i+1<=es.length by omega)
    rw [Nat.succ_mul] at this;exact this
   have hkr:W6 H S (Qi (es.set i x)) (over ds (i * n) (cellsOf y)):=by
    rw [Zkb hE h3,Rl _ _ _ (by omega),<- ld,h2]
    exact (hk.take _).append (k2.append (hk.drop _))
   obtain ⟨qs,ds',r1,r2,r3,r4,r5⟩:=vg h4 (by simpa using hl) h6 ht (hE.set ⟨h2,Ni h1⟩) hkr
   refine ⟨(i * n,n,y)::qs,ds',?_,?_,r3,r4,by rw [r5,List.length_set]⟩
   ·show Zf (K9 P E x0) (λv=>Zf (some (Nat.mul i n,n)) λp=>Zf (V4 P E _ parts) λvs=>some ((p.1,p.2,v)::vs))=_;rw [h5,Zo,Zo,r1];rfl
   ·show Zp (Nat.beq (Ix (cellsOf y)) n) (Zp (Nat.ble (i * n+n) (Ix ds)) (Er qs (over ds (i * n) (cellsOf y))))=_;rw [K4,Uj (by omega),K4,Nat.ble_eq_true_of_le (by omega)];exact r2
theorem A0 {α:Type} (z:List α) (n:Nat):Y5 z (n+1)=z++Y5 z n:=rfl
theorem Di {α:Type} (z:List α) (n:Nat):(Y5 z n).length=n * z.length:=by
 induction n with
 |zero=>rw [Nat.zero_mul];rfl
 |succ n ih=>rw [A0,List.length_append,ih,Nat.succ_mul];omega
theorem Pm {α:Type} {z:List α} {n:Nat} {x:α} (h:x∈Y5 z n):x∈z:=by
 induction n with
 |zero=>cases h
 |succ n ih=>
  rw [A0] at h;exact (List.mem_append.1 h).elim id ih
theorem At {z:Value} (hp:plain z=true) (ht:∀ l,z≠.tuple l) (n:Nat):W6 H S (Y5 (Zy (Mq z)) n) (Vs (cellsOf z) n)/\Qi (Y5 [Mq z] n)=Y5 (Zy (Mq z)) n:=by
 obtain ⟨h1,h2⟩:=Ee (H:=H) (S:=S) hp ht
 induction n with
 |zero=>exact ⟨.nil,rfl⟩
 |succ n ih=>
  refine ⟨h1.append ih.1,?_⟩;rw [A0,A0,U9,ih.2,Jy,U8,List.append_nil]
theorem x4 {z:Value} {n:Nat} (hp:plain z=true) (ht:∀ l,z≠.tuple l) (hn:(cellsOf z).length=n) (m:Nat):Um n (Y5 [Mq z] m):=λx hx=>by
 have:=Pm hx;rw [List.mem_singleton] at this;subst this;obtain ⟨h1,h2⟩:=Ee (H:=⟨0,.leaf⟩) (S:=λ_=>False) hp ht;exact ⟨by rw [h1.length,hn],h2⟩
end
section
variable {C:TC} {F:Nat->Prop} {lo Zh base:Nat} {ends:Bool} {H:AH} {r:List Nat} {T:TH} {Oh os:List Nat}
theorem Zn0 {P:Program} {t:TypeId} {len:Nat} {parts:List (Nat×Operand)} {xs:List TV} {β:Type} {k:TV->Option β} {ρ:β} (h:litT P t len (parts.map (·.1)) xs k=some ρ) (hl:xs.length=parts.length) :
  ∃ v,k v=some ρ/\∀ {E:Env} {C:TC} {F:Nat->Prop} {lo:Nat} {H:AH} {r Oh os:List Nat} {ends:Bool} {ys:List Value} {o:List Nat},Good C F lo Zh H r T Oh os->Y3 H (Ya F r Oh os) r xs ys o->Kz P E (parts.map (·.2))=some ys ->
   ∃ v' H',(∀ {γ:Type} (k':Value->AH->Option γ),D0 P E H t len parts k'=k' v' H')/\Ux C F lo Zh base ends H r T Oh os v T v' H':=by
 obtain ⟨e,he,hA⟩:=Zj h;obtain ⟨i,hi,hB⟩:=Zj hA;obtain ⟨z,hz,hC⟩:=Zj hB;obtain ⟨h1,hD⟩:=Zt hC;obtain ⟨h2,hE⟩:=Zt hD;obtain ⟨h3,hF⟩:=Zt hE;obtain ⟨es,h4,h5⟩:=Z5 hF;obtain ⟨z1,z2,z3⟩:=E4 hz;have h3':=Qb h3;rw [K4] at h3';refine ⟨_,h5,λ{E C F lo H r Oh os ends ys o} hG hx he'=>?_⟩;obtain ⟨zr1,zr2⟩:=At (H:=H) (S:=Ya F r Oh os) z2 z3 len;obtain ⟨qs,ds',r1,r2,r3,r4,r5⟩:=vg h4 hl he' hx (x4 z2 z3 h3' len) (by rw [zr2];exact zr1)
 rw [Di] at r5;have r5:es.length=len:=by simpa using r5
 refine ⟨Yi H len len,H.push (.cells (Nat.mul len i.size) ds' e),λk'=>?_,?_⟩
 ·show Zf (G8 P t) _=_;rw [he,Zo,hi,Zo,z1,Zo,h1,Yw,h2,Yw,h3,Yw,r1,Zo,r2];rfl
 ·refine Ux.row hG (λS r' st=>?_) (.inl (.Wh (by intro h;cases h)))
  have:=VR.own (H:=H.push (.cells (Nat.mul len i.size) ds' e)) (S:=S) (r:=r') (c:=.full) (n:=i.size) (es:=es) (i:=H.next) (cs:=ds') (e:=e) (by intro h;cases h) (by rw [r5];rwa [Nat.blt_eq] at h1) (by simp)
   (by rw [AH.Yq,if_pos rfl,r5];rfl) r4 (r3.mono st)
  rw [r5] at this;exact this
theorem Zjc {P:Program} {t:TypeId} {len cap:TV} {β:Type} {k:TV->TH->Option β} {ρ:β} (h:Zns P T t len cap k=some ρ) :
  ∃ v T',k v T'=some ρ/\∀ {C:TC} {F:Nat->Prop} {lo:Nat} {H:AH} {r Oh os:List Nat} {ends:Bool} {l' c':Value} {o o':List Nat},Good C F lo Zh H r T Oh os->VR H (Ya F r Oh os) r len l' o->VR H (Ya F r Oh os) r cap c' o'->base<=T.length ->
   ∃ v' H',(∀ {γ:Type} (k':Value->AH->Option γ),M6 P H t l' c' k'=k' v' H')/\Ux C F lo Zh base ends H r T Oh os v T' v' H':=by
 obtain ⟨e,he,hA⟩:=Zj h;obtain ⟨i,hi,hB⟩:=Zj hA;obtain ⟨z,hz,hC⟩:=Zj hB;obtain ⟨h1,hD⟩:=Zt hC;obtain ⟨l,hl,hE⟩:=Zj hD;obtain ⟨c,hc,hF⟩:=Zj hE;obtain ⟨p,hp,hk⟩:=Z5 hF;obtain ⟨z1,z2,z3⟩:=E4 hz;refine ⟨_,_,hk,λ{C F lo H r Oh os ends l' c' o o'} hG So Ow hb=>?_⟩;have e1:=Cr hl So;have e2:=Cr hc Ow;subst e1 e2;refine ⟨Yi H p.1 p.2,H.push (.cells (Nat.mul p.2 i.size) (Vs (cellsOf z) p.2) e),λk'=>?_,?_⟩
 ·show Zf (G8 P t) _=_;rw [he,Zo,hi,Zo,z1,Zo,h1,Yw,hp];rfl
 ·rw [Zz];obtain ⟨zr1,_⟩:=At (H:=H) (S:=Ya F r Oh os) z2 z3 p.2;obtain ⟨_,zc⟩:=Ee (H:=H) (S:=Ya F r Oh os) z2 z3;have h1':=Qb h1;rw [K4] at h1';refine Ux.box (w:=[]) hG hb (λi=>by simp) (λS r' st _=>.cells (by rw [AH.Yq,if_pos rfl]) (by rw [U6,h1'];rfl) (Gq.of λc hc=>(Yt (zc c (Pm hc))).1) (λc hc=>(Yt (zc c (Pm hc))).2) (zr1.mono st).vrl) (λS r' hr=>.vec hr) (.inl (.vec _ _ _ _ _ _))
end
section
variable {H:AH} {S:Nat->Prop} {r:List Nat}
theorem ym {x v:TV} {d:Nat} (h:Zw x d=some v) {y:Value} {o:List Nat} (hx:VR H S r x y o):∃ y',Zhj y d=some y'/\VR H S r v y' []/\OV v/\o=[]:=by
 unfold Zw at h;split at h
 ·cases h;obtain ⟨i,hr,rfl,e⟩:=M5 hx;exact ⟨_,rfl,.ptr hr,.inl (.ptr _ _),e⟩
 ·rename_i q cs off;cases h;cases hx with
  |k h=>cases h
  | @elS _ i o _ s ds e hi hl hg hs hb hc h=>exact ⟨.pointer (some ⟨i,o+(off+d),none⟩),by show some (Value.pointer (some ⟨i,o+off+d,none⟩))=_;rw [Nat.add_assoc],.elS hi hl hg hs hb hc h,.inl .el,rfl⟩
  | @elB _ i o _ s ds e hi hl hg hs hb hc h=>exact ⟨.pointer (some ⟨i,o+(off+d),none⟩),by show some (Value.pointer (some ⟨i,o+off+d,none⟩))=_;rw [Nat.add_assoc],.elB hi hl hg hs hb hc h,.inr trivial,rfl⟩
 ·cases h
theorem dm {ag:Bool} {n off:Nat} {x v:TV} (h:yv ag n x off=some v) {y:Value} (hx:VR H S r x y []) (hv:OV x):∃ y',Fe ag n y off=some y'/\VR H S r v y' []/\OV v:=by
 unfold yv at h;split at h
 ·rename_i cs;obtain ⟨ds,rfl,h1⟩:=E0 hx;have hn:NB (.agg cs):=hv.elim id λh=>h.elim;have hl:=h1.length;cases hn with
  |agg nb hc=>
   cases ag with
   |true=>
    obtain ⟨h2,h3⟩:=Zt h;cases h3;have h2:=Qa h2;rw [Zz] at h2;have h2:off+n<=cs.length:=h2;obtain ⟨a,ox,c,k1,k2,_⟩:=h1.P9 off n h2
    have hox:ox=[]:=by
     have:=congrArg List.length k1;simp at this;exact List.length_eq_zero_iff.1 (by omega)
    subst hox;refine ⟨.agg ⟨P9 ds.toList off n⟩,?_,?_,?_⟩
    ·show Zp (Nat.ble (off+n) (Ix ds.toList)) _=_;rw [K4,Nat.ble_eq_true_of_le (by omega)];rfl
    ·refine .agg ?_;show Y3 H S r (Vi cs off n) (P9 ds.toList off n) [];rw [M4,Dz];exact k2
    ·rw [M4];exact .inl (.agg (Gq.of λc Ow=>nb.mem c (List.mem_of_mem_drop (List.mem_of_mem_take Ow))) λc Ow=>hc c (List.mem_of_mem_drop (List.mem_of_mem_take Ow)))
   |false=>
    have h:nth cs off=some v:=h;rw [Xq] at h;obtain ⟨y,a,ox,c,k1,k2,k3,_⟩:=h1.get h
    have hox:ox=[]:=by
     have:=congrArg List.length k2;simp at this;exact List.length_eq_zero_iff.1 (by omega)
    subst hox;exact ⟨y,by show nth ds.toList off=_;rw [Xq];exact k1,k3,.inl (nb.mem v (List.mem_of_getElem? h))⟩
 ·cases h
theorem ss {c:Cp} {q:Lf} {n:Nat} {es:List TV} {y:Value} {o:List Nat} (h:VR H S r (.row c q n es) y o) (ho:∀ j∈o,j ∉ r) (hc:c≠.nil) :
  ∃ i off cap s cs e,y=.slice (some ⟨i,off,none⟩) es.length cap/\Ci c cap es.length n/\i < H.next/\H.get i=some (.cells s cs e)/\cs.length=s/\off+es.length * n<=s/\Um n es/\W6 H S (Qi es) ((cs.drop off).take (es.length * n)) /\
   (match vh q with |.set=>S i |_=>i ∉ r):=by
 cases h with
 |k h=>cases h with
  |nil=>exact absurd rfl hc
  |row h1 h2 h3 h4 h5 h6 h7 h8=>exact ⟨_,_,_,_,_,_,rfl,h1,h3,h4,h5,h6,h7,h8,h2⟩
 |D7 h1 h2 h3 h4 h5 h6 h7 h8=>exact ⟨_,_,_,_,_,_,rfl,h1,h3,h4,h5,h6,h7,h8,h2⟩
 |own h1 h2 h3 h4 h5 h6=>
  have h7:=h6.length;rw [K5 h5] at h7;exact ⟨_,0,_,_,_,_,rfl,R4 h1 h2,h3,h4,h7.symm,by omega,h5,by rw [List.drop_zero,List.take_of_length_le (by omega)];exact h6,ho _ (List.mem_singleton.2 rfl)⟩
theorem Zdx {c:Cp} {q:Lf} {n:Nat} {es:List TV} {i off cap s:Nat} {cs:List Value} {e:TypeId} (hc:Ci c cap es.length n) (hl:i < H.next) (hg:H.get i=some (.cells s cs e)) (hs:cs.length=s) (hb:off+es.length * n<=s) (he:Um n es)
  (h:W6 H S (Qi es) ((cs.drop off).take (es.length * n))) (hq:match vh q with |.set=>S i |_=>i ∉ r):VR H S r (.row c (vh q) n es) (.slice (some ⟨i,off,none⟩) es.length cap) []/\OV (.row c (vh q) n es):=by
 cases q with
 |set=>exact ⟨.k (.row hc hq hl hg hs hb he h),.inl (.Wh (by intro h;cases h))⟩
 |D7=>exact ⟨.D7 hc hq hl hg hs hb he h,.inr trivial⟩
 |own e=>exact ⟨.D7 hc hq hl hg hs hb he h,.inr trivial⟩
theorem Zeu {n:Nat} {x ix v:TV} (h:Qh n x ix=some v) {y iy:Value} {o o':List Nat} (hx:VR H S r x y o) (ho:∀ j∈o,j ∉ r) (hi:VR H S r ix iy o'):∃ y',Db n y iy=some y'/\VR H S r v y' []/\OV v:=by
 obtain ⟨j,hj,hA⟩:=Zj h;obtain ⟨a,rfl,ha⟩:=De hj;obtain ⟨rfl,_⟩:=V0 hi;split at hA
 ·rename_i c q m es;obtain ⟨e,h1,hB⟩:=Zj hA;obtain ⟨h2,h3⟩:=Zt hB;cases h3;have h2:=Qb h2;subst h2;rw [Xq] at h1;have hjl:=Dj h1
  have hc:c≠.nil:=by
   intro hc;subst hc;rcases Ud hx with ⟨_,_,_,rfl,_⟩ |⟨h,_⟩
   ·simp at hjl
   ·exact h rfl
  obtain ⟨i,off,cap,s,cs,e',rfl,k1,k2,k3,k4,k5,k6,k7,k8⟩:=ss hx ho hc;have Tm:=(k6 e (List.mem_of_getElem? h1)).1
  have Ov:j * m+m<=es.length * m:=by
   have:=Nat.mul_le_mul_right m (show j+1<=es.length by omega)
   rw [Nat.succ_mul] at this;exact this
  have hk:W6 H S (Zy e) ((cs.drop (off+j * m)).take (Zy e).length):=by
   have:=(k7.drop (j * m)).take m;rw [Zo6 k6 h1,List.drop_take,List.take_take,Nat.min_eq_left (by omega),List.drop_drop] at this
   rw [Tm];exact this
  refine ⟨.pointer (some ⟨i,off+j * m+0,none⟩),?_,?_⟩
  ·show Zf (asNat _) _=_;rw [ha,Zo];show Zp (Nat.blt j es.length) _=_;rw [show Nat.blt j es.length=true from by rw [Nat.blt_eq];exact hjl];rfl
  ·cases q with
   |set=>exact ⟨.elS k8 k2 k3 k4 (by omega) (k6 e (List.mem_of_getElem? h1)).2 hk,.inl .el⟩
   |D7=>exact ⟨.elB k8 k2 k3 k4 (by omega) (k6 e (List.mem_of_getElem? h1)).2 hk,.inr trivial⟩
   |own e2=>exact ⟨.elB k8 k2 k3 k4 (by omega) (k6 e (List.mem_of_getElem? h1)).2 hk,.inr trivial⟩
 ·rename_i b off len cap m ag;obtain ⟨h2,hB⟩:=Zt hA;obtain ⟨h3,h4⟩:=Zt hB;cases h4;have h2:=Qb h2;subst h2;obtain ⟨i,hr,rfl,_⟩:=U1 hx;refine ⟨.pointer (some ⟨i,off+j * m,none⟩),?_,.ptr hr,.inl (.ptr _ _)⟩;show Zf (asNat _) _=_;rw [ha,Zo];show Zp (Nat.blt j len) _=_;rw [h3];rfl
 ·cases hA
theorem Zbn {len n:Nat} {x ix v:TV} (h:Qt len n x ix=some v) {y iy:Value} {o o':List Nat} (hx:VR H S r x y o) (hi:VR H S r ix iy o'):∃ y',Nb len n y iy=some y'/\VR H S r v y' []/\OV v:=by
 obtain ⟨j,hj,hA⟩:=Zj h;obtain ⟨a,rfl,ha⟩:=De hj;obtain ⟨rfl,_⟩:=V0 hi;obtain ⟨h1,h2⟩:=Zt hA;obtain ⟨y',h3,h4,h5,_⟩:=ym h2 hx;refine ⟨y',?_,h4,h5⟩;unfold Nb;rw [ha,Zo];have h3:Mx y (λi off=>some (.pointer (some ⟨i,Nat.add off (Nat.mul j n),none⟩)))=some y':=h3;obtain ⟨i,off,rfl,h6⟩:=G6 h3;show Zp (Nat.blt j len) _=_;rw [h1];exact h6
inductive BR (H:AH) (S:Nat->Prop) (r:List Nat):Option TV->Option Value->Prop where
 |Zqb:BR H S r none none
 |given {x:TV} {y:Value} {o:List Nat} (h:VR H S r x y o):BR H S r (some x) (some y)
theorem BR.I3 {x:Option TV} {y:Option Value} (h:BR H S r x y) {d n:Nat} (hn:wa x d=some n):I3 y d=some n:=by
 cases h with
 |Zqb=>exact hn
 |given h=>
  obtain ⟨a,rfl,ha⟩:=De (show Ap _=some n from hn);obtain ⟨rfl,_⟩:=V0 h;exact ha
theorem BR.isNone {x:Option TV} {y:Option Value} (h:BR H S r x y):y.isNone=x.isNone/\y.isSome=x.isSome:=by cases h <;> exact ⟨rfl,rfl⟩
theorem Sz {len cap:Nat} {lo hi mx:Option TV} {p:Nat×Nat×Nat} (h:vl len cap lo hi mx=some p) {Dv Mh Ma:Option Value} (hl:BR H S r lo Dv) (hh:BR H S r hi Mh) (hm:BR H S r mx Ma):Vb len cap Dv Mh Ma=some p:=by
 obtain ⟨l,h1,hA⟩:=Zj h;obtain ⟨h0,h2,hB⟩:=Zj hA;obtain ⟨m,h3,hC⟩:=Zj hB;unfold Vb;rw [hl.I3 h1,Zo,hh.I3 h2,Zo,hm.I3 h3,Zo,hm.isNone.1,hh.isNone.2];exact hC
theorem Zpq {n:Nat} {x v:TV} {lo hi mx:Option TV} (h:Ao n x lo hi mx=some v) {y:Value} {o:List Nat} {Dv Mh Ma:Option Value} (hx:VR H S r x y o) (ho:∀ j∈o,j ∉ r) (hl:BR H S r lo Dv) (hh:BR H S r hi Mh) (hm:BR H S r mx Ma) :
  ∃ y',mr n y Dv Mh Ma=some y'/\VR H S r v y' []/\OV v:=by
 unfold Ao at h;split at h
 ·rename_i c q m es;cases hc:Ot c with
  |true=>
   rw [hc] at h;obtain ⟨p,h1,h2⟩:=Zj (show Zf (vl 0 0 lo hi mx) (λ_=>some Xp)=some v from h);cases h2;have hcn:c=.nil:=by cases c <;> first |rfl |cases hc
   subst hcn;rcases Ud hx with ⟨_,_,_,_,rfl,_⟩ |⟨h,_⟩
   ·refine ⟨.slice none 0 0,?_,.k .nil,.inl (.Wh (by intro h;cases h))⟩
    show Zf (Vb 0 0 Dv Mh Ma) _=_;rw [Sz h1 hl hh hm];rfl
   ·exact absurd rfl h
  |false=>
   rw [hc] at h;have hcn:c≠.nil:=by intro e;subst e;cases hc
   obtain ⟨h0,hA⟩:=Zt (show Zp (Nat.beq m n) _=some v from h);have h0:=Qb h0;subst h0;obtain ⟨l,h1,hB⟩:=Zj hA;obtain ⟨h',h2,hC⟩:=Zj hB;obtain ⟨h3,hD⟩:=Zt hC;obtain ⟨h4,hE⟩:=Zt hD;obtain ⟨h5,hF⟩:=Zt hE;have h3:=Qa h3;have h4:=Qa h4;rw [Zz] at h2 h4 h5;rw [Nat.blt_eq] at h5;obtain ⟨i,off,cap,s,cs,e',rfl,k1,k2,k3,k4,k5,k6,k7,k8⟩:=ss hx ho hcn;obtain ⟨Ed,hes⟩:∃ Ed,Ed=(es.drop l).take (h' - l):=⟨_,rfl⟩;have J8:Ed.length=h' - l:=by rw [hes,List.length_take,List.length_drop];omega
   have he':Um m Ed:=λx hx=>k6 x (by rw [hes] at hx;exact List.mem_of_mem_drop (List.mem_of_mem_take hx))
   have hmul:l * m+(h' - l) * m=h' * m:=by rw [<- Nat.add_mul];congr 1;omega
   have hle:h' * m<=es.length * m:=Nat.mul_le_mul_right _ h4
   have hk:∀ Sb,(Sb=off+l * m\/h'=l)->Sb<=off+l * m->W6 H S (Qi Ed) ((cs.drop Sb).take (Ed.length * m)):=by
    intro Sb jm _;rcases jm with rfl |e2
    ·have:=(k7.drop (l * m)).take ((h' - l) * m);rw [Ru l k6,Fc (h' - l) (λx hx=>k6 x (List.mem_of_mem_drop hx)),<- hes,List.drop_take,List.take_take,Nat.min_eq_left (by omega),List.drop_drop] at this
     rw [J8];exact this
    ·have:Ed=[]:=List.length_eq_zero_iff.1 (by omega)
     rw [this];simp [U8];exact .nil
   have known:∀ (c':Cp) (mx2:Option Value) (m' cap2:Nat),cond (Nat.ble Xk cap) es.length cap=cap2->cond (Nat.ble Xk cap) mx2.isNone false=false->I3 mx2 cap2=some m'->cond mx2.isNone true Mh.isSome=true->h'<=m'->m'<=cap2->m' < Xk->Ci c' (m' - l) (h' - l) m ->
     ∃ y',mr m (.slice (some ⟨i,off,none⟩) es.length cap) Dv Mh mx2=some y'/\VR H S r (.row c' (vh q) m Ed) y' []/\OV (.row c' (vh q) m Ed):=by
    intro c' mx2 m' cap2 e1 e2 e3 e4 e5 e6 e7 e8
    have hcb:Vb es.length cap2 Dv Mh mx2=some (l,h',m'):=by
     unfold Vb;rw [hl.I3 h1,Zo,hh.I3 h2,Zo,e3,Zo,e4,Yw,Nat.ble_eq_true_of_le h3,Yw,Nat.ble_eq_true_of_le e5,Yw,Nat.ble_eq_true_of_le e6,Yw,show Nat.blt m' Xk=true from by rw [Nat.blt_eq];exact e7];rfl
    obtain ⟨Sb,jm⟩:∃ Sb,Sb=cond (Nat.beq m' l) off (off+l * m):=⟨_,rfl⟩
    have iv:(Sb=off+l * m\/h'=l)/\Sb<=off+l * m:=by
     cases hb:Nat.beq m' l with
     |true=>
      have:=Qb hb;rw [hb] at jm;have jm:Sb=off:=jm;exact ⟨.inr (by omega),by omega⟩
     |false=>rw [hb] at jm;exact ⟨.inl jm,Nat.le_of_eq jm⟩
    have C9:=Zdx (r:=r) (q:=q) (c:=c') (n:=m) (es:=Ed) (i:=i) (off:=Sb) (cap:=m' - l) (by rw [J8];exact e8) k2 k3 k4 (by rw [J8];have:=iv.2;omega) he' (hk Sb iv.1 iv.2) k8
    rw [J8] at C9;refine ⟨_,?_,C9⟩;show cond (cond (Nat.ble Xk cap) mx2.isNone false) _ (Zf (Vb es.length (cond (Nat.ble Xk cap) es.length cap) Dv Mh mx2) λb=>some (Value.slice (some ⟨i,cond (Nat.beq b.2.2 b.1) off (Nat.add off (Nat.mul b.1 m)),none⟩) (Nat.sub b.2.1 b.1) (Nat.sub b.2.2 b.1)))=_;rw [e2,e1,hcb];show some (Value.slice (some ⟨i,cond (Nat.beq m' l) off (off+l * m),none⟩) (h' - l) (m' - l))=_;rw [jm]
   have hsub:Nat.sub h' l=h' - l:=rfl;cases hmn:mx.isNone with
   |true=>
    rw [hmn] at hF;have hF:some (TV.row (cond (isFull c) (cond (Nat.beq h' (Zb es)) .full .Jf) .Jf) (vh q) m (Vi es l (h' - l)))=some v:=hF;cases hF;rw [M4,<- hes,Zz]
    have hmx:Ma=none:=by
     have:=hm.isNone.1;rw [hmn] at this;cases Ma with
     |none=>rfl
     |some=>cases this
    subst hmx;cases c with
    |nil=>exact absurd rfl hcn
    |full=>
     obtain ⟨e1,e2⟩:cap=es.length/\es.length < Xk:=k1;subst e1
     have hU:Nat.ble Xk es.length=false:=by
      cases hb:Nat.ble Xk es.length with
      |false=>rfl
      |true=>have:=Qa hb;omega
     refine known _ none es.length es.length (by rw [hU];rfl) (by rw [hU];rfl) rfl rfl h4 (Nat.le_refl _) e2 ?_
     show Ci (cond (Nat.beq h' es.length) .full .Jf) _ _ _;cases hb:Nat.beq h' es.length with
     |true=>have:=Qb hb;exact ⟨by omega,by omega⟩
     |false=>exact .inl ⟨by omega,by omega⟩
    |Jf=>
     rcases (show (es.length<=cap/\cap < Xk)\/(cap=Xk+m/\es.length < Xk) from k1) with ⟨e1,e2⟩ |⟨e1,_⟩
     ·have hU:Nat.ble Xk cap=false:=by
       cases hb:Nat.ble Xk cap with
       |false=>rfl
       |true=>have:=Qa hb;omega
      exact known .Jf none cap cap (by rw [hU];rfl) (by rw [hU];rfl) rfl rfl (by omega) (Nat.le_refl _) e2 (.inl ⟨by omega,by omega⟩)
     ·have hU:Nat.ble Xk cap=true:=Nat.ble_eq_true_of_le (by omega)
      have C9:=Zdx (r:=r) (q:=q) (c:=.Jf) (n:=m) (es:=Ed) (i:=i) (off:=off+l * m) (cap:=cap) (.inr ⟨e1,by omega⟩) k2 k3 k4 (by rw [J8];omega) he' (hk _ (.inl rfl) (Nat.le_refl _)) k8
      rw [J8] at C9;refine ⟨_,?_,C9⟩;show cond (cond (Nat.ble Xk cap) true false) (Zf (I3 Dv 0) λl=>Zf (I3 Mh es.length) λh=>Zp (Nat.ble l h) (Zp (Nat.ble h es.length) (Zp (Nat.beq cap (Nat.add Xk m)) (some (Value.slice (some ⟨i,Nat.add off (Nat.mul l m),none⟩) (Nat.sub h l) cap))))) _=_;rw [hU];show Zf (I3 Dv 0) _=_;rw [hl.I3 h1,Zo,hh.I3 h2,Zo,Nat.ble_eq_true_of_le h3,Yw,Nat.ble_eq_true_of_le h4,Yw,Uj (show cap=Nat.add Xk m from e1)];rfl
   |false=>
    rw [hmn] at hF;obtain ⟨m',h6,hG⟩:=Zj (show Zf (wa mx 0) _=some v from hF);obtain ⟨h7,hH⟩:=Zt hG;obtain ⟨h8,hI⟩:=Zt hH;obtain ⟨h9,hJ⟩:=Zt hI;have h8:=Qa h8;have h9:=Qa h9;rw [Zz] at h9;have hJ:some (TV.row (cond (Nat.beq m' h') .full .Jf) (vh q) m (Vi es l (h' - l)))=some v:=hJ;cases hJ;rw [M4,<- hes]
    obtain ⟨mz,rfl⟩:∃ mz,Ma=some mz:=by
     have:=hm.isNone.1;rw [hmn] at this;cases Ma with
     |none=>cases this
     |some z=>exact ⟨z,rfl⟩
    have h6':∀ d,I3 (some mz) d=some m':=λd=>by
     have:=hm.I3 (d:=0) h6;exact this
    refine known _ (some mz) m' (cond (Nat.ble Xk cap) es.length cap) rfl (by cases Nat.ble Xk cap <;> rfl) (h6' _) (by rw [hh.isNone.2];exact h7) h8 ?_ (by omega) ?_
    ·cases hU:Nat.ble Xk cap with
     |true=>exact h9
     |false=>
      show m'<=cap;have hU:=Up hU;cases c with
      |nil=>exact absurd rfl hcn
      |full=>obtain ⟨e1,e2⟩:cap=es.length/\es.length < Xk:=k1;omega
      |Jf=>
       rcases (show (es.length<=cap/\cap < Xk)\/(cap=Xk+m/\es.length < Xk) from k1) with ⟨e1,e2⟩ |⟨e1,_⟩ <;> omega
    ·cases hb:Nat.beq m' h' with
     |true=>have:=Qb hb;exact ⟨by omega,by omega⟩
     |false=>exact .inl ⟨by omega,by omega⟩
 ·rename_i b off len cap sz ag;obtain ⟨h0,hA⟩:=Zt h;have h0:=Qb h0;subst h0;obtain ⟨i,hr,rfl,_⟩:=U1 hx;rw [show mx.isNone=Ma.isNone from hm.isNone.1.symm] at hA;cases hU:cond (Nat.ble Xk cap) Ma.isNone false with
  |true=>
   rw [hU] at hA;obtain ⟨l,h1,hB⟩:=Zj (show Zf (wa lo 0) _=some v from hA);obtain ⟨h',h2,hC⟩:=Zj hB;obtain ⟨h3,hD⟩:=Zt hC;obtain ⟨h4,hE⟩:=Zt hD;obtain ⟨h5,hF⟩:=Zt hE;cases hF;refine ⟨.slice (some ⟨i,off+l * sz,none⟩) (h' - l) cap,?_,.vec hr,.inl (.vec _ _ _ _ _ _)⟩;show cond (cond (Nat.ble Xk cap) Ma.isNone false) (Zf (I3 Dv 0) λl=>Zf (I3 Mh len) λh=>Zp (Nat.ble l h) (Zp (Nat.ble h len) (Zp (Nat.beq cap (Nat.add Xk sz)) (some (Value.slice (some ⟨i,Nat.add off (Nat.mul l sz),none⟩) (Nat.sub h l) cap))))) _=_;rw [hU];show Zf (I3 Dv 0) _=_;rw [hl.I3 h1,Zo,hh.I3 h2,Zo,h3,Yw,h4,Yw,h5];rfl
  |false=>
   rw [hU] at hA;obtain ⟨p,h1,h2⟩:=Zj (show Zf (vl len (cond (Nat.ble Xk cap) len cap) lo hi mx) _=some v from hA);cases h2;refine ⟨.slice (some ⟨i,cond (Nat.beq p.2.2 p.1) off (off+p.1 * sz),none⟩) (p.2.1 - p.1) (p.2.2 - p.1),?_,.vec hr,.inl (.vec _ _ _ _ _ _)⟩;show cond (cond (Nat.ble Xk cap) Ma.isNone false) _ (Zf (Vb len (cond (Nat.ble Xk cap) len cap) Dv Mh Ma) λb=>some (Value.slice (some ⟨i,cond (Nat.beq b.2.2 b.1) off (Nat.add off (Nat.mul b.1 sz)),none⟩) (Nat.sub b.2.1 b.1) (Nat.sub b.2.2 b.1)))=_;rw [hU,Sz h1 hl hh hm];rfl
 ·cases h
end
end Go.Ev
namespace Go.Ev
section
variable {H:AH} {S:Nat->Prop} {r:List Nat}
theorem jv {ag:Bool} {n:Nat}:∀ {len:Nat} {cs es:List TV},qq ag n len cs=some es->(∀ c∈cs.take (len * n),Qv c=true)->len * n<=cs.length/\es.length=len/\Qi es=cs.take (len * n)/\Um n es
 |0,cs,es,h,_=>by cases h;exact ⟨by omega,rfl,by simp [U8],λx hx=>by cases hx⟩
 |len+1,cs,es,h,hc=>by
  obtain ⟨x,h1,hA⟩:=Zj (show Zf (Zhm ag n cs) (λx=>Zf (qq ag n len (La cs n)) λl=>some (x::l))=some es from h);obtain ⟨l,h2,h3⟩:=Zj hA;cases h3;rw [Jq] at h2;rw [Nat.succ_mul] at hc ⊢
  have hx:n<=cs.length/\Zy x=cs.take n:=by
   cases ag with
   |true=>
    obtain ⟨h4,h5⟩:=Zt (show Zp (Nat.ble n (Zb cs)) (some (TV.agg (X7 cs n)))=some x from h1);cases h5;have h4:=Qa h4;rw [Zz] at h4;exact ⟨h4,by show X7 cs n=_;rw [Yh]⟩
   |false=>
    obtain ⟨h4,h5⟩:=Zt (show Zp (Nat.beq n 1) (nth cs 0)=some x from h1);have h4:=Qb h4;subst h4;rw [Xq] at h5;have hl:=Dj h5;cases cs with
    |nil=>simp at hl
    |cons c cs=>
     simp at h5;subst h5
     have hcc:Qv c=true:=hc c (by
      rw [show len * 1+1=(len+0)+1 by omega,List.take_succ_cons];exact List.mem_cons_self ..)
     refine ⟨by simp,?_⟩
     cases c with
     |agg=>cases hcc
     |_=>rfl
  obtain ⟨q1,q2,q3,q4⟩:=jv h2 (λc Ow=>hc c (by
   have e:(cs.drop n).take (len * n)=(cs.take (len * n+n)).drop n:=by rw [List.drop_take,Nat.add_sub_cancel]
   rw [e] at Ow;exact List.mem_of_mem_drop Ow))
  rw [List.length_drop] at q1;refine ⟨by omega,by rw [List.length_cons,q2],?_,λy hy=>?_⟩
  ·rw [Jy,hx.2,q3,Nat.add_comm (len * n) n,List.take_add]
  ·rcases List.mem_cons.1 hy with rfl |hy
   ·rw [hx.2]
    exact ⟨by rw [List.length_take];omega,λc Ow=>hc c (by
     have:cs.take n=(cs.take (len * n+n)).take n:=by rw [List.take_take,Nat.min_eq_left (by omega)]
     rw [this] at Ow;exact List.mem_of_mem_take Ow)⟩
   ·exact q4 y hy
theorem Zcp {ag:Bool} {n len:Nat} {x v:TV} {lo hi mx:Option TV} (h:G5 ag n len x lo hi mx=some v) {y:Value} {o:List Nat} {Dv Mh Ma:Option Value} (hx:VR H S r x y o) (hl:BR H S r lo Dv) (hh:BR H S r hi Mh) (hm:BR H S r mx Ma) :
  ∃ y',Py n len y Dv Mh Ma=some y'/\VR H S r v y' []/\OV v:=by
 obtain ⟨p,h1,hA⟩:=Zj h;have hcb:=Sz h1 hl hh hm
 have ev:∀ i off,Py n len (.pointer (some ⟨i,off,none⟩)) Dv Mh Ma=some (.slice (some ⟨i,cond (Nat.beq p.2.2 p.1) off (off+p.1 * n),none⟩) (p.2.1 - p.1) (p.2.2 - p.1)):=λi off=>by
  show Zf (Vb len len Dv Mh Ma) _=_;rw [hcb];rfl
 split at hA
 ·cases hA;obtain ⟨i,hr,rfl,_⟩:=M5 hx;exact ⟨_,ev i _,.vec hr,.inl (.vec _ _ _ _ _ _)⟩
 ·rename_i q cs off;obtain ⟨h2,hB⟩:=Zt hA;obtain ⟨h3,hC⟩:=Zt hB;obtain ⟨es,h4,h5⟩:=Zj hC;cases h5;rw [Nat.blt_eq] at h2;have h3:=Qa h3;rw [Zz] at h3;have h3:off+len * n<=cs.length:=h3;obtain ⟨b1,b2,b3,b4,b5,b6,b7,b8⟩:=Lj hcb;rw [Jq] at h4
  have elem:∃ i o' s ds e,y=.pointer (some ⟨i,o'+off,none⟩)/\i < H.next/\H.get i=some (.cells s ds e)/\ds.length=s/\o'+cs.length<=s/\(∀ c∈cs,Qv c=true)/\W6 H S cs ((ds.drop o').take cs.length)/\(match vh q with |.set=>S i |_=>i ∉ r):=by
   cases hx with
   |k h=>cases h
   |elS hi hl hg hs hb hc h=>exact ⟨_,_,_,_,_,rfl,hl,hg,hs,hb,hc,h,hi⟩
   |elB hi hl hg hs hb hc h=>exact ⟨_,_,_,_,_,rfl,hl,hg,hs,hb,hc,h,hi⟩
  obtain ⟨i,o',s,ds,e,rfl,k1,k2,k3,k4,k5,k6,k7⟩:=elem;obtain ⟨g1,g2,g3,g4⟩:=jv h4 λc hc=>k5 c (List.mem_of_mem_drop (List.mem_of_mem_take hc));have Da:Nat.beq p.2.2 p.1=false:=Wm (by omega)
  have hev:=ev i (o'+off);rw [Da] at hev;have hlen:es.length=p.2.1 - p.1:=g2;have hmul:p.1 * n+(p.2.1 - p.1) * n=p.2.1 * n:=by rw [<- Nat.add_mul];congr 1;omega
  have hle:p.2.1 * n<=len * n:=Nat.mul_le_mul_right _ (by omega)
  have jm:(cs.drop (off+p.1 * n)).take ((p.2.1 - p.1) * n)=Qi es:=g3.symm
  have hk:W6 H S (Qi es) ((ds.drop (o'+off+p.1 * n)).take (es.length * n)):=by
   have:=(k6.drop (off+p.1 * n)).take ((p.2.1 - p.1) * n);rw [jm,List.drop_take,List.take_take,Nat.min_eq_left (by omega),List.drop_drop,<- Nat.add_assoc] at this
   rw [hlen];exact this
  have C9:=Zdx (r:=r) (q:=q) (c:=cond (Nat.beq p.2.2 p.2.1) .full .Jf) (n:=n) (es:=es) (i:=i) (off:=o'+off+p.1 * n) (cap:=p.2.2 - p.1) (by
   rw [hlen];cases hb:Nat.beq p.2.2 p.2.1 with
   |true=>have:=Qb hb;exact ⟨by omega,by omega⟩
   |false=>exact .inl ⟨by omega,by omega⟩) k1 k2 k3 (by rw [hlen];omega) g4 hk k7
  rw [hlen] at C9;exact ⟨_,hev,C9⟩
 ·cases hA
theorem Sx {k:Value}:∀ {es:List (Value×TV)} {fs:List MapEntry} {i:Nat} {q:Option (Nat×TV)},I9 k es i=some q->Tp H S es fs ->
  ∃ q',Wk k fs i=some q'/\(match q,q' with |none,none=>True |some p,some p'=>p.1=p'.1/\i<=p.1/\p.1 - i < es.length/\KR H S p.2 p'.2 |_,_=>False)
 |[],_,i,q,h,.nil=>by cases h;exact ⟨none,rfl,trivial⟩
 |e::es,f::fs,i,q,h,.cons hk hv t=>by
  have h:(match Oe k e.1 with |some true=>some (some (i,e.2)) |some false=>I9 k es (i+1) |none=>none)=some q:=h
  have hg:Wk k (f::fs) i=(match Oe k f.key with |some true=>some (some (i,f.val)) |some false=>Wk k fs (i+1) |none=>none):=rfl
  rw [hk] at hg;rw [hg];cases hq:Oe k e.1 with
  |none=>rw [hq] at h;cases h
  |some b=>
   rw [hq] at h;cases b with
   |true=>cases h;exact ⟨_,rfl,rfl,Nat.le_refl _,by simp,hv⟩
   |false=>
    have h:I9 k es (i+1)=some q:=h;obtain ⟨q',h1,h2⟩:=Sx h t;refine ⟨q',h1,?_⟩;cases q with
    |none=>cases q' with
     |none=>trivial
     |some=>exact h2.elim
    |some p=>cases q' with
     |none=>exact h2.elim
     |some p'=>exact ⟨h2.1,by omega,by simp;omega,h2.2.2.2⟩
theorem F8 {ok is:Bool} {x:TV} {y:Value} (h:KR H S x y) (hn:NB x) (hc:Vh x):VR H S r (okT ok x is) (cond ok (.tuple #[y,.bool is]) y) []/\OV (okT ok x is):=by
 cases ok with
 |false=>exact ⟨.k h,.inl hn⟩
 |true=>
  refine ⟨.Xh (Y3.cons (o:=[]) (.k h) (Y3.cons (o:=[]) (.k (.v rfl rfl)) .nil)),.inl (.Xh (.cons hn (.cons (.v _) .nil)) λc Ow=>?_)⟩;rcases List.mem_cons.1 Ow with rfl |Ow
  ·exact hc
  ·rw [List.mem_singleton] at Ow;subst Ow;trivial
theorem Zbc {x:TV} {y:Value} (h:KR H S x y):NB x/\Vh x:=by
 cases h with
 |v=>exact ⟨.v _,trivial⟩
 |nil=>exact ⟨.Wh (by intro h;cases h),trivial⟩
 |row=>exact ⟨.Wh (by intro h;cases h),trivial⟩
 |agg hc h=>exact ⟨.agg (Gq.of λc h=>(Yt (hc c h)).1) λc h=>(Yt (hc c h)).2,trivial⟩
 |iface h=>exact ⟨.iface _ _,trivial⟩
 |fn0=>exact ⟨.fn .nil .nil,trivial⟩
end
section
variable {C:TC} {F:Nat->Prop} {lo Zh base:Nat} {ends:Bool} {H:AH} {r:List Nat} {T:TH} {Oh os:List Nat}
theorem Rd {β:Type} {b:Nat} {k:List (Value×TV)->Option β} {ρ:β} (h:Fm T b k=some ρ):∃ es,T[b]? = some (.map es)/\k es=some ρ:=by
 obtain ⟨o,h1,h2⟩:=Zj h;rw [Xq] at h1;cases o with
 |map es=>exact ⟨es,h1,h2⟩
 |_=>cases h2
theorem Good.Znr (hG:Good C F lo Zh H r T Oh os) {b:Nat} {es:List (Value×TV)} (hb:T[b]? = some (.map es)):∃ i c fs,r[b]? = some i/\H.get i=some (.map fs c)/\Tp H (Ya F r Oh os) es fs:=by
 obtain ⟨i,a,w,c,h1,h2,h3,_,_⟩:=hG.heap.at hb;cases h3 with
 |map hg h=>exact ⟨i,_,_,h1,hg,h⟩
theorem Za8 {q:Wp} {z:Value} {x key v:TV} {ok:Bool} (h:Ba T q (Mq z) x key ok=some v) (hp:plain z=true) (ht:∀ l,z≠.tuple l) (hG:Good C F lo Zh H r T Oh os) {x' k':Value} {o o':List Nat} (hx:VR H (Ya F r Oh os) r x x' o) (hk:VR H (Ya F r Oh os) r key k' o') :
  ∃ v',Hz H q z x' k' ok=some v'/\VR H (Ya F r Oh os) r v v' []/\OV v:=by
 obtain ⟨a,h1,hA⟩:=Zj h;have:=Cr h1 hk;subst this;obtain ⟨h2,hB⟩:=Zt hA;obtain ⟨z1,_⟩:=Zd9 (H:=H) (S:=Ya F r Oh os) hp ht;have zz:=Zbc z1;split at hB
 ·cases hB;obtain ⟨rfl,_⟩:=V0 hx;refine ⟨_,?_,F8 z1 zz.1 zz.2⟩;show Zp (Ge q k') _=_;rw [h2];rfl
 ·rename_i b;obtain ⟨es,hb,hC⟩:=Rd hB;obtain ⟨i,c,fs,hr,hg,hm⟩:=hG.Znr hb;obtain ⟨i',iq,rfl,_⟩:=xq hx;rw [hr] at iq;cases iq;obtain ⟨p,h3,h4⟩:=Zj hC;obtain ⟨p',h5,h6⟩:=Sx h3 hm
  have hev:Hz H q z (.map (some i)) k' ok=(match (generalizing:=false) p' with |some p=>some (cond ok (.tuple #[p.2,.bool true]) p.2) |none=>some (cond ok (.tuple #[z,.bool false]) z)):=by
   show Zp (Ge q k') (Re H i λes _=>Zf (Wk k' es 0) _)=_;rw [h2];show (match H.get i with |some (.map es c)=>Zf (Wk k' es 0) _ |_=>none)=_
   rw [hg];show Zf (Wk k' fs 0) _=_;rw [h5];cases p' <;> rfl
  cases p with
  |none=>cases p' with
   |none=>cases h4;exact ⟨_,hev,F8 z1 zz.1 zz.2⟩
   |some=>exact h6.elim
  |some p=>cases p' with
   |none=>exact h6.elim
   |some p'=>
    cases h4;have kn:=Zbc h6.2.2.2;exact ⟨_,hev,F8 h6.2.2.2 kn.1 kn.2⟩
 ·cases hB
theorem sc {q:Wp} {x key y:TV} {T':TH} (h:xe Zh T q x key y=some T') (hG:Good C F lo Zh H r T Oh os) {x' k' y':Value} {o o' oy:List Nat} (hx:VR H (Ya F r Oh os) r x x' o) (hk:VR H (Ya F r Oh os) r key k' o') (hy:VR H (Ya F r Oh os) r y y' oy) :
  ∃ H',Hw lo H q x' k' y'=some H'/\Ux C F lo Zh base ends H r T Oh os Zk T' undef H':=by
 obtain ⟨a,h1,hA⟩:=Zj h;have:=Cr h1 hk;subst this;obtain ⟨h2,hB⟩:=Zt hA;obtain ⟨h3,hC⟩:=Zt hB;obtain ⟨ky,_⟩:=S3 h3 hy;split at hC
 ·rename_i b;obtain ⟨h4,hD⟩:=Zt hC;have h4:=Qa h4;obtain ⟨es,hb,hE⟩:=Rd hD;obtain ⟨i,c,fs,hr,hg,hm⟩:=hG.Znr hb;obtain ⟨i',iq,rfl,_⟩:=xq hx;rw [hr] at iq;cases iq;obtain ⟨p,h5,h6⟩:=Zj hE;obtain ⟨p',h7,h8⟩:=Sx h5 hm;have J7:=hG.pq b i h4 hr
  have hev:∀ r2,(match p' with |some p=>some (H.set i (.map (setAt fs p.1 k' y') c)) |none=>some (H.set i (.map (List.append fs [{ key:=k',val:=y',born:=c }]) (Nat.succ c))))=some r2->Hw lo H q (.map (some i)) k' y'=some r2:=by
   intro r2 hr2;show Zp (Ge q k') (Zp (Nat.ble lo i) (Re H i λes c=>Zf (Wk k' es 0) _))=_;rw [h2,Yw,Nat.ble_eq_true_of_le J7,Yw];show (match H.get i with |some (.map es c)=>Zf (Wk k' es 0) _ |_=>none)=_
   rw [hg];show Zf (Wk k' fs 0) _=_;rw [h7];exact hr2
  have wr:∀ (Ed:List (Value×TV)) (fs':List MapEntry) (c':Nat),(∀ S,Wb H (Ya F r Oh os) (H.set i (.map fs' c')) S->Tp (H.set i (.map fs' c')) S Ed fs')->Ux C F lo Zh base ends H r T Oh os Zk (T.set b (.map Ed)) undef (H.set i (.map fs' c')):=by
   intro Ed fs' c' hm';exact Ux.write hG hb hr h4 (λw ho _=>⟨[],λj=>by simp,λS st=>.map (by rw [AH.D2,if_pos rfl]) (hm' S st)⟩) (λ_ _ _ _=>trivial) (λ_ _=>.Cq) (.inl (.Xh .nil λc hc=>by cases hc))
  have Ut:∀ {S:Nat->Prop} {H:AH} {es:List (Value×TV)} {fs:List MapEntry} (j:Nat),Tp H S es fs->KR H S y y'->Tp H S (Ty es j k' y) (setAt fs j k' y'):=by
   intro S H es fs j hm hy
   induction hm generalizing j with
   |nil=>exact .nil
   | @cons e f es fs hk hv t ih=>
    cases j with
    |zero=>exact .cons rfl hy t
    |succ j=>exact .cons hk hv (ih j)
  have Ag:∀ {S:Nat->Prop} {H:AH} {es:List (Value×TV)} {fs:List MapEntry},Tp H S es fs->KR H S y y'->Tp H S (es++[(k',y)]) (fs++[{ key:=k',val:=y',born:=c }]):=by
   intro S H es fs hm hy
   induction hm with
   |nil=>exact .cons rfl hy .nil
   |cons hk hv t ih=>exact .cons hk hv ih
  cases p with
  |none=>cases p' with
   |none=>
    have h6:some (Kg T b (.map (es++[(k',y)])))=some T':=h6;cases h6;rw [U4 hb];exact ⟨_,hev _ rfl,wr _ _ _ λS st=>Ag (hm.mono st) (ky.mono st)⟩
   |some=>exact h8.elim
  |some p=>cases p' with
   |none=>exact h8.elim
   |some p'=>
    have h6:some (Kg T b (.map (Ty es p.1 k' y)))=some T':=h6;cases h6;rw [U4 hb];refine ⟨_,hev _ rfl,wr _ _ _ λS st=>?_⟩;rw [h8.1];exact Ut _ (hm.mono st) (ky.mono st)
 ·cases hC
end
end Go.Ev
