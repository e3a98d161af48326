/- A second evaluator that holds rows by value, and that the first answers what it answers, part one.
   Conditions: none beyond the given statement's own. -/
import Derived.Test.YtgemobbfikjmoaaGreatDoorPaB
set_option linter.unusedVariables false
set_option linter.unusedSimpArgs false
set_option linter.defProp false
namespace Go.Ev
noncomputable section
def dropG {α:Type} (l:List α):Nat→List α:=
 List.rec (motive:=fun _=>Nat→List α) (fun _=>[]) (fun x xs ih n=>Nat.casesOn (motive:=fun _=>List α) n (x::xs) (fun n=>ih n)) l
def Zdg {α:Type} (l:List α):Nat→List α:=
 List.rec (motive:=fun _=>Nat→List α) (fun _=>[]) (fun x _ ih n=>Nat.casesOn (motive:=fun _=>List α) n [] (fun n=>x::ih n)) l
def Zag {α:Type} (l:List α):Nat:=List.rec (motive:=fun _=>Nat) (nat_lit 0) (fun _ _ n=>Nat.succ n) l
def overHG {α:Type} (vs:List α):List α→List α:=
 List.rec (motive:=fun _=>List α→List α) (fun cs=>cs)
  (fun v _ ih cs=>List.casesOn (motive:=fun _=>List α) cs [] (fun _ cs=>v::ih cs)) vs
def overG {α:Type} (cs:List α):Nat→List α→List α:=
 List.rec (motive:=fun _=>Nat→List α→List α) (fun _ _=>[])
  (fun c cs ih off vs=>Nat.casesOn (motive:=fun _=>List α) off (overHG vs (c::cs)) (fun off=>c::ih off vs)) cs
def segG {α:Type} (cs:List α) (off n:Nat):List α:=Zdg (dropG cs off) n
def mapG {α β:Type} (f:α→β) (l:List α):List β:=List.rec (motive:=fun _=>List β) [] (fun x _ ih=>f x::ih) l
def Zbu {α:Type} (p:α→Bool) (l:List α):Bool:=List.rec (motive:=fun _=>Bool) true (fun x _ ih=>cond (p x) ih false) l
def anyG {α:Type} (p:α→Bool) (l:List α):Bool:=List.rec (motive:=fun _=>Bool) false (fun x _ ih=>cond (p x) true ih) l
def repG {α:Type} (z:List α) (n:Nat):List α:=Nat.rec (motive:=fun _=>List α) [] (fun _ l=>List.append z l) n
inductive Cp where
 |nil |full |opn
inductive Lf where
 |own (e:TypeId) |set |bor
inductive TV where
 |v (x:Value)
 |row (c:Cp) (q:Lf) (n:Nat) (es:List TV)
 |agg (cs:List TV)
 |tup (cs:List TV)
 |ptr (b off:Nat)
 |el (q:Lf) (cs:List TV) (off:Nat)
 |vec (b off len cap n:Nat) (ag:Bool)
 |map (b:Nat)
 |fn (f:Fn) (first cap:List TV)
 |iface (t:TypeId) (x:TV)
 |gone
abbrev Zao:TV:=.tup []
abbrev nilT:TV:=.row .nil .set (nat_lit 0) []
inductive TObj where
 |cells (cs:List TV)
 |map (es:List (Value×TV))
 |dead
abbrev TH:=List TObj
def bindT {β:Type} (r:Option (TV×TH)) (k:TV→TH→Option β):Option β:=Option.rec (motive:=fun _=>Option β) none (fun p=>k p.1 p.2) r
def Zbt (v:TV) (H:TH):Option (TV×TH):=some (v,H)
def Zav (x:TV):List TV:=match x with |.agg cs=>cs |x=>[x]
def Zbl (es:List TV):List TV:=List.rec (motive:=fun _=>List TV) [] (fun x _ ih=>List.append (Zav x) ih) es
def ofC (x:Value):TV:=match x with |.slice none _ _=>nilT |x=>.v x
def ofV (x:Value):TV:=match x with
 |.agg cs=>.agg (mapG ofC cs.toList)
 |.tuple cs=>.tup (mapG ofC cs.toList)
 |x=>ofC x
def flatsV:List TV→Option (List Value)
 |[]=>some []
 |x::xs=>match x with
  |.v a=>Zaf (flatsV xs) fun l=>some (a::l)
  |_=>none
def toV (x:TV):Option Value:=match x with
 |.v a=>some a
 |.agg cs=>Zaf (flatsV cs) fun l=>some (.agg ⟨l⟩)
 |_=>none
def setC (x:TV):TV:=match x with |.row c (.own _) n es=>.row c .set n es |x=>x
def setT (x:TV):TV:=match x with |.row c (.own _) n es=>.row c .set n es |.agg cs=>.agg (mapG setC cs) |x=>x
def Zak (x:TV):TV:=match x with
 |.row c (.own _) n es=>.row c .set n es
 |.agg cs=>.agg (mapG setC cs)
 |.tup cs=>.tup (mapG setT cs)
 |x=>x
def hushC (x:TV):TV:=match x with |.row _ (.own _) _ _=>Zao |x=>x
def hushT (x:TV):TV:=match x with |.row _ (.own _) _ _=>Zao |.agg cs=>.agg (mapG hushC cs) |x=>x
def hush (x:TV):TV:=match x with
 |.row c (.own _) n es=>.row c .bor n es
 |.agg cs=>.agg (mapG hushC cs)
 |.tup cs=>.tup (mapG hushT cs)
 |x=>x
def stale (x:TV):TV:=match x with
 |.row _ .bor _ _=>Zao
 |.el .bor _ _=>Zao
 |x=>x
def isOwn (x:TV):Bool:=match x with |.row _ (.own _) _ _=>true |_=>false
def Zbw (x:TV):Bool:=match x with |.v _=>true |.row _ .set _ _=>true |.iface _ _=>true |_=>false
def closed (x:TV):Bool:=match x with |.agg cs=>Zbu Zbw cs |x=>Zbw x
def storC (x:TV):Bool:=match x with
 |.v _=>true |.row _ q _ _=>(match q with |.bor=>false |_=>true)
 |.ptr _ _=>true |.vec _ _ _ _ _ _=>true |.map _=>true |.fn _ _ _=>true |.iface _ _=>true |_=>false
def stor (x:TV):Bool:=match x with |.agg cs=>Zbu storC cs |x=>storC x
def looseC (x:TV):Bool:=match x with
 |.v _=>true |.row _ q _ _=>(match q with |.bor=>false |_=>true) |.iface _ _=>true |_=>false
def looseT (x:TV):Bool:=match x with |.agg cs=>Zbu looseC cs |x=>looseC x
def loose (x:TV):Bool:=match x with |.agg cs=>Zbu looseC cs |.tup cs=>Zbu looseT cs |x=>looseC x
def passC (x:TV):Bool:=match x with
 |.v _=>true |.row _ .set _ _=>true
 |.ptr _ _=>true |.vec _ _ _ _ _ _=>true |.map _=>true |.fn _ _ _=>true |.iface _ _=>true |.el .set _ _=>true |_=>false
def pass (x:TV):Bool:=match x with |.agg cs=>Zbu Zbw cs |x=>passC x
def notTup (z:Value):Bool:=match z with |.tuple _=>false |_=>true
def zeroT (i:TyI):Option Value:=Zaf (zeroOf i) fun z=>Zap (notTup z) (some z)
abbrev TE:=List (Tmp×Nat×TV)
def lookT (E:TE) (t:Tmp):Option (Nat×TV):=List.rec (motive:=fun _=>Option (Nat×TV)) none (fun x _ ih=>cond (Nat.beq x.1 t) (some x.2) ih) E
def lessT (E:TE) (t:Tmp):TE:=List.rec (motive:=fun _=>TE) [] (fun x _ ih=>cond (Nat.beq x.1 t) ih (x::ih)) E
def putT (E:TE) (t:Tmp) (ep:Nat) (x:TV):TE:=(t,ep,x)::lessT E t
def putD (E:TE) (d:Option Tmp) (ep:Nat) (x:TV):TE:=match d with |none=>E |some d=>putT E d ep x
def nowT (ep:Nat) (p:Nat×TV):TV:=cond (Nat.beq p.1 ep) p.2 (stale p.2)
def VT:List Tmp→Type
 |[]=>Unit
 |_::ts=>TV×VT ts
def zipT:(keep:List Tmp)→VT keep→TE
 |[],_=>[]
 |t::ts,S=>(t,nat_lit 0,(show TV×VT ts from S).1)::zipT ts (show TV×VT ts from S).2
def mkT (E:TE):(keep:List Tmp)→VT keep
 |[]=>()
 |t::ts=>(stale ((lookT E t).getD (nat_lit 0,Zao)).2,mkT (lessT E t) ts)
def Zal (args:List TV) (t:Tmp):TV:=(nth args t).getD Zao
def initT (args:List TV):(keep:List Tmp)→VT keep
 |[]=>()
 |t::ts=>(Zal args t,initT args ts)
inductive Md where
 |raw |take |settle |thaw (n:Nat) (ag:Bool) |comp (i:Nat) |lend
structure TC where
 fuel:Nat
 keep:FuncId→List Tmp
 tree:FuncId→Bool
 thaws:FuncId→Bool
 tabs:Nat→Option (List TV)
 deep:FuncId→Bool
def thawCap (c:Cp) (len n:Nat):Nat:=match c with |.opn=>Nat.add UNK n |_=>len
def thawV {β:Type} (n:Nat) (ag:Bool) (x:TV) (H:TH) (k:TV→TH→Option β):Option β:=
 match x with
 |.row c (.own _) m es=>Zap (Nat.beq m n)
   (k (.vec (Zag H) (nat_lit 0) (Zag es) (thawCap c (Zag es) n) n ag) (List.append H [.cells (Zbl es)]))
 |x=>k x H
def Zbq (x:TV) (i:Nat):Option TV:=match x with |.tup cs=>nth cs i |_=>none
def Zba (x:TV) (i:Nat):TV:=match x with |.tup cs=>.tup (overG cs i [Zao]) |x=>x
def noBor (v:TV):Bool:=match v with |.row _ .bor _ _=>false |.el .bor _ _=>false |_=>true
def Zab (x:TV):TV:=cond (isOwn x) (hush x) (Zak x)
def Zae (x:TV):TV:=cond (isOwn x) x (Zak x)
def thawC (n:Nat) (ag:Bool) (x:TV) (H:TH):Option (TV×TH):=cond (isOwn x) (thawV n ag x H Zbt) (Zap (noBor x) (some (Zak x,H)))
def rdTmp {β:Type} (m:Md) (ep:Nat) (t:Tmp) (x:TV) (E:TE) (H:TH) (k:TV→TE→TH→Option β):Option β:=
 match m with
 |.raw=>k x E H
 |.take=>k x (putT E t ep (hush x)) H
 |.settle=>k (Zak x) (putT E t ep (Zak x)) H
 |.lend=>k (Zab x) (putT E t ep (Zae x)) H
 |.thaw n ag=>bindT (thawC n ag x H) fun y H=>k y (putT E t ep y) H
 |.comp i=>Zaf (Zbq x i) fun y=>k y (putT E t ep (Zba x i)) H
def isComp (m:Md):Bool:=match m with |.comp _=>true |.thaw _ _=>true |_=>false
def rdOp {β:Type} (P:Program) (C:TC) (m:Md) (ep:Nat) (E:TE) (H:TH) (o:Operand) (k:TV→TE→TH→Option β):Option β:=
 match o with
 |.tmp t=>Zaf (lookT E t) fun p=>rdTmp m ep t (nowT ep p) E H k
 |.const v=>Zap (!isComp m) (Zap (plain v) (k (ofV v) E H))
 |.global g=>Zap (!isComp m) (Zaf (C.tabs g) fun cs=>Zap (Nat.blt g P.globals.size) (k (.el .set cs (nat_lit 0)) E H))
 |.func f=>Zap (!isComp m) (k (.fn (.func f) [] []) E H)
def rdOps {β:Type} (P:Program) (C:TC) (ep:Nat):List (Md×Operand)→TE→TH→(List TV→TE→TH→Option β)→Option β
 |[],E,H,k=>k [] E H
 |(m,o)::l,E,H,k=>rdOp P C m ep E H o fun v E H=>rdOps P C ep l E H fun vs E H=>k (v::vs) E H
def b1 (f:Value→Option Value) (x:TV):Option TV:=match x with |.v a=>Zaf (f a) fun r=>some (.v r) |_=>none
def b2 (f:Value→Value→Option Value) (x y:TV):Option TV:=
 match x with |.v a=>(match y with |.v b=>Zaf (f a b) fun r=>some (.v r) |_=>none) |_=>none
def isNilC (c:Cp):Bool:=match c with |.nil=>true |_=>false
def nilRow (x:TV):Option Bool:=match x with
 |.row c _ _ _=>some (isNilC c)
 |.vec _ _ _ _ _ _=>some false
 |_=>none
def eqT (q:EqKind) (x y:TV):Option Bool:=
 match q with
 |.slice=>Zaf (nilRow x) fun a=>Zaf (nilRow y) fun b=>cond a (some b) (cond b (some false) none)
 |q=>Zaf (toV x) fun a=>Zaf (toV y) fun b=>evEqB q a b
def eqlT (q:EqKind) (x y:TV):Option TV:=Zaf (eqT q x y) fun r=>some (.v (.bool r))
def neqT (q:EqKind) (x y:TV):Option TV:=Zaf (eqT q x y) fun r=>some (.v (.bool (!r)))
def binT {β:Type} (P:Program) (op:BinOp) (t:TypeId) (x y:TV) (k:TV→Option β):Option β:=
 match op with
 |.add=>Zaa (b2 Zbe x y) k
 |.sub=>Zaa (b2 Zcl x y) k
 |.mul=>Zaa (b2 evMul x y) k
 |.quo=>Zaa (b2 evQuo x y) k
 |.rem=>Zaa (b2 evRem x y) k
 |.and=>Zaa (b2 evAnd x y) k
 |.or=>Zaa (b2 evOr x y) k
 |.xor=>Zaa (b2 evXor x y) k
 |.andNot=>Zaa (b2 Zdd x y) k
 |.shl=>Zaa (b2 evShl x y) k
 |.shr=>Zaa (b2 evShr x y) k
 |.lss=>Zaa (b2 Zcj x y) k
 |.leq=>Zaa (b2 evLeq x y) k
 |.gtr=>Zaa (b2 evGtr x y) k
 |.geq=>Zaa (b2 evGeq x y) k
 |.eql=>Zaf (eqKind P t) fun q=>Zaa (eqlT q x y) k
 |.neq=>Zaf (eqKind P t) fun q=>Zaa (neqT q x y) k
def unT {β:Type} (op:UnOp) (x:TV) (k:TV→Option β):Option β:=
 match op with
 |.neg=>Zaa (b1 evNeg x) k
 |.xor=>Zaa (b1 evInv x) k
 |.not=>Zaa (b1 evNot x) k
 |.plus=>none
def Zch (c a b:TV):Option TV:=match c with |.v (.bool t)=>some (cond t a b) |_=>none
def nilCkT (x:TV):Option TV:=match x with |.ptr b off=>some (.ptr b off) |.el q cs off=>some (.el q cs off) |_=>none
def asNatT (x:TV):Option Nat:=match x with |.v a=>asNat a |_=>none
def Zco {β:Type} (H:TH) (b:Nat) (k:List TV→Option β):Option β:=
 Zaf (nth H b) fun o=>match o with
  |.cells cs=>k cs
  |_=>none
def setBox (H:TH) (b:Nat) (o:TObj):TH:=overG H b [o]
def Zaq (H:TH) (o:TObj):TH:=List.append H [o]
def cellT (ag:Bool) (n:Nat) (cs:List TV):Option TV:=cond ag (Zap (Nat.ble n (Zag cs)) (some (.agg (Zdg cs n)))) (Zap (Nat.beq n 1) (nth cs (nat_lit 0)))
def grpT (ag:Bool) (n:Nat) (len:Nat):List TV→Option (List TV):=
 Nat.rec (motive:=fun _=>List TV→Option (List TV)) (fun _=>some [])
  (fun _ ih cs=>Zaf (cellT ag n cs) fun x=>Zaf (ih (dropG cs n)) fun l=>some (x::l)) len
def rowsT (H:TH) (b off len n:Nat) (ag:Bool):Option (List TV):=
 Zco H b fun cs=>Zap (Nat.ble (Nat.add off (Nat.mul len n)) (Zag cs)) (Zap (Zbu Zbw (segG cs off (Nat.mul len n))) (grpT ag n len (dropG cs off)))
inductive Ld where
 |lend |take |settle |thaw (n:Nat) (ag:Bool)
def lendC (x:TV):TV:=match x with |.row c (.own _) n es=>.row c .bor n es |x=>x
def ldCell {β:Type} (m:Ld) (tlo base:Nat) (H:TH) (b:Nat) (cs:List TV) (off:Nat) (x:TV) (k:TV→TH→Option β):Option β:=
 match m with
 |.lend=>k (lendC x) H
 |.take=>cond (isOwn x) (Zap (Nat.ble tlo b) (k x (setBox H b (.cells (overG cs off [Zao]))))) (k x H)
 |.settle=>cond (isOwn x) (k (setC x) (setBox H b (.cells (overG cs off [setC x])))) (k x H)
 |.thaw n ag=>cond (isOwn x) (Zap (Nat.ble tlo b) (Zap (Nat.ble base b) (thawV n ag x H fun y H=>k y (setBox H b (.cells (overG cs off [y])))))) (k x H)
def loadC {β:Type} (m:Ld) (tlo base:Nat) (ag:Bool) (n:Nat) (H:TH) (a:TV) (k:TV→TH→Option β):Option β:=
 match a with
 |.ptr b off=>Zco H b fun cs=>
   cond ag (Zap (Nat.ble (Nat.add off n) (Zag cs))
     (cond (anyG isOwn (segG cs off n)) (k (.agg (mapG setC (segG cs off n))) (setBox H b (.cells (overG cs off (mapG setC (segG cs off n)))))) (k (.agg (segG cs off n)) H)))
    (Zaf (nth cs off) fun x=>ldCell m tlo base H b cs off x k)
 |.el _ cs off=>
   cond ag (Zap (Nat.ble (Nat.add off n) (Zag cs)) (k (.agg (segG cs off n)) H))
    (Zaf (nth cs off) fun x=>k x H)
 |_=>none
def Zbg {β:Type} (m:Ld) (tlo base:Nat) (ag:Bool) (n:Nat) (H:TH) (a:TV) (k:TV→TH→Option β):Option β:=bindT (loadC m tlo base ag n H a Zbt) k
def Zas (tlo base n:Nat) (H:TH) (a x:TV):Option TH:=
 match a with
 |.ptr b off=>Zap (Nat.ble tlo b) (Zap (stor x) (Zap (cond (Nat.blt b base) (looseT x) true) (Zco H b fun cs=>
   Zap (Nat.beq (Zag (Zav x)) n) (Zap (Nat.ble (Nat.add off n) (Zag cs)) (some (setBox H b (.cells (overG cs off (Zav x)))))))))
 |_=>none
def fillT:List (Nat×Nat×TV)→List TV→Option (List TV)
 |[],cs=>some cs
 |(off,size,x)::rest,cs=>
  Zap (stor x) (Zap (Nat.beq (Zag (Zav x)) size) (Zap (Nat.ble (Nat.add off size) (Zag cs)) (fillT rest (overG cs off (Zav x)))))
def placesT (place:Nat→Option (Nat×Nat)):List Nat→List TV→Option (List (Nat×Nat×TV))
 |i::is,x::xs=>Zaf (place i) fun p=>Zaf (placesT place is xs) fun l=>some ((p.1,p.2,x)::l)
 |[],_=>some []
 |_,_=>none
def aggT (ps:List (Nat×Nat×TV)) (z:List TV):Option TV:=Zaf (fillT ps z) fun cs=>some (.agg cs)
def buildT {β:Type} (P:Program) (t:TypeId) (is:List Nat) (xs:List TV) (k:TV→Option β):Option β:=
 Zaf (tyI P t) fun i=>Zaf (zeroT i) fun z=>
  match i.desc with
  |.struct fs=>Zap (fs.toList.all fun f=>(tyI P f.type).isSome) (Zaf (placesT (fieldPlaces P fs.toList) is xs) fun ps=>Zaa (aggT ps (Zav (ofV z))) k)
  |.array _ e=>Zaf (tyI P e) fun j=>Zaf (placesT (fun i=>some (Nat.mul i j.size,j.size)) is xs) fun ps=>Zaa (aggT ps (Zav (ofV z))) k
  |_=>none
def Zcx (n:Nat):List Nat→List TV→List TV→Option (List TV)
 |i::is,x::xs,es=>Zap (closed x) (Zap (Nat.beq (Zag (Zav x)) n) (Zap (Nat.blt i (Zag es)) (Zcx n is xs (overG es i [x]))))
 |[],_,es=>some es
 |_,_,_=>none
def litT {β:Type} (P:Program) (t:TypeId) (len:Nat) (is:List Nat) (xs:List TV) (k:TV→Option β):Option β:=
 Zaf (tyElem P t) fun e=>Zaf (tyI P e) fun i=>Zaf (zeroT i) fun z=>
  Zap (Nat.blt len UNK) (Zap (Nat.ble (Nat.mul len i.size) 16777216) (Zap (Nat.beq (lenN (cellsOf z)) i.size)
   (Zaa (Zcx i.size is xs (repG [ofV z] len)) fun es=>k (.row .full (.own e) i.size es))))
def Zar (x:TV) (d:Nat):Option TV:=match x with
 |.ptr b off=>some (.ptr b (Nat.add off d))
 |.el q cs off=>some (.el q cs (Nat.add off d))
 |_=>none
def fieldAddrT {β:Type} (P:Program) (t:TypeId) (x:TV) (f:Nat) (k:TV→Option β):Option β:=
 Zaf (tyI P t) fun i=>Zaf (structOf i.desc) fun fs=>Zaf (fieldPlaces P fs f) fun p=>
  cond (Nat.beq p.2 0) none (Zaa (Zar x p.1) k)
def partT (ag:Bool) (n:Nat) (x:TV) (off:Nat):Option TV:=match x with
 |.agg cs=>cond ag (Zap (Nat.ble (Nat.add off n) (Zag cs)) (some (.agg (segG cs off n)))) (nth cs off)
 |_=>none
def fieldT {β:Type} (P:Program) (t:TypeId) (x:TV) (f:Nat) (k:TV→Option β):Option β:=
 Zaf (tyI P t) fun i=>Zaf (structOf i.desc) fun fs=>Zaf (nth fs f) fun fd=>Zaf (tyI P fd.type) fun j=>
  Zaa (partT j.agg j.size x fd.offset) k
def elQ (q:Lf):Lf:=match q with |.own _=>.bor |q=>q
def Zbj (len n:Nat) (x ix:TV):Option TV:=
 Zaf (asNatT ix) fun j=>Zap (Nat.blt j len) (Zar x (Nat.mul j n))
def Zbn (sz:Nat) (x ix:TV):Option TV:=
 Zaf (asNatT ix) fun j=>
  match x with
  |.row _ q n es=>Zaf (nth es j) fun e=>Zap (Nat.beq n sz) (some (.el (elQ q) (Zav e) (nat_lit 0)))
  |.vec b off len _ n _=>Zap (Nat.beq n sz)<| Zap (Nat.blt j len) (some (.ptr b (Nat.add off (Nat.mul j n))))
  |_=>none
def indexAddrT {β:Type} (P:Program) (t:TypeId) (x ix:TV) (k:TV→Option β):Option β:=
 Zaf (tyI P t) fun i=>
  match i.desc with
  |.array len e=>Zaf (tyI P e) fun j=>Zaa (Zbj len j.size x ix) k
  |.slice e=>Zaf (tyI P e) fun j=>Zaa (Zbn j.size x ix) k
  |_=>none
def idxValT (ag:Bool) (len n:Nat) (x ix:TV):Option TV:=
 Zaf (asNatT ix) fun j=>Zap (Nat.blt j len) (partT ag n x (Nat.mul j n))
def idxStrT (x ix:TV):Option TV:=b2 evIdxStr x ix
def indexT {β:Type} (P:Program) (t:TypeId) (x ix:TV) (k:TV→Option β):Option β:=
 Zaf (tyI P t) fun i=>
  match i.desc with
  |.array len e=>Zaf (tyI P e) fun j=>Zaa (idxValT j.agg len j.size x ix) k
  |.string=>Zaa (idxStrT x ix) k
  |_=>none
def makeT {β:Type} (P:Program) (H:TH) (t:TypeId) (len cap:TV) (k:TV→TH→Option β):Option β:=
 Zaf (tyElem P t) fun e=>Zaf (tyI P e) fun i=>Zaf (zeroT i) fun z=>
  Zap (Nat.beq (lenN (cellsOf z)) i.size)
   (Zaf (toV len) fun l=>Zaf (toV cap) fun c=>Zaa (evSizes i.bytes l c) fun p=>
    k (.vec (Zag H) (nat_lit 0) p.1 p.2 i.size i.agg) (Zaq H (.cells (repG (Zav (ofV z)) p.2))))
def bndT (x:Option TV) (d:Nat):Option Nat:=match x with |none=>some d |some v=>asNatT v
def cutsT (len cap:Nat) (lo hi mx:Option TV):Option (Nat×Nat×Nat):=
 Zaf (bndT lo 0) fun l=>Zaf (bndT hi len) fun h=>Zaf (bndT mx cap) fun m=>
  Zap (cond mx.isNone true hi.isSome) (Zap (Nat.ble l h) (Zap (Nat.ble h m) (Zap (Nat.ble m cap) (Zap (Nat.blt m UNK) (some (l,h,m))))))
def isFull (c:Cp):Bool:=match c with |.full=>true |_=>false
def cutT (n:Nat) (x:TV) (lo hi mx:Option TV):Option TV:=
 match x with
 |.row c q m es=>
  cond (isNilC c) (Zaf (cutsT 0 0 lo hi mx) fun _=>some nilT)
   (Zap (Nat.beq m n)<| Zaf (bndT lo 0) fun l=>Zaf (bndT hi (Zag es)) fun h=>
    Zap (Nat.ble l h) (Zap (Nat.ble h (Zag es)) (Zap (Nat.blt (Zag es) UNK)
     (cond mx.isNone (some (.row (cond (isFull c) (cond (Nat.beq h (Zag es)) .full .opn) .opn) (elQ q) n (segG es l (Nat.sub h l))))
      (Zaf (bndT mx 0) fun m=>Zap hi.isSome (Zap (Nat.ble h m) (Zap (Nat.ble m (Zag es))
       (some (.row (cond (Nat.beq m h) .full .opn) (elQ q) n (segG es l (Nat.sub h l)))))))))))
 |.vec b off len cap sz ag=>
  Zap (Nat.beq sz n) (cond (cond (Nat.ble UNK cap) mx.isNone false)
   (Zaf (bndT lo 0) fun l=>Zaf (bndT hi len) fun h=>Zap (Nat.ble l h) (Zap (Nat.ble h len) (Zap (Nat.beq cap (Nat.add UNK n))
    (some (.vec b (Nat.add off (Nat.mul l n)) (Nat.sub h l) cap n ag)))))
   (Zaf (cutsT len (cond (Nat.ble UNK cap) len cap) lo hi mx) fun p=>
    some (.vec b (cond (Nat.beq p.2.2 p.1) off (Nat.add off (Nat.mul p.1 n))) (Nat.sub p.2.1 p.1) (Nat.sub p.2.2 p.1) n ag)))
 |_=>none
def cutArrT (ag:Bool) (n len:Nat) (x:TV) (lo hi mx:Option TV):Option TV:=
 Zaf (cutsT len len lo hi mx) fun p=>
  match x with
  |.ptr b off=>some (.vec b (cond (Nat.beq p.2.2 p.1) off (Nat.add off (Nat.mul p.1 n))) (Nat.sub p.2.1 p.1) (Nat.sub p.2.2 p.1) n ag)
  |.el q cs off=>Zap (Nat.blt p.1 p.2.2) (Zap (Nat.ble (Nat.add off (Nat.mul len n)) (Zag cs)) (Zaf (grpT ag n (Nat.sub p.2.1 p.1) (dropG cs (Nat.add off (Nat.mul p.1 n)))) fun es=>
    some (.row (cond (Nat.beq p.2.2 p.2.1) .full .opn) (elQ q) n es)))
  |_=>none
def sliceT {β:Type} (P:Program) (t:TypeId) (x:TV) (lo hi mx:Option TV) (k:TV→Option β):Option β:=
 Zaf (tyI P t) fun i=>
  match i.desc with
  |.array len e=>Zaf (tyI P e) fun j=>Zaa (cutArrT j.agg j.size len x lo hi mx) k
  |.slice e=>Zaf (tyI P e) fun j=>Zaa (cutT j.size x lo hi mx) k
  |_=>none
def findT (k:Value):List (Value×TV)→Nat→Option (Option (Nat×TV))
 |[],_=>some none
 |e::es,i=>
  match evKeyEq k e.1 with
  |some true=>some (some (i,e.2))
  |some false=>findT k es (Nat.succ i)
  |none=>none
def withMapT {β:Type} (H:TH) (b:Nat) (k:List (Value×TV)→Option β):Option β:=
 Zaf (nth H b) fun o=>match o with
  |.map es=>k es
  |_=>none
def okT (ok:Bool) (x:TV) (is:Bool):TV:=cond ok (.tup [x,.v (.bool is)]) x
def lookupT (H:TH) (q:KeyKind) (z:TV) (x:TV) (k:TV) (ok:Bool):Option TV:=
 Zaf (toV k) fun k=>Zap (keyOk q k)
  (match x with
   |.v (.map none)=>some (okT ok z false)
   |.map b=>withMapT H b fun es=>Zaf (findT k es (nat_lit 0)) fun r=>
    match r with
    |some p=>some (okT ok p.2 true)
    |none=>some (okT ok z false)
   |_=>none)
def setAtT:List (Value×TV)→Nat→Value→TV→List (Value×TV)
 |[],_,_,_=>[]
 |_::es,0,k,x=>(k,x)::es
 |e::es,n+1,k,x=>e::setAtT es n k x
def updateT (tlo:Nat) (H:TH) (q:KeyKind) (x k y:TV):Option TH:=
 Zaf (toV k) fun k=>Zap (keyOk q k) (Zap (closed y)
  (match x with
   |.map b=>Zap (Nat.ble tlo b) (withMapT H b fun es=>Zaf (findT k es (nat_lit 0)) fun r=>
    match r with
    |some p=>some (setBox H b (.map (setAtT es p.1 k y)))
    |none=>some (setBox H b (.map (List.append es [(k,y)]))))
   |_=>none))
def opLookupT {β:Type} (P:Program) (H:TH) (t:TypeId) (x k:TV) (ok:Bool) (c:TV→Option β):Option β:=
 Zaf (tyI P t) fun i=>Zaf (mapOf i.desc) fun p=>Zaf (keyKind P p.1) fun q=>Zaf (tyI P p.2) fun j=>Zaf (zeroT j) fun z=>
  Zaa (lookupT H q (ofV z) x k ok) c
def opUpdateT {β:Type} (P:Program) (tlo:Nat) (H:TH) (t:TypeId) (x k y:TV) (c:TH→Option β):Option β:=
 Zaf (tyI P t) fun i=>Zaf (mapOf i.desc) fun p=>Zaf (keyKind P p.1) fun q=>Zaa (updateT tlo H q x k y) c
def lenT (x:TV):Option TV:=match x with
 |.row _ _ _ es=>some (.v (.int .i64 (.ofNat (Zag es))))
 |.vec _ _ len _ _ _=>some (.v (.int .i64 (.ofNat len)))
 |_=>none
def lenMT (H:TH) (x:TV):Option TV:=match x with
 |.v (.map none)=>some (.v (.int .i64 0))
 |.map b=>withMapT H b fun es=>some (.v (.int .i64 (.ofNat (Zag es))))
 |_=>none
def opLenT {β:Type} (P:Program) (H:TH) (t:TypeId) (x:TV) (k:TV→Option β):Option β:=
 Zaf (tyI P t) fun i=>
  match i.desc with
  |.slice _=>Zaa (lenT x) k
  |.array n _=>k (.v (.int .i64 (.ofNat n)))
  |.map _ _=>Zaa (lenMT H x) k
  |_=>none
def capT (x:TV):Option TV:=match x with
 |.row .nil _ _ _=>some (.v (.int .i64 (.ofNat 0)))
 |.row .full _ _ es=>some (.v (.int .i64 (.ofNat (Zag es))))
 |.vec _ _ _ cap _ _=>cond (Nat.ble UNK cap) none (some (.v (.int .i64 (.ofNat cap))))
 |_=>none
def opCapT {β:Type} (P:Program) (t:TypeId) (x:TV) (k:TV→Option β):Option β:=
 Zaf (tyI P t) fun i=>
  match i.desc with
  |.slice _=>Zaa (capT x) k
  |.array n _=>k (.v (.int .i64 (.ofNat n)))
  |_=>none
def isV (x:TV):Bool:=match x with |.v _=>true |_=>false
def minMaxT {β:Type} (mx:Bool) (v:TV) (vs:List TV) (k:TV→Option β):Option β:=
 match vs with
 |[]=>Zap (isV v) (k v)
 |w::vs=>Zaa (b2 (Zdv mx) v w) fun v=>minMaxT mx v vs k
def moreT (size:Nat) (H:TH) (x:TV):Option (List TV):=match x with
 |.row c _ n es=>Zap (cond (isNilC c) true (Nat.beq n size)) (some es)
 |.vec b off len _ n ag=>Zap (Nat.beq n size) (rowsT H b off len n ag)
 |_=>none
def appRow {β:Type} (e:TypeId) (size:Nat) (H:TH) (c:Cp) (q:Lf) (es new:List TV) (k:TV→TH→Option β):Option β:=
 match c with
 |.opn=>(match q with
  |.own e'=>Zap (Nat.beq e e') (k (.row .opn (.own e) size (List.append es new)) H)
  |_=>none)
 |_=>k (.row .opn (.own e) size (List.append es new)) H
def appendC {β:Type} (tlo:Nat) (H:TH) (e:TypeId) (size bytes:Nat) (s x:TV) (k:TV→TH→Option β):Option β:=
 Zaf (moreT size H x) fun new=>
  (match s with
   |.row c q n es=>Zap (cond (isNilC c) true (Nat.beq n size))
    (cond (Nat.beq (Zag new) 0) (k (.row c q n es) H)
     (Zap (Zcc bytes (Nat.add (Zag es) (Zag new))) (appRow e size H c q es new k)))
   |.vec b off len cap n ag=>
    Zap (Nat.beq n size) (cond (Nat.beq (Zag new) 0) (Zap (Nat.ble len cap) (k (.vec b off len cap n ag) H))
     (Zap (Zcc bytes (Nat.add len (Zag new)))
      (cond (Nat.ble UNK cap) none
       (cond (Nat.ble (Nat.add len (Zag new)) cap)
        (Zap (Nat.ble tlo b) (Zco H b fun cs=>Zap (Nat.ble (Nat.add off (Nat.mul (Nat.add len (Zag new)) n)) (Zag cs))
         (k (.vec b off (Nat.add len (Zag new)) cap n ag) (setBox H b (.cells (overG cs (Nat.add off (Nat.mul len n)) (Zbl new)))))))
        (Zaf (rowsT H b off len n ag) fun es=>k (.row .opn (.own e) size (List.append es new)) H)))))
   |_=>none)
def Zcm {β:Type} (tlo:Nat) (H:TH) (e:TypeId) (size bytes:Nat) (s x:TV) (k:TV→TH→Option β):Option β:=bindT (appendC tlo H e size bytes s x Zbt) k
def appendZT {β:Type} (e:TypeId) (size bytes:Nat) (z:TV) (H:TH) (s x:TV) (k:TV→TH→Option β):Option β:=
 Zaf (asNatT x) fun n=>Zap (Nat.blt 0 n)
  (match s with
   |.row c _ m es=>Zap (cond (isNilC c) true (cond (isFull c) (Nat.beq m size) false)) (Zap (Zcc bytes (Nat.add (Zag es) n)) (Zap (closed z)
    (k (.row .opn (.own e) size (List.append es (repG [z] n))) H)))
   |_=>none)
def opAppendT {β:Type} (P:Program) (tlo:Nat) (H:TH) (st xt:TypeId) (s x:TV) (k:TV→TH→Option β):Option β:=
 Zaf (tyElem P st) fun e=>Zaf (tyI P e) fun i=>Zaf (zeroT i) fun z=>Zaf (tyI P xt) fun j=>
  Zap (Nat.beq (lenN (cellsOf z)) i.size)
   (match j.desc with
    |.slice _=>Zcm tlo H e i.size i.bytes s x k
    |.int _=>Zap (Nat.blt 0 i.size) (appendZT e i.size i.bytes (ofV z) H s x k)
    |_=>none)
def clearT (tlo:Nat) (H:TH) (z:List TV) (x:TV):Option TH:=match x with
 |.row .nil _ _ _=>some H
 |.vec b off len _ n _=>cond (Nat.beq len 0) (some H) (Zap (Nat.ble tlo b) (Zco H b fun cs=>Zap (Nat.ble (Nat.add off (Nat.mul len n)) (Zag cs))
   (some (setBox H b (.cells (overG cs off (repG z len)))))))
 |_=>none
def vecIs (x:TV) (size:Nat):Bool:=match x with |.vec _ _ _ _ n _=>Nat.beq n size |_=>true
def opClearT {β:Type} (P:Program) (tlo:Nat) (H:TH) (t:TypeId) (x:TV) (k:TH→Option β):Option β:=
 Zaf (tyElem P t) fun e=>Zaf (tyI P e) fun i=>Zaf (zeroT i) fun z=>
  Zap (Nat.beq (lenN (cellsOf z)) i.size) (Zap ((cellsOf z).all single) (Zap (vecIs x i.size) (Zaa (clearT tlo H (Zav (ofV z)) x) k)))
def builtinT {β:Type} (P:Program) (tlo:Nat) (H:TH) (b:Builtin) (ts:List TypeId) (vs:List TV) (k:TV→TH→Option β):Option β:=
 match b with
 |.append=>match ts,vs with
  |[st,xt],[s,x]=>opAppendT P tlo H st xt s x k
  |_,_=>none
 |.len=>match ts,vs with
  |[t],[x]=>opLenT P H t x fun v=>k v H
  |_,_=>none
 |.cap=>match ts,vs with
  |[t],[x]=>opCapT P t x fun v=>k v H
  |_,_=>none
 |.min=>match vs with
  |v::vs=>minMaxT false v vs fun v=>k v H
  |_=>none
 |.max=>match vs with
  |v::vs=>minMaxT true v vs fun v=>k v H
  |_=>none
 |.clear=>match ts,vs with
  |[t],[x]=>opClearT P tlo H t x fun H=>k Zao H
  |_,_=>none
 |_=>none
abbrev Zbc:=Nat→FuncId→List TV→TH→Option (TV×TH)
def capV (len cap n:Nat):Bool:=cond (Nat.ble UNK cap) (cond (Nat.beq cap (Nat.add UNK n)) (Nat.blt len UNK) false) (Nat.ble len cap)
def inC (H:TH) (x:TV):Option TV:=match x with
 |.v a=>some (.v a)
 |.row c _ n es=>some (.row c .set n es)
 |.iface t y=>some (.iface t y)
 |.vec b off len cap n ag=>Zaf (rowsT H b off len n ag) fun es=>Zap (capV len cap n) (some (.row (cond (Nat.beq len cap) .full .opn) .set n es))
 |.fn f [] []=>some (.fn f [] [])
 |_=>none
def insC (H:TH):List TV→Option (List TV)
 |[]=>some []
 |x::xs=>Zaf (inC H x) fun y=>Zaf (insC H xs) fun l=>some (y::l)
def inT (H:TH) (x:TV):Option TV:=match x with
 |.agg cs=>Zaf (insC H cs) fun ds=>some (.agg ds)
 |x=>inC H x
def insT (H:TH):List TV→Option (List TV)
 |[]=>some []
 |x::xs=>Zaf (inT H x) fun y=>Zaf (insT H xs) fun l=>some (y::l)
def actC (x:TV):Bool:=match x with |.row .nil _ _ _=>false |.row _ q _ _=>(match q with |.set=>false |_=>true) |.vec _ _ _ _ _ _=>true |_=>false
def actT (x:TV):Bool:=match x with |.agg cs=>anyG actC cs |x=>actC x
def flatE (x:TV):Bool:=match x with |.agg cs=>Zbu isV cs |x=>isV x
def outC (act:Bool) (H:TH) (x:TV):Option TV:=match x with
 |.v a=>some (.v a)
 |.row c q n es=>match q with
  |.own e=>Zap (cond act (Zbu flatE es) true) (some (.row c (.own e) n es))
  |.set=>Zap (cond act (isNilC c) true) (some (.row c .set n es))
  |.bor=>none
 |.vec b off len cap n ag=>Zaf (rowsT H b off len n ag) fun es=>Zap (capV len cap n)<| Zap (cond act (Zbu flatE es) true) (some (.row (cond (Nat.beq len cap) .full .opn) .set n es))
 |.iface t y=>Zap (!act) (some (.iface t y))
 |_=>none
def outsC (act:Bool) (H:TH):List TV→Option (List TV)
 |[]=>some []
 |x::xs=>Zaf (outC act H x) fun y=>Zaf (outsC act H xs) fun l=>some (y::l)
def outT (act:Bool) (H:TH) (x:TV):Option TV:=match x with
 |.agg cs=>Zaf (outsC act H cs) fun ds=>some (.agg ds)
 |x=>outC act H x
def outsT (act:Bool) (H:TH):List TV→Option (List TV)
 |[]=>some []
 |x::xs=>Zaf (outT act H x) fun y=>Zaf (outsT act H xs) fun l=>some (y::l)
def outR (act:Bool) (H:TH) (x:TV):Option TV:=match x with
 |.tup cs=>Zaf (outsT act H cs) fun ds=>some (.tup ds)
 |x=>outT act H x
def treeT (call:Zbc) (f:FuncId) (as:List TV) (act:Bool):Option TV:=
 bindT (call (nat_lit 0) f as []) fun v H'=>outR act H' v
def Zah (call:Zbc) (f:FuncId) (vs:List TV) (H:TH):Option TV:=
 Zaf (insT H vs) fun as=>treeT call f as (anyG actT vs)
def Zbr {β:Type} (call:Zbc) (tlo:Nat) (f:FuncId) (vs:List TV) (H:TH) (k:TV→TH→Option β):Option β:=
 Zap (Zbu pass vs) (bindT (call tlo f vs H) k)
def Zdc {β:Type} (C:TC) (call:Zbc) (tlo:Nat) (f:TV) (vs:List TV) (H:TH) (k:TV→TH→Option β):Option β:=
 match f with
 |.fn (.func g) first cap=>Zbr call tlo g (List.append first (List.append vs cap)) H k
 |_=>none
def callMethT {β:Type} (P:Program) (call:Zbc) (tlo:Nat) (r:TV) (name:String) (vs:List TV) (H:TH) (k:TV→TH→Option β):Option β:=
 match r with
 |.iface t x=>Zaf (evMethod P t name) fun g=>Zbr call tlo g (x::vs) H k
 |_=>none
def assertT (asserted:TypeId) (z x:TV) (ok:Bool):Option TV:=match x with
 |.v .nilIface=>cond ok (some (.tup [z,.v (.bool false)])) none
 |.iface t y=>cond (Nat.beq t asserted) (some (okT ok y true)) (cond ok (some (.tup [z,.v (.bool false)])) none)
 |_=>none
def isTmp (o:Operand) (d:Tmp):Bool:=match o with |.tmp t=>Nat.beq t d |_=>false
def feedsApp (o:Op) (d:Tmp):Bool:=match o with
 |.call ⟨.builtin .append,args,_⟩=>(match args.toList with |s::_=>isTmp s d |_=>false)
 |_=>false
def feedsStore (ops:List Oper):Nat→Tmp→Bool
 |0,_=>false
 |n+1,d=>ops.any fun o=>match o.op with
  |.store _ a _=>isTmp a d
  |.fieldAddr _ x _=>cond (isTmp x d) (match o.dst with |some t=>feedsStore ops n t |none=>false) false
  |.indexAddr _ x _=>cond (isTmp x d) (match o.dst with |some t=>feedsStore ops n t |none=>false) false
  |_=>false
def Zcn (P:Program) (t:TypeId):Nat×Bool:=
 (Zaf (tyElem P t) fun e=>Zaf (tyI P e) fun i=>some (i.size,i.agg)).getD (0,false)
def paramsOf (P:Program) (f:FuncId):List TypeId:=match nth P.funcs.toList f with |some fn=>fn.params.toList |none=>[]
def argRow (P:Program) (d:Tmp):List Operand→List TypeId→Option (Nat×Bool)
 |o::os,t::ts=>cond (isTmp o d) (match tyI P t with |some ⟨.slice _,_,_,_,_⟩=>some (Zcn P t) |_=>none) (argRow P d os ts)
 |_,_=>none
def feedsRow (P:Program) (C:TC) (ops:List Oper):Nat→Tmp→Option (Nat×Bool)
 |0,_=>none
 |n+1,d=>ops.findSome? fun o=>match o.op with
  |.indexAddr t x _=>cond (isTmp x d) (match o.dst with |some e=>cond (feedsStore ops 4 e) (some (Zcn P t)) none |none=>none) none
  |.move x=>cond (isTmp x d) (match o.dst with |some e=>feedsRow P C ops n e |none=>none) none
  |.assign x=>cond (isTmp x d) (match o.dst with |some e=>feedsRow P C ops n e |none=>none) none
  |.call ⟨.value (.func f),args,_⟩=>cond (C.thaws f) (argRow P d args.toList (paramsOf P f)) none
  |.call ⟨.builtin .clear,args,ts⟩=>argRow P d args.toList ts.toList
  |_=>none
def ownUse (C:TC) (keep res:List Tmp) (ops:List Oper):Nat→Tmp→Nat
 |0,_=>2
 |n+1,d=>ops.foldl (fun u o=>Nat.max u (match o.op with
  |.move x=>cond (isTmp x d) (match o.dst with |some e=>cond (keep.contains e || res.contains e) 2 (ownUse C keep res ops n e) |none=>0) 0
  |.assign x=>cond (isTmp x d) (match o.dst with |some e=>cond (keep.contains e || res.contains e) 2 (ownUse C keep res ops n e) |none=>0) 0
  |.store _ _ x=>cond (isTmp x d) 1 0
  |.box _ x=>cond (isTmp x d) 1 0
  |.build _ parts=>cond (parts.toList.any fun p=>isTmp p.2 d) 1 0
  |.buildSlice _ _ parts=>cond (parts.toList.any fun p=>isTmp p.2 d) 1 0
  |.pick _ a b=>cond (isTmp a d || isTmp b d) 1 0
  |.mapUpdate _ _ _ x=>cond (isTmp x d) 1 0
  |.makeInterface _ x=>cond (isTmp x d) 1 0
  |.makeFunc _ a b=>cond (a.toList.any (fun x=>isTmp x d) || b.toList.any fun x=>isTmp x d) 1 0
  |.call ⟨.builtin _,_,_⟩=>cond (feedsApp o.op d) 2 0
  |.call ⟨.value (.func f),args,_⟩=>cond (cond (C.tree f) (!C.deep f) false) 0 (cond (args.toList.any fun x=>isTmp x d) 1 0)
  |.call ⟨_,args,_⟩=>cond (args.toList.any fun x=>isTmp x d) 1 0
  |_=>0)) 0
def useMd:Nat→Md
 |0=>.lend
 |1=>.settle
 |_=>.take
def mvMd (P:Program) (C:TC) (keep res:List Tmp) (ops:List Oper) (dst:Option Tmp) (x:Operand):Md:=
 match x with
 |.tmp t=>(match dst with
  |some d=>(match feedsRow P C ops 4 d with
   |some p=>.thaw p.1 p.2
   |none=>cond (keep.contains d) (cond (res.contains d || !keep.contains t) .take .settle) (useMd (ownUse C keep res ops 4 d)))
  |none=>.take)
 |_=>.take
def ldMode (P:Program) (C:TC) (keep res:List Tmp) (ops:List Oper) (t:TypeId) (dst:Option Tmp):Ld:=
 match dst with
 |none=>.lend
 |some d=>
  cond (ops.any fun o=>feedsApp o.op d) .take
   (match feedsRow P C ops 4 d with
    |some p=>.thaw p.1 p.2
    |none=>cond (res.contains d) .take (cond (keep.contains d) .settle (cond (Nat.beq (ownUse C keep res ops 4 d) 0) .lend .settle)))
def argMd (dp:Bool) (keep:List Tmp) (o:Operand):Md:=match o with |.tmp t=>cond (cond dp false (keep.contains t)) .raw .settle |_=>.raw
def thawMds (P:Program):List Operand→List TypeId→List (Md×Operand)
 |[],_=>[]
 |o::os,ts=>match ts with
  |[]=>(.settle,o)::thawMds P os []
  |t::ts=>((match tyI P t with |some ⟨.slice _,_,_,_,_⟩=>.thaw (Zcn P t).1 (Zcn P t).2 |_=>.settle),o)::thawMds P os ts
def optMd:Option Operand→List (Md×Operand)
 |none=>[]
 |some o=>[(.raw,o)]
def Zbs (P:Program) (C:TC) (keep res:List Tmp) (ops:List Oper) (o:Oper):List (Md×Operand):=
 match o.op with
 |.move x=>[(mvMd P C keep res ops o.dst x,x)]
 |.assign x=>[(mvMd P C keep res ops o.dst x,x)]
 |.pick c a b=>[(.raw,c),(.settle,a),(.settle,b)]
 |.alloc _=>[]
 |.box _ x=>[(.take,x)]
 |.build _ parts=>parts.toList.map fun p=>(.take,p.2)
 |.buildSlice _ _ parts=>parts.toList.map fun p=>(.settle,p.2)
 |.load _ a=>[(.raw,a)]
 |.store _ a x=>[(.raw,a),(.take,x)]
 |.nilCheck x=>[(.raw,x)]
 |.binOp _ _ x y _=>[(.raw,x),(.raw,y)]
 |.unOp _ _ x=>[(.raw,x)]
 |.convert _ _ x=>[(.raw,x)]
 |.makeFunc _ first captured=>(first.toList++captured.toList).map fun x=>(.settle,x)
 |.makeMap _ r=>optMd r
 |.makeSlice _ l c=>[(.raw,l),(.raw,c)]
 |.slice _ x lo hi mx=>((match o.dst with |some d=>cond (keep.contains d) .settle .raw |none=>.raw),x)::(optMd lo++(optMd hi++optMd mx))
 |.fieldAddr _ x _=>[(.raw,x)]
 |.field _ x _=>[(.settle,x)]
 |.indexAddr t x i=>[(cond (match o.dst with |some d=>feedsStore ops 4 d |none=>false) (.thaw (Zcn P t).1 (Zcn P t).2) .raw,x),(.raw,i)]
 |.index _ x i=>[(.settle,x),(.raw,i)]
 |.lookup _ x k _=>[(.raw,x),(.raw,k)]
 |.mapUpdate _ m k x=>[(.raw,m),(.raw,k),(.settle,x)]
 |.extract x i=>[(.comp i,x)]
 |.makeInterface _ x=>[(.settle,x)]
 |.typeAssert x _ _ _=>[(.raw,x)]
 |.call ⟨.builtin .append,args,_⟩=>(match args.toList with |s::xs=>(.take,s)::xs.map fun x=>(.raw,x) |[]=>[])
 |.call ⟨.builtin .clear,args,ts⟩=>thawMds P args.toList ts.toList
 |.call ⟨.builtin _,args,_⟩=>args.toList.map fun x=>(.raw,x)
 |.call ⟨.value (.func f),args,_⟩=>
  cond (C.tree f) (args.toList.map fun x=>(argMd (C.deep f) keep x,x)) (cond (C.thaws f) (thawMds P args.toList (paramsOf P f)) (args.toList.map fun x=>(.settle,x)))
 |.call ⟨.value f,args,_⟩=>(.raw,f)::args.toList.map fun x=>(.settle,x)
 |.call ⟨.invoke r _,args,_⟩=>(.raw,r)::args.toList.map fun x=>(.settle,x)
 |_=>[]
def optVs:Option Operand→List TV→Option (Option TV×List TV)
 |none,vs=>some (none,vs)
 |some _,v::vs=>some (some v,vs)
 |some _,[]=>none
def idxs (parts:Array (Nat×Operand)):List Nat:=parts.toList.map (·.1)
def operT {β:Type} (P:Program) (C:TC) (call:Zbc) (keep res:List Tmp) (ops:List Oper) (tlo base:Nat) (dst:Option Tmp) (H:TH) (o:Op) (vs:List TV) (k:TV→TH→Option β):Option β:=
 match o with
 |.move _=>match vs with |[x]=>k x H |_=>none
 |.assign _=>match vs with |[x]=>k x H |_=>none
 |.pick _ _ _=>match vs with |[c,a,b]=>Zaa (Zch c a b) fun v=>k v H |_=>none
 |.alloc e=>Zaf (tyI P e) fun i=>Zaf (zeroT i) fun z=>k (.ptr (Zag H) (nat_lit 0)) (Zaq H (.cells (Zav (ofV z))))
 |.box _ _=>match vs with |[x]=>Zap (stor x) (k (.ptr (Zag H) (nat_lit 0)) (Zaq H (.cells (Zav x)))) |_=>none
 |.build t parts=>buildT P t (idxs parts) vs fun v=>k v H
 |.buildSlice t len parts=>litT P t len (idxs parts) vs fun v=>k v H
 |.load t _=>match vs with |[a]=>Zaf (tyI P t) fun i=>Zbg (ldMode P C keep res ops t dst) tlo base i.agg i.size H a k |_=>none
 |.store t _ _=>match vs with |[a,x]=>Zaf (tyI P t) fun i=>Zaa (Zas tlo base i.size H a x) fun H=>k Zao H |_=>none
 |.nilCheck _=>match vs with |[x]=>Zaa (nilCkT x) fun v=>k v H |_=>none
 |.binOp op t _ _ _=>match vs with |[x,y]=>binT P op t x y fun v=>k v H |_=>none
 |.unOp op _ _=>match vs with |[x]=>unT op x fun v=>k v H |_=>none
 |.convert s d _=>match vs with |[x]=>Zaf (tyI P s) fun _=>Zaf (tyI P d) fun i=>Zaf (intOf i.desc) fun q=>Zaa (b1 (evConv q) x) fun v=>k v H |_=>none
 |.makeFunc fn first _=>Zap (Zbu pass vs) (k (.fn fn (Zdg vs first.size) (dropG vs first.size)) H)
 |.makeMap t r=>match r with
  |none=>k (.map (Zag H)) (Zaq H (.map []))
  |some _=>match vs with |[x]=>Zaf (tyI P t) fun i=>Zaf (mapOf i.desc) fun _=>Zaf (toV x) fun a=>Zaa (asInt? a) fun _=>k (.map (Zag H)) (Zaq H (.map [])) |_=>none
 |.makeSlice t _ _=>match vs with |[l,c]=>makeT P H t l c k |_=>none
 |.slice t _ lo hi mx=>match vs with
  |x::vs=>Zaf (optVs lo vs) fun p=>Zaf (optVs hi p.2) fun q=>Zaf (optVs mx q.2) fun r=>sliceT P t x p.1 q.1 r.1 fun v=>k v H
  |_=>none
 |.fieldAddr t _ f=>match vs with |[x]=>fieldAddrT P t x f fun v=>k v H |_=>none
 |.field t _ f=>match vs with |[x]=>fieldT P t x f fun v=>k v H |_=>none
 |.indexAddr t _ _=>match vs with |[x,i]=>indexAddrT P t x i fun v=>k v H |_=>none
 |.index t _ _=>match vs with |[x,i]=>indexT P t x i fun v=>k v H |_=>none
 |.lookup t _ _ ok=>match vs with |[x,key]=>opLookupT P H t x key ok fun v=>k v H |_=>none
 |.mapUpdate t _ _ _=>match vs with |[m,key,x]=>opUpdateT P tlo H t m key x fun H=>k Zao H |_=>none
 |.extract _ _=>match vs with |[x]=>k x H |_=>none
 |.makeInterface t _=>match vs with |[x]=>Zaf (tyI P t) fun i=>Zap (notIface i.desc) (Zap (closed x) (k (.iface t x) H)) |_=>none
 |.typeAssert _ _ a ok=>match vs with |[x]=>Zaf (tyI P a) fun i=>Zap (notIface i.desc) (Zaf (zeroT i) fun z=>Zaa (assertT a (ofV z) x ok) fun v=>k v H) |_=>none
 |.call ⟨.builtin b,_,ts⟩=>builtinT P tlo H b ts.toList vs k
 |.call ⟨.value (.func f),_,_⟩=>cond (C.tree f) (Zaa (Zah call f vs H) fun v=>k v H) (Zbr call tlo f vs H k)
 |.call ⟨.value _,_,_⟩=>match vs with |f::vs=>Zdc C call tlo f vs H k |_=>none
 |.call ⟨.invoke _ name,_,_⟩=>match vs with |r::vs=>callMethT P call tlo r name vs H k |_=>none
 |_=>none
def Zby (m:Md):Bool:=match m with |.thaw _ _=>true |_=>false
def isThawL (m:Ld):Bool:=match m with |.thaw _ _=>true |_=>false
def endsT (P:Program) (C:TC) (keep res:List Tmp) (ops:List Oper) (o:Oper):Bool:=
 cond (anyG (fun p=>Zby p.1) (Zbs P C keep res ops o)) true
  (match o.op with
   |.load t _=>isThawL (ldMode P C keep res ops t o.dst)
   |.call ⟨.builtin .append,_,_⟩=>true
   |.call ⟨.builtin _,_,_⟩=>false
   |.call ⟨.value (.func f),_,_⟩=>!C.tree f
   |.call _=>true
   |_=>false)
def nextEp (P:Program) (C:TC) (keep res:List Tmp) (ops:List Oper) (o:Oper) (ep:Nat):Nat:=cond (endsT P C keep res ops o) (Nat.succ ep) ep
def isBT (x:TV) (want:Bool):Bool:=match x with |.v a=>isB a want |_=>false
def isBoolT (x:TV):Bool:=match x with |.v (.bool _)=>true |.gone=>true |_=>false
def Zbk {β:Type} (x:TV) (want:Bool) (r:Option (TV×TH)) (H:TH) (k:TV→TH→Option β):Option β:=
 Zap (isBoolT x) (bindT (cond (isBT x want) r (some (.gone,H))) k)
def oneT {β:Type} (P:Program) (C:TC) (call:Zbc) (keep res:List Tmp) (all:List Oper) (tlo base ep:Nat) (E:TE) (H:TH) (o:Oper) (k:TV→TE→TH→Option β):Option β:=
 match o.guard with
 |none=>rdOps P C ep (Zbs P C keep res all o) E H fun vs E H=>operT P C call keep res all tlo base o.dst H o.op vs fun v H=>k v E H
 |some g=>Zaf (nth all g.1) fun p=>Zaf p.dst fun d=>Zaf (lookT E d) fun q=>
   rdOps P C ep (Zbs P C keep res all o) E H fun vs E H=>
    Zbk q.2 g.2 (operT P C call keep res all tlo base o.dst H o.op vs Zbt) H fun v H=>k v E H
def opsT {β:Type} (P:Program) (C:TC) (call:Zbc) (keep res:List Tmp) (tlo base nt:Nat) (all:List Oper):List Oper→Nat→TE→TH→(TE→TH→Option β)→Option β
 |[],_,E,H,k=>k E H
 |o::rest,ep,E,H,k=>cond (bound nt o.dst)
   (oneT P C call keep res all tlo base ep E H o fun v E H=>opsT P C call keep res tlo base nt all rest (nextEp P C keep res all o ep) (putD E o.dst (nextEp P C keep res all o ep) v) H k) none
inductive Hd where
 |none |box (b:Nat) |own |set |any |row (n:Nat)
def hdT (x:TV):Hd:=match x with
 |.v _=>.none
 |.row c q _ _=>(match c with |.nil=>.none |_=>match q with |.own _=>.own |.set=>.set |.bor=>.any)
 |.ptr b _=>.box b
 |.vec b _ _ _ _ _=>.box b
 |.map b=>.box b
 |.el q _ _=>(match q with |.set=>.set |_=>.any)
 |.agg _=>.none
 |.fn _ _ _=>.none
 |.iface _ _=>.none
 |.tup _=>.any
 |.gone=>.any
def apartH (a b:Hd):Bool:=match a,b with
 |.none,_=>true
 |_,.none=>true
 |.box i,.box j=>!(Nat.beq i j)
 |.box _,.own=>true
 |.box _,.set=>true
 |.own,.box _=>true
 |.set,.box _=>true
 |.own,.set=>true
 |.set,.own=>true
 |.row n,.box j=>Nat.blt j n
 |.box j,.row n=>Nat.blt j n
 |_,_=>false
def apartT (a b:List Hd):Bool:=Zbu (fun x=>Zbu (fun y=>apartH x y) b) a
def hdP (H:TH) (x:TV):Hd:=match x with
 |.row c q _ _=>(match c with |.nil=>.none |_=>match q with |.set=>.set |_=>.row (Zag H))
 |.el q _ _=>(match q with |.set=>.set |_=>.row (Zag H))
 |x=>hdT x
def hdX (x:TV) (h:Hd):Hd:=match hdT x with |.any=>h |d=>d
abbrev HE:=List (Tmp×Hd)
def lookH:HE→Tmp→Hd
 |[],_=>.any
 |(s,h)::E,t=>cond (Nat.beq s t) h (lookH E t)
def putH (E:HE) (d:Option Tmp) (h:Hd):HE:=match d with |none=>E |some d=>(d,h)::E
def startH (H:TH):TE→HE
 |[]=>[]
 |(t,p)::E=>(t,hdP H p.2)::startH H E
def rawT (P:Program) (C:TC) (ep:Nat) (E:TE) (o:Operand):Option TV:=
 match o with
 |.tmp t=>Zaf (lookT E t) fun p=>some (nowT ep p)
 |.const v=>Zap (plain v) (some (ofV v))
 |.global g=>Zaf (C.tabs g) fun cs=>Zap (Nat.blt g P.globals.size) (some (.el .set cs (nat_lit 0)))
 |.func f=>some (.fn (.func f) [] [])
def hdO (P:Program) (C:TC) (ep:Nat) (E:TE) (hs:HE) (o:Operand):Option Hd:=
 Zaf (rawT P C ep E o) fun v=>some (hdX v (match o with |.tmp t=>lookH hs t |_=>.any))
def hdsT (P:Program) (C:TC) (ep:Nat) (E:TE) (hs:HE):List Operand→Option (List Hd)
 |[]=>some []
 |o::os=>Zaf (hdO P C ep E hs o) fun v=>Zaf (hdsT P C ep E hs os) fun l=>some (v::l)
def isTreeOp (C:TC) (o:Op):Bool:=match o with
 |.call ⟨.value (.func f),_,_⟩=>C.tree f
 |_=>false
def plainMdB (m:Md):Bool:=match m with |.raw=>true |.settle=>true |_=>false
def plainOp (P:Program) (C:TC) (keep res:List Tmp) (ops:List Oper) (o:Oper):Bool:=Zbu (fun p=>plainMdB p.1) (Zbs P C keep res ops o)
def noOwnO (o:TObj):Bool:=match o with |.cells cs=>Zbu (fun x=>!isOwn x) cs |_=>true
def quietOk (P:Program) (C:TC) (keep res:List Tmp) (ops:List Oper) (H:TH) (o:Oper):Bool:=
 cond (isTreeOp C o.op) true (cond (plainOp P C keep res ops o) (Zbu noOwnO H) false)
def quietLo (C:TC) (tlo:Nat) (H:TH) (o:Oper):Nat:=cond (isTreeOp C o.op) tlo (Zag H)
def opsDT {β:Type} (P:Program) (C:TC) (call:Zbc) (keep res:List Tmp) (tlo base nt:Nat) (all:List Oper):List Oper→List Row→Nat→HE→TE→TH→(TE→TH→Option β)→Option β
 |[],_,_,_,E,H,k=>k E H
 |o::rest,rows,ep,hs,E,H,k=>
  match rows with
  |[]=>none
  |r::rows=>
   cond (bound nt o.dst)
    (Zaf (hdsT P C ep E hs r.apart) fun a=>Zaf (hdsT P C ep E hs r.own) fun b=>Zap (apartT a b)
     (Zap (cond r.quiet (quietOk P C keep res all H o) true)<| oneT P C call keep res all (cond r.quiet (quietLo C tlo H o) tlo) base ep E H o fun v E H=>opsDT P C call keep res tlo base nt all rest rows (nextEp P C keep res all o ep) (putH hs o.dst (hdP H v)) (putD E o.dst (nextEp P C keep res all o ep) v) H k)) none
def regionT {β:Type} (P:Program) (C:TC) (call:Zbc) (keep res:List Tmp) (tlo base nt:Nat) (ops:List Oper) (draw:Bool) (E:TE) (H:TH) (k:TE→TH→Option β):Option β:=
 match draw with
 |true=>(match planOf ops (Zcu ops []) with |⟨ok,rows⟩=>cond ok (opsDT P C call keep res tlo base nt ops ops rows (nat_lit 0) (startH H E) E H k) none)
 |false=>opsT P C call keep res tlo base nt ops ops (nat_lit 0) E H k
abbrev RetT (σ:Type):=Option (Ex×σ×TH)
abbrev Zaz (σ:Type):=σ→TH→RetT σ
def Zad {σ:Type} (f:σ→TH→(σ→TH→RetT σ)→RetT σ):Zaz σ:=fun S H=>f S H fun S H=>some (.normal,S,H)
def Zam {σ:Type} (e:Ex):Zaz σ:=fun S H=>some (e,S,H)
def Zaj {σ:Type} (f g:Zaz σ):Zaz σ:=fun S H=>
 Option.rec (motive:=fun _=>RetT σ) none (fun p=>Ex.casesOn (motive:=fun _=>RetT σ) p.1 (g p.2.1 p.2.2) (fun _=>some p) (some p)) (f S H)
def Zbb {σ:Type} (c:σ→Option TV) (f g:Zaz σ):Zaz σ:=fun S H=>
 Zaa (c S) fun v=>match v with
  |.v (.bool t)=>cond t (f S H) (g S H)
  |_=>none
def Zbd {σ:Type} (id:Nat) (f:Zaz σ):Zaz σ:=fun S H=>
 Option.rec (motive:=fun _=>RetT σ) none (fun p=>Ex.casesOn (motive:=fun _=>RetT σ) p.1 (some p) (fun id'=>cond (Nat.beq id' id) (some (.normal,p.2)) (some p)) (some p)) (f S H)
def Zdn {σ:Type} (f:Zaz σ) (fuel:Nat):Zaz σ:=
 Nat.rec (motive:=fun _=>Zaz σ) (fun _ _=>none)
  (fun _ ih S H=>Option.rec (motive:=fun _=>RetT σ) none (fun p=>Ex.casesOn (motive:=fun _=>RetT σ) p.1 (ih p.2.1 p.2.2) (fun _=>some p) (some p)) (f S H)) fuel
def codeT (P:Program) (C:TC) (call:Zbc) (tlo base nt:Nat) (keep res:List Tmp):Code→Zaz (VT keep)
 |.skip=>Zam .normal
 |.label _=>Zam .normal
 |.ret=>Zam .ret
 |.exit id=>Zam (.exit id)
 |.region _ ops draw=>Zad fun S H k=>regionT P C call keep res tlo base nt ops.toList draw (zipT keep S) H fun E H=>k (mkT E keep) H
 |.seq a b=>Zaj (codeT P C call tlo base nt keep res a) (codeT P C call tlo base nt keep res b)
 |.cond c a b=>Zbb (fun S=>rawT P C (nat_lit 0) (zipT keep S) c) (codeT P C call tlo base nt keep res a) (codeT P C call tlo base nt keep res b)
 |.block id c=>Zbd id (codeT P C call tlo base nt keep res c)
 |.loop c=>Zdn (codeT P C call tlo base nt keep res c) C.fuel
 |.scope c=>codeT P C call tlo base nt keep res c
 |_=>fun _ _=>none
def resTmps (rs:List ResultVar):List Tmp:=rs.filterMap fun |.tmp t=>some t |_=>none
def resultsT {β:Type} (P:Program) (tlo:Nat):List ResultVar→TE→TH→(List TV→TH→Option β)→Option β
 |[],_,H,k=>k [] H
 |.tmp t::rs,E,H,k=>Zaf (lookT E t) fun p=>resultsT P tlo rs (putT E t (nat_lit 0) (hush p.2)) H fun vs H=>k (p.2::vs) H
 |.cell a t::rs,E,H,k=>Zaf (lookT E a) fun p=>Zaf (tyI P t) fun i=>Zbg .take tlo (Zag H) i.agg i.size H p.2 fun v H=>resultsT P tlo rs E H fun vs H=>k (v::vs) H
def Zbo (v:TV):Bool:=match v with |.row _ .bor _ _=>false |.el .bor _ _=>false |.tup (_::_)=>false |_=>true
def oneOfT:List TV→TV
 |[v]=>v
 |vs=>.tup vs
def Zdw (base:Nat) (v:TV) (H:TH):TV×TH:=cond (loose v) (v,Zdg H base) (v,H)
def bodyT (P:Program) (C:TC) (call:Zbc) (tlo nt:Nat) (keep:List Tmp) (c:Code) (rs:List ResultVar) (args:List TV) (H:TH):Option (TV×TH):=
 Zaa (codeT P C call tlo (Zag H) nt keep (resTmps rs) c (initT args keep) H) fun p=>
  Zdp p.1 (resultsT P tlo rs (zipT keep p.2.1) p.2.2 fun vs H'=>Zap (Zbu Zbo vs) (some (Zdw (Zag H) (oneOfT vs) H')))
def fnT (P:Program) (C:TC) (call:Zbc):Zbc:=fun tlo f args H=>
 Zaf (nth P.funcs.toList f) fun fn=>Zaf fn.body fun c=>
  Zap (!(fn.name == "runtime.NumGoroutine")) (bodyT P C call tlo fn.ntmps (C.keep f) c fn.results.toList args H)
def tableT:List (Nat×(Zbc→Zbc))→Tr (Zbc→Zbc)→Tr (Zbc→Zbc)
 |[],t=>t
 |r::l,t=>tableT l (t.put r.1 (some r.2))
def tabCall (P:Program) (C:TC) (table:Tr (Zbc→Zbc)) (d:Nat):Zbc:=
 Nat.rec (motive:=fun _=>Zbc) (fun _ _ _ _=>none)
  (fun _ ih tlo f args H=>Option.rec (motive:=fun _=>Option (TV×TH)) (fnT P C ih tlo f args H) (fun F=>F ih tlo f args H) (table.get f)) d
end
end Go.Ev
namespace Go.Ev
inductive All2 {α β:Type} (R:α→β→Prop):List α→List β→Prop where
 |nil:All2 R [] []
 |cons {a:α} {b:β} {as:List α} {bs:List β} (h:R a b) (t:All2 R as bs):All2 R (a::as) (b::bs)
theorem bleF {a b:Nat} (h:a < b):Nat.ble b a=false:=by
 cases e:Nat.ble b a with
 |false=>rfl
 |true=>exact absurd (Nat.le_of_ble_eq_true e) (by omega)
theorem blt_t' {a b:Nat} (h:a < b):Nat.blt a b=true:=by rw [Nat.blt_eq];exact h
theorem dropG_eq {α:Type} (l:List α) (n:Nat):dropG l n=l.drop n:=by
 induction l generalizing n with
 |nil=>simp [dropG]
 |cons x l ih=>
  cases n with
  |zero=>rfl
  |succ n=>rw [List.drop_succ_cons,← ih];rfl
theorem Zct {α:Type} (l:List α) (n:Nat):Zdg l n=l.take n:=by
 induction l generalizing n with
 |nil=>simp [Zdg]
 |cons x l ih=>
  cases n with
  |zero=>rfl
  |succ n=>rw [List.take_succ_cons,← ih];rfl
theorem Zat {α:Type} (l:List α):Zag l=l.length:=by
 induction l with
 |nil=>rfl
 |cons x l ih=>rw [List.length_cons,← ih];rfl
theorem overHG_eq {α:Type} (vs cs:List α) (h:vs.length≤cs.length):overHG vs cs=vs++cs.drop vs.length:=by
 induction vs generalizing cs with
 |nil=>rfl
 |cons v vs ih=>
  cases cs with
  |nil=>simp at h
  |cons c cs=>
   have:overHG (v::vs) (c::cs)=v::overHG vs cs:=rfl
   rw [this,ih cs (by simpa using h)];rfl
theorem overG_eq {α:Type} (cs vs:List α) (off:Nat) (h:off+vs.length≤cs.length):overG cs off vs=cs.take off++(vs++cs.drop (off+vs.length)):=by
 induction cs generalizing off with
 |nil=>
  have h1:vs=[]:=by cases vs with |nil=>rfl |cons=>simp at h
  have h2:off=0:=by subst h1;simpa using h
  subst h1 h2;rfl
 |cons c cs ih=>
  cases off with
  |zero=>
   have:overG (c::cs) 0 vs=overHG vs (c::cs):=rfl
   rw [this,overHG_eq _ _ (by simpa using h)];simp
  |succ off=>
   have:overG (c::cs) (off+1) vs=c::overG cs off vs:=rfl
   rw [this,ih off (by simp at h;omega)]
   simp [show off+1+vs.length=off+vs.length+1 from by omega]
theorem segG_eq {α:Type} (cs:List α) (off n:Nat):segG cs off n=(cs.drop off).take n:=by simp [segG,Zct,dropG_eq]
theorem mapG_eq {α β:Type} (f:α→β) (l:List α):mapG f l=l.map f:=by
 induction l with
 |nil=>rfl
 |cons x l ih=>rw [List.map_cons,← ih];rfl
theorem Zds {α:Type} (p:α→Bool) (l:List α):Zbu p l=l.all p:=by
 induction l with
 |nil=>rfl
 |cons x l ih=>
  show cond (p x) (Zbu p l) false=_
  rw [ih,List.all_cons];cases p x <;> rfl
theorem anyG_eq {α:Type} (p:α→Bool) (l:List α):anyG p l=l.any p:=by
 induction l with
 |nil=>rfl
 |cons x l ih=>
  show cond (p x) true (anyG p l)=_
  rw [ih,List.any_cons];cases p x <;> rfl
theorem overG_one {α:Type} (cs:List α) (off:Nat) (x:α) (h:off < cs.length):overG cs off [x]=cs.set off x:=by
 rw [overG_eq _ _ _ (by simp;omega),List.set_eq_take_append_cons_drop,if_pos h];simp
theorem flatL_nil:Zbl []=[]:=rfl
theorem flatL_cons (x:TV) (es:List TV):Zbl (x::es)=Zav x++Zbl es:=rfl
theorem flatL_append (a b:List TV):Zbl (a++b)=Zbl a++Zbl b:=by
 induction a with
 |nil=>rfl
 |cons x a ih=>rw [List.cons_append,flatL_cons,ih,flatL_cons,List.append_assoc]
def Each (n:Nat) (es:List TV):Prop:=∀ x∈es,(Zav x).length=n∧∀ c∈Zav x,Zbw c=true
theorem Each.cons {n:Nat} {x:TV} {es:List TV} (h:Each n (x::es)):(Zav x).length=n∧Each n es:=⟨(h x (List.mem_cons_self ..)).1,fun y hy=>h y (List.mem_cons_of_mem _ hy)⟩
theorem Each.append {n:Nat} {a b:List TV} (h:Each n a) (k:Each n b):Each n (a++b):=fun x hx=>(List.mem_append.1 hx).elim (h x) (k x)
theorem Each.closed {n:Nat}:∀ {es:List TV},Each n es→∀ c∈Zbl es,Zbw c=true
 |[],_,c,hc=>by rw [flatL_nil] at hc;cases hc
 |x::es,h,c,hc=>by
  rw [flatL_cons] at hc
  rcases List.mem_append.1 hc with hc |hc
  ·exact (h x (List.mem_cons_self ..)).2 c hc
  ·exact Each.closed h.cons.2 c hc
theorem flatL_length {n:Nat}:∀ {es:List TV},Each n es→(Zbl es).length=es.length * n
 |[],_=>by simp [flatL_nil]
 |x::es,h=>by rw [flatL_cons,List.length_append,h.cons.1,flatL_length h.cons.2,List.length_cons,Nat.succ_mul];omega
theorem flatL_drop {n:Nat}:∀ {es:List TV} (l:Nat),Each n es→(Zbl es).drop (l * n)=Zbl (es.drop l)
 |es,0,_=>by simp
 |[],l+1,_=>by simp [flatL_nil]
 |x::es,l+1,h=>by
  rw [flatL_cons,Nat.succ_mul,Nat.add_comm,← List.drop_drop,List.drop_left' h.cons.1,flatL_drop l h.cons.2,List.drop_succ_cons]
theorem flatL_take {n:Nat}:∀ {es:List TV} (l:Nat),Each n es→(Zbl es).take (l * n)=Zbl (es.take l)
 |es,0,_=>by simp [flatL_nil]
 |[],l+1,_=>by simp [flatL_nil]
 |x::es,l+1,h=>by
  rw [flatL_cons,Nat.succ_mul,Nat.add_comm,List.take_succ_cons,flatL_cons,List.take_append,h.cons.1,List.take_of_length_le (by rw [h.cons.1];omega),
   Nat.add_sub_cancel_left,flatL_take l h.cons.2]
theorem flatL_at {n:Nat} {es:List TV} {j:Nat} {x:TV} (h:Each n es) (hj:es[j]? = some x):((Zbl es).drop (j * n)).take n=Zav x:=by
 have hlt:j < es.length:=by
  rcases Nat.lt_or_ge j es.length with h1 |h1
  ·exact h1
  ·rw [List.getElem?_eq_none h1] at hj;cases hj
 rw [flatL_drop j h,List.drop_eq_getElem_cons hlt,flatL_cons]
 rw [List.getElem?_eq_getElem hlt] at hj
 cases hj
 have h1:=(h es[j] (List.getElem_mem hlt)).1
 rw [List.take_append,h1,List.take_of_length_le (by rw [h1];omega),Nat.sub_self,List.take_zero,List.append_nil]
def notSl (a:Value):Bool:=match a with |.slice _ _ _=>false |_=>true
def capOk (c:Cp) (cap len n:Nat):Prop:=match c with
 |.nil=>False
 |.full=>cap=len∧len < UNK
 |.opn=>(len≤cap∧cap < UNK)∨(cap=UNK+n∧len < UNK)
mutual
inductive KR (H:AH) (S:Nat→Prop):TV→Value→Prop where
 |v {a:Value} (h:flat a=true) (hn:notSl a=true):KR H S (.v a) a
 |nil:KR H S nilT (.slice none 0 0)
 |row {c:Cp} {n:Nat} {es:List TV} {i off cap s:Nat} {cs:List Value} {e:TypeId} (hc:capOk c cap es.length n) (hi:S i) (hl:i < H.next) (hg:H.get i=some (.cells s cs e)) (hs:cs.length=s)
   (hb:off+es.length * n≤s) (he:Each n es) (h:KRL H S (Zbl es) ((cs.drop off).take (es.length * n))):KR H S (.row c .set n es) (.slice (some ⟨i,off,none⟩) es.length cap)
 |agg {cs:List TV} {ds:Array Value} (hc:∀ c∈cs,Zbw c=true) (h:KRL H S cs ds.toList):KR H S (.agg cs) (.agg ds)
 |iface {t:TypeId} {x:TV} {y:Value} (h:KR H S x y):KR H S (.iface t x) (.iface t y)
 |fn0 {f:Fn}:KR H S (.fn f [] []) (.func f #[] #[])
inductive KRL (H:AH) (S:Nat→Prop):List TV→List Value→Prop where
 |nil:KRL H S [] []
 |cons {x:TV} {y:Value} {xs:List TV} {ys:List Value} (h:KR H S x y) (t:KRL H S xs ys):KRL H S (x::xs) (y::ys)
end
mutual
inductive VR (H:AH) (S:Nat→Prop) (r:List Nat):TV→Value→List Nat→Prop where
 |k {x:TV} {y:Value} (h:KR H S x y):VR H S r x y []
 |bor {c:Cp} {n:Nat} {es:List TV} {i off cap s:Nat} {cs:List Value} {e:TypeId} (hc:capOk c cap es.length n) (hi:i ∉ r) (hl:i < H.next) (hg:H.get i=some (.cells s cs e)) (hs:cs.length=s)
   (hb:off+es.length * n≤s) (he:Each n es) (h:KRL H S (Zbl es) ((cs.drop off).take (es.length * n))):VR H S r (.row c .bor n es) (.slice (some ⟨i,off,none⟩) es.length cap) []
 |own {c:Cp} {n:Nat} {es:List TV} {i:Nat} {cs:List Value} {e:TypeId} (hc:c≠.nil) (hu:es.length < UNK) (hl:i < H.next) (hg:H.get i=some (.cells (es.length * n) cs e)) (he:Each n es)
   (h:KRL H S (Zbl es) cs):VR H S r (.row c (.own e) n es) (.slice (some ⟨i,0,none⟩) es.length (thawCap c es.length n)) [i]
 |ptr {b i off:Nat} (h:r[b]? = some i):VR H S r (.ptr b off) (.pointer (some ⟨i,off,none⟩)) []
 |elS {cs:List TV} {i o off s:Nat} {ds:List Value} {e:TypeId} (hi:S i) (hl:i < H.next) (hg:H.get i=some (.cells s ds e)) (hs:ds.length=s) (hb:o+cs.length≤s) (hc:∀ c∈cs,Zbw c=true) (h:KRL H S cs ((ds.drop o).take cs.length)) :
   VR H S r (.el .set cs off) (.pointer (some ⟨i,o+off,none⟩)) []
 |elB {cs:List TV} {i o off s:Nat} {ds:List Value} {e:TypeId} (hi:i ∉ r) (hl:i < H.next) (hg:H.get i=some (.cells s ds e)) (hs:ds.length=s) (hb:o+cs.length≤s) (hc:∀ c∈cs,Zbw c=true) (h:KRL H S cs ((ds.drop o).take cs.length)) :
   VR H S r (.el .bor cs off) (.pointer (some ⟨i,o+off,none⟩)) []
 |vec {b i off len cap n:Nat} {ag:Bool} (h:r[b]? = some i):VR H S r (.vec b off len cap n ag) (.slice (some ⟨i,off,none⟩) len cap) []
 |map {b i:Nat} (h:r[b]? = some i):VR H S r (.map b) (.map (some i)) []
 |fn {f:Fn} {first cap:List TV} {f' c':Array Value} (h:VRL H S r first f'.toList []) (h':VRL H S r cap c'.toList []):VR H S r (.fn f first cap) (.func f f' c') []
 |agg {cs:List TV} {ds:Array Value} {o:List Nat} (h:VRL H S r cs ds.toList o):VR H S r (.agg cs) (.agg ds) o
 |tup {cs:List TV} {ds:Array Value} {o:List Nat} (h:VRL H S r cs ds.toList o):VR H S r (.tup cs) (.tuple ds) o
 |und {y:Value}:VR H S r Zao y []
 |gone:VR H S r .gone undef []
inductive VRL (H:AH) (S:Nat→Prop) (r:List Nat):List TV→List Value→List Nat→Prop where
 |nil:VRL H S r [] [] []
 |cons {x:TV} {y:Value} {o:List Nat} {xs:List TV} {ys:List Value} {os:List Nat} (h:VR H S r x y o) (t:VRL H S r xs ys os):VRL H S r (x::xs) (y::ys) (o++os)
end
def Stay (H:AH) (S:Nat→Prop) (H':AH) (S':Nat→Prop):Prop:=H.next≤H'.next∧∀ i,i < H.next→S i→S' i∧H'.get i=H.get i
mutual
theorem KR.mono {H H':AH} {S S':Nat→Prop} (m:Stay H S H' S'):∀ {x:TV} {y:Value},KR H S x y→KR H' S' x y
 |_,_,.v h hn=>.v h hn
 |_,_,.nil=>.nil
 |_,_,.row hc hi hl hg hs hb he h=>.row hc (m.2 _ hl hi).1 (Nat.lt_of_lt_of_le hl m.1) ((m.2 _ hl hi).2.trans hg) hs hb he (KRL.mono m h)
 |_,_,.agg hc h=>.agg hc (KRL.mono m h)
 |_,_,.iface h=>.iface (KR.mono m h)
 |_,_,.fn0=>.fn0
theorem KRL.mono {H H':AH} {S S':Nat→Prop} (m:Stay H S H' S'):∀ {x:List TV} {y:List Value},KRL H S x y→KRL H' S' x y
 |_,_,.nil=>.nil
 |_,_,.cons h t=>.cons (KR.mono m h) (KRL.mono m t)
end
mutual
theorem VR.mono {H H':AH} {S S':Nat→Prop} {r r':List Nat} (m:Stay H S H' S') (g:∀ (b i:Nat),r[b]? = some i→r'[b]? = some i) (q:∀ i,i < H.next→i ∉ r→i ∉ r'∧H'.get i=H.get i) :
  ∀ {x:TV} {y:Value} {o:List Nat},(∀ i∈o,H'.get i=H.get i)→VR H S r x y o→VR H' S' r' x y o
 |_,_,_,_,.k h=>.k (h.mono m)
 |_,_,_,_,.bor hc hi hl hg hs hb he h=>.bor hc (q _ hl hi).1 (Nat.lt_of_lt_of_le hl m.1) ((q _ hl hi).2.trans hg) hs hb he (h.mono m)
 |_,_,_,w,.own hc hu hl hg he h=>.own hc hu (Nat.lt_of_lt_of_le hl m.1) ((w _ (List.mem_singleton.2 rfl)).trans hg) he (h.mono m)
 |_,_,_,_,.ptr h=>.ptr (g _ _ h)
 |_,_,_,_,.elS hi hl hg hs hb hc h=>.elS (m.2 _ hl hi).1 (Nat.lt_of_lt_of_le hl m.1) ((m.2 _ hl hi).2.trans hg) hs hb hc (h.mono m)
 |_,_,_,_,.elB hi hl hg hs hb hc h=>.elB (q _ hl hi).1 (Nat.lt_of_lt_of_le hl m.1) ((q _ hl hi).2.trans hg) hs hb hc (h.mono m)
 |_,_,_,_,.vec h=>.vec (g _ _ h)
 |_,_,_,_,.map h=>.map (g _ _ h)
 |_,_,_,_,.fn h h'=>.fn (VRL.mono m g q (fun i hi=>by cases hi) h) (VRL.mono m g q (fun i hi=>by cases hi) h')
 |_,_,_,w,.agg h=>.agg (VRL.mono m g q w h)
 |_,_,_,w,.tup h=>.tup (VRL.mono m g q w h)
 |_,_,_,_,.und=>.und
 |_,_,_,_,.gone=>.gone
theorem VRL.mono {H H':AH} {S S':Nat→Prop} {r r':List Nat} (m:Stay H S H' S') (g:∀ (b i:Nat),r[b]? = some i→r'[b]? = some i) (q:∀ i,i < H.next→i ∉ r→i ∉ r'∧H'.get i=H.get i) :
  ∀ {x:List TV} {y:List Value} {o:List Nat},(∀ i∈o,H'.get i=H.get i)→VRL H S r x y o→VRL H' S' r' x y o
 |_,_,_,_,.nil=>.nil
 |_,_,_,w,.cons h t=>.cons (VR.mono m g q (fun i hi=>w i (List.mem_append_left _ hi)) h) (VRL.mono m g q (fun i hi=>w i (List.mem_append_right _ hi)) t)
end
def Zcp (x:TV):Prop:=match x with |.agg _=>False |.tup (_::_)=>False |_=>True
def compish (x:TV):Prop:=match x with |.tup (_::_)=>False |_=>True
mutual
inductive NB:TV→Prop where
 |v (a:Value):NB (.v a)
 |row {c:Cp} {q:Lf} {n:Nat} {es:List TV} (h:∀ e,q=e→e≠.bor):NB (.row c q n es)
 |agg {cs:List TV} (h:NBL cs) (hc:∀ c∈cs,Zcp c):NB (.agg cs)
 |tup {cs:List TV} (h:NBL cs) (hc:∀ c∈cs,compish c):NB (.tup cs)
 |ptr (b off:Nat):NB (.ptr b off)
 |el {cs:List TV} {off:Nat}:NB (.el .set cs off)
 |vec (b off len cap n:Nat) (ag:Bool):NB (.vec b off len cap n ag)
 |map (b:Nat):NB (.map b)
 |fn {f:Fn} {first cap:List TV} (h:NBL first) (h':NBL cap):NB (.fn f first cap)
 |iface (t:TypeId) (x:TV):NB (.iface t x)
 |gone:NB .gone
inductive NBL:List TV→Prop where
 |nil:NBL []
 |cons {x:TV} {xs:List TV} (h:NB x) (t:NBL xs):NBL (x::xs)
end
theorem NB.row_ne {c:Cp} {q:Lf} {n:Nat} {es:List TV} (h:NB (.row c q n es)):q≠.bor:=by
 cases h with
 |row h=>exact h q rfl
theorem NB.mk_row {c:Cp} {q:Lf} {n:Nat} {es:List TV} (h:q≠.bor):NB (.row c q n es):=.row fun e he=>by rw [← he];exact h
theorem NBL.mem:∀ {xs:List TV},NBL xs→∀ x∈xs,NB x
 |_,.nil,x,hx=>by cases hx
 |_,.cons h t,x,hx=>by
  rcases List.mem_cons.1 hx with rfl |hx
  ·exact h
  ·exact NBL.mem t x hx
theorem NBL.of:∀ {xs:List TV},(∀ x∈xs,NB x)→NBL xs
 |[],_=>.nil
 |x::xs,h=>.cons (h x (List.mem_cons_self ..)) (NBL.of fun y hy=>h y (List.mem_cons_of_mem _ hy))
mutual
theorem VR.monoN {H H':AH} {S S':Nat→Prop} {r r':List Nat} (m:Stay H S H' S') (g:∀ (b i:Nat),r[b]? = some i→r'[b]? = some i) :
  ∀ {x:TV} {y:Value} {o:List Nat},NB x→(∀ i∈o,H'.get i=H.get i)→VR H S r x y o→VR H' S' r' x y o
 |_,_,_,_,_,.k h=>.k (h.mono m)
 |_,_,_,n,_,.bor ..=>absurd rfl n.row_ne
 |_,_,_,_,w,.own hc hu hl hg he h=>.own hc hu (Nat.lt_of_lt_of_le hl m.1) ((w _ (List.mem_singleton.2 rfl)).trans hg) he (h.mono m)
 |_,_,_,_,_,.ptr h=>.ptr (g _ _ h)
 |_,_,_,_,_,.elS hi hl hg hs hb hc h=>.elS (m.2 _ hl hi).1 (Nat.lt_of_lt_of_le hl m.1) ((m.2 _ hl hi).2.trans hg) hs hb hc (h.mono m)
 |_,_,_,n,_,.elB ..=>by cases n
 |_,_,_,_,_,.vec h=>.vec (g _ _ h)
 |_,_,_,_,_,.map h=>.map (g _ _ h)
 |_,_,_,n,_,.fn h h'=>by
  cases n with
  |fn a b=>exact .fn (VRL.monoN m g a (fun i hi=>by cases hi) h) (VRL.monoN m g b (fun i hi=>by cases hi) h')
 |_,_,_,n,w,.agg h=>by
  cases n with
  |agg a _=>exact .agg (VRL.monoN m g a w h)
 |_,_,_,n,w,.tup h=>by
  cases n with
  |tup a _=>exact .tup (VRL.monoN m g a w h)
 |_,_,_,_,_,.und=>.und
 |_,_,_,_,_,.gone=>.gone
theorem VRL.monoN {H H':AH} {S S':Nat→Prop} {r r':List Nat} (m:Stay H S H' S') (g:∀ (b i:Nat),r[b]? = some i→r'[b]? = some i) :
  ∀ {x:List TV} {y:List Value} {o:List Nat},NBL x→(∀ i∈o,H'.get i=H.get i)→VRL H S r x y o→VRL H' S' r' x y o
 |_,_,_,_,_,.nil=>.nil
 |_,_,_,n,w,.cons h t=>by
  cases n with
  |cons a b=>exact .cons (VR.monoN m g a (fun i hi=>w i (List.mem_append_left _ hi)) h) (VRL.monoN m g b (fun i hi=>w i (List.mem_append_right _ hi)) t)
end
theorem KRL.length {H:AH} {S:Nat→Prop}:∀ {xs:List TV} {ys:List Value},KRL H S xs ys→xs.length=ys.length
 |_,_,.nil=>rfl
 |_,_,.cons _ t=>by simp [KRL.length t]
theorem KRL.append {H:AH} {S:Nat→Prop}:∀ {a b:List TV} {a' b':List Value},KRL H S a a'→KRL H S b b'→KRL H S (a++b) (a'++b')
 |_,_,_,_,.nil,h=>h
 |_,_,_,_,.cons h t,h'=>.cons h (KRL.append t h')
theorem KRL.take {H:AH} {S:Nat→Prop}:∀ (n:Nat) {a:List TV} {a':List Value},KRL H S a a'→KRL H S (a.take n) (a'.take n)
 |0,_,_,_=>by simpa using KRL.nil
 |_+1,_,_,.nil=>by simpa using KRL.nil
 |n+1,_,_,.cons h t=>by simpa using KRL.cons h (KRL.take n t)
theorem KRL.drop {H:AH} {S:Nat→Prop}:∀ (n:Nat) {a:List TV} {a':List Value},KRL H S a a'→KRL H S (a.drop n) (a'.drop n)
 |0,_,_,h=>by simpa using h
 |_+1,_,_,.nil=>by simpa using KRL.nil
 |n+1,_,_,.cons _ t=>by simpa using KRL.drop n t
theorem KRL.get {H:AH} {S:Nat→Prop}:∀ {xs:List TV} {ys:List Value},KRL H S xs ys→∀ {i:Nat} {x:TV},xs[i]? = some x→∃ y,ys[i]? = some y∧KR H S x y
 |_,_,.nil,i,x,h=>by simp at h
 |_,_,.cons h t,i,x,hi=>by
  cases i with
  |zero=>simp at hi;subst hi;exact ⟨_,rfl,h⟩
  |succ i=>simp at hi;simpa using KRL.get t hi
theorem VRL.length {H:AH} {S:Nat→Prop} {r:List Nat}:∀ {xs:List TV} {ys:List Value} {o:List Nat},VRL H S r xs ys o→xs.length=ys.length
 |_,_,_,.nil=>rfl
 |_,_,_,.cons _ t=>by simp [VRL.length t]
theorem VRL.append {H:AH} {S:Nat→Prop} {r:List Nat}:∀ {a b:List TV} {a' b':List Value} {o p:List Nat},VRL H S r a a' o→VRL H S r b b' p→VRL H S r (a++b) (a'++b') (o++p)
 |_,_,_,_,_,_,.nil,h=>h
 |_,_,_,_,_,_,.cons h t,h'=>by rw [List.append_assoc];exact .cons h (VRL.append t h')
theorem VRL.split {H:AH} {S:Nat→Prop} {r:List Nat}:∀ {a b:List TV} {ys:List Value} {o:List Nat},VRL H S r (a++b) ys o →
  ∃ a' b' o1 o2,ys=a'++b'∧o=o1++o2∧VRL H S r a a' o1∧VRL H S r b b' o2
 |[],b,ys,o,h=>⟨[],ys,[],o,rfl,rfl,.nil,h⟩
 |x::a,b,ys,o,h=>by
  cases h with
  |cons h t=>
   obtain ⟨a',b',o1,o2,rfl,rfl,h1,h2⟩:=VRL.split t
   exact ⟨_::a',b',_++o1,o2,rfl,by rw [List.append_assoc],.cons h h1,h2⟩
theorem KRL.vrl {H:AH} {S:Nat→Prop} {r:List Nat}:∀ {xs:List TV} {ys:List Value},KRL H S xs ys→VRL H S r xs ys []
 |_,_,.nil=>.nil
 |_,_,.cons h t=>.cons (o:=[]) (os:=[]) (.k h) (KRL.vrl t)
theorem VRL.get {H:AH} {S:Nat→Prop} {r:List Nat}:∀ {xs:List TV} {ys:List Value} {o:List Nat},VRL H S r xs ys o→∀ {i:Nat} {x:TV},xs[i]? = some x →
  ∃ y a ox c,ys[i]? = some y∧o=a++(ox++c)∧VR H S r x y ox∧∀ x' y' o',VR H S r x' y' o'→VRL H S r (xs.set i x') (ys.set i y') (a++(o'++c))
 |_,_,_,.nil,i,x,h=>by simp at h
 |_,_,_,.cons (o:=o) (os:=os) h t,i,x,hi=>by
  cases i with
  |zero=>
   simp at hi;subst hi
   exact ⟨_,[],o,os,rfl,rfl,h,fun x' y' o' h'=>(VRL.cons h' t:VRL H S r _ _ (o'++os))⟩
  |succ i=>
   simp at hi
   obtain ⟨y,a,ox,c,h1,rfl,h3,h4⟩:=VRL.get t hi
   exact ⟨y,o++a,ox,c,by simpa using h1,by rw [List.append_assoc],h3,fun x' y' o' h'=>by rw [List.append_assoc];exact .cons h (h4 _ _ _ h')⟩
theorem VRL.seg {H:AH} {S:Nat→Prop} {r:List Nat} {xs:List TV} {ys:List Value} {o:List Nat} (h:VRL H S r xs ys o) (off n:Nat) (hb:off+n≤xs.length) :
  ∃ a ox c,o=a++(ox++c)∧VRL H S r ((xs.drop off).take n) ((ys.drop off).take n) ox ∧
   ∀ vs ws o',vs.length=n→VRL H S r vs ws o'→VRL H S r (xs.take off++(vs++xs.drop (off+n))) (ys.take off++(ws++ys.drop (off+n))) (a++(o'++c)):=by
 have e:xs=xs.take off++((xs.drop off).take n++xs.drop (off+n)):=by
  rw [← List.drop_drop,List.take_append_drop,List.take_append_drop]
 have h':=h
 rw [e] at h'
 obtain ⟨y1,y2,o1,o2,rfl,rfl,h1,h2⟩:=VRL.split h'
 obtain ⟨y3,y4,o3,o4,rfl,rfl,h3,h4⟩:=VRL.split h2
 have l1:y1.length=off:=by rw [← h1.length,List.length_take];omega
 have l3:y3.length=n:=by rw [← h3.length,List.length_take,List.length_drop];omega
 refine ⟨o1,o3,o4,rfl,?_,fun vs ws o' hl hv=>?_⟩
 ·rw [List.drop_left' l1,List.take_left' l3];exact h3
 ·have e1:(y1++(y3++y4)).take off=y1:=List.take_left' l1
  have e2:(y1++(y3++y4)).drop (off+n)=y4:=by rw [← List.drop_drop,List.drop_left' l1,List.drop_left' l3]
  rw [e1,e2]
  exact h1.append (hv.append h4)
end Go.Ev
namespace Go.Ev
inductive MRel (H:AH) (S:Nat→Prop):List (Value×TV)→List MapEntry→Prop where
 |nil:MRel H S [] []
 |cons {e:Value×TV} {f:MapEntry} {es:List (Value×TV)} {fs:List MapEntry} (hk:f.key=e.1) (hv:KR H S e.2 f.val) (t:MRel H S es fs):MRel H S (e::es) (f::fs)
theorem MRel.mono {H H':AH} {S S':Nat→Prop} (m:Stay H S H' S'):∀ {x:List (Value×TV)} {y:List MapEntry},MRel H S x y→MRel H' S' x y
 |_,_,.nil=>.nil
 |_,_,.cons hk hv t=>.cons hk (hv.mono m) (MRel.mono m t)
theorem MRel.length {H:AH} {S:Nat→Prop}:∀ {x:List (Value×TV)} {y:List MapEntry},MRel H S x y→x.length=y.length
 |_,_,.nil=>rfl
 |_,_,.cons _ _ t=>by simp [MRel.length t]
def lent (x:TV):Prop:=match x with |.row _ .bor _ _=>True |.el .bor _ _=>True |_=>False
def OV (x:TV):Prop:=NB x∨lent x
inductive OR (H:AH) (S:Nat→Prop) (r:List Nat):TObj→Nat→List Nat→Prop where
 |cells {cs:List TV} {i s:Nat} {ds:List Value} {e:TypeId} {o:List Nat} (hg:H.get i=some (.cells s ds e)) (hs:ds.length=s) (nb:NBL cs) (hc:∀ c∈cs,Zcp c) (h:VRL H S r cs ds o):OR H S r (.cells cs) i o
 |map {es:List (Value×TV)} {i c:Nat} {fs:List MapEntry} (hg:H.get i=some (.map fs c)) (h:MRel H S es fs):OR H S r (.map es) i []
 |dead {i:Nat}:OR H S r .dead i []
theorem OR.mono {H H':AH} {S S':Nat→Prop} {r r':List Nat} (m:Stay H S H' S') (g:∀ (b i:Nat),r[b]? = some i→r'[b]? = some i) {o:TObj} {i:Nat} {w:List Nat} (h:OR H S r o i w)
  (hi:H'.get i=H.get i) (hw:∀ j∈w,H'.get j=H.get j):OR H' S' r' o i w:=by
 cases h with
 |cells hg hs nb hc h=>exact .cells (hi.trans hg) hs nb hc (h.monoN m g nb hw)
 |map hg h=>exact .map (hi.trans hg) (h.mono m)
 |dead=>exact .dead
inductive HL (H:AH) (S:Nat→Prop) (r:List Nat) (lo tlo:Nat):Nat→List TObj→List Nat→List Nat→Prop where
 |nil {b:Nat}:HL H S r lo tlo b [] [] []
 |cons {b:Nat} {o:TObj} {i:Nat} {w:List Nat} {T:List TObj} {rs O:List Nat} (h:OR H S r o i w) (hlo:tlo≤b→∀ j∈w,lo≤j) (t:HL H S r lo tlo (b+1) T rs O):HL H S r lo tlo b (o::T) (i::rs) (w++O)
theorem HL.length {H:AH} {S:Nat→Prop} {r:List Nat} {lo tlo:Nat}:∀ {b:Nat} {T:List TObj} {rs O:List Nat},HL H S r lo tlo b T rs O→rs.length=T.length
 |_,_,_,_,.nil=>rfl
 |_,_,_,_,.cons _ _ t=>by simp [HL.length t]
theorem HL.mono {H H':AH} {S S':Nat→Prop} {r r':List Nat} {lo tlo:Nat} (m:Stay H S H' S') (g:∀ (b i:Nat),r[b]? = some i→r'[b]? = some i) :
  ∀ {b:Nat} {T:List TObj} {rs O:List Nat},HL H S r lo tlo b T rs O→(∀ j∈rs,H'.get j=H.get j)→(∀ j∈O,H'.get j=H.get j)→HL H' S' r' lo tlo b T rs O
 |_,_,_,_,.nil,_,_=>.nil
 |_,_,_,_,.cons h hlo t,a,c=>.cons (h.mono m g (a _ (List.mem_cons_self ..)) fun j hj=>c j (List.mem_append_left _ hj)) hlo
   (HL.mono m g t (fun j hj=>a j (List.mem_cons_of_mem _ hj)) fun j hj=>c j (List.mem_append_right _ hj))
theorem HL.push {H:AH} {S:Nat→Prop} {r:List Nat} {lo tlo:Nat} {o:TObj} {i:Nat} {w:List Nat} (h:OR H S r o i w) (hlo:∀ j∈w,lo≤j) :
  ∀ {b:Nat} {T:List TObj} {rs O:List Nat},HL H S r lo tlo b T rs O→HL H S r lo tlo b (T++[o]) (rs++[i]) (O++w)
 |_,_,_,_,.nil=>by
  have:=HL.cons (lo:=lo) (tlo:=tlo) (b:=by assumption) h (fun _=>hlo) HL.nil
  rwa [List.append_nil] at this
 |_,_,_,_,.cons h1 hlo1 t=>by
  rw [List.append_assoc]
  exact .cons h1 hlo1 (HL.push h hlo t)
theorem HL.weak {H:AH} {S:Nat→Prop} {r:List Nat} {lo tlo lo' tlo':Nat} (hh:∀ (b:Nat) (w:List Nat),(tlo≤b→∀ j∈w,lo≤j)→b < tlo'∨(tlo'≤b→∀ j∈w,lo'≤j)) :
  ∀ {b:Nat} {T:List TObj} {rs O:List Nat},HL H S r lo tlo b T rs O→HL H S r lo' tlo' b T rs O
 |_,_,_,_,.nil=>.nil
 |_,_,_,_,.cons h hlo t=>.cons h (fun hb=>(hh _ _ hlo).elim (fun h1=>by omega) fun h1=>h1 hb) (HL.weak hh t)
theorem HL.at {H:AH} {S:Nat→Prop} {r:List Nat} {lo tlo:Nat}:∀ {b:Nat} {T:List TObj} {rs O:List Nat},HL H S r lo tlo b T rs O→∀ {k:Nat} {o:TObj},T[k]? = some o →
  ∃ i a w c,rs[k]? = some i∧O=a++(w++c)∧OR H S r o i w∧(tlo≤b+k→∀ j∈w,lo≤j) ∧
   ∀ (H':AH) (S':Nat→Prop) (r':List Nat) (o':TObj) (w':List Nat),Stay H S H' S'→(∀ (b i:Nat),r[b]? = some i→r'[b]? = some i)→(∀ m j,m≠k→rs[m]? = some j→H'.get j=H.get j) →
    (∀ j∈a,H'.get j=H.get j)→(∀ j∈c,H'.get j=H.get j)→OR H' S' r' o' i w'→(tlo≤b+k→∀ j∈w',lo≤j)→HL H' S' r' lo tlo b (T.set k o') rs (a++(w'++c))
 |_,_,_,_,.nil,k,o,hk=>by simp at hk
 |b,_,_,_,.cons (i:=i) (w:=w) (O:=O) (rs:=rs) h hlo t,k,o,hk=>by
  cases k with
  |zero=>
   simp at hk;subst hk
   refine ⟨i,[],w,O,rfl,rfl,h,hlo,fun H' S' r' o' w' m g hr _ hc ho hw=>?_⟩
   exact (HL.cons ho hw (t.mono m g (fun j hj=>by
    obtain ⟨n,hn⟩:=List.mem_iff_getElem?.1 hj
    exact hr (n+1) j (by omega) (by simpa using hn)) hc):HL H' S' r' lo tlo b (o'::_) (i::rs) (w'++O))
  |succ k=>
   simp at hk
   obtain ⟨i2,a,w2,c,h1,rfl,h3,h4,h5⟩:=HL.at t hk
   refine ⟨i2,w++a,w2,c,by simpa using h1,by simp [List.append_assoc],h3,fun hb=>h4 (by omega),fun H' S' r' o' w' m g hr ha hc ho hw=>?_⟩
   rw [List.append_assoc]
   exact HL.cons (h.mono m g (hr 0 i (by omega) rfl) fun j hj=>ha j (List.mem_append_left _ hj)) hlo
    (h5 H' S' r' o' w' m g (fun n j hn hj=>hr (n+1) j (by omega) (by simpa using hj)) (fun j hj=>ha j (List.mem_append_right _ hj)) hc ho fun hb=>hw (by omega))
def act (r Oh X:List Nat) (i:Nat):Nat:=r.count i+Oh.count i+X.count i
def Sof (F:Nat→Prop) (r Oh X:List Nat) (i:Nat):Prop:=¬ F i∧act r Oh X i=0
structure Good (C:TC) (F:Nat→Prop) (lo tlo:Nat) (H:AH) (r:List Nat) (T:TH) (Oh X:List Nat):Prop where
 nd:∀ i,act r Oh X i≤1
 lt:∀ i,0 < act r Oh X i→i < H.next∧¬ F i
 fl:∀ i,F i→i < H.next
 lon:lo≤H.next
 rlo:∀ (b i:Nat),tlo≤b→r[b]? = some i→lo≤i
 xlo:∀ i∈X,lo≤i
 heap:HL H (Sof F r Oh X) r lo tlo 0 T r Oh
 tabs:∀ g cs,C.tabs g=some cs→Sof F r Oh X g∧g < H.next∧∃ s ds e,H.get g=some (.cells s ds e)∧ds.length=s∧cs.length≤s∧(∀ c∈cs,Zbw c=true)∧KRL H (Sof F r Oh X) cs (ds.take cs.length)
structure Mv (H:AH) (r Oh X:List Nat) (H':AH) (r' Oh' X':List Nat):Prop where
 next:H.next≤H'.next
 same:∀ i,i < H.next→act r Oh X i=0→H'.get i=H.get i
 less:∀ i,i < H.next→act r' Oh' X' i≤act r Oh X i
 pre:∀ (b i:Nat),r[b]? = some i→r'[b]? = some i
theorem Mv.refl (H:AH) (r Oh X:List Nat):Mv H r Oh X H r Oh X:=⟨Nat.le_refl _,fun _ _ _=>rfl,fun _ _=>Nat.le_refl _,fun _ _ h=>h⟩
theorem Mv.stay {F:Nat→Prop} {H H':AH} {r Oh X r' Oh' X':List Nat} (h:Mv H r Oh X H' r' Oh' X'):Stay H (Sof F r Oh X) H' (Sof F r' Oh' X'):=
 ⟨h.next,fun i hi hs=>⟨⟨hs.1,by have:=h.less i hi;have:=hs.2;omega⟩,h.same i hi hs.2⟩⟩
theorem Mv.trans {H H' H'':AH} {r Oh X r' Oh' X' r'' Oh'' X'':List Nat} (h:Mv H r Oh X H' r' Oh' X') (k:Mv H' r' Oh' X' H'' r'' Oh'' X''):Mv H r Oh X H'' r'' Oh'' X'':=
 ⟨Nat.le_trans h.next k.next,fun i hi ha=>by
  have:=h.less i hi
  rw [k.same i (Nat.lt_of_lt_of_le hi h.next) (by omega),h.same i hi ha],fun i hi=>Nat.le_trans (k.less i (Nat.lt_of_lt_of_le hi h.next)) (h.less i hi),fun b i hb=>k.pre b i (h.pre b i hb)⟩
section
variable {C:TC} {F:Nat→Prop} {lo tlo:Nat} {H:AH} {r Oh X:List Nat} {T:TH}
theorem Good.len (h:Good C F lo tlo H r T Oh X):r.length=T.length:=h.heap.length
theorem Zax {l:List Nat} {i:Nat}:0 < l.count i↔i∈l:=List.count_pos_iff
theorem Good.mem_r (h:Good C F lo tlo H r T Oh X) {i:Nat} (hi:i∈r):i < H.next∧¬ F i∧r.count i=1∧Oh.count i=0∧X.count i=0:=by
 have h1:=Zax.2 hi
 have h2:=h.nd i
 have h3:=h.lt i (by unfold act;omega)
 unfold act at h2
 exact ⟨h3.1,h3.2,by omega,by omega,by omega⟩
theorem Good.mem_o (h:Good C F lo tlo H r T Oh X) {i:Nat} (hi:i∈Oh):i < H.next∧¬ F i∧r.count i=0∧Oh.count i=1∧X.count i=0:=by
 have h1:=Zax.2 hi
 have h2:=h.nd i
 have h3:=h.lt i (by unfold act;omega)
 unfold act at h2
 exact ⟨h3.1,h3.2,by omega,by omega,by omega⟩
theorem Good.mem_x (h:Good C F lo tlo H r T Oh X) {i:Nat} (hi:i∈X):i < H.next∧¬ F i∧r.count i=0∧Oh.count i=0∧X.count i=1:=by
 have h1:=Zax.2 hi
 have h2:=h.nd i
 have h3:=h.lt i (by unfold act;omega)
 unfold act at h2
 exact ⟨h3.1,h3.2,by omega,by omega,by omega⟩
theorem getr_mem {l:List Nat} {b i:Nat} (h:l[b]? = some i):i∈l:=List.mem_of_getElem? h
theorem Good.inj (h:Good C F lo tlo H r T Oh X) {a b i:Nat} (ha:r[a]? = some i) (hb:r[b]? = some i):a=b:=by
 have h1:=(h.mem_r (getr_mem ha)).2.2.1
 clear h
 induction r generalizing a b with
 |nil=>simp at ha
 |cons x r ih=>
  cases a with
  |zero=>
   cases b with
   |zero=>rfl
   |succ b=>
    simp at ha hb
    subst ha
    have h2:=Zax.2 (List.mem_of_getElem? hb)
    rw [List.count_cons_self] at h1;omega
  |succ a=>
   cases b with
   |zero=>
    simp at ha hb
    subst hb
    have h2:=Zax.2 (List.mem_of_getElem? ha)
    rw [List.count_cons_self] at h1;omega
   |succ b=>
    simp at ha hb
    have h2:=Zax.2 (List.mem_of_getElem? ha)
    have h3:=ih ha hb (by rw [List.count_cons] at h1;split at h1 <;> omega)
    omega
theorem Good.next {H':AH} {r' Oh' X':List Nat} {T':TH} (h:Good C F lo tlo H r T Oh X) (m:Mv H r Oh X H' r' Oh' X')
  (new:∀ i,H.next≤i→act r' Oh' X' i≤1∧(0 < act r' Oh' X' i→i < H'.next)) (rl:∀ (b i:Nat),tlo≤b→r'[b]? = some i→lo≤i) (xl:∀ i∈X',lo≤i)
  (hp:HL H' (Sof F r' Oh' X') r' lo tlo 0 T' r' Oh'):Good C F lo tlo H' r' T' Oh' X' where
 nd i:=by
  rcases Nat.lt_or_ge i H.next with hi |hi
  ·exact Nat.le_trans (m.less i hi) (h.nd i)
  ·exact (new i hi).1
 lt i hi:=by
  rcases Nat.lt_or_ge i H.next with h1 |h1
  ·exact ⟨Nat.lt_of_lt_of_le h1 m.next,(h.lt i (Nat.lt_of_lt_of_le hi (m.less i h1))).2⟩
  ·exact ⟨(new i h1).2 hi,fun hf=>by have:=h.fl i hf;omega⟩
 fl i hi:=Nat.lt_of_lt_of_le (h.fl i hi) m.next
 lon:=Nat.le_trans h.lon m.next
 rlo:=rl
 xlo:=xl
 heap:=hp
 tabs g cs hg:=by
  obtain ⟨h1,h2,s,ds,e,h3,h4,h5,h6,h8⟩:=h.tabs g cs hg
  have h7:=m.stay (F:=F)
  exact ⟨(h7.2 g h2 h1).1,Nat.lt_of_lt_of_le h2 m.next,s,ds,e,((h7.2 g h2 h1).2).trans h3,h4,h5,h6,h8.mono h7⟩
theorem Good.apart {Y:List Nat} (h:Good C F lo tlo H r T Oh (Y++X)):Good C (fun i=>F i∨i∈Y) lo tlo H r T Oh X:=by
 have hs:Sof (fun i=>F i∨i∈Y) r Oh X=Sof F r Oh (Y++X):=by
  funext i
  apply propext
  unfold Sof act
  rw [List.count_append]
  constructor
  ·rintro ⟨a,b⟩
   have:Y.count i=0:=by
    rcases Nat.eq_zero_or_pos (Y.count i) with h1 |h1
    ·exact h1
    ·exact absurd (.inr (Zax.1 h1)) a
   exact ⟨fun hf=>a (.inl hf),by omega⟩
  ·rintro ⟨a,b⟩
   refine ⟨fun hf=>hf.elim a fun hy=>?_,by omega⟩
   have:=Zax.2 hy
   omega
 have cnt:∀ i,act r Oh (Y++X) i=act r Oh X i+Y.count i:=fun i=>by unfold act;rw [List.count_append];omega
 refine ⟨fun i=>by have:=h.nd i;have:=cnt i;omega,fun i hi=>?_,fun i hi=>hi.elim (h.fl i) fun hy=>?_,h.lon,h.rlo,fun i hi=>h.xlo i (List.mem_append_right _ hi),by rw [hs];exact h.heap,by rw [hs];exact h.tabs⟩
 ·have h1:=h.lt i (by have:=cnt i;omega)
  refine ⟨h1.1,fun hf=>hf.elim h1.2 fun hy=>?_⟩
  have:=Zax.2 hy
  have:=h.nd i
  have:=cnt i
  omega
 ·exact (h.lt i (by have:=cnt i;have:=Zax.2 hy;omega)).1
theorem Good.join {Y:List Nat} (h:Good C (fun i=>F i∨i∈Y) lo tlo H r T Oh X) (hy:∀ i,Y.count i≤1) (hf:∀ i∈Y,¬ F i) (hl:∀ i∈Y,lo≤i):Good C F lo tlo H r T Oh (Y++X):=by
 have hs:Sof (fun i=>F i∨i∈Y) r Oh X=Sof F r Oh (Y++X):=by
  funext i
  apply propext
  unfold Sof act
  rw [List.count_append]
  constructor
  ·rintro ⟨a,b⟩
   have:Y.count i=0:=by
    rcases Nat.eq_zero_or_pos (Y.count i) with h1 |h1
    ·exact h1
    ·exact absurd (.inr (Zax.1 h1)) a
   exact ⟨fun hf=>a (.inl hf),by omega⟩
  ·rintro ⟨a,b⟩
   refine ⟨fun hf=>hf.elim a fun hy=>?_,by omega⟩
   have:=Zax.2 hy
   omega
 have cnt:∀ i,act r Oh (Y++X) i=act r Oh X i+Y.count i:=fun i=>by unfold act;rw [List.count_append];omega
 have none:∀ i,i∈Y→act r Oh X i=0:=fun i hi=>by
  rcases Nat.eq_zero_or_pos (act r Oh X i) with h1 |h1
  ·exact h1
  ·exact absurd (.inr hi) (h.lt i h1).2
 refine ⟨fun i=>?_,fun i hi=>?_,fun i hi=>h.fl i (.inl hi),h.lon,h.rlo,fun i hi=>(List.mem_append.1 hi).elim (hl i) (h.xlo i),by rw [← hs];exact h.heap,by rw [← hs];exact h.tabs⟩
 ·have:=cnt i
  rcases Nat.eq_zero_or_pos (Y.count i) with h1 |h1
  ·have:=h.nd i;omega
  ·have:=none i (Zax.1 h1);have:=hy i;omega
 ·have:=cnt i
  rcases Nat.eq_zero_or_pos (Y.count i) with h1 |h1
  ·have h2:=h.lt i (by omega)
   exact ⟨h2.1,fun hf=>h2.2 (.inl hf)⟩
  ·exact ⟨h.fl i (.inr (Zax.1 h1)),hf i (Zax.1 h1)⟩
theorem Sof_apart {Y:List Nat}:Sof (fun i=>F i∨i∈Y) r Oh X=Sof F r Oh (Y++X):=by
 funext i
 apply propext
 unfold Sof act
 rw [List.count_append]
 constructor
 ·rintro ⟨a,b⟩
  have:Y.count i=0:=by
   rcases Nat.eq_zero_or_pos (Y.count i) with h1 |h1
   ·exact h1
   ·exact absurd (.inr (Zax.1 h1)) a
  exact ⟨fun hf=>a (.inl hf),by omega⟩
 ·rintro ⟨a,b⟩
  refine ⟨fun hf=>hf.elim a fun hy=>?_,by omega⟩
  have:=Zax.2 hy
  omega
theorem Good.less (h:Good C F lo tlo H r T Oh X) {X':List Nat} (hc:∀ i,X'.count i≤X.count i):Good C F lo tlo H r T Oh X':=by
 have m:Mv H r Oh X H r Oh X':=⟨Nat.le_refl _,fun _ _ _=>rfl,fun i _=>by unfold act;have:=hc i;omega,fun _ _ h=>h⟩
 refine h.next m (fun i hi=>?_) h.rlo (fun i hi=>h.xlo i (Zax.1 ?_)) (h.heap.mono m.stay (fun _ _ h=>h) (fun _ _=>rfl) fun _ _=>rfl)
 ·have h1:=hc i
  have h2:=h.nd i
  have h3:=h.lt i
  unfold act at *
  exact ⟨by omega,fun h4=>(h3 (by omega)).1⟩
 ·have h1:=hc i
  have h2:=Zax.2 hi
  omega
end
def wv (w:Bool) (x:TV):TV:=cond w (stale x) x
inductive EnvR (w:Bool) (H:AH) (S:Nat→Prop) (r:List Nat) (ep:Nat) (Ev:Env):TE→List Nat→Prop where
 |nil:EnvR w H S r ep Ev [] []
 |cons {t:Tmp} {p:Nat×TV} {y:Value} {o:List Nat} {E:TE} {O:List Nat} (he:p.1≤ep) (hv:OV (nowT ep p)) (ht:Zcs Ev t=some y) (h:VR H S r (wv w (nowT ep p)) y o) (k:EnvR w H S r ep Ev E O):EnvR w H S r ep Ev ((t,p)::E) (o++O)
theorem stale_nb {x:TV} (h:OV x):NB (stale x):=by
 unfold stale
 split
 ·exact .tup .nil (fun c hc=>by cases hc)
 ·exact .tup .nil (fun c hc=>by cases hc)
 ·rename_i h1 h2
  rcases h with h |h
  ·exact h
  ·unfold lent at h
   split at h
   ·exact absurd rfl (h1 _ _ _)
   ·exact absurd rfl (h2 _ _)
   ·exact h.elim
theorem stale_rel {H:AH} {S:Nat→Prop} {r:List Nat} {x:TV} {y:Value} {o:List Nat} (h:VR H S r x y o):VR H S r (stale x) y o:=by
 unfold stale
 split
 ·cases h with
  |k h=>cases h
  |bor=>exact .und
 ·cases h with
  |k h=>cases h
  |elB=>exact .und
 ·exact h
theorem stale_stale (x:TV):stale (stale x)=stale x:=by
 cases x with
 |row c q n es=>cases q <;> rfl
 |el q cs off=>cases q <;> rfl
 |_=>rfl
theorem stale_wv (w:Bool) (x:TV):stale (wv w x)=stale x:=by
 cases w with
 |true=>exact stale_stale x
 |false=>rfl
theorem NB.stale {x:TV} (h:NB x):Ev.stale x=x:=by
 cases h with
 | @row c q n es h=>cases q with
  |bor=>exact absurd rfl (h _ rfl)
  |_=>rfl
 |_=>rfl
theorem NB.wv {x:TV} (h:NB x) (w:Bool):Ev.wv w x=x:=by
 cases w with
 |true=>exact h.stale
 |false=>rfl
theorem EnvR.weak {w:Bool} {H:AH} {S:Nat→Prop} {r:List Nat} {ep:Nat} {Ev:Env}:∀ {E:TE} {O:List Nat},EnvR false H S r ep Ev E O→EnvR w H S r ep Ev E O
 |_,_,.nil=>.nil
 |_,_,.cons he hv ht h k=>.cons he hv ht (by
   cases w with
   |true=>exact stale_rel h
   |false=>exact h) (EnvR.weak k)
theorem EnvR.less {w:Bool} {H:AH} {S:Nat→Prop} {r:List Nat} {ep:Nat} {Ev:Env} (t:Tmp):∀ {E:TE} {O:List Nat},EnvR w H S r ep Ev E O→∃ O2,EnvR w H S r ep Ev (lessT E t) O2∧∀ i,O2.count i≤O.count i
 |_,_,.nil=>⟨[],.nil,fun _=>Nat.le_refl _⟩
 |_,_,.cons (t:=s) (p:=p) (o:=o) he hv ht h k=>by
  obtain ⟨O3,h3,h4⟩:=EnvR.less t k
  show ∃ O',EnvR w H S r ep Ev (cond (Nat.beq s t) (lessT _ t) ((s,p)::lessT _ t)) O'∧_
  cases Nat.beq s t with
  |true=>exact ⟨O3,h3,fun i=>by rw [List.count_append];have:=h4 i;omega⟩
  |false=>exact ⟨o++O3,.cons he hv ht h h3,fun i=>by rw [List.count_append,List.count_append];have:=h4 i;omega⟩
theorem EnvR.look {w:Bool} {H:AH} {S:Nat→Prop} {r:List Nat} {ep:Nat} {Ev:Env}:∀ {E:TE} {O:List Nat},EnvR w H S r ep Ev E O→∀ {t:Tmp} {p:Nat×TV},lookT E t=some p →
  ∃ y o O2,p.1≤ep∧OV (nowT ep p)∧Zcs Ev t=some y∧VR H S r (wv w (nowT ep p)) y o∧EnvR w H S r ep Ev (lessT E t) O2∧∀ i,o.count i+O2.count i≤O.count i
 |_,_,.nil,t,p,h=>by cases h
 |_,_,.cons (t:=s) (o:=o) (O:=O) he hv ht h k,t,p,hl=>by
  have hl:cond (Nat.beq s t) (some _) (lookT _ t)=some p:=hl
  cases hb:Nat.beq s t with
  |true=>
   rw [hb] at hl
   cases hl
   have:=Zay hb
   subst this
   obtain ⟨O2,h1,h2⟩:=k.less s
   refine ⟨_,o,O2,he,hv,ht,h,?_,fun i=>by rw [List.count_append];have:=h2 i;omega⟩
   show EnvR w H S r ep Ev (cond (Nat.beq s s) (lessT _ s) _) O2
   rw [hb];exact h1
  |false=>
   rw [hb] at hl
   obtain ⟨y,o1,O2,a1,a2,a3,a4,a6,a7⟩:=EnvR.look k hl
   refine ⟨y,o1,o++O2,a1,a2,a3,a4,?_,fun i=>by rw [List.count_append,List.count_append];have:=a7 i;omega⟩
   show EnvR w H S r ep Ev (cond (Nat.beq s t) (lessT _ t) _) (o++O2)
   rw [hb]
   exact .cons he hv ht h a6
theorem stay_nb {w:Bool} {x:TV} (h:OV x) (hw:w=true):NB (wv w x):=by subst hw;exact stale_nb h
theorem EnvR.mono {w:Bool} {H H':AH} {S S':Nat→Prop} {r r':List Nat} (m:Stay H S H' S') (g:∀ (b i:Nat),r[b]? = some i→r'[b]? = some i) (q:w=false→∀ i,i < H.next→i ∉ r→i ∉ r'∧H'.get i=H.get i) {ep:Nat} {Ev:Env} :
  ∀ {E:TE} {O:List Nat},(∀ i∈O,H'.get i=H.get i)→EnvR w H S r ep Ev E O→EnvR w H' S' r' ep Ev E O
 |_,_,_,.nil=>.nil
 |_,_,u,.cons he hv ht h k=>.cons he hv ht (by
   cases hw:w with
   |true=>rw [hw] at h;exact h.monoN m g (stay_nb hv rfl) fun i hi=>u i (List.mem_append_left _ hi)
   |false=>rw [hw] at h;exact h.mono m g (q hw) fun i hi=>u i (List.mem_append_left _ hi)) (EnvR.mono m g q (fun i hi=>u i (List.mem_append_right _ hi)) k)
theorem EnvR.succ {w:Bool} {H H':AH} {S S':Nat→Prop} {r r':List Nat} (m:Stay H S H' S') (g:∀ (b i:Nat),r[b]? = some i→r'[b]? = some i) {ep:Nat} {Ev:Env} :
  ∀ {E:TE} {O:List Nat},(∀ i∈O,H'.get i=H.get i)→EnvR w H S r ep Ev E O→EnvR false H' S' r' (ep+1) Ev E O
 |_,_,_,.nil=>.nil
 |_,_,u,.cons (p:=p) he hv ht h k=>by
  have e:nowT (ep+1) p=stale (nowT ep p):=by
   have h1:nowT (ep+1) p=stale p.2:=by
    show cond (Nat.beq p.1 (ep+1)) p.2 (stale p.2)=_
    rw [beqf (by omega)];rfl
   rw [h1]
   show stale p.2=stale (cond (Nat.beq p.1 ep) p.2 (stale p.2))
   cases Nat.beq p.1 ep with
   |true=>rfl
   |false=>exact (stale_stale _).symm
  have hn:=stale_nb hv
  have h:=stale_rel h
  rw [stale_wv] at h
  exact .cons (Nat.le_succ_of_le he) (by rw [e];exact .inl hn) ht (by show VR H' S' r' (nowT (ep+1) p) _ _;rw [e];exact h.monoN m g hn fun i hi=>u i (List.mem_append_left _ hi)) (EnvR.succ m g (fun i hi=>u i (List.mem_append_right _ hi)) k)
theorem EnvR.weaken {w:Bool} {H:AH} {S:Nat→Prop} {r:List Nat} {ep:Nat} {Ev Ev':Env}:∀ {E:TE} {O:List Nat},(∀ t p,(t,p)∈E→Zcs Ev' t=Zcs Ev t)→EnvR w H S r ep Ev E O→EnvR w H S r ep Ev' E O
 |_,_,_,.nil=>.nil
 |_,_,b,.cons he hv ht h k=>.cons he hv ((b _ _ (List.mem_cons_self ..)).trans ht) h (EnvR.weaken (fun t p hm=>b t p (List.mem_cons_of_mem _ hm)) k)
theorem lessT_ne {E:TE} {t s:Tmp} {p:Nat×TV} (h:(s,p)∈lessT E t):s≠t:=by
 induction E with
 |nil=>cases h
 |cons x E ih=>
  obtain ⟨u,q⟩:=x
  have h:(s,p)∈cond (Nat.beq u t) (lessT E t) ((u,q)::lessT E t):=h
  cases hb:Nat.beq u t with
  |true=>rw [hb] at h;exact ih h
  |false=>
   rw [hb] at h
   rcases List.mem_cons.1 h with h |h
   ·cases h;exact ne_of_beq' hb
   ·exact ih h
theorem lookE_put {Ev:Env} {t s:Tmp} {y:Value} (h:s≠t):Zcs ((t,y)::Ev) s=Zcs Ev s:=by
 show cond (Nat.beq t s) (some y) (Zcs Ev s)=_
 rw [beqf (fun e=>h e.symm)];rfl
theorem lookE_same {Ev:Env} {t:Tmp} {y:Value}:Zcs ((t,y)::Ev) t=some y:=by
 show cond (Nat.beq t t) (some y) (Zcs Ev t)=_
 rw [beqt rfl];rfl
theorem nowT_same (ep:Nat) (x:TV):nowT ep (ep,x)=x:=by
 show cond (Nat.beq ep ep) x _=x
 rw [beqt rfl];rfl
theorem EnvR.put {H:AH} {S:Nat→Prop} {r:List Nat} {ep:Nat} {Ev:Env} {E:TE} {O o:List Nat} {x:TV} {y:Value} (h:EnvR false H S r ep Ev E O) (d:Option Tmp) (hv:OV x) (hx:VR H S r x y o) :
  ∃ O2,EnvR false H S r ep (putE Ev d y) (putD E d ep x) O2∧∀ i,O2.count i≤O.count i+o.count i:=by
 cases d with
 |none=>exact ⟨O,h,fun i=>by omega⟩
 |some d=>
  obtain ⟨O2,h1,h2⟩:=h.less d
  exact ⟨o++O2,.cons (Nat.le_refl _) (by rw [nowT_same];exact hv) lookE_same (by rw [nowT_same];exact hx) (h1.weaken fun t p hm=>lookE_put (lessT_ne hm)),fun i=>by rw [List.count_append];have:=h2 i;omega⟩
theorem EnvR.retell {w:Bool} {H:AH} {S:Nat→Prop} {r:List Nat} {ep:Nat} {Ev:Env} {E:TE} {O2 o:List Nat} {t:Tmp} {x:TV} {y:Value} (h:EnvR w H S r ep Ev (lessT E t) O2) (ht:Zcs Ev t=some y) (hv:OV x) (hx:VR H S r (wv w x) y o) :
  EnvR w H S r ep Ev (putT E t ep x) (o++O2):=.cons (Nat.le_refl _) (by rw [nowT_same];exact hv) ht (by rw [nowT_same];exact hx) h
end Go.Ev
namespace Go.Ev
section
variable {H:AH} {S S':Nat→Prop} {r:List Nat}
theorem NBL.map {f:TV→TV} (hf:∀ x,NB x→NB (f x)):∀ {l:List TV},NBL l→NBL (l.map f)
 |_,.nil=>.nil
 |_,.cons h t=>.cons (hf _ h) (NBL.map hf t)
theorem capOk_thaw {c:Cp} {len n:Nat} (hc:c≠.nil) (hu:len < UNK):capOk c (thawCap c len n) len n:=by
 cases c with
 |nil=>exact absurd rfl hc
 |full=>exact ⟨rfl,hu⟩
 |opn=>exact .inr ⟨rfl,hu⟩
theorem own_set {c:Cp} {e:TypeId} {n:Nat} {es:List TV} {y:Value} {o:List Nat} (h:VR H S r (.row c (.own e) n es) y o) (hs:∀ i∈o,S' i) (m:Stay H S H S'):KR H S' (.row c .set n es) y:=by
 cases h with
 |k h=>cases h
 |own hc hu hl hg he h=>
  have hl2:=h.length
  rw [flatL_length he] at hl2
  exact .row (capOk_thaw hc hu) (hs _ (List.mem_singleton.2 rfl)) hl hg hl2.symm (by omega) he (by rw [List.drop_zero,List.take_of_length_le (by omega)];exact h.mono m)
theorem own_bor {c:Cp} {e:TypeId} {n:Nat} {es:List TV} {y:Value} {o:List Nat} (h:VR H S r (.row c (.own e) n es) y o) (hr:∀ i∈o,i ∉ r):VR H S r (.row c .bor n es) y []:=by
 cases h with
 |k h=>cases h
 |own hc hu hl hg he h=>
  have hl2:=h.length
  rw [flatL_length he] at hl2
  exact .bor (capOk_thaw hc hu) (hr _ (List.mem_singleton.2 rfl)) hl hg hl2.symm (by omega) he (by rw [List.drop_zero,List.take_of_length_le (by omega)];exact h)
theorem vrl_nil {ys:List Value} {o:List Nat} (h:VRL H S r [] ys o):o=[]:=by cases h;rfl
theorem owns_nil {x:TV} {y:Value} {o:List Nat} (h:VR H S r x y o) (h1:isOwn x=false) (h2:Zcp x):o=[]:=by
 cases h with
 |own=>cases h1
 |agg=>exact h2.elim
 | @tup cs ds o h=>cases cs with
  |nil=>exact vrl_nil h
  |cons=>exact h2.elim
 |_=>rfl
theorem setC_eq {x:TV} (h:isOwn x=false):setC x=x:=by
 cases x with
 |row c q n es=>cases q <;> first |rfl |cases h
 |_=>rfl
theorem hushC_eq {x:TV} (h:isOwn x=false):hushC x=x:=by
 cases x with
 |row c q n es=>cases q <;> first |rfl |cases h
 |_=>rfl
theorem own_shape {x:TV} (h:isOwn x=true):∃ c e n es,x=.row c (.own e) n es:=by
 cases x with
 |row c q n es=>cases q <;> first |exact ⟨_,_,_,_,rfl⟩ |cases h
 |_=>cases h
theorem stay_same (m:Stay H S H S') {x:TV} {y:Value} {o:List Nat} (h:VR H S r x y o):VR H S' r x y o:=
 h.mono m (fun _ _ h=>h) (fun _ _ h=>⟨h,rfl⟩) fun _ _=>rfl
theorem setC_rel {x:TV} {y:Value} {o:List Nat} (h:VR H S r x y o) (hx:Zcp x) (hs:∀ i∈o,S' i) (m:Stay H S H S'):VR H S' r (setC x) y []:=by
 cases ho:isOwn x with
 |true=>
  obtain ⟨c,e,n,es,rfl⟩:=own_shape ho
  exact .k (own_set h hs m)
 |false=>
  have:=owns_nil h ho hx
  subst this
  rw [setC_eq ho]
  exact stay_same m h
theorem hushC_rel {x:TV} {y:Value} {o:List Nat} (h:VR H S r x y o) (hx:Zcp x):VR H S r (hushC x) y []:=by
 cases ho:isOwn x with
 |true=>
  obtain ⟨c,e,n,es,rfl⟩:=own_shape ho
  exact .und
 |false=>
  have:=owns_nil h ho hx
  subst this
  rw [hushC_eq ho]
  exact h
theorem map_rel {f:TV→TV} {p:TV→Prop} (hf:∀ x y o,VR H S r x y o→p x→(∀ i∈o,S' i)→VR H S' r (f x) y []):∀ {xs:List TV} {ys:List Value} {o:List Nat},VRL H S r xs ys o→(∀ x∈xs,p x)→(∀ i∈o,S' i) →
  VRL H S' r (xs.map f) ys []
 |_,_,_,.nil,_,_=>.nil
 |_,_,_,.cons h t,hp,ho=>(VRL.cons (hf _ _ _ h (hp _ (List.mem_cons_self ..)) fun i hi=>ho i (List.mem_append_left _ hi)) (map_rel hf t (fun x hx=>hp x (List.mem_cons_of_mem _ hx)) fun i hi=>ho i (List.mem_append_right _ hi)):VRL _ _ _ _ _ ([]++[]))
theorem agg_inv {cs:List TV} {y:Value} {o:List Nat} (h:VR H S r (.agg cs) y o):∃ ds,y=.agg ds∧VRL H S r cs ds.toList o:=by
 cases h with
 |k h=>cases h with
  |agg _ h=>exact ⟨_,rfl,h.vrl⟩
 |agg h=>exact ⟨_,rfl,h⟩
theorem tup_inv {c:TV} {cs:List TV} {y:Value} {o:List Nat} (h:VR H S r (.tup (c::cs)) y o):∃ ds,y=.tuple ds∧VRL H S r (c::cs) ds.toList o:=by
 cases h with
 |k h=>cases h
 |tup h=>exact ⟨_,rfl,h⟩
theorem setT_rel {x:TV} {y:Value} {o:List Nat} (h:VR H S r x y o) (hx:compish x) (hn:NB x) (hs:∀ i∈o,S' i) (m:Stay H S H S'):VR H S' r (setT x) y []:=by
 cases x with
 |agg cs=>
  obtain ⟨ds,rfl,h1⟩:=agg_inv h
  cases hn with
  |agg _ hc=>
   show VR H S' r (.agg (mapG setC cs)) _ _
   rw [mapG_eq]
   exact .agg (map_rel (p:=Zcp) (fun x y o a b c=>setC_rel a b c m) h1 hc hs)
 |row c q n es=>
  have:setT (.row c q n es)=setC (.row c q n es):=by cases q <;> rfl
  rw [this]
  exact setC_rel h trivial hs m
 |tup cs=>
  cases cs with
  |nil=>exact setC_rel (x:=.tup []) h trivial hs m
  |cons=>exact hx.elim
 |_=>exact setC_rel h trivial hs m
theorem hushT_rel {x:TV} {y:Value} {o:List Nat} (h:VR H S r x y o) (hx:compish x) (hn:NB x):VR H S r (hushT x) y []:=by
 cases x with
 |agg cs=>
  obtain ⟨ds,rfl,h1⟩:=agg_inv h
  cases hn with
  |agg _ hc=>
   show VR H S r (.agg (mapG hushC cs)) _ _
   rw [mapG_eq]
   have:∀ {xs:List TV} {ys:List Value} {o:List Nat},VRL H S r xs ys o→(∀ x∈xs,Zcp x)→VRL H S r (xs.map hushC) ys []:=by
    intro xs ys o h
    induction xs generalizing ys o with
    |nil=>intro _;cases h;exact .nil
    |cons x xs ih=>
     intro hp
     cases h with
     |cons h t=>exact (VRL.cons (hushC_rel h (hp _ (List.mem_cons_self ..))) (ih t fun y hy=>hp y (List.mem_cons_of_mem _ hy)):VRL _ _ _ _ _ ([]++[]))
   exact .agg (this h1 hc)
 |row c q n es=>
  have:hushT (.row c q n es)=hushC (.row c q n es):=by cases q <;> rfl
  rw [this]
  exact hushC_rel h trivial
 |tup cs=>
  cases cs with
  |nil=>exact hushC_rel (x:=.tup []) h trivial
  |cons=>exact hx.elim
 |_=>exact hushC_rel h trivial
theorem nb_setC {x:TV} (h:NB x):NB (setC x):=by
 cases ho:isOwn x with
 |true=>
  obtain ⟨c,e,n,es,rfl⟩:=own_shape ho
  exact .mk_row (by intro h;cases h)
 |false=>rw [setC_eq ho];exact h
theorem nb_hushC {x:TV} (h:NB x):NB (hushC x):=by
 cases ho:isOwn x with
 |true=>
  obtain ⟨c,e,n,es,rfl⟩:=own_shape ho
  exact .tup .nil (fun c hc=>by cases hc)
 |false=>rw [hushC_eq ho];exact h
theorem cell_setC {x:TV} (h:Zcp x):Zcp (setC x):=by
 cases ho:isOwn x with
 |true=>obtain ⟨c,e,n,es,rfl⟩:=own_shape ho;trivial
 |false=>rw [setC_eq ho];exact h
theorem cell_hushC {x:TV} (h:Zcp x):Zcp (hushC x):=by
 cases ho:isOwn x with
 |true=>obtain ⟨c,e,n,es,rfl⟩:=own_shape ho;trivial
 |false=>rw [hushC_eq ho];exact h
theorem nb_aggS {cs:List TV} (h:NB (.agg cs)):NB (.agg (mapG setC cs)):=by
 cases h with
 |agg a b=>
  rw [mapG_eq]
  exact .agg (a.map fun x=>nb_setC) fun c hc=>by obtain ⟨x,hx,rfl⟩:=List.mem_map.1 hc;exact cell_setC (b x hx)
theorem nb_aggH {cs:List TV} (h:NB (.agg cs)):NB (.agg (mapG hushC cs)):=by
 cases h with
 |agg a b=>
  rw [mapG_eq]
  exact .agg (a.map fun x=>nb_hushC) fun c hc=>by obtain ⟨x,hx,rfl⟩:=List.mem_map.1 hc;exact cell_hushC (b x hx)
theorem nb_setT {x:TV} (h:NB x):NB (setT x)∧(compish x→compish (setT x)):=by
 cases x with
 |agg cs=>exact ⟨nb_aggS h,fun _=>trivial⟩
 |row c q n es=>cases q with
  |own e=>exact ⟨.mk_row (by intro h;cases h),fun _=>trivial⟩
  |set=>exact ⟨h,fun h=>h⟩
  |bor=>exact ⟨h,fun h=>h⟩
 |_=>exact ⟨h,fun h=>h⟩
theorem nb_hushT {x:TV} (h:NB x):NB (hushT x)∧(compish x→compish (hushT x)):=by
 cases x with
 |agg cs=>exact ⟨nb_aggH h,fun _=>trivial⟩
 |row c q n es=>cases q with
  |own e=>exact ⟨.tup .nil (fun c hc=>by cases hc),fun _=>trivial⟩
  |set=>exact ⟨h,fun h=>h⟩
  |bor=>exact ⟨h,fun h=>h⟩
 |_=>exact ⟨h,fun h=>h⟩
theorem setV_rel {x:TV} {y:Value} {o:List Nat} {w:Bool} (h:VR H S r (wv w x) y o) (hv:OV x) (hs:∀ i∈o,S' i) (m:Stay H S H S'):VR H S' r (wv w (Zak x)) y []∧OV (Zak x):=by
 cases x with
 |row c q n es=>
  cases q with
  |own e=>
   have h1:wv w (.row c (.own e) n es)=.row c (.own e) n es:=by cases w <;> rfl
   have h2:wv w (Zak (.row c (.own e) n es))=.row c .set n es:=by cases w <;> rfl
   rw [h1] at h
   rw [h2]
   exact ⟨.k (own_set h hs m),.inl (.mk_row (by intro h;cases h))⟩
  |set=>
   have h1:wv w (.row c .set n es)=.row c .set n es:=by cases w <;> rfl
   have h2:wv w (Zak (.row c .set n es))=.row c .set n es:=by cases w <;> rfl
   rw [h1] at h
   rw [h2]
   have:=owns_nil h rfl trivial
   subst this
   exact ⟨stay_same m h,hv⟩
  |bor=>
   show VR H S' r (wv w (.row c .bor n es)) y []∧_
   have:o=[]:=owns_nil h (by cases w <;> rfl) (by cases w <;> trivial)
   subst this
   exact ⟨stay_same m h,hv⟩
 |agg cs=>
  have h1:wv w (.agg cs)=.agg cs:=by cases w <;> rfl
  have h2:wv w (Zak (.agg cs))=.agg (mapG setC cs):=by cases w <;> rfl
  rw [h1] at h
  rw [h2]
  have hn:NB (.agg cs):=hv.elim id fun h=>h.elim
  refine ⟨?_,.inl (nb_aggS hn)⟩
  obtain ⟨ds,rfl,h3⟩:=agg_inv h
  cases hn with
  |agg _ hc=>
   rw [mapG_eq]
   exact .agg (map_rel (p:=Zcp) (fun x y o a b c=>setC_rel a b c m) h3 hc hs)
 |tup cs=>
  have h1:wv w (.tup cs)=.tup cs:=by cases w <;> rfl
  have h2:wv w (Zak (.tup cs))=.tup (mapG setT cs):=by cases w <;> rfl
  rw [h1] at h
  rw [h2]
  have hn:NB (.tup cs):=hv.elim id fun h=>h.elim
  cases cs with
  |nil=>exact ⟨.und,hv⟩
  |cons c cs=>
   obtain ⟨ds,rfl,h3⟩:=tup_inv h
   cases hn with
   |tup a hc=>
    rw [mapG_eq]
    refine ⟨.tup (map_rel (p:=fun x=>NB x∧compish x) (fun x y o a b c=>setT_rel a b.2 b.1 c m) h3 (fun x hx=>⟨a.mem x hx,hc x hx⟩) hs),?_⟩
    show OV (.tup (mapG setT (c::cs)))
    rw [mapG_eq]
    refine .inl (.tup (a.map fun x hx=>(nb_setT hx).1) fun d hd=>?_)
    obtain ⟨x,hx,rfl⟩:=List.mem_map.1 hd
    exact (nb_setT (a.mem x hx)).2 (hc x hx)
 |el q cs off=>
  have:o=[]:=owns_nil h (by cases w <;> cases q <;> rfl) (by cases w <;> cases q <;> trivial)
  subst this
  exact ⟨stay_same m h,hv⟩
 |_=>
  have:o=[]:=owns_nil h (by cases w <;> rfl) (by cases w <;> trivial)
  subst this
  exact ⟨stay_same m h,hv⟩
theorem hush_rel {x:TV} {y:Value} {o:List Nat} {w:Bool} (h:VR H S r (wv w x) y o) (hv:OV x) (hr:∀ i∈o,i ∉ r):VR H S r (wv w (hush x)) y []∧OV (hush x):=by
 cases x with
 |row c q n es=>
  cases q with
  |own e=>
   have h1:wv w (.row c (.own e) n es)=.row c (.own e) n es:=by cases w <;> rfl
   rw [h1] at h
   refine ⟨?_,.inr trivial⟩
   show VR H S r (wv w (.row c .bor n es)) y []
   cases w with
   |true=>exact .und
   |false=>exact own_bor h hr
  |set=>
   have:o=[]:=owns_nil h (by cases w <;> rfl) (by cases w <;> trivial)
   subst this
   exact ⟨h,hv⟩
  |bor=>
   have:o=[]:=owns_nil h (by cases w <;> rfl) (by cases w <;> trivial)
   subst this
   exact ⟨h,hv⟩
 |agg cs=>
  have h1:wv w (.agg cs)=.agg cs:=by cases w <;> rfl
  have h2:wv w (hush (.agg cs))=.agg (mapG hushC cs):=by cases w <;> rfl
  rw [h1] at h
  rw [h2]
  have hn:NB (.agg cs):=hv.elim id fun h=>h.elim
  have:=hushT_rel (x:=.agg cs) h trivial hn
  exact ⟨this,.inl (nb_aggH hn)⟩
 |tup cs=>
  have h1:wv w (.tup cs)=.tup cs:=by cases w <;> rfl
  have h2:wv w (hush (.tup cs))=.tup (mapG hushT cs):=by cases w <;> rfl
  rw [h1] at h
  rw [h2]
  have hn:NB (.tup cs):=hv.elim id fun h=>h.elim
  cases cs with
  |nil=>exact ⟨.und,hv⟩
  |cons c cs=>
   obtain ⟨ds,rfl,h3⟩:=tup_inv h
   cases hn with
   |tup a hc=>
    rw [mapG_eq]
    have key:∀ {xs:List TV} {ys:List Value} {o:List Nat},VRL H S r xs ys o→(∀ x∈xs,NB x∧compish x)→VRL H S r (xs.map hushT) ys []:=by
     intro xs ys o h
     induction xs generalizing ys o with
     |nil=>intro _;cases h;exact .nil
     |cons x xs ih=>
      intro hp
      cases h with
      |cons h t=>exact (VRL.cons (hushT_rel h (hp _ (List.mem_cons_self ..)).2 (hp _ (List.mem_cons_self ..)).1) (ih t fun y hy=>hp y (List.mem_cons_of_mem _ hy)):VRL _ _ _ _ _ ([]++[]))
    refine ⟨.tup (key h3 fun x hx=>⟨a.mem x hx,hc x hx⟩),?_⟩
    show OV (.tup (mapG hushT (c::cs)))
    rw [mapG_eq]
    refine .inl (.tup (a.map fun x hx=>(nb_hushT hx).1) fun d hd=>?_)
    obtain ⟨x,hx,rfl⟩:=List.mem_map.1 hd
    exact (nb_hushT (a.mem x hx)).2 (hc x hx)
 |el q cs off=>
  have:o=[]:=owns_nil h (by cases w <;> cases q <;> rfl) (by cases w <;> cases q <;> trivial)
  subst this
  exact ⟨h,hv⟩
 |_=>
  have:o=[]:=owns_nil h (by cases w <;> rfl) (by cases w <;> trivial)
  subst this
  exact ⟨h,hv⟩
end
end Go.Ev
namespace Go.Ev
theorem Sof_congr {F:Nat→Prop} {r Oh X r' Oh' X':List Nat} (h:∀ i,act r Oh X i=act r' Oh' X' i):Sof F r Oh X=Sof F r' Oh' X':=by
 funext i
 unfold Sof
 rw [h i]
theorem Zcq {x:TV} (h:Zbw x=true):NB x∧Zcp x:=by
 cases x with
 |v=>exact ⟨.v _,trivial⟩
 |row c q n es=>cases q with
  |set=>exact ⟨.mk_row (by intro h;cases h),trivial⟩
  |_=>cases h
 |iface=>exact ⟨.iface _ _,trivial⟩
 |_=>cases h
theorem ofC_rel {H:AH} {S:Nat→Prop} {a:Value} (h:flat a=true):KR H S (ofC a) a∧NB (ofC a)∧Zcp (ofC a)∧Zbw (ofC a)=true:=by
 cases a with
 |slice a len cap=>
  cases a with
  |none=>
   have:len=0∧cap=0:=by
    cases len <;> cases cap <;> simp_all [flat]
   obtain ⟨rfl,rfl⟩:=this
   exact ⟨.nil,.mk_row (by intro h;cases h),trivial,rfl⟩
  |some=>cases h
 |_=>first |exact ⟨.v h rfl,.v _,trivial,rfl⟩ |cases h
theorem ofC_all {H:AH} {S:Nat→Prop}:∀ {l:List Value},l.all flat=true→KRL H S (l.map ofC) l∧NBL (l.map ofC)∧∀ c∈l.map ofC,Zcp c∧Zbw c=true
 |[],_=>⟨.nil,.nil,fun c hc=>by cases hc⟩
 |a::l,h=>by
  simp only [List.all_cons,Bool.and_eq_true] at h
  obtain ⟨h1,h2,h3,h4⟩:=ofC_rel (H:=H) (S:=S) h.1
  obtain ⟨h5,h6,h7⟩:=ofC_all (H:=H) (S:=S) h.2
  refine ⟨.cons h1 h5,.cons h2 h6,fun c hc=>?_⟩
  rcases List.mem_cons.1 hc with rfl |hc
  ·exact ⟨h3,h4⟩
  ·exact h7 c hc
theorem ofV_rel {H:AH} {S:Nat→Prop} {r:List Nat} {a:Value} (h:plain a=true):VR H S r (ofV a) a []∧NB (ofV a):=by
 unfold plain at h
 split at h
 ·obtain ⟨h5,h6,h7⟩:=ofC_all (H:=H) (S:=S) h
  show VR H S r (.agg (mapG ofC _)) _ []∧NB (.agg (mapG ofC _))
  rw [mapG_eq]
  exact ⟨.k (.agg (fun c hc=>(h7 c hc).2) h5),.agg h6 fun c hc=>(h7 c hc).1⟩
 ·obtain ⟨h5,h6,h7⟩:=ofC_all (H:=H) (S:=S) h
  show VR H S r (.tup (mapG ofC _)) _ []∧NB (.tup (mapG ofC _))
  rw [mapG_eq]
  exact ⟨.tup h5.vrl,.tup h6 fun c hc=>by
   have:=(h7 c hc).2
   cases c <;> first |trivial |cases this⟩
 ·obtain ⟨h1,h2,_,_⟩:=ofC_rel (H:=H) (S:=S) h
  have e:ofV a=ofC a:=by
   cases a with
   |agg=>cases h
   |tuple=>cases h
   |_=>rfl
  rw [e]
  exact ⟨.k h1,h2⟩
theorem ofV_kr {H:AH} {S:Nat→Prop} {a:Value} (h:plain a=true) (ht:∀ l,a≠.tuple l):KR H S (ofV a) a∧closed (ofV a)=true:=by
 unfold plain at h
 split at h
 ·obtain ⟨h5,h6,h7⟩:=ofC_all (H:=H) (S:=S) h
  show KR H S (.agg (mapG ofC _)) _∧Zbu Zbw (mapG ofC _)=true
  rw [mapG_eq,Zds]
  exact ⟨.agg (fun c hc=>(h7 c hc).2) h5,List.all_eq_true.2 fun c hc=>(h7 c hc).2⟩
 ·exact absurd rfl (ht _)
 ·obtain ⟨h1,h2,_,h4⟩:=ofC_rel (H:=H) (S:=S) h
  have e:ofV a=ofC a:=by
   cases a with
   |agg=>cases h
   |tuple=>cases h
   |_=>rfl
  rw [e]
  exact ⟨h1,by
   cases hx:ofC a with
   |agg cs=>rw [hx] at h4;cases h4
   |_=>rw [hx] at h4;exact h4⟩
theorem setV_nb {x:TV} (hv:OV x) (ho:isOwn x=false) (hn:noBor x=true):NB (Zak x):=by
 have h1:NB x:=by
  rcases hv with h |h
  ·exact h
  ·unfold lent at h
   split at h
   ·cases hn
   ·cases hn
   ·exact h.elim
 cases x with
 |row c q n es=>cases q with
  |own=>cases ho
  |set=>exact h1
  |bor=>cases hn
 |agg cs=>exact nb_aggS h1
 |tup cs=>
  cases h1 with
  |tup a b=>
   show NB (.tup (mapG setT cs))
   rw [mapG_eq]
   refine .tup (a.map fun x h=>(nb_setT h).1) fun c hc=>?_
   obtain ⟨x,hx,rfl⟩:=List.mem_map.1 hc
   exact (nb_setT (a.mem x hx)).2 (b x hx)
 |_=>exact h1
theorem thaw_cps {n:Nat} {ag:Bool} {x:TV} {T:TH} {β:Type} {k:TV→TH→Option β} {ρ:β} (h:bindT (thawC n ag x T) k=some ρ):cond (isOwn x) (thawV n ag x T k) (Zap (noBor x) (k (Zak x) T))=some ρ:=by
 unfold thawC at h
 cases ho:isOwn x with
 |false=>
  rw [ho] at h
  cases hn:noBor x with
  |false=>rw [hn] at h;cases h
  |true=>rw [hn] at h;exact h
 |true=>
  rw [ho] at h
  obtain ⟨c,e,m,es,rfl⟩:=own_shape ho
  have h:bindT (Zap (Nat.beq m n) _) k=some ρ:=h
  show Zap (Nat.beq m n) _=some ρ
  cases hm:Nat.beq m n with
  |false=>rw [hm] at h;cases h
  |true=>rw [hm] at h;exact h
def RdR (w:Bool) (m:Md) (H:AH) (S:Nat→Prop) (r:List Nat) (x:TV) (y:Value) (ox:List Nat):Prop:=
 match m with
 |.raw=>ox=[]∧∃ o,VR H S r (wv w x) y o∧(w=false→∀ j∈o,j ∉ r)
 |.comp i=>∃ ds yz,y=.tuple ds∧ds.toList[i]? = some yz∧VR H S r (wv w x) yz ox
 |.thaw _ _=>VR H S r x y ox∧NB x
 |.settle=>ox=[]∧VR H S r (wv w x) y []
 |.lend=>ox=[]∧VR H S r (wv w x) y []
 |_=>VR H S r (wv w x) y ox
theorem wv_mono {w:Bool} {H:AH} {S S':Nat→Prop} {r r':List Nat} {x:TV} {y:Value} {o:List Nat} (h:VR H S r (wv w x) y o) (hv:OV x) (m:Stay H S H S') (g:∀ (b i:Nat),r[b]? = some i→r'[b]? = some i) (hw:w=false→r'=r):VR H S' r' (wv w x) y o:=by
 cases w with
 |true=>exact h.monoN m g (stale_nb hv) fun _ _=>rfl
 |false=>
  have:=hw rfl
  subst this
  exact stay_same m h
theorem RdR.mono {w:Bool} {md:Md} {H:AH} {S S':Nat→Prop} {r r':List Nat} {x:TV} {y:Value} {o:List Nat} (h:RdR w md H S r x y o) (hv:OV x) (m:Stay H S H S') (g:∀ (b i:Nat),r[b]? = some i→r'[b]? = some i) (hw:w=false→r'=r):RdR w md H S' r' x y o:=by
 cases md with
 |raw=>exact ⟨h.1,h.2.elim fun o h=>⟨o,wv_mono h.1 hv m g hw,fun e j hj=>by rw [hw e];exact h.2 e j hj⟩⟩
 |comp i=>
  obtain ⟨ds,yz,h1,h2,h3⟩:=h
  exact ⟨ds,yz,h1,h2,wv_mono h3 hv m g hw⟩
 |thaw n ag=>exact ⟨h.1.monoN m g h.2 fun _ _=>rfl,h.2⟩
 |settle=>exact ⟨h.1,wv_mono h.2 hv m g hw⟩
 |lend=>exact ⟨h.1,wv_mono h.2 hv m g hw⟩
 |_=>exact wv_mono (w:=w) h hv m g hw
theorem Good.retell {C:TC} {F:Nat→Prop} {lo tlo:Nat} {H:AH} {r Oh X r' Oh' X':List Nat} {T T':TH} (h:Good C F lo tlo H r T Oh X) (hc:∀ i,act r' Oh' X' i≤act r Oh X i) (pre:∀ (b i:Nat),r[b]? = some i→r'[b]? = some i)
  (rl:∀ (b i:Nat),tlo≤b→r'[b]? = some i→lo≤i) (xl:∀ i∈X',lo≤i) (hp:HL H (Sof F r' Oh' X') r' lo tlo 0 T' r' Oh'):Good C F lo tlo H r' T' Oh' X':=
 h.next ⟨Nat.le_refl _,fun _ _ _=>rfl,fun i _=>hc i,pre⟩ (fun i hi=>by
  have h1:=hc i
  have h2:=h.nd i
  have h3:=h.lt i
  exact ⟨by omega,fun h4=>(h3 (by omega)).1⟩) rl xl hp
theorem stay_act {F:Nat→Prop} {H:AH} {r Oh X r' Oh' X':List Nat} (hc:∀ i,act r' Oh' X' i≤act r Oh X i):Stay H (Sof F r Oh X) H (Sof F r' Oh' X'):=
 ⟨Nat.le_refl _,fun i _ hs=>⟨⟨hs.1,by have:=hc i;have:=hs.2;omega⟩,rfl⟩⟩
theorem rdOp_run {P:Program} {C:TC} {β:Type} {m:Md} {ep:Nat} {E:TE} {T:TH} {o:Operand} {k:TV→TE→TH→Option β} {ρ:β} (h:rdOp P C m ep E T o k=some ρ) :
  ∃ x E' l,k x E' (T++l)=some ρ∧∀ {w:Bool} {F:Nat→Prop} {lo tlo:Nat} {H:AH} {r Oh Xe Xv:List Nat} {Ev:Env},(Zby m=true→w=true)→Good C F lo tlo H r T Oh (Xe++Xv)→EnvR w H (Sof F r Oh (Xe++Xv)) r ep Ev E Xe →
   ∃ y r' Xe' ox,evx P Ev o=some y∧Good C F lo tlo H r' (T++l) Oh (Xe'++(ox++Xv))∧EnvR w H (Sof F r' Oh (Xe'++(ox++Xv))) r' ep Ev E' Xe'∧RdR w m H (Sof F r' Oh (Xe'++(ox++Xv))) r' x y ox∧OV x ∧
    (∀ (b i:Nat),r[b]? = some i→r'[b]? = some i)∧(w=false→r'=r)∧∀ i,act r' Oh (Xe'++(ox++Xv)) i≤act r Oh (Xe++Xv) i:=by
 have keep:∀ {x:TV} {y:Value} {w:Bool} {F:Nat→Prop} {lo tlo:Nat} {H:AH} {r Oh Xe Xv:List Nat} {Ev:Env},evx P Ev o=some y→(∀ S:Nat→Prop,S=Sof F r Oh (Xe++Xv)→VR H S r x y []∧NB x)→isComp m=false→Good C F lo tlo H r T Oh (Xe++Xv)→EnvR w H (Sof F r Oh (Xe++Xv)) r ep Ev E Xe →
   ∃ y r' Xe' ox,evx P Ev o=some y∧Good C F lo tlo H r' (T++[]) Oh (Xe'++(ox++Xv))∧EnvR w H (Sof F r' Oh (Xe'++(ox++Xv))) r' ep Ev E Xe'∧RdR w m H (Sof F r' Oh (Xe'++(ox++Xv))) r' x y ox∧OV x ∧
    (∀ (b i:Nat),r[b]? = some i→r'[b]? = some i)∧(w=false→r'=r)∧∀ i,act r' Oh (Xe'++(ox++Xv)) i≤act r Oh (Xe++Xv) i:=by
  intro x y w F lo tlo H r Oh Xe Xv Ev hy hx hm hG hE
  obtain ⟨h1,h2⟩:=hx _ rfl
  refine ⟨y,r,Xe,[],hy,by rw [List.append_nil];exact hG,hE,?_,.inl h2,fun _ _ h=>h,fun _=>rfl,fun _=>Nat.le_refl _⟩
  have h3:VR H (Sof F r Oh (Xe++Xv)) r (wv w x) y []:=by rw [h2.wv];exact h1
  cases m with
  |raw=>exact ⟨rfl,_,h3,fun _ j hj=>by cases hj⟩
  |comp i=>cases hm
  |thaw n ag=>cases hm
  |settle=>exact ⟨rfl,h3⟩
  |lend=>exact ⟨rfl,h3⟩
  |_=>exact h3
 have ncomp:∀ {b:Bool},(!b)=true→b=false:=fun {b} h=>by cases b <;> first |rfl |cases h
 cases o with
 |const v=>
  obtain ⟨hm,h⟩:=Zan h
  obtain ⟨h1,h2⟩:=Zan h
  refine ⟨ofV v,E,[],by rw [List.append_nil];exact h2,fun {w F lo tlo H r Oh Xe Xv Ev} _ hG hE=>keep (y:=v) ?_ (fun S _=>ofV_rel h1) (ncomp hm) hG hE⟩
  show Zap (plain v) (some v)=_
  rw [h1];rfl
 |global g=>
  obtain ⟨hm,h⟩:=Zan h
  obtain ⟨cs,h1,h2⟩:=Zac h
  obtain ⟨h3,h4⟩:=Zan h2
  refine ⟨_,E,[],by rw [List.append_nil];exact h4,fun {w F lo tlo H r Oh Xe Xv Ev} _ hG hE=>keep (y:=.pointer (some ⟨g,0,none⟩)) ?_ (fun S hS=>?_) (ncomp hm) hG hE⟩
  ·show Zap (Nat.blt g P.globals.size) _=_
   rw [h3];rfl
  ·obtain ⟨a1,a2,s,ds,e,a3,a4,a5,a7,a6⟩:=hG.tabs g cs h1
   subst hS
   exact ⟨.elS (o:=0) (off:=0) a1 a2 a3 a4 (by omega) a7 (by rw [List.drop_zero];exact a6),.el⟩
 |func f=>
  obtain ⟨hm,h⟩:=Zan h
  exact ⟨_,E,[],by rw [List.append_nil];exact h,fun {w F lo tlo H r Oh Xe Xv Ev} _ hG hE=>keep (y:=.func (.func f) #[] #[]) rfl (fun S hS=>⟨.k .fn0,.fn .nil .nil⟩) (ncomp hm) hG hE⟩
 |tmp t=>
  obtain ⟨p,h1,h2⟩:=Zac h
  have h2:rdTmp m ep t (nowT ep p) E T k=some ρ:=h2
  obtain ⟨x,hx⟩:∃ x,x=nowT ep p:=⟨_,rfl⟩
  rw [← hx] at h2
  cases m with
  |raw=>
   refine ⟨x,E,[],by rw [List.append_nil];exact h2,fun {w F lo tlo H r Oh Xe Xv Ev} _ hG hE=>?_⟩
   obtain ⟨y,o,O2,_,a2,a3,a4,_,a6⟩:=hE.look h1
   rw [← hx] at a2 a4
   exact ⟨y,r,Xe,[],a3,by rw [List.append_nil];exact hG,hE,⟨rfl,o,a4,fun _ j hj hr=>by
    have h3:=(hG.mem_r hr).2.2.2.2
    rw [List.count_append] at h3
    have h4:=a6 j
    have h5:=Zax.2 hj
    omega⟩,a2,fun _ _ h=>h,fun _=>rfl,fun _=>Nat.le_refl _⟩
  |take=>
   refine ⟨x,_,[],by rw [List.append_nil];exact h2,fun {w F lo tlo H r Oh Xe Xv Ev} _ hG hE=>?_⟩
   obtain ⟨y,o,O2,_,a2,a3,a4,a5,a6⟩:=hE.look h1
   rw [← hx] at a2 a4
   have hor:∀ i∈o,i ∉ r:=fun i hi hr=>by
    have:=(hG.mem_r hr).2.2.2.2
    rw [List.count_append] at this
    have:=a6 i
    have:=Zax.2 hi
    omega
   have hc:∀ i,act r Oh (O2++(o++Xv)) i≤act r Oh (Xe++Xv) i:=fun i=>by unfold act;simp only [List.count_append];have:=a6 i;omega
   have st:=stay_act (F:=F) (H:=H) hc
   obtain ⟨b1,b2⟩:=hush_rel a4 a2 hor
   refine ⟨y,r,O2,o,a3,by rw [List.append_nil];exact hG.less fun i=>by simp only [List.count_append];have:=a6 i;omega,?_,wv_mono a4 a2 st (fun _ _ h=>h) (fun _=>rfl),a2,fun _ _ h=>h,fun _=>rfl,hc⟩
   have:=EnvR.retell (a5.mono st (fun _ _ h=>h) (fun _ i _ hi=>⟨hi,rfl⟩) fun _ _=>rfl) a3 b2 (wv_mono b1 b2 st (fun _ _ h=>h) (fun _=>rfl))
   exact this
  |settle=>
   refine ⟨Zak x,_,[],by rw [List.append_nil];exact h2,fun {w F lo tlo H r Oh Xe Xv Ev} _ hG hE=>?_⟩
   obtain ⟨y,o,O2,_,a2,a3,a4,a5,a6⟩:=hE.look h1
   rw [← hx] at a2 a4
   have hc:∀ i,act r Oh (O2++([]++Xv)) i≤act r Oh (Xe++Xv) i:=fun i=>by unfold act;simp only [List.count_append,List.nil_append];have:=a6 i;omega
   have st:=stay_act (F:=F) (H:=H) hc
   have hs:∀ i∈o,Sof F r Oh (O2++([]++Xv)) i:=fun i hi=>by
    have h3:=Zax.2 hi
    have h4:=hG.nd i
    have h5:=a6 i
    unfold act at h4
    simp only [List.count_append] at h4
    refine ⟨(hG.lt i ?_).2,?_⟩
    ·unfold act;simp only [List.count_append];omega
    ·unfold act;simp only [List.count_append,List.nil_append];omega
   obtain ⟨b1,b2⟩:=setV_rel a4 a2 hs st
   refine ⟨y,r,O2,[],a3,by rw [List.append_nil];exact hG.less fun i=>by simp only [List.count_append,List.nil_append];have:=a6 i;omega,?_,⟨rfl,b1⟩,b2,fun _ _ h=>h,fun _=>rfl,hc⟩
   exact EnvR.retell (a5.mono st (fun _ _ h=>h) (fun _ i _ hi=>⟨hi,rfl⟩) fun _ _=>rfl) a3 b2 b1
  |lend=>
   have h2:k (Zab x) (putT E t ep (Zae x)) T=some ρ:=h2
   unfold Zab Zae at h2
   cases ho:isOwn x with
   |true=>
    rw [ho] at h2
    refine ⟨hush x,_,[],by rw [List.append_nil];exact h2,fun {w F lo tlo H r Oh Xe Xv Ev} _ hG hE=>?_⟩
    obtain ⟨y,o,O2,_,a2,a3,a4,a5,a6⟩:=hE.look h1
    rw [← hx] at a2 a4
    have hor:∀ i∈o,i ∉ r:=fun i hi hr=>by
     have:=(hG.mem_r hr).2.2.2.2
     rw [List.count_append] at this
     have:=a6 i
     have:=Zax.2 hi
     omega
    obtain ⟨b1,b2⟩:=hush_rel a4 a2 hor
    have hc:∀ i,act r Oh ((o++O2)++([]++Xv)) i≤act r Oh (Xe++Xv) i:=fun i=>by unfold act;simp only [List.count_append,List.nil_append];have:=a6 i;omega
    have st:=stay_act (F:=F) (H:=H) hc
    refine ⟨y,r,o++O2,[],a3,by rw [List.append_nil];exact hG.less fun i=>by simp only [List.count_append,List.nil_append];have:=a6 i;omega,?_,⟨rfl,wv_mono b1 b2 st (fun _ _ h=>h) (fun _=>rfl)⟩,b2,fun _ _ h=>h,fun _=>rfl,hc⟩
    exact EnvR.retell (a5.mono st (fun _ _ h=>h) (fun _ i _ hi=>⟨hi,rfl⟩) fun _ _=>rfl) a3 a2 (wv_mono a4 a2 st (fun _ _ h=>h) (fun _=>rfl))
   |false=>
    rw [ho] at h2
    refine ⟨Zak x,_,[],by rw [List.append_nil];exact h2,fun {w F lo tlo H r Oh Xe Xv Ev} _ hG hE=>?_⟩
    obtain ⟨y,o,O2,_,a2,a3,a4,a5,a6⟩:=hE.look h1
    rw [← hx] at a2 a4
    have hc:∀ i,act r Oh (O2++([]++Xv)) i≤act r Oh (Xe++Xv) i:=fun i=>by unfold act;simp only [List.count_append,List.nil_append];have:=a6 i;omega
    have st:=stay_act (F:=F) (H:=H) hc
    have hs:∀ i∈o,Sof F r Oh (O2++([]++Xv)) i:=fun i hi=>by
     have h3:=Zax.2 hi
     have h4:=hG.nd i
     have h5:=a6 i
     unfold act at h4
     simp only [List.count_append] at h4
     refine ⟨(hG.lt i ?_).2,?_⟩
     ·unfold act;simp only [List.count_append];omega
     ·unfold act;simp only [List.count_append,List.nil_append];omega
    obtain ⟨b1,b2⟩:=setV_rel a4 a2 hs st
    refine ⟨y,r,O2,[],a3,by rw [List.append_nil];exact hG.less fun i=>by simp only [List.count_append,List.nil_append];have:=a6 i;omega,?_,⟨rfl,b1⟩,b2,fun _ _ h=>h,fun _=>rfl,hc⟩
    exact EnvR.retell (a5.mono st (fun _ _ h=>h) (fun _ i _ hi=>⟨hi,rfl⟩) fun _ _=>rfl) a3 b2 b1
  |comp j=>
   obtain ⟨z,h3,h4⟩:=Zac h2
   refine ⟨z,_,[],by rw [List.append_nil];exact h4,fun {w F lo tlo H r Oh Xe Xv Ev} _ hG hE=>?_⟩
   obtain ⟨y,o,O2,_,a2,a3,a4,a5,a6⟩:=hE.look h1
   rw [← hx] at a2 a4
   unfold Zbq at h3
   split at h3
   ·rename_i cs
    rw [Zcb] at h3
    have hn:NB (.tup cs):=a2.elim id fun h=>h.elim
    have a4:VR H (Sof F r Oh (Xe++Xv)) r (.tup cs) y o:=by
     have e:wv w (.tup cs)=.tup cs:=hn.wv w
     rw [e] at a4;exact a4
    cases cs with
    |nil=>simp at h3
    |cons c0 cs=>
    obtain ⟨ds,rfl,b1⟩:=tup_inv a4
    obtain ⟨yz,u2,u3,c1,u1,rfl,c3,c4⟩:=b1.get h3
    cases hn with
    |tup n1 n2=>
    have nz:NB z:=n1.mem z (List.mem_of_getElem? h3)
    have hi:j < (c0::cs).length:=by
     rcases Nat.lt_or_ge j (c0::cs).length with h |h
     ·exact h
     ·rw [List.getElem?_eq_none h] at h3;cases h3
    have hg:Zba (.tup (c0::cs)) j=.tup ((c0::cs).set j Zao):=by
     show TV.tup (overG (c0::cs) j [Zao])=_
     rw [overG_one _ _ _ hi]
    have hc:∀ i,act r Oh ((u2++c1++O2)++(u3++Xv)) i≤act r Oh (Xe++Xv) i:=fun i=>by unfold act;simp only [List.count_append];have:=a6 i;simp only [List.count_append] at this;omega
    have st:=stay_act (F:=F) (H:=H) hc
    have hvz:VR H (Sof F r Oh (Xe++Xv)) r (wv w z) yz u3:=by rw [nz.wv];exact c3
    have hset:(ds.toList.set j yz)=ds.toList:=by
     apply List.ext_getElem?
     intro q
     rw [List.getElem?_set]
     split
     ·rename_i hq
      subst hq
      rw [u1]
      split
      ·rfl
      ·rename_i hq2
       rw [List.getElem?_eq_none (by omega)] at u1;cases u1
     ·rfl
    have hgone:VR H (Sof F r Oh (Xe++Xv)) r (.tup ((c0::cs).set j Zao)) (.tuple ds) (u2++c1):=by
     have h9:=c4 Zao yz [] .und
     rw [hset,List.nil_append] at h9
     exact .tup h9
    have nbg:NB (.tup ((c0::cs).set j Zao)):=by
     refine .tup (NBL.of fun d hd=>?_) fun d hd=>?_
     ·rcases List.mem_or_eq_of_mem_set hd with hd |rfl
      ·exact n1.mem d hd
      ·exact .tup .nil fun c hc=>by cases hc
     ·rcases List.mem_or_eq_of_mem_set hd with hd |rfl
      ·exact n2 d hd
      ·trivial
    refine ⟨.tuple ds,r,u2++c1++O2,u3,a3,by rw [List.append_nil];exact hG.less fun i=>by simp only [List.count_append];have:=a6 i;simp only [List.count_append] at this;omega,?_,⟨ds,yz,rfl,u1,wv_mono hvz (.inl nz) st (fun _ _ h=>h) (fun _=>rfl)⟩,.inl nz,fun _ _ h=>h,fun _=>rfl,hc⟩
    rw [hg]
    refine EnvR.retell (a5.mono st (fun _ _ h=>h) (fun _ i _ hi=>⟨hi,rfl⟩) fun _ _=>rfl) a3 (.inl nbg) ?_
    exact wv_mono (by rw [nbg.wv];exact hgone) (.inl nbg) st (fun _ _ h=>h) (fun _=>rfl)
   ·cases h3
  |thaw n ag=>
   have h2:cond (isOwn x) (thawV n ag x T fun x T=>k x (putT E t ep x) T) (Zap (noBor x) (k (Zak x) (putT E t ep (Zak x)) T))=some ρ:=thaw_cps (k:=fun y T=>k y (putT E t ep y) T) h2
   cases ho:isOwn x with
   |false=>
    rw [ho] at h2
    obtain ⟨hnb,h2⟩:=Zan (show Zap (noBor x) _=some ρ from h2)
    refine ⟨Zak x,_,[],by rw [List.append_nil];exact h2,fun {w F lo tlo H r Oh Xe Xv Ev} _ hG hE=>?_⟩
    obtain ⟨y,o,O2,_,a2,a3,a4,a5,a6⟩:=hE.look h1
    rw [← hx] at a2 a4
    have hc:∀ i,act r Oh (O2++([]++Xv)) i≤act r Oh (Xe++Xv) i:=fun i=>by unfold act;simp only [List.count_append,List.nil_append];have:=a6 i;omega
    have st:=stay_act (F:=F) (H:=H) hc
    have hs:∀ i∈o,Sof F r Oh (O2++([]++Xv)) i:=fun i hi=>by
     have h3:=Zax.2 hi
     have h4:=hG.nd i
     have h5:=a6 i
     unfold act at h4
     simp only [List.count_append] at h4
     refine ⟨(hG.lt i ?_).2,?_⟩
     ·unfold act;simp only [List.count_append];omega
     ·unfold act;simp only [List.count_append,List.nil_append];omega
    obtain ⟨b1,b2⟩:=setV_rel a4 a2 hs st
    have b3:NB (Zak x):=setV_nb a2 ho hnb
    have b4:VR H (Sof F r Oh (O2++([]++Xv))) r (Zak x) y []:=by rw [b3.wv] at b1;exact b1
    refine ⟨y,r,O2,[],a3,by rw [List.append_nil];exact hG.less fun i=>by simp only [List.count_append,List.nil_append];have:=a6 i;omega,?_,⟨b4,b3⟩,b2,fun _ _ h=>h,fun _=>rfl,hc⟩
    exact EnvR.retell (a5.mono st (fun _ _ h=>h) (fun _ i _ hi=>⟨hi,rfl⟩) fun _ _=>rfl) a3 b2 b1
   |true=>
    rw [ho] at h2
    obtain ⟨c,e,mm,es,rfl⟩:=own_shape ho
    obtain ⟨h5,h6⟩:=Zan h2
    have h5:=Zay h5
    subst h5
    refine ⟨_,_,[.cells (Zbl es)],h6,fun {w F lo tlo H r Oh Xe Xv Ev} hw hG hE=>?_⟩
    have hw:=hw rfl
    subst hw
    obtain ⟨y,o,O2,_,a2,a3,a4,a5,a6⟩:=hE.look h1
    rw [← hx] at a2 a4
    have a4:VR H (Sof F r Oh (Xe++Xv)) r (.row c (.own e) mm es) y o:=a4
    have hlen:=hG.len
    cases a4 with
    |k h=>cases h
    | @own _ _ _ i cs _ hc0 hu hl hg he hk=>
     have hc:∀ j,act (r++[i]) Oh (O2++([]++Xv)) j≤act r Oh (Xe++Xv) j:=fun j=>by unfold act;simp only [List.count_append,List.nil_append];have:=a6 j;omega
     have st:=stay_act (F:=F) (H:=H) hc
     have pre:∀ (b j:Nat),r[b]? = some j→(r++[i])[b]? = some j:=fun b j hb=>by
      rw [List.getElem?_append_left (by
       rcases Nat.lt_or_ge b r.length with h |h
       ·exact h
       ·rw [List.getElem?_eq_none h] at hb;cases hb)];exact hb
     have hlast:(r++[i])[Zag T]? = some i:=by rw [Zat,← hlen];simp
     have hx:lo≤i:=hG.xlo i (List.mem_append_left _ (Zax.1 (by have:=a6 i;simp at this;omega)))
     have hkl:=hk.length
     rw [flatL_length he] at hkl
     have nbf:NBL (Zbl es):=by
      exact NBL.of fun c hc=>(Zcq (he.closed c hc)).1
     refine ⟨_,r++[i],O2,[],a3,?_,?_,?_,.inl (.vec _ _ _ _ _ _),pre,(fun h=>by cases h),hc⟩
     ·refine hG.retell hc pre (fun b j hb hj=>?_) (fun j hj=>?_) ?_
      ·rcases Nat.lt_or_ge b r.length with hbl |hbl
       ·rw [List.getElem?_append_left hbl] at hj;exact hG.rlo b j hb hj
       ·rw [List.getElem?_append_right hbl] at hj
        cases hbb:b - r.length with
        |zero=>rw [hbb] at hj;simp at hj;omega
        |succ q=>rw [hbb] at hj;simp at hj
      ·refine hG.xlo j ?_
       rw [List.nil_append] at hj
       rcases List.mem_append.1 hj with hj |hj
       ·exact List.mem_append_left _ (Zax.1 (by have:=a6 j;have:=Zax.2 hj;omega))
       ·exact List.mem_append_right _ hj
      ·have h7:=HL.push (lo:=lo) (tlo:=tlo) (o:=.cells (Zbl es)) (i:=i) (w:=[]) (H:=H) (S:=Sof F (r++[i]) Oh (O2++([]++Xv))) (r:=r++[i]) (.cells hg hkl.symm nbf (fun c hc=>(Zcq (he.closed c hc)).2) (hk.mono st).vrl) (fun j hj=>by cases hj)
        (hG.heap.mono st pre (fun _ _=>rfl) fun _ _=>rfl)
       rwa [List.append_nil] at h7
     ·exact EnvR.retell (o:=[]) (a5.mono st pre (fun h=>by cases h) fun _ _=>rfl) a3 (.inl (.vec _ _ _ _ _ _)) (by rw [Zat es];exact .vec hlast)
     ·refine ⟨?_,.vec _ _ _ _ _ _⟩
      show VR H _ _ (.vec (Zag T) 0 (Zag es) (thawCap c (Zag es) mm) mm ag) _ []
      rw [Zat es]
      exact .vec hlast
inductive VM (w:Bool) (H:AH) (S:Nat→Prop) (r:List Nat):List Md→List TV→List Value→List Nat→Prop where
 |nil:VM w H S r [] [] [] []
 |cons {m:Md} {x:TV} {y:Value} {ox:List Nat} {ms:List Md} {xs:List TV} {ys:List Value} {os:List Nat} (h:RdR w m H S r x y ox) (hv:OV x) (t:VM w H S r ms xs ys os):VM w H S r (m::ms) (x::xs) (y::ys) (ox++os)
theorem VM.mono {w:Bool} {H:AH} {S S':Nat→Prop} {r r':List Nat} (m:Stay H S H S') (g:∀ (b i:Nat),r[b]? = some i→r'[b]? = some i) (hw:w=false→r'=r):∀ {ms:List Md} {xs:List TV} {ys:List Value} {os:List Nat},VM w H S r ms xs ys os→VM w H S' r' ms xs ys os
 |_,_,_,_,.nil=>.nil
 |_,_,_,_,.cons h hv t=>.cons (h.mono hv m g hw) hv (VM.mono m g hw t)
theorem rdOps_run {P:Program} {C:TC} {β:Type} {ep:Nat}:∀ {l:List (Md×Operand)} {E:TE} {T:TH} {k:List TV→TE→TH→Option β} {ρ:β},rdOps P C ep l E T k=some ρ →
  ∃ xs E' q,xs.length=l.length∧k xs E' (T++q)=some ρ∧∀ {w:Bool} {F:Nat→Prop} {lo tlo:Nat} {H:AH} {r Oh Xe Xv:List Nat} {Ev:Env},(anyG (fun p:Md×Operand=>Zby p.1) l=true→w=true)→Good C F lo tlo H r T Oh (Xe++Xv)→EnvR w H (Sof F r Oh (Xe++Xv)) r ep Ev E Xe →
   ∃ ys r' Xe' os,evxs P Ev (l.map (·.2))=some ys∧Good C F lo tlo H r' (T++q) Oh (Xe'++(os++Xv))∧EnvR w H (Sof F r' Oh (Xe'++(os++Xv))) r' ep Ev E' Xe'∧VM w H (Sof F r' Oh (Xe'++(os++Xv))) r' (l.map (·.1)) xs ys os ∧
    (∀ (b i:Nat),r[b]? = some i→r'[b]? = some i)∧(w=false→r'=r)∧∀ i,act r' Oh (Xe'++(os++Xv)) i≤act r Oh (Xe++Xv) i
 |[],E,T,k,ρ,h=>⟨[],E,[],rfl,by rw [List.append_nil];exact h,fun {w F lo tlo H r Oh Xe Xv Ev} _ hG hE=>⟨[],r,Xe,[],rfl,by rw [List.append_nil];exact hG,hE,.nil,fun _ _ h=>h,fun _=>rfl,fun _=>Nat.le_refl _⟩⟩
 |(m,o)::l,E,T,k,ρ,h=>by
  have h:rdOp P C m ep E T o (fun v E H=>rdOps P C ep l E H fun vs E H=>k (v::vs) E H)=some ρ:=h
  obtain ⟨x,E1,q1,h1,a⟩:=rdOp_run h
  obtain ⟨xs,E2,q2,h3,h2,b⟩:=rdOps_run h1
  refine ⟨x::xs,E2,q1++q2,by simp [h3],by rw [← List.append_assoc];exact h2,fun {w F lo tlo H r Oh Xe Xv Ev} hw hG hE=>?_⟩
  have hw:cond (Zby m) true (anyG (fun p:Md×Operand=>Zby p.1) l)=true→w=true:=hw
  obtain ⟨y,r1,Xe1,ox,a1,a2,a3,a4,a5,a6,a7,a8⟩:=a (w:=w) (fun h=>hw (by rw [h];rfl)) hG hE
  obtain ⟨ys,r2,Xe2,os,b1,b2,b3,b4,b6,b7,b8⟩:=b (w:=w) (fun h=>hw (by rw [h];cases Zby m <;> rfl)) a2 a3
  have e:∀ i,act r2 Oh (Xe2++(os++(ox++Xv))) i=act r2 Oh (Xe2++((ox++os)++Xv)) i:=fun i=>by unfold act;simp only [List.count_append];omega
  have eS:Sof F r2 Oh (Xe2++(os++(ox++Xv)))=Sof F r2 Oh (Xe2++((ox++os)++Xv)):=Sof_congr e
  refine ⟨y::ys,r2,Xe2,ox++os,?_,by rw [← List.append_assoc T];exact b2.less fun i=>by simp only [List.count_append];omega,by rw [← eS];exact b3,?_,fun b i h=>b6 b i (a6 b i h),fun h=>(b7 h).trans (a7 h),fun i=>by rw [← e];exact Nat.le_trans (b8 i) (a8 i)⟩
  ·show Zaf (evx P Ev o) _=_
   rw [a1]
   show Zaf (evxs P Ev (l.map (·.2))) _=_
   rw [b1];rfl
  ·rw [← eS]
   exact .cons (a4.mono a5 (stay_act b8) b6 b7) a5 b4
end Go.Ev
namespace Go.Ev
mutual
inductive Bel (n:Nat):TV→Prop where
 |v (a:Value):Bel n (.v a)
 |row (c:Cp) (q:Lf) (m:Nat) (es:List TV):Bel n (.row c q m es)
 |agg {cs:List TV} (h:BelL n cs):Bel n (.agg cs)
 |tup {cs:List TV} (h:BelL n cs):Bel n (.tup cs)
 |ptr {b off:Nat} (h:b < n):Bel n (.ptr b off)
 |el (q:Lf) (cs:List TV) (off:Nat):Bel n (.el q cs off)
 |vec {b off len cap m:Nat} {ag:Bool} (h:b < n):Bel n (.vec b off len cap m ag)
 |map {b:Nat} (h:b < n):Bel n (.map b)
 |fn {f:Fn} {first cap:List TV} (h:BelL n first) (h':BelL n cap):Bel n (.fn f first cap)
 |iface (t:TypeId) (x:TV):Bel n (.iface t x)
 |gone:Bel n .gone
inductive BelL (n:Nat):List TV→Prop where
 |nil:BelL n []
 |cons {x:TV} {xs:List TV} (h:Bel n x) (t:BelL n xs):BelL n (x::xs)
end
theorem BelL.mem {n:Nat}:∀ {xs:List TV},BelL n xs→∀ x∈xs,Bel n x
 |_,.nil,x,hx=>by cases hx
 |_,.cons h t,x,hx=>by
  rcases List.mem_cons.1 hx with rfl |hx
  ·exact h
  ·exact BelL.mem t x hx
theorem BelL.of {n:Nat}:∀ {xs:List TV},(∀ x∈xs,Bel n x)→BelL n xs
 |[],_=>.nil
 |x::xs,h=>.cons (h x (List.mem_cons_self ..)) (BelL.of fun y hy=>h y (List.mem_cons_of_mem _ hy))
def BelO (n:Nat) (o:TObj):Prop:=match o with |.cells cs=>BelL n cs |_=>True
def Low (n:Nat) (T:TH):Prop:=∀ b o,b < n→T[b]? = some o→BelO n o
theorem looseC_bel {n:Nat} {x:TV} (h:looseC x=true):Bel n x:=by
 cases x with
 |v=>exact .v _
 |row=>exact .row ..
 |iface=>exact .iface ..
 |_=>cases h
theorem looseT_bel {n:Nat} {x:TV} (h:looseT x=true):Bel n x:=by
 cases x with
 |agg cs=>
  have h:Zbu looseC cs=true:=h
  rw [Zds,List.all_eq_true] at h
  exact .agg (BelL.of fun c hc=>looseC_bel (h c hc))
 |v=>exact .v _
 |row=>exact .row ..
 |iface=>exact .iface ..
 |_=>cases h
theorem loose_bel {n:Nat} {x:TV} (h:loose x=true):Bel n x:=by
 cases x with
 |agg cs=>
  have h:Zbu looseC cs=true:=h
  rw [Zds,List.all_eq_true] at h
  exact .agg (BelL.of fun c hc=>looseC_bel (h c hc))
 |tup cs=>
  have h:Zbu looseT cs=true:=h
  rw [Zds,List.all_eq_true] at h
  exact .tup (BelL.of fun c hc=>looseT_bel (h c hc))
 |v=>exact .v _
 |row=>exact .row ..
 |iface=>exact .iface ..
 |_=>cases h
theorem closedC_bel {n:Nat} {x:TV} (h:Zbw x=true):Bel n x:=by
 cases x with
 |v=>exact .v _
 |row=>exact .row ..
 |iface=>exact .iface ..
 |_=>cases h
def LowS (base:Nat) (T T':TH):Prop:=T.length≤T'.length∧∀ n,n≤base→Low n T→Low n T'
theorem LowS.refl (base:Nat) (T:TH):LowS base T T:=⟨Nat.le_refl _,fun _ _ h=>h⟩
theorem LowS.trans {base:Nat} {T T' T'':TH} (h:LowS base T T') (k:LowS base T' T''):LowS base T T'':=⟨Nat.le_trans h.1 k.1,fun n hn hl=>k.2 n hn (h.2 n hn hl)⟩
theorem LowS.append {base:Nat} {T l:TH} (hb:base≤T.length):LowS base T (T++l):=
 ⟨by simp,fun n hn h b o hbn ho=>h b o hbn (by rwa [List.getElem?_append_left (by omega)] at ho)⟩
theorem LowS.less {base base':Nat} {T T':TH} (h:LowS base T T') (hb:base'≤base):LowS base' T T':=⟨h.1,fun n hn=>h.2 n (by omega)⟩
theorem LowS.set {base:Nat} {T:TH} {b:Nat} {o:TObj} (h:∀ n,n≤base→b < n→Low n T→BelO n o):LowS base T (T.set b o):=by
 refine ⟨by simp,fun n hn hl c q hc hq=>?_⟩
 rw [List.getElem?_set] at hq
 split at hq
 ·rename_i e
  subst e
  split at hq
  ·cases hq;exact h n hn hc hl
  ·cases hq
 ·exact hl c q hc hq
def Res (C:TC) (F:Nat→Prop) (lo tlo base:Nat) (ends:Bool) (H:AH) (r:List Nat) (T:TH) (Oh os:List Nat) (v:TV) (T':TH) (v':Value) (H':AH):Prop:=
 ∃ r' Oh' o,Good C F lo tlo H' r' T' Oh' o∧VR H' (Sof F r' Oh' o) r' v v' o∧OV v∧Mv H r Oh os H' r' Oh' o∧(ends=false→∀ i,i < H.next→i ∉ r→i ∉ r'∧H'.get i=H.get i)∧LowS base T T'
section
variable {C:TC} {F:Nat→Prop} {lo tlo base:Nat} {ends:Bool} {H:AH} {r:List Nat} {T:TH} {Oh os:List Nat}
theorem Res.keep {v:TV} {v':Value} {o:List Nat} (hG:Good C F lo tlo H r T Oh os) (hv:VR H (Sof F r Oh os) r v v' o) (hn:OV v) (hc:∀ i,o.count i≤os.count i):Res C F lo tlo base ends H r T Oh os v T v' H:=by
 have ha:∀ i,act r Oh o i≤act r Oh os i:=fun i=>by unfold act;have:=hc i;omega
 exact ⟨r,Oh,o,hG.less hc,stay_same (stay_act ha) hv,hn,⟨Nat.le_refl _,fun _ _ _=>rfl,fun i _=>ha i,fun _ _ h=>h⟩,fun _ i _ hi=>⟨hi,rfl⟩,.refl _ _⟩
theorem Res.flat {a:Value} (hG:Good C F lo tlo H r T Oh os) (hf:flat a=true) (hs:notSl a=true):Res C F lo tlo base ends H r T Oh os (.v a) T a H:=
 .keep hG (.k (.v hf hs)) (.inl (.v a)) fun i=>by simp
theorem Res.bool {b:Bool} (hG:Good C F lo tlo H r T Oh os):Res C F lo tlo base ends H r T Oh os (.v (.bool b)) T (.bool b) H:=.flat hG rfl rfl
theorem Good.act_fresh {X:List Nat} (h:Good C F lo tlo H r T Oh X) {i:Nat} (hi:H.next≤i):act r Oh X i=0:=by
 rcases Nat.eq_zero_or_pos (act r Oh X i) with h1 |h1
 ·exact h1
 ·have:=(h.lt i h1).1;omega
theorem Res.box {o:TObj} {ob:AObj} {w:List Nat} {v:TV} {v':Value} (hG:Good C F lo tlo H r T Oh os) (hb:base≤T.length) (hw:∀ i,w.count i≤os.count i)
  (ho:∀ S r',Stay H (Sof F r Oh os) (H.push ob) S→(∀ (b i:Nat),r[b]? = some i→r'[b]? = some i)→OR (H.push ob) S r' o H.next w)
  (hv:∀ S r',r'[T.length]? = some H.next→VR (H.push ob) S r' v v' []) (hn:OV v):Res C F lo tlo base ends H r T Oh os v (T++[o]) v' (H.push ob):=by
 have hlen:=hG.len
 have get:∀ i,i < H.next→(H.push ob).get i=H.get i:=fun i hi=>by rw [AH.get_push,if_neg (by omega)]
 have pre:∀ (b i:Nat),r[b]? = some i→(r++[H.next])[b]? = some i:=fun b i hb=>by
  rw [List.getElem?_append_left (by
   rcases Nat.lt_or_ge b r.length with h |h
   ·exact h
   ·rw [List.getElem?_eq_none h] at hb;cases hb)];exact hb
 have hlast:(r++[H.next])[T.length]? = some H.next:=by rw [← hlen];simp
 have cnt:∀ i,act (r++[H.next]) (Oh++w) [] i=r.count i+[H.next].count i+Oh.count i+w.count i:=fun i=>by unfold act;simp only [List.count_append,List.count_nil];omega
 have fr:∀ i,i≠H.next→[H.next].count i=0:=fun i hi=>List.count_eq_zero.2 (by simpa using hi)
 have m:Mv H r Oh os (H.push ob) (r++[H.next]) (Oh++w) []:=by
  refine ⟨by simp,fun i hi _=>get i hi,fun i hi=>?_,pre⟩
  have:=hw i
  have:=fr i (by omega)
  have:=cnt i
  unfold act
  unfold act at this
  omega
 have st:=m.stay (F:=F)
 refine ⟨r++[H.next],Oh++w,[],hG.next m (fun i hi=>?_) (fun b i hb2 hi=>?_) (fun i hi=>by cases hi) ?_,hv _ _ hlast,hn,m,fun _ i hi hr=>⟨fun h=>?_,get i hi⟩,.append hb⟩
 ·have h1:=hG.act_fresh hi
  have h2:=hw i
  have h3:=cnt i
  unfold act at h1
  by_cases he:i=H.next
  ·subst he
   have h4:[H.next].count H.next=1:=by simp
   exact ⟨by omega,fun _=>by simp⟩
  ·have h4:=fr i he
   exact ⟨by omega,fun h=>by omega⟩
 ·rcases Nat.lt_or_ge b r.length with h |h
  ·rw [List.getElem?_append_left h] at hi;exact hG.rlo b i hb2 hi
  ·rw [List.getElem?_append_right h] at hi
   cases hbb:b - r.length with
   |zero=>rw [hbb] at hi;simp at hi;have:=hG.lon;omega
   |succ q=>rw [hbb] at hi;simp at hi
 ·refine HL.push (ho _ _ st pre) (fun j hj=>hG.xlo j (Zax.1 ?_)) (hG.heap.mono st pre (fun j hj=>get j (hG.mem_r hj).1) fun j hj=>get j (hG.mem_o hj).1)
  have:=hw j
  have:=Zax.2 hj
  omega
 ·rcases List.mem_append.1 h with h |h
  ·exact hr h
  ·rw [List.mem_singleton] at h;omega
theorem Res.row {ob:AObj} {v:TV} {v':Value} (hG:Good C F lo tlo H r T Oh os)
  (hv:∀ S r',Stay H (Sof F r Oh os) (H.push ob) S→VR (H.push ob) S r' v v' [H.next]) (hn:OV v):Res C F lo tlo base ends H r T Oh os v T v' (H.push ob):=by
 have get:∀ i,i < H.next→(H.push ob).get i=H.get i:=fun i hi=>by rw [AH.get_push,if_neg (by omega)]
 have fr:∀ i,i≠H.next→[H.next].count i=0:=fun i hi=>List.count_eq_zero.2 (by simpa using hi)
 have m:Mv H r Oh os (H.push ob) r Oh [H.next]:=by
  refine ⟨by simp,fun i hi _=>get i hi,fun i hi=>?_,fun _ _ h=>h⟩
  have:=fr i (by omega)
  unfold act
  omega
 have st:=m.stay (F:=F)
 refine ⟨r,Oh,[H.next],hG.next m (fun i hi=>?_) hG.rlo (fun i hi=>by rw [List.mem_singleton] at hi;have:=hG.lon;omega) (hG.heap.mono st (fun _ _ h=>h) (fun j hj=>get j (hG.mem_r hj).1) fun j hj=>get j (hG.mem_o hj).1),hv _ _ st,hn,m,fun _ i hi hr=>⟨hr,get i hi⟩,.refl _ _⟩
 have h1:=hG.act_fresh hi
 unfold act at h1 ⊢
 by_cases he:i=H.next
 ·subst he
  have h4:[H.next].count H.next=1:=by simp
  exact ⟨by omega,fun _=>by simp⟩
 ·have h4:=fr i he
  exact ⟨by omega,fun h=>by omega⟩
theorem Res.write {b i:Nat} {o o':TObj} {ob:AObj} {v:TV} {v':Value} (hG:Good C F lo tlo H r T Oh os) (hb:T[b]? = some o) (hi:r[b]? = some i) (htl:tlo≤b)
  (ho:∀ w,OR H (Sof F r Oh os) r o i w→(∀ j,w.count j≤Oh.count j)→∃ w',(∀ j,w'.count j≤w.count j+os.count j)∧(∀ S,Stay H (Sof F r Oh os) (H.set i ob) S→OR (H.set i ob) S r o' i w'))
  (hlow:∀ n,n≤base→b < n→Low n T→BelO n o') (hv:∀ H' S,VR H' S r v v' []) (hn:OV v):Res C F lo tlo base ends H r T Oh os v (T.set b o') v' (H.set i ob):=by
 obtain ⟨i2,a,w,c,h1,rfl,h3,h4,h5⟩:=hG.heap.at hb
 rw [hi] at h1
 cases h1
 obtain ⟨w',hw,hor⟩:=ho w h3 fun j=>by simp only [List.count_append];omega
 have hir:=hG.mem_r (getr_mem hi)
 have get:∀ j,j≠i→(H.set i ob).get j=H.get j:=fun j hj=>by rw [AH.get_set,if_neg hj]
 have cnt:∀ j,act r (a++(w'++c)) [] j≤act r (a++(w++c)) os j:=fun j=>by unfold act;simp only [List.count_append,List.count_nil];have:=hw j;omega
 have m:Mv H r (a++(w++c)) os (H.set i ob) r (a++(w'++c)) []:=by
  refine ⟨by simp,fun j hj ha=>get j fun e=>?_,fun j hj=>cnt j,fun _ _ h=>h⟩
  subst e
  have:=hir.2.2.1
  unfold act at ha;omega
 have st:=m.stay (F:=F)
 refine ⟨r,a++(w'++c),[],hG.next m (fun j hj=>?_) hG.rlo (fun j hj=>by cases hj) ?_,hv _ _,hn,m,fun _ j hj hr=>⟨hr,get j fun e=>hr (e ▸ getr_mem hi)⟩,.set hlow⟩
 ·have h6:=hG.act_fresh hj
  have h7:=cnt j
  exact ⟨by omega,fun h=>by omega⟩
 ·refine h5 _ _ _ _ _ st (fun _ _ h=>h) (fun n j hn hj=>get j fun e=>hn (hG.inj hj (e ▸ hi))) (fun j hj=>get j fun e=>?_) (fun j hj=>get j fun e=>?_) (hor _ st) fun hb2 j hj=>?_
  ·have:=hir.2.2.2.1
   simp only [List.count_append] at this
   have:=Zax.2 hj
   subst e;omega
  ·have:=hir.2.2.2.1
   simp only [List.count_append] at this
   have:=Zax.2 hj
   subst e;omega
  ·rcases Nat.eq_zero_or_pos (w.count j) with h |h
   ·exact hG.xlo j (Zax.1 (by have:=hw j;have:=Zax.2 hj;omega))
   ·exact h4 hb2 j (Zax.1 h)
end
section
variable {H:AH} {S:Nat→Prop} {r:List Nat}
theorem v_inv {a:Value} {y:Value} {o:List Nat} (h:VR H S r (.v a) y o):y=a∧flat a=true∧notSl a=true∧o=[]:=by
 cases h with
 |k h=>cases h with
  |v h1 h2=>exact ⟨rfl,h1,h2,rfl⟩
theorem wv_v (w:Bool) (a:Value):wv w (.v a)=.v a:=by cases w <;> rfl
theorem ptr_inv {b off:Nat} {y:Value} {o:List Nat} (h:VR H S r (.ptr b off) y o):∃ i,r[b]? = some i∧y=.pointer (some ⟨i,off,none⟩)∧o=[]:=by
 cases h with
 |k h=>cases h
 |ptr h=>exact ⟨_,h,rfl,rfl⟩
theorem vec_inv {b off len cap n:Nat} {ag:Bool} {y:Value} {o:List Nat} (h:VR H S r (.vec b off len cap n ag) y o):∃ i,r[b]? = some i∧y=.slice (some ⟨i,off,none⟩) len cap∧o=[]:=by
 cases h with
 |k h=>cases h
 |vec h=>exact ⟨_,h,rfl,rfl⟩
theorem map_inv {b:Nat} {y:Value} {o:List Nat} (h:VR H S r (.map b) y o):∃ i,r[b]? = some i∧y=.map (some i)∧o=[]:=by
 cases h with
 |k h=>cases h
 |map h=>exact ⟨_,h,rfl,rfl⟩
theorem iface_inv {t:TypeId} {x:TV} {y:Value} {o:List Nat} (h:VR H S r (.iface t x) y o):∃ z,y=.iface t z∧KR H S x z∧o=[]:=by
 cases h with
 |k h=>cases h with
  |iface h=>exact ⟨_,rfl,h,rfl⟩
def RowV (H:AH) (S:Nat→Prop) (c:Cp) (n:Nat) (es:List TV) (y:Value):Prop:=
 ∃ i off cap s cs e,y=.slice (some ⟨i,off,none⟩) es.length cap∧capOk c cap es.length n∧i < H.next∧H.get i=some (.cells s cs e)∧cs.length=s∧off+es.length * n≤s∧Each n es∧KRL H S (Zbl es) ((cs.drop off).take (es.length * n))
theorem row_inv {c:Cp} {q:Lf} {n:Nat} {es:List TV} {y:Value} {o:List Nat} (h:VR H S r (.row c q n es) y o) :
  (c=.nil∧q=.set∧n=0∧es=[]∧y=.slice none 0 0∧o=[])∨(c≠.nil∧RowV H S c n es y):=by
 have hc:∀ {c:Cp} {cap len n:Nat},capOk c cap len n→c≠.nil:=fun h e=>by subst e;exact h
 cases h with
 |k h=>cases h with
  |nil=>exact .inl ⟨rfl,rfl,rfl,rfl,rfl,rfl⟩
  |row h1 h2 h3 h4 h5 h6 h7 h8=>exact .inr ⟨hc h1,⟨_,_,_,_,_,_,rfl,h1,h3,h4,h5,h6,h7,h8⟩⟩
 |bor h1 h2 h3 h4 h5 h6 h7 h8=>exact .inr ⟨hc h1,⟨_,_,_,_,_,_,rfl,h1,h3,h4,h5,h6,h7,h8⟩⟩
 |own h1 h2 h3 h4 h5 h6=>
  have h7:=h6.length
  rw [flatL_length h5] at h7
  exact .inr ⟨h1,⟨_,0,_,_,_,_,rfl,capOk_thaw h1 h2,h3,h4,h7.symm,by omega,h5,by rw [List.drop_zero,List.take_of_length_le (by omega)];exact h6⟩⟩
end
end Go.Ev
namespace Go.Ev
section
variable {H:AH} {S:Nat→Prop} {r:List Nat}
def scal (a:Value):Bool:=match a with |.int _ _=>true |.bool _=>true |_=>false
theorem scal_flat {a:Value} (h:scal a=true):flat a=true∧notSl a=true:=by cases a <;> first |exact ⟨rfl,rfl⟩ |cases h
theorem b1_inv {f:Value→Option Value} {x v:TV} (h:b1 f x=some v):∃ a u,x=.v a∧f a=some u∧v=.v u:=by
 unfold b1 at h
 split at h
 ·obtain ⟨u,h1,h2⟩:=Zac h
  cases h2;exact ⟨_,_,rfl,h1,rfl⟩
 ·cases h
theorem b2_inv {f:Value→Value→Option Value} {x y v:TV} (h:b2 f x y=some v):∃ a b u,x=.v a∧y=.v b∧f a b=some u∧v=.v u:=by
 unfold b2 at h
 split at h
 ·split at h
  ·obtain ⟨u,h1,h2⟩:=Zac h
   cases h2;exact ⟨_,_,_,rfl,rfl,h1,rfl⟩
  ·cases h
 ·cases h
theorem flatsV_eq:∀ {cs:List TV} {l:List Value} {ys:List Value} {o:List Nat},flatsV cs=some l→VRL H S r cs ys o→ys=l
 |[],l,ys,o,h,hr=>by cases h;cases hr;rfl
 |x::cs,l,ys,o,h,hr=>by
  unfold flatsV at h
  split at h
  ·obtain ⟨l2,h1,h2⟩:=Zac h
   cases h2
   cases hr with
   |cons a t=>
    obtain ⟨rfl,_⟩:=v_inv a
    rw [flatsV_eq h1 t]
  ·cases h
theorem toV_eq {x:TV} {a y:Value} {o:List Nat} (h:toV x=some a) (hr:VR H S r x y o):y=a:=by
 unfold toV at h
 split at h
 ·cases h;exact (v_inv hr).1
 ·obtain ⟨l,h1,h2⟩:=Zac h
  cases h2
  obtain ⟨ds,rfl,h3⟩:=agg_inv hr
  have:=flatsV_eq h1 h3
  rw [← this]
 ·cases h
theorem eqT_eq {q:EqKind} {x y:TV} {b:Bool} {x' y':Value} {o o':List Nat} (h:eqT q x y=some b) (hx:VR H S r x x' o) (hy:VR H S r y y' o'):evEqB q x' y'=some b:=by
 have nil:∀ {x:TV} {b:Bool} {x':Value} {o:List Nat},nilRow x=some b→VR H S r x x' o→∃ a len cap,x'=.slice a len cap∧a.isNone=b:=by
  intro x b x' o h hr
  unfold nilRow at h
  split at h
  ·rename_i c q n es
   cases h
   rcases row_inv hr with ⟨rfl,_,_,_,rfl,_⟩ |⟨hc,i,off,cap,_,_,_,rfl,_⟩
   ·exact ⟨_,_,_,rfl,rfl⟩
   ·refine ⟨_,_,_,rfl,?_⟩
    cases c with
    |nil=>exact absurd rfl hc
    |_=>rfl
  ·cases h
   obtain ⟨i,_,rfl,_⟩:=vec_inv hr
   exact ⟨_,_,_,rfl,rfl⟩
  ·cases h
 cases q with
 |slice=>
  obtain ⟨a,h1,hA⟩:=Zac (show Zaf (nilRow x) (fun a=>Zaf (nilRow y) fun b=>cond a (some b) (cond b (some false) none))=some b from h)
  obtain ⟨c,h2,hB⟩:=Zac hA
  obtain ⟨a1,l1,c1,rfl,e1⟩:=nil h1 hx
  obtain ⟨a2,l2,c2,rfl,e2⟩:=nil h2 hy
  cases a1 with
  |none=>
   have:a=true:=e1.symm
   subst this
   cases hB
   show some a2.isNone=_
   rw [e2]
  |some=>
   have:a=false:=e1.symm
   subst this
   cases c with
   |false=>cases hB
   |true=>
    cases hB
    cases a2 with
    |none=>rfl
    |some=>cases e2
 |_=>
  obtain ⟨a,h1,hA⟩:=Zac (show Zaf (toV x) (fun a=>Zaf (toV y) fun b=>evEqB _ a b)=some b from h)
  obtain ⟨c,h2,hB⟩:=Zac hA
  rw [toV_eq h1 hx,toV_eq h2 hy];exact hB
theorem ints2_scal {x y u:Value} {f:IntKind→Int→Int→Option Value} (hf:∀ k a b u,f k a b=some u→scal u=true) (h:ints2 x y f=some u):scal u=true:=by
 obtain ⟨k,a,b,_,_,h1⟩:=ints2_eq h
 exact hf _ _ _ _ h1
theorem binT_run {P:Program} {op:BinOp} {t:TypeId} {β:Type} {x y:TV} {k:TV→Option β} {ρ:β} (h:binT P op t x y k=some ρ) :
  ∃ u,k (.v u)=some ρ∧scal u=true∧∀ {H:AH} {S:Nat→Prop} {r:List Nat} {x' y':Value} {o o':List Nat},VR H S r x x' o→VR H S r y y' o'→∀ {γ:Type} (k':Value→Option γ),evBin P op t x' y' k'=k' u:=by
 have num:∀ {f:Value→Value→Option Value} (hs:∀ a b u,f a b=some u→scal u=true),Zaa (b2 f x y) k=some ρ →
   ∃ u,k (.v u)=some ρ∧scal u=true∧∀ {H:AH} {S:Nat→Prop} {r:List Nat} {x' y':Value} {o o':List Nat},VR H S r x x' o→VR H S r y y' o'→∀ {γ:Type} (k':Value→Option γ),Zaa (f x' y') k'=k' u:=by
  intro f hs h
  obtain ⟨v,h1,h2⟩:=Zau h
  obtain ⟨a,b,u,rfl,rfl,h3,rfl⟩:=b2_inv h1
  refine ⟨u,h2,hs _ _ _ h3,fun hx hy γ k'=>?_⟩
  obtain ⟨rfl,_⟩:=v_inv hx
  obtain ⟨rfl,_⟩:=v_inv hy
  rw [h3];rfl
 have s1:∀ {f:IntKind→Int→Int→Value} (hf:∀ k a b,scal (f k a b)=true) (a b u:Value),ints2 a b (fun k a b=>some (f k a b))=some u→scal u=true:=fun hf a b u h=>
  ints2_scal (fun k a b u h=>by cases h;exact hf _ _ _) h
 have s2:∀ {c:Int→Bool} {f:IntKind→Int→Int→Value} (hf:∀ k a b,scal (f k a b)=true) (a b u:Value),ints2 a b (fun k a b=>cond (c b) none (some (f k a b)))=some u→scal u=true:=fun {c f} hf a b u h=>
  ints2_scal (fun k a b u h=>by
   cases hc:c b with
   |true=>rw [hc] at h;cases h
   |false=>rw [hc] at h;cases h;exact hf _ _ _) h
 unfold binT at h
 cases op with
 |add=>exact num (s1 fun _ _ _=>rfl) h
 |sub=>exact num (s1 fun _ _ _=>rfl) h
 |mul=>exact num (s1 fun _ _ _=>rfl) h
 |quo=>exact num (s2 fun _ _ _=>rfl) h
 |rem=>exact num (s2 fun _ _ _=>rfl) h
 |and=>exact num (s1 fun _ _ _=>rfl) h
 |or=>exact num (s1 fun _ _ _=>rfl) h
 |xor=>exact num (s1 fun _ _ _=>rfl) h
 |andNot=>exact num (s1 fun _ _ _=>rfl) h
 |lss=>exact num (s1 (f:=fun _ a b=>.bool (intLt a b)) fun _ _ _=>rfl) h
 |leq=>exact num (s1 (f:=fun _ a b=>.bool (!intLt b a)) fun _ _ _=>rfl) h
 |gtr=>exact num (s1 (f:=fun _ a b=>.bool (intLt b a)) fun _ _ _=>rfl) h
 |geq=>exact num (s1 (f:=fun _ a b=>.bool (!intLt a b)) fun _ _ _=>rfl) h
 |shl=>
  refine num (fun a b u h=>?_) h
  unfold evShl at h
  split at h
  ·split at h
   ·obtain ⟨n,_,h2⟩:=Zac h
    cases h2;rfl
   ·cases h
  ·cases h
 |shr=>
  refine num (fun a b u h=>?_) h
  unfold evShr at h
  split at h
  ·split at h
   ·obtain ⟨n,_,h2⟩:=Zac h
    cases h2;rfl
   ·cases h
  ·cases h
 |eql=>
  obtain ⟨q,hq,hA⟩:=Zac h
  obtain ⟨v,h1,h2⟩:=Zau hA
  obtain ⟨b,h3,h4⟩:=Zac (show Zaf (eqT q x y) (fun r=>some (TV.v (.bool r)))=some v from h1)
  cases h4
  refine ⟨_,h2,rfl,fun hx hy γ k'=>?_⟩
  show Zaf (eqKind P t) (fun q=>Zaa (evEql q _ _) k')=_
  rw [hq]
  show Zaa (Zaf (evEqB q _ _) _) k'=_
  rw [eqT_eq h3 hx hy];rfl
 |neq=>
  obtain ⟨q,hq,hA⟩:=Zac h
  obtain ⟨v,h1,h2⟩:=Zau hA
  obtain ⟨b,h3,h4⟩:=Zac (show Zaf (eqT q x y) (fun r=>some (TV.v (.bool (!r))))=some v from h1)
  cases h4
  refine ⟨_,h2,rfl,fun hx hy γ k'=>?_⟩
  show Zaf (eqKind P t) (fun q=>Zaa (evNeq q _ _) k')=_
  rw [hq]
  show Zaa (Zaf (evEqB q _ _) _) k'=_
  rw [eqT_eq h3 hx hy];rfl
theorem unT_run {op:UnOp} {β:Type} {x:TV} {k:TV→Option β} {ρ:β} (h:unT op x k=some ρ) :
  ∃ u,k (.v u)=some ρ∧scal u=true∧∀ {H:AH} {S:Nat→Prop} {r:List Nat} {x':Value} {o:List Nat},VR H S r x x' o→∀ {γ:Type} (k':Value→Option γ),evUn op x' k'=k' u:=by
 have one:∀ {f:Value→Option Value} (hs:∀ a u,f a=some u→scal u=true),Zaa (b1 f x) k=some ρ →
   ∃ u,k (.v u)=some ρ∧scal u=true∧∀ {H:AH} {S:Nat→Prop} {r:List Nat} {x':Value} {o:List Nat},VR H S r x x' o→∀ {γ:Type} (k':Value→Option γ),Zaa (f x') k'=k' u:=by
  intro f hs h
  obtain ⟨v,h1,h2⟩:=Zau h
  obtain ⟨a,u,rfl,h3,rfl⟩:=b1_inv h1
  refine ⟨u,h2,hs _ _ h3,fun hx γ k'=>?_⟩
  obtain ⟨rfl,_⟩:=v_inv hx
  rw [h3];rfl
 unfold unT at h
 cases op with
 |neg=>exact one (fun a u h=>by unfold evNeg at h;split at h <;> cases h;rfl) h
 |xor=>exact one (fun a u h=>by unfold evInv at h;split at h <;> cases h;rfl) h
 |not=>exact one (fun a u h=>by unfold evNot at h;split at h <;> cases h;rfl) h
 |plus=>cases h
theorem asNatT_inv {x:TV} {n:Nat} (h:asNatT x=some n):∃ a,x=.v a∧asNat a=some n:=by
 unfold asNatT at h
 split at h
 ·exact ⟨_,rfl,h⟩
 ·cases h
theorem VRL.stay {S':Nat→Prop} (m:Stay H S H S') {xs:List TV} {ys:List Value} {o:List Nat} (h:VRL H S r xs ys o):VRL H S' r xs ys o:=h.mono m (fun _ _ h=>h) (fun _ _ h=>⟨h,rfl⟩) fun _ _=>rfl
theorem VRL.getS:∀ {xs:List TV} {ys:List Value} {o:List Nat},VRL H S r xs ys o→∀ {i:Nat} {x:TV},xs[i]? = some x →
  ∃ y a ox c,ys[i]? = some y∧o=a++(ox++c)∧VR H S r x y ox∧∀ S',Stay H S H S'→∀ x' y' o',VR H S' r x' y' o'→VRL H S' r (xs.set i x') (ys.set i y') (a++(o'++c))
 |_,_,_,.nil,i,x,h=>by simp at h
 |_,_,_,.cons (o:=o) (os:=os) h t,i,x,hi=>by
  cases i with
  |zero=>
   simp at hi;subst hi
   exact ⟨_,[],o,os,rfl,rfl,h,fun S' m x' y' o' h'=>(VRL.cons h' (t.stay m):VRL H S' r _ _ (o'++os))⟩
  |succ i=>
   simp at hi
   obtain ⟨y,a,ox,c,h1,rfl,h3,h4⟩:=VRL.getS t hi
   exact ⟨y,o++a,ox,c,by simpa using h1,by rw [List.append_assoc],h3,fun S' m x' y' o' h'=>by rw [List.append_assoc];exact .cons (stay_same m h) (h4 S' m _ _ _ h')⟩
theorem VRL.segS {xs:List TV} {ys:List Value} {o:List Nat} (h:VRL H S r xs ys o) (off n:Nat) (hb:off+n≤xs.length) :
  ∃ a ox c,o=a++(ox++c)∧VRL H S r ((xs.drop off).take n) ((ys.drop off).take n) ox ∧
   ∀ S',Stay H S H S'→∀ vs ws o',VRL H S' r vs ws o'→VRL H S' r (xs.take off++(vs++xs.drop (off+n))) (ys.take off++(ws++ys.drop (off+n))) (a++(o'++c)):=by
 have e:xs=xs.take off++((xs.drop off).take n++xs.drop (off+n)):=by
  rw [← List.drop_drop,List.take_append_drop,List.take_append_drop]
 have h':=h
 rw [e] at h'
 obtain ⟨y1,y2,o1,o2,rfl,rfl,h1,h2⟩:=VRL.split h'
 obtain ⟨y3,y4,o3,o4,rfl,rfl,h3,h4⟩:=VRL.split h2
 have l1:y1.length=off:=by rw [← h1.length,List.length_take];omega
 have l3:y3.length=n:=by rw [← h3.length,List.length_take,List.length_drop];omega
 refine ⟨o1,o3,o4,rfl,?_,fun S' m vs ws o' hv=>?_⟩
 ·rw [List.drop_left' l1,List.take_left' l3];exact h3
 ·have e1:(y1++(y3++y4)).take off=y1:=List.take_left' l1
  have e2:(y1++(y3++y4)).drop (off+n)=y4:=by rw [← List.drop_drop,List.drop_left' l1,List.drop_left' l3]
  rw [e1,e2]
  exact (h1.stay m).append (hv.append (h4.stay m))
theorem cellsT_rel {x:TV} {y:Value} {o:List Nat} (h:VR H S r x y o) (hs:stor x=true):VRL H S r (Zav x) (cellsOf y) o∧(cellsOf y).all single=true∧(∀ c∈Zav x,Zcp c∧storC c=true):=by
 have one:∀ {x:TV} {y:Value} {o:List Nat},VR H S r x y o→storC x=true→single y=true∧cellsOf y=[y]∧Zav x=[x]∧Zcp x:=by
  intro x y o h hs
  cases x with
  |v a=>
   obtain ⟨rfl,h1,_⟩:=v_inv h
   cases y <;> first |exact ⟨rfl,rfl,rfl,trivial⟩ |cases h1
  |row c q n es=>
   rcases row_inv h with ⟨_,_,_,_,rfl,_⟩ |⟨_,_,_,_,_,_,_,rfl,_⟩ <;> exact ⟨rfl,rfl,rfl,trivial⟩
  |ptr b off=>obtain ⟨_,_,rfl,_⟩:=ptr_inv h;exact ⟨rfl,rfl,rfl,trivial⟩
  |vec b off len cap n ag=>obtain ⟨_,_,rfl,_⟩:=vec_inv h;exact ⟨rfl,rfl,rfl,trivial⟩
  |map b=>obtain ⟨_,_,rfl,_⟩:=map_inv h;exact ⟨rfl,rfl,rfl,trivial⟩
  |fn f a b=>
   cases h with
   |k h=>cases h;exact ⟨rfl,rfl,rfl,trivial⟩
   |fn=>exact ⟨rfl,rfl,rfl,trivial⟩
  |iface t x=>obtain ⟨_,rfl,_⟩:=iface_inv h;exact ⟨rfl,rfl,rfl,trivial⟩
  |agg=>cases hs
  |tup=>cases hs
  |el=>cases hs
  |gone=>cases hs
 cases x with
 |agg cs=>
  obtain ⟨ds,rfl,h1⟩:=agg_inv h
  have hs:Zbu storC cs=true:=hs
  rw [Zds,List.all_eq_true] at hs
  refine ⟨h1,?_,fun c hc=>⟨?_,hs c hc⟩⟩
  ·show ds.toList.all single=true
   have:∀ {cs:List TV} {ys:List Value} {o:List Nat},VRL H S r cs ys o→(∀ c∈cs,storC c=true)→ys.all single=true:=by
    intro cs ys o h
    induction cs generalizing ys o with
    |nil=>intro _;cases h;rfl
    |cons c cs ih=>
     intro hp
     cases h with
     |cons h t=>
      rw [List.all_cons,(one h (hp _ (List.mem_cons_self ..))).1,ih t fun d hd=>hp d (List.mem_cons_of_mem _ hd)];rfl
   exact this h1 hs
  ·have:=hs c hc
   cases c <;> first |trivial |cases this
 |tup=>cases hs
 |_=>
  have h1:=one h hs
  refine ⟨?_,?_,fun c hc=>?_⟩
  ·rw [h1.2.1,h1.2.2.1]
   have:=VRL.cons h (VRL.nil (H:=H) (S:=S) (r:=r))
   rwa [List.append_nil] at this
  ·rw [h1.2.1,List.all_cons,h1.1];rfl
  ·rw [h1.2.2.1,List.mem_singleton] at hc
   subst hc
   exact ⟨h1.2.2.2,hs⟩
theorem stor_nb {x:TV} (h:stor x=true) (hv:OV x):NBL (Zav x):=by
 have hn:NB x:=by
  rcases hv with h1 |h1
  ·exact h1
  ·unfold lent at h1
   split at h1
   ·cases h
   ·cases h
   ·exact h1.elim
 cases x with
 |agg cs=>
  cases hn with
  |agg a _=>exact a
 |_=>exact .cons hn .nil
end
section
variable {C:TC} {F:Nat→Prop} {lo tlo base:Nat} {ends:Bool} {H:AH} {r:List Nat} {T:TH} {Oh os:List Nat}
theorem withBox_inv {β:Type} {b:Nat} {k:List TV→Option β} {ρ:β} (h:Zco T b k=some ρ):∃ cs,T[b]? = some (.cells cs)∧k cs=some ρ:=by
 obtain ⟨o,h1,h2⟩:=Zac h
 rw [Zcb] at h1
 cases o with
 |cells cs=>exact ⟨cs,h1,h2⟩
 |_=>cases h2
theorem setBox_eq {b:Nat} {o o':TObj} (h:T[b]? = some o):setBox T b o'=T.set b o':=overG_one _ _ _ (by
 rcases Nat.lt_or_ge b T.length with h1 |h1
 ·exact h1
 ·rw [List.getElem?_eq_none h1] at h;cases h)
theorem Good.cellsAt (hG:Good C F lo tlo H r T Oh os) {b:Nat} {cs:List TV} (hb:T[b]? = some (.cells cs)) :
  ∃ i s ds e a w c,r[b]? = some i∧Oh=a++(w++c)∧H.get i=some (.cells s ds e)∧ds.length=s∧NBL cs∧(∀ c∈cs,Zcp c)∧VRL H (Sof F r Oh os) r cs ds w∧cs.length=s:=by
 obtain ⟨i,a,w,c,h1,h2,h3,_,_⟩:=hG.heap.at hb
 cases h3 with
 |cells hg hs nb hc h=>exact ⟨i,_,_,_,a,w,c,h1,h2,hg,hs,nb,hc,h,by rw [h.length,hs]⟩
theorem Res.told {b:Nat} {cs cs':List TV} {v:TV} {v':Value} (hG:Good C F lo tlo H r T Oh os) (hb:T[b]? = some (.cells cs))
  (h:∀ s ds e w,H.get (r.getD b 0)=some (.cells s ds e)→ds.length=s→VRL H (Sof F r Oh os) r cs ds w→NBL cs→(∀ c∈cs,Zcp c)→(∀ j,w.count j≤1) →
   ∃ w' wv,(∀ j,w'.count j+wv.count j≤w.count j)∧(wv≠[]→tlo≤b)∧NBL cs'∧(∀ c∈cs',Zcp c) ∧
    ∀ S',Stay H (Sof F r Oh os) H S'→(∀ j,w'.count j+wv.count j < w.count j→S' j)→VRL H S' r cs' ds w'∧VR H S' r v v' wv)
  (hlow:∀ n,n≤base→b < n→BelL n cs→BelL n cs') (hn:OV v):Res C F lo tlo base ends H r T Oh os v (T.set b (.cells cs')) v' H:=by
 obtain ⟨i,a,w,c,h1,rfl,h3,h4,h5⟩:=hG.heap.at hb
 have hri:r.getD b 0=i:=by rw [List.getD_eq_getElem?_getD,h1];rfl
 cases h3 with
 |cells hg hs nb hc hw=>
  obtain ⟨w',wv,k1,k2,k3,k4,k5⟩:=h _ _ _ w (by rw [hri];exact hg) hs hw nb hc fun j=>by have:=hG.nd j;unfold act at this;simp only [List.count_append] at this;omega
  have cnt:∀ j,act r (a++(w'++c)) wv j≤act r (a++(w++c)) os j:=fun j=>by unfold act;simp only [List.count_append];have:=k1 j;omega
  have st:=stay_act (F:=F) (H:=H) cnt
  have hS:∀ j,w'.count j+wv.count j < w.count j→Sof F r (a++(w'++c)) wv j:=fun j hj=>by
   have h6:=hG.nd j
   have h7:=(hG.lt j (by unfold act;simp only [List.count_append];omega)).2
   unfold act at h6
   simp only [List.count_append] at h6
   refine ⟨h7,?_⟩
   unfold act
   simp only [List.count_append]
   omega
  obtain ⟨k6,k7⟩:=k5 _ st hS
  refine ⟨r,a++(w'++c),wv,hG.retell cnt (fun _ _ h=>h) hG.rlo (fun j hj=>?_) ?_,k7,hn,⟨Nat.le_refl _,fun _ _ _=>rfl,fun j _=>cnt j,fun _ _ h=>h⟩,fun _ j _ hj=>⟨hj,rfl⟩,.set fun n hn hbn hl=>?_⟩
  ·have h8:wv≠[]:=by intro e;rw [e] at hj;cases hj
   exact h4 (by have:=k2 h8;omega) j (Zax.1 (by have:=k1 j;have:=Zax.2 hj;omega))
  ·refine h5 _ _ _ _ _ st (fun _ _ h=>h) (fun _ _ _ _=>rfl) (fun _ _=>rfl) (fun _ _=>rfl) (.cells hg hs k3 k4 k6) fun hb2 j hj=>h4 hb2 j (Zax.1 (by have:=k1 j;have:=Zax.2 hj;omega))
  ·exact hlow n hn hbn (hl b _ hbn hb)
end
end Go.Ev
namespace Go.Ev
section
variable {C:TC} {F:Nat→Prop} {lo tlo base:Nat} {ends:Bool} {H:AH} {r:List Nat} {T:TH} {Oh os:List Nat}
theorem owns_none {S:Nat→Prop}:∀ {xs:List TV} {ys:List Value} {o:List Nat},VRL H S r xs ys o→(∀ x∈xs,Zcp x)→xs.any isOwn=false→o=[]
 |_,_,_,.nil,_,_=>rfl
 |x::xs,_,_,.cons h t,hc,ha=>by
  rw [List.any_cons,Bool.or_eq_false_iff] at ha
  rw [owns_nil h ha.1 (hc x (List.mem_cons_self ..)),owns_none t (fun y hy=>hc y (List.mem_cons_of_mem _ hy)) ha.2];rfl
theorem evLoad_at {i s off n:Nat} {ds:List Value} {e:TypeId} {ag:Bool} {y:Value} (hg:H.get i=some (.cells s ds e)) (hy:cellAt ag n s ds off=some y):evLoad H ag n (.pointer (some ⟨i,off,none⟩))=some y:=by
 show (match H.get i with |some (.cells s cs e)=>cellAt ag n s cs off |_=>none)=_
 rw [hg];exact hy
theorem lend_rel {S:Nat→Prop} {x:TV} {y:Value} {o:List Nat} (h:VR H S r x y o) (hc:Zcp x) (hn:NB x) (hr:∀ i∈o,i ∉ r):VR H S r (lendC x) y []∧OV (lendC x):=by
 cases ho:isOwn x with
 |true=>
  obtain ⟨c,e,n,es,rfl⟩:=own_shape ho
  exact ⟨own_bor h hr,.inr trivial⟩
 |false=>
  have:=owns_nil h ho hc
  subst this
  have e:lendC x=x:=by
   cases x with
   |row c q n es=>cases q <;> first |rfl |cases ho
   |_=>rfl
  rw [e];exact ⟨h,.inl hn⟩
theorem BelL.set {n:Nat} {cs:List TV} {i:Nat} {x:TV} (h:BelL n cs) (hx:Bel n x):BelL n (cs.set i x):=BelL.of fun c hc=>by
 rcases List.mem_or_eq_of_mem_set hc with hc |rfl
 ·exact h.mem c hc
 ·exact hx
theorem NBL.set {cs:List TV} {i:Nat} {x:TV} (h:NBL cs) (hx:NB x):NBL (cs.set i x):=NBL.of fun c hc=>by
 rcases List.mem_or_eq_of_mem_set hc with hc |rfl
 ·exact h.mem c hc
 ·exact hx
theorem cell_set {cs:List TV} {i:Nat} {x:TV} (h:∀ c∈cs,Zcp c) (hx:Zcp x):∀ c∈cs.set i x,Zcp c:=fun c hc=>by
 rcases List.mem_or_eq_of_mem_set hc with hc |rfl
 ·exact h c hc
 ·exact hx
theorem set_same {l:List Value} {i:Nat} {y:Value} (h:l[i]? = some y):l.set i y=l:=by
 apply List.ext_getElem?
 intro q
 rw [List.getElem?_set]
 split
 ·rename_i hq
  subst hq
  rw [h]
  split
  ·rfl
  ·rename_i hq2
   rw [List.getElem?_eq_none (by omega)] at h;cases h
 ·rfl
theorem lt_of_get {α:Type} {l:List α} {i:Nat} {x:α} (h:l[i]? = some x):i < l.length:=by
 rcases Nat.lt_or_ge i l.length with h1 |h1
 ·exact h1
 ·rw [List.getElem?_eq_none h1] at h;cases h
theorem Res.thawed {b off:Nat} {cs es:List TV} {c:Cp} {e:TypeId} {n:Nat} {ag:Bool} (hG:Good C F lo tlo H r T Oh os) (hb:T[b]? = some (.cells cs)) (hx:cs[off]? = some (.row c (.own e) n es)) (htl:tlo≤b) (hbb:base≤b) (hbase:base≤T.length) (he:ends=true)
  {i s:Nat} {ds:List Value} {ed:TypeId} {y:Value} (hr:r[b]? = some i) (hg:H.get i=some (.cells s ds ed)) (hy:ds[off]? = some y) :
  Res C F lo tlo base ends H r T Oh os (.vec T.length 0 es.length (thawCap c es.length n) n ag) ((T++[TObj.cells (Zbl es)]).set b (.cells (cs.set off (.vec T.length 0 es.length (thawCap c es.length n) n ag)))) y H:=by
 subst he
 obtain ⟨i',a,w,c2,h1,rfl,h3,h4,h5⟩:=hG.heap.at hb
 rw [hr] at h1;cases h1
 have hlen:=hG.len
 have hbl:=lt_of_get hb
 cases h3 with
 |cells hg' hs nb hc hw=>
  rw [hg] at hg';cases hg'
  obtain ⟨y',u,ox,z,h6,rfl,h8,h9⟩:=hw.get hx
  rw [hy] at h6;cases h6
  cases h8 with
  |k h=>cases h
  | @own _ _ _ i0 cs0 _ hc0 hu hl hg0 hee hk=>
   have cnt:∀ j,act (r++[i0]) (a++(u++([]++z)++c2)++[]) [] j≤act r (a++(u++([i0]++z)++c2)) os j:=fun j=>by unfold act;simp only [List.count_append,List.count_nil];omega
   have st:=stay_act (F:=F) (H:=H) cnt
   have pre:∀ (b j:Nat),r[b]? = some j→(r++[i0])[b]? = some j:=fun b j hb=>by rw [List.getElem?_append_left (lt_of_get hb)];exact hb
   have hlast:(r++[i0])[T.length]? = some i0:=by rw [← hlen];simp
   have hkl:=hk.length
   rw [flatL_length hee] at hkl
   have hv:∀ S,VR H S (r++[i0]) (.vec T.length 0 es.length (thawCap c es.length n) n ag) (.slice (some ⟨i0,0,none⟩) es.length (thawCap c es.length n)) []:=fun S=>.vec hlast
   have hlo:lo≤i0:=h4 (by omega) i0 (by simp)
   have others:VRL H (Sof F (r++[i0]) (a++(u++([]++z)++c2)++[]) []) (r++[i0]) (cs.set off (.vec T.length 0 es.length (thawCap c es.length n) n ag)) ds (u++([]++z)):=by
    have h10:=h9 Zao (.slice (some ⟨i0,0,none⟩) es.length (thawCap c es.length n)) [] .und
    rw [set_same hy] at h10
    have nbu:NBL (cs.set off Zao):=nb.set (.tup .nil fun c hc=>by cases hc)
    have h11:=h10.monoN st pre nbu fun _ _=>rfl
    obtain ⟨y2,u2,o2,z2,k1,k2,k3,k4⟩:=h11.get (i:=off) (x:=Zao) (by rw [List.getElem?_set];simp [lt_of_get hx])
    have:=k4 _ (.slice (some ⟨i0,0,none⟩) es.length (thawCap c es.length n)) [] (hv _)
    rw [set_same hy,List.set_set] at this
    have hcount:∀ j,(u2++([]++z2)).count j≤(u++([]++z)).count j:=fun j=>by rw [k2];simp only [List.count_append,List.count_nil];omega
    have e2:o2=[]:=by
     cases k3 with
     |und=>rfl
     |k h=>cases h
     |tup h=>exact vrl_nil h
    rw [e2] at k2
    rw [← k2] at this;exact this
   refine ⟨r++[i0],a++(u++([]++z)++c2)++[],[],hG.retell cnt pre (fun q j hq hj=>?_) (fun j hj=>by cases hj) ?_,hv _,.inl (.vec _ _ _ _ _ _),⟨Nat.le_refl _,fun _ _ _=>rfl,fun j _=>cnt j,pre⟩,(fun h=>by cases h),?_⟩
   ·rcases Nat.lt_or_ge q r.length with h |h
    ·rw [List.getElem?_append_left h] at hj;exact hG.rlo q j hq hj
    ·rw [List.getElem?_append_right h] at hj
     cases hbb2:q - r.length with
     |zero=>rw [hbb2] at hj;simp at hj;omega
     |succ q=>rw [hbb2] at hj;simp at hj
   ·rw [List.set_append_left _ _ hbl]
    refine HL.push (.cells hg0 hkl.symm (NBL.of fun c hc=>(Zcq (hee.closed c hc)).1) (fun c hc=>(Zcq (hee.closed c hc)).2) (hk.mono st).vrl) (fun j hj=>by cases hj) ?_
    have h12:=h5 H (Sof F (r++[i0]) (a++(u++([]++z)++c2)++[]) []) (r++[i0]) (.cells (cs.set off (.vec T.length 0 es.length (thawCap c es.length n) n ag))) (u++([]++z)) st pre (fun _ _ _ _=>rfl) (fun _ _=>rfl) (fun _ _=>rfl)
     (.cells hg hs (nb.set (.vec _ _ _ _ _ _)) (cell_set hc trivial) others) fun hb2 j hj=>h4 hb2 j (by simp only [List.nil_append,List.mem_append] at hj ⊢;rcases hj with hj |hj <;> simp [hj])
    exact h12
   ·rw [List.set_append_left _ _ hbl]
    exact (LowS.set fun n hn hbn _=>absurd hbn (by omega)).trans (.append (by rw [List.length_set];exact hbase))
theorem loadC_run {m:Ld} {ag:Bool} {n:Nat} {a:TV} {β:Type} {k:TV→TH→Option β} {ρ:β} (h:loadC m tlo base ag n T a k=some ρ) :
  ∃ v T',k v T'=some ρ∧∀ {C:TC} {F:Nat→Prop} {lo:Nat} {H:AH} {r Oh os:List Nat} {ends:Bool} {a':Value} {o:List Nat},Good C F lo tlo H r T Oh os→VR H (Sof F r Oh os) r a a' o→(isThawL m=true→ends=true)→base≤T.length →
   ∃ v',evLoad H ag n a'=some v'∧Res C F lo tlo base ends H r T Oh os v T' v' H:=by
 cases a with
 |el q cs off=>
  have elem:∀ {H:AH} {S:Nat→Prop} {r:List Nat} {a':Value} {o:List Nat},VR H S r (.el q cs off) a' o→∃ i o' s ds e,a'=.pointer (some ⟨i,o'+off,none⟩)∧H.get i=some (.cells s ds e)∧ds.length=s∧o'+cs.length≤s∧(∀ c∈cs,Zbw c=true)∧KRL H S cs ((ds.drop o').take cs.length):=by
   intro H S r a' o h
   cases h with
   |k h=>cases h
   |elS hi hl hg hs hb hc h=>exact ⟨_,_,_,_,_,rfl,hg,hs,hb,hc,h⟩
   |elB hi hl hg hs hb hc h=>exact ⟨_,_,_,_,_,rfl,hg,hs,hb,hc,h⟩
  cases ag with
  |true=>
   obtain ⟨h1,h2⟩:=Zan h
   have h1:=Zaw h1
   rw [Zat] at h1
   have h1:off+n≤cs.length:=h1
   refine ⟨_,T,h2,fun {C F lo H r Oh os ends a' o} hG ha _ _=>?_⟩
   obtain ⟨i,o',s,ds,e,rfl,hg,hs,hb,hc,hk⟩:=elem ha
   refine ⟨.agg ⟨seg ds (o'+off) n⟩,evLoad_at hg ?_,.keep hG (o:=[]) (.k ?_) (.inl ?_) fun i=>by simp⟩
   ·show Zap (Nat.ble (o'+off+n) s) _=_
    rw [Nat.ble_eq_true_of_le (by omega)];rfl
   ·rw [segG_eq]
    refine .agg (fun c hc'=>hc c (List.mem_of_mem_drop (List.mem_of_mem_take hc'))) ?_
    show KRL H _ ((cs.drop off).take n) (seg ds (o'+off) n)
    rw [seg_eq]
    have:=(hk.drop off).take n
    rwa [List.drop_take,List.take_take,Nat.min_eq_left (by omega),List.drop_drop] at this
   ·rw [segG_eq]
    exact .agg (NBL.of fun c hc'=>(Zcq (hc c (List.mem_of_mem_drop (List.mem_of_mem_take hc')))).1) fun c hc'=>(Zcq (hc c (List.mem_of_mem_drop (List.mem_of_mem_take hc')))).2
  |false=>
   obtain ⟨x,h1,h2⟩:=Zac (show Zaf (nth cs off) (fun x=>k x T)=some ρ from h)
   rw [Zcb] at h1
   refine ⟨x,T,h2,fun {C F lo H r Oh os ends a' o} hG ha _ _=>?_⟩
   obtain ⟨i,o',s,ds,e,rfl,hg,hs,hb,hc,hk⟩:=elem ha
   obtain ⟨y,h3,h4⟩:=hk.get h1
   rw [List.getElem?_take,if_pos (lt_of_get h1),List.getElem?_drop] at h3
   refine ⟨y,evLoad_at hg (by show nth ds (o'+off)=_;rw [Zcb];exact h3),.keep hG (o:=[]) (.k h4) (.inl (Zcq (hc x (List.mem_of_getElem? h1))).1) fun i=>by simp⟩
 |ptr b off=>
  obtain ⟨cs,hb,hA⟩:=withBox_inv (show Zco T b _=some ρ from h)
  have hbl:=lt_of_get hb
  cases ag with
  |true=>
   obtain ⟨h1,h2⟩:=Zan hA
   have h1:=Zaw h1
   rw [Zat] at h1
   have h1:off+n≤cs.length:=h1
   have h2:cond (anyG isOwn (segG cs off n)) (k (.agg (mapG setC (segG cs off n))) (setBox T b (.cells (overG cs off (mapG setC (segG cs off n)))))) (k (.agg (segG cs off n)) T)=some ρ:=h2
   rw [segG_eq,anyG_eq] at h2
   obtain ⟨sg,hsg⟩:∃ sg,sg=(cs.drop off).take n:=⟨_,rfl⟩
   rw [← hsg] at h2
   have hsl:sg.length=n:=by rw [hsg,List.length_take,List.length_drop];omega
   cases hany:sg.any isOwn with
   |false=>
    rw [hany] at h2
    refine ⟨_,T,h2,fun {C F lo H r Oh os ends a' o} hG ha _ _=>?_⟩
    obtain ⟨i,hr,rfl,_⟩:=ptr_inv ha
    obtain ⟨i',s,ds,e,a,w,c,k1,k2,hg,hs,nb,hce,hw,hcl⟩:=hG.cellsAt hb
    rw [hr] at k1;cases k1
    obtain ⟨a1,ox,c1,k3,k4,_⟩:=hw.seg off n h1
    rw [← hsg] at k4
    have hce':∀ x∈sg,Zcp x:=fun x hx=>hce x (by rw [hsg] at hx;exact List.mem_of_mem_drop (List.mem_of_mem_take hx))
    have:=owns_none k4 hce' hany
    subst this
    refine ⟨.agg ⟨seg ds off n⟩,evLoad_at hg ?_,.keep hG (o:=[]) (.agg ?_) (.inl (.agg ?_ hce')) fun i=>by simp⟩
    ·show Zap (Nat.ble (off+n) s) _=_
     rw [Nat.ble_eq_true_of_le (by omega)];rfl
    ·show VRL H _ _ sg (seg ds off n) []
     rw [seg_eq];exact k4
    ·exact NBL.of fun x hx=>nb.mem x (by rw [hsg] at hx;exact List.mem_of_mem_drop (List.mem_of_mem_take hx))
   |true=>
    rw [hany] at h2
    refine ⟨_,_,h2,fun {C F lo H r Oh os ends a' o} hG ha _ _=>?_⟩
    obtain ⟨i,hr,rfl,_⟩:=ptr_inv ha
    obtain ⟨i',s,ds,e,a,w,c,k1,k2,hg,hs,nb,hce,hw,hcl⟩:=hG.cellsAt hb
    rw [hr] at k1;cases k1
    have hov:overG cs off (mapG setC sg)=cs.take off++(sg.map setC++cs.drop (off+n)):=by
     rw [mapG_eq,overG_eq _ _ _ (by simp [hsl];omega),List.length_map,hsl]
    have hce':∀ x∈sg,Zcp x:=fun x hx=>hce x (by rw [hsg] at hx;exact List.mem_of_mem_drop (List.mem_of_mem_take hx))
    have nb':NBL sg:=NBL.of fun x hx=>nb.mem x (by rw [hsg] at hx;exact List.mem_of_mem_drop (List.mem_of_mem_take hx))
    refine ⟨.agg ⟨seg ds off n⟩,evLoad_at hg ?_,?_⟩
    ·show Zap (Nat.ble (off+n) s) _=_
     rw [Nat.ble_eq_true_of_le (by omega)];rfl
    ·rw [setBox_eq hb,hov,mapG_eq]
     have memo:∀ x∈cs.take off++(sg.map setC++cs.drop (off+n)),x∈cs∨∃ y∈sg,x=setC y:=by
      intro x hx
      rcases List.mem_append.1 hx with hx |hx
      ·exact .inl (List.mem_of_mem_take hx)
      ·rcases List.mem_append.1 hx with hx |hx
       ·obtain ⟨y,hy,rfl⟩:=List.mem_map.1 hx
        exact .inr ⟨y,hy,rfl⟩
       ·exact .inl (List.mem_of_mem_drop hx)
     refine Res.told hG hb (fun s' ds' e' w' hg' hs' hw' _ _ hw1=>?_) (fun m hm hbm hl=>BelL.of fun x hx=>?_) (.inl (.agg (nb'.map fun x=>nb_setC) fun x hx=>?_))
     ·have hri:r.getD b 0=i:=by rw [List.getD_eq_getElem?_getD,hr];rfl
      rw [hri,hg] at hg';cases hg'
      obtain ⟨a1,ox,c1,rfl,k4,k5⟩:=hw'.segS off n h1
      rw [← hsg] at k4
      have hds:ds.take off++((ds.drop off).take n++ds.drop (off+n))=ds:=by rw [← List.drop_drop,List.take_append_drop,List.take_append_drop]
      refine ⟨a1++([]++c1),[],fun j=>by simp only [List.count_append,List.count_nil];omega,fun h=>absurd rfl h,NBL.of fun x hx=>?_,fun x hx=>?_,fun S' st hS=>?_⟩
      ·rcases memo x hx with hx |⟨y,hy,rfl⟩
       ·exact nb.mem x hx
       ·exact nb_setC (nb'.mem y hy)
      ·rcases memo x hx with hx |⟨y,hy,rfl⟩
       ·exact hce x hx
       ·exact cell_setC (hce' y hy)
      ·have hset:VRL H S' r (sg.map setC) ((ds.drop off).take n) []:=map_rel (p:=Zcp) (fun x y o a b c=>setC_rel a b c st) k4 hce' fun j hj=>hS j (by
        have h13:=Zax.2 hj
        have h14:=hw1 j
        simp only [List.count_append,List.count_nil] at h14 ⊢
        omega)
       refine ⟨?_,.agg ?_⟩
       ·have k6:=k5 S' st (sg.map setC) ((ds.drop off).take n) [] hset
        rwa [hds] at k6
       ·show VRL H S' r (sg.map setC) (seg ds off n) []
        rw [seg_eq];exact hset
     ·rcases memo x hx with hx |⟨y,hy,rfl⟩
      ·exact hl.mem x hx
      ·have hy2:=hl.mem y (by rw [hsg] at hy;exact List.mem_of_mem_drop (List.mem_of_mem_take hy))
       cases ho:isOwn y with
       |true=>obtain ⟨_,_,_,_,rfl⟩:=own_shape ho;exact .row ..
       |false=>rw [setC_eq ho];exact hy2
     ·obtain ⟨y,hy,rfl⟩:=List.mem_map.1 hx
      exact cell_setC (hce' y hy)
  |false=>
   obtain ⟨x,hx,h2⟩:=Zac (show Zaf (nth cs off) (fun x=>ldCell m tlo base T b cs off x k)=some ρ from hA)
   rw [Zcb] at hx
   have hxl:=lt_of_get hx
   have ev:∀ {C:TC} {F:Nat→Prop} {lo:Nat} {H:AH} {r Oh os:List Nat} {a':Value} {o:List Nat},Good C F lo tlo H r T Oh os→VR H (Sof F r Oh os) r (.ptr b off) a' o →
     ∃ i s ds e y,a'=.pointer (some ⟨i,off,none⟩)∧r[b]? = some i∧H.get i=some (.cells s ds e)∧ds[off]? = some y∧evLoad H false n a'=some y:=by
    intro C F lo H r Oh os a' o hG ha
    obtain ⟨i,hr,rfl,_⟩:=ptr_inv ha
    obtain ⟨i',s,ds,e,a,w,c,k1,k2,hg,hs,nb,hce,hw,hcl⟩:=hG.cellsAt hb
    rw [hr] at k1;cases k1
    obtain ⟨y,_,_,_,h3,_⟩:=hw.get hx
    exact ⟨i,s,ds,e,y,rfl,hr,hg,h3,evLoad_at hg (by show nth ds off=_;rw [Zcb];exact h3)⟩
   have hand:∀ {x' z:TV} {C:TC} {F:Nat→Prop} {lo:Nat} {H:AH} {r Oh os:List Nat} {ends:Bool} {a':Value} {o:List Nat} (mv:Bool),(mv=true→tlo≤b)→NB x'→Zcp x'→OV z→(∀ n,Bel n x→Bel n x') →
     (∀ S S' y ox,VR H S r x y ox→Stay H S H S'→(mv=false→∀ j∈ox,S' j)→VR H S' r x' y []∧VR H S' r z y (cond mv ox [])) →
     Good C F lo tlo H r T Oh os→VR H (Sof F r Oh os) r (.ptr b off) a' o→∃ v',evLoad H false n a'=some v'∧Res C F lo tlo base ends H r T Oh os z (T.set b (.cells (cs.set off x'))) v' H:=by
    intro x' z C F lo H r Oh os ends a' o mv hmv hnx hcx hnz hbel hrel hG ha
    obtain ⟨i,s,ds,e,y,rfl,hr,hg,hy,hev⟩:=ev hG ha
    refine ⟨y,hev,Res.told hG hb (fun s' ds' e' w' hg' hs' hw' nb hce hw1=>?_) (fun m hm hbm hl=>hl.set (hbel m (hl.mem x (List.mem_of_getElem? hx)))) hnz⟩
    have hri:r.getD b 0=i:=by rw [List.getD_eq_getElem?_getD,hr];rfl
    rw [hri,hg] at hg';cases hg'
    obtain ⟨y',a1,ox,c1,k1,rfl,k3,k4⟩:=hw'.getS hx
    rw [hy] at k1;cases k1
    refine ⟨a1++([]++c1),cond mv ox [],fun j=>by cases mv <;> simp only [List.count_append,List.count_nil,cond_true,cond_false] <;> omega,fun h=>hmv (by cases mv <;> first |rfl |exact absurd rfl h),nb.set hnx,cell_set hce hcx,fun S' st hS=>?_⟩
    obtain ⟨q1,q2⟩:=hrel _ S' y ox k3 st fun hm j hj=>hS j (by
     subst hm
     have h13:=Zax.2 hj
     have h14:=hw1 j
     simp only [List.count_append,List.count_nil,cond_false] at h14 ⊢
     omega)
    have h15:=k4 S' st x' y [] q1
    rw [set_same hy] at h15
    exact ⟨h15,q2⟩
   have plain:∀ {z:TV} (hz:z=x∨z=lendC x) (ho:z=x→isOwn x=false) {C:TC} {F:Nat→Prop} {lo:Nat} {H:AH} {r Oh os:List Nat} {ends:Bool} {a':Value} {o:List Nat},Good C F lo tlo H r T Oh os→VR H (Sof F r Oh os) r (.ptr b off) a' o →
     ∃ v',evLoad H false n a'=some v'∧Res C F lo tlo base ends H r T Oh os z T v' H:=by
    intro z hz ho C F lo H r Oh os ends a' o hG ha
    obtain ⟨i,s,ds,e,y,rfl,hr,hg,hy,hev⟩:=ev hG ha
    obtain ⟨i',s',ds',e',a,w,c,k1,rfl,hg',hs,nb,hce,hw,hcl⟩:=hG.cellsAt hb
    rw [hr] at k1;cases k1
    rw [hg] at hg';cases hg'
    obtain ⟨y',a1,ox,c1,k1,rfl,k3,_⟩:=hw.get hx
    rw [hy] at k1;cases k1
    have hcx:=hce x (List.mem_of_getElem? hx)
    have hnx:=nb.mem x (List.mem_of_getElem? hx)
    refine ⟨y,hev,?_⟩
    rcases hz with rfl |rfl
    ·have:=owns_nil k3 (ho rfl) hcx
     subst this
     exact .keep hG k3 (.inl hnx) fun i=>by simp
    ·obtain ⟨q1,q2⟩:=lend_rel k3 hcx hnx fun j hj hjr=>by
      have:=(hG.mem_r hjr).2.2.2.1
      simp only [List.count_append] at this
      have:=Zax.2 hj
      omega
     exact .keep hG q1 q2 fun i=>by simp
   cases m with
   |lend=>exact ⟨_,T,h2,fun hG ha _ _=>plain (.inr rfl) (fun e=>by
     cases ho:isOwn x with
     |false=>rfl
     |true=>obtain ⟨_,_,_,_,rfl⟩:=own_shape ho;cases e) hG ha⟩
   |take=>
    have h2:cond (isOwn x) (Zap (Nat.ble tlo b) (k x (setBox T b (.cells (overG cs off [Zao]))))) (k x T)=some ρ:=h2
    cases ho:isOwn x with
    |false=>rw [ho] at h2;exact ⟨_,T,h2,fun hG ha _ _=>plain (.inl rfl) (fun _=>ho) hG ha⟩
    |true=>
     rw [ho] at h2
     obtain ⟨h3,h4⟩:=Zan h2
     rw [setBox_eq hb,overG_one _ _ _ hxl] at h4
     obtain ⟨c,e,q,es,rfl⟩:=own_shape ho
     exact ⟨_,_,h4,fun hG ha _ _=>hand true (fun _=>Zaw h3) (.tup .nil fun c hc=>by cases hc) trivial (.inl (.mk_row (by intro h;cases h))) (fun n _=>.tup .nil) (fun S S' y ox hv st _=>⟨.und,stay_same st hv⟩) hG ha⟩
   |settle=>
    have h2:cond (isOwn x) (k (setC x) (setBox T b (.cells (overG cs off [setC x])))) (k x T)=some ρ:=h2
    cases ho:isOwn x with
    |false=>rw [ho] at h2;exact ⟨_,T,h2,fun hG ha _ _=>plain (.inl rfl) (fun _=>ho) hG ha⟩
    |true=>
     rw [ho] at h2
     have h4:k (setC x) (setBox T b (.cells (overG cs off [setC x])))=some ρ:=h2
     rw [setBox_eq hb,overG_one _ _ _ hxl] at h4
     obtain ⟨c,e,q,es,rfl⟩:=own_shape ho
     exact ⟨_,_,h4,fun hG ha _ _=>hand false (fun h=>by cases h) (.mk_row (by intro h;cases h)) trivial (.inl (.mk_row (by intro h;cases h))) (fun n _=>.row ..) (fun S S' y ox hv st hS=>⟨.k (own_set hv (hS rfl) st),.k (own_set hv (hS rfl) st)⟩) hG ha⟩
   |thaw n' ag'=>
    have h2:cond (isOwn x) (Zap (Nat.ble tlo b) (Zap (Nat.ble base b) (thawV n' ag' x T fun y H=>k y (setBox H b (.cells (overG cs off [y])))))) (k x T)=some ρ:=h2
    cases ho:isOwn x with
    |false=>rw [ho] at h2;exact ⟨_,T,h2,fun hG ha _ _=>plain (.inl rfl) (fun _=>ho) hG ha⟩
    |true=>
     rw [ho] at h2
     obtain ⟨h3,h4⟩:=Zan h2
     obtain ⟨h5,h6⟩:=Zan h4
     obtain ⟨c,e,q,es,rfl⟩:=own_shape ho
     obtain ⟨h7,h8⟩:=Zan h6
     have h7:=Zay h7
     subst h7
     have hb':(T++[TObj.cells (Zbl es)])[b]? = some (.cells cs):=by rw [List.getElem?_append_left hbl];exact hb
     have h8:k (.vec (Zag T) 0 (Zag es) (thawCap c (Zag es) q) q ag') (setBox (T++[TObj.cells (Zbl es)]) b (.cells (overG cs off [.vec (Zag T) 0 (Zag es) (thawCap c (Zag es) q) q ag'])))=some ρ:=h8
     rw [setBox_eq hb',overG_one _ _ _ hxl,Zat,Zat] at h8
     refine ⟨_,_,h8,fun {C F lo H r Oh os ends a' o} hG ha he hbase=>?_⟩
     obtain ⟨i,s,ds,ed,y,rfl,hr,hg,hy,hev⟩:=ev hG ha
     exact ⟨y,hev,Res.thawed hG hb hx (Zaw h3) (Zaw h5) hbase (he rfl) hr hg hy⟩
 |_=>cases h
theorem bindT_eq {β:Type} {r:Option (TV×TH)} {k:TV→TH→Option β} {ρ:β} (h:bindT r k=some ρ):∃ p:TV×TH,r=some p∧k p.1 p.2=some ρ:=by
 cases r with
 |none=>cases h
 |some p=>exact ⟨p,rfl,h⟩
theorem loadT_run {m:Ld} {ag:Bool} {n:Nat} {a:TV} {β:Type} {k:TV→TH→Option β} {ρ:β} (h:Zbg m tlo base ag n T a k=some ρ) :
  ∃ v T',k v T'=some ρ∧∀ {C:TC} {F:Nat→Prop} {lo:Nat} {H:AH} {r Oh os:List Nat} {ends:Bool} {a':Value} {o:List Nat},Good C F lo tlo H r T Oh os→VR H (Sof F r Oh os) r a a' o→(isThawL m=true→ends=true)→base≤T.length →
   ∃ v',evLoad H ag n a'=some v'∧Res C F lo tlo base ends H r T Oh os v T' v' H:=by
 obtain ⟨p,h1,h2⟩:=bindT_eq h
 obtain ⟨v,T',h3,h4⟩:=loadC_run h1
 cases h3
 exact ⟨v,T',h2,h4⟩
end
end Go.Ev
namespace Go.Ev
section
variable {C:TC} {F:Nat→Prop} {lo tlo base:Nat} {ends:Bool} {H:AH} {r:List Nat} {T:TH} {Oh os:List Nat}
theorem over_len {ds ws:List Value} {off:Nat} (h:off+ws.length≤ds.length):over ds off ws=ds.take off++(ws++ds.drop (off+ws.length)):=over_eq _ _ _ h
theorem Res.wrote {b i s off:Nat} {cs vs:List TV} {ds ws:List Value} {e:TypeId} {o:List Nat} {v:TV} {v':Value} (hG:Good C F lo tlo H r T Oh os) (hb:T[b]? = some (.cells cs)) (hr:r[b]? = some i) (hg:H.get i=some (.cells s ds e)) (htl:tlo≤b)
  (hfit:off+vs.length≤cs.length) (hv:VRL H (Sof F r Oh os) r vs ws o) (hc:∀ j,o.count j≤os.count j) (hnb:NBL vs) (hce:∀ c∈vs,Zcp c) (hlow:∀ n,n≤base→b < n→BelL n vs)
  (hres:∀ H' S,VR H' S r v v' []) (hn:OV v):Res C F lo tlo base ends H r T Oh os v (T.set b (.cells (overG cs off vs))) v' (H.set i (.cells s (over ds off ws) e)):=by
 obtain ⟨i',s',ds',e',a,w,c,k1,k2,hg',hs,nb,hcc,hw,hcl⟩:=hG.cellsAt hb
 rw [hr] at k1;cases k1
 rw [hg] at hg';cases hg'
 have hlv:=hv.length
 have hov:overG cs off vs=cs.take off++(vs++cs.drop (off+vs.length)):=overG_eq _ _ _ hfit
 have how:over ds off ws=ds.take off++(ws++ds.drop (off+vs.length)):=by rw [over_len (by omega),hlv]
 have memo:∀ x∈cs.take off++(vs++cs.drop (off+vs.length)),x∈cs∨x∈vs:=by
  intro x hx
  rcases List.mem_append.1 hx with hx |hx
  ·exact .inl (List.mem_of_mem_take hx)
  ·rcases List.mem_append.1 hx with hx |hx
   ·exact .inr hx
   ·exact .inl (List.mem_of_mem_drop hx)
 have hir:=hG.mem_r (getr_mem hr)
 refine Res.write hG hb hr htl (fun w2 ho hle=>?_) (fun n hn hbn hl=>?_) hres hn
 ·cases ho with
  |cells hg2 hs2 nb2 hc2 hw2=>
   rw [hg] at hg2;cases hg2
   obtain ⟨a1,ox,c1,rfl,k4,k5⟩:=hw2.seg off vs.length hfit
   refine ⟨a1++(o++c1),fun j=>by simp only [List.count_append];have:=hc j;omega,fun S st=>?_⟩
   have h1:=k5 vs ws o rfl hv
   have h1:VRL H (Sof F r Oh os) r (cs.take off++(vs++cs.drop (off+vs.length))) (over ds off ws) (a1++(o++c1)):=by rw [how];exact h1
   rw [hov]
   refine .cells (e:=e) (s:=s) (by rw [AH.get_set,if_pos rfl]) ?_ (NBL.of fun x hx=>(memo x hx).elim (nb.mem x) (hnb.mem x)) (fun x hx=>(memo x hx).elim (hcc x) (hce x)) ?_
   ·rw [← h1.length,← hcl]
    simp only [List.length_append,List.length_take,List.length_drop];omega
   ·refine h1.monoN st (fun _ _ h=>h) (NBL.of fun x hx=>(memo x hx).elim (nb.mem x) (hnb.mem x)) fun j hj=>?_
    rw [AH.get_set,if_neg]
    intro e2
    subst e2
    have h2:=Zax.2 hj
    have h3:=hc j
    have h6:=hle j
    simp only [List.count_append] at h2 h6
    have:=hir.2.2.2.1
    have:=hir.2.2.2.2
    omega
 ·rw [hov]
  exact BelL.of fun x hx=>(memo x hx).elim ((hl b _ hbn hb:BelL n cs).mem x) ((hlow n hn hbn).mem x)
theorem storeT_run {n:Nat} {a x:TV} {T':TH} (h:Zas tlo base n T a x=some T') {a' x':Value} {oa ox:List Nat} (hG:Good C F lo tlo H r T Oh os) (ha:VR H (Sof F r Oh os) r a a' oa) (hx:VR H (Sof F r Oh os) r x x' ox) (hv:OV x) (hc:∀ j,ox.count j≤os.count j) :
  ∃ H',evStore lo H n a' x'=some H'∧Res C F lo tlo base ends H r T Oh os Zao T' undef H':=by
 unfold Zas at h
 split at h
 ·rename_i b off
  obtain ⟨h1,hA⟩:=Zan h
  obtain ⟨h2,hB⟩:=Zan hA
  obtain ⟨h3,hC⟩:=Zan hB
  obtain ⟨cs,hb,hD⟩:=withBox_inv hC
  obtain ⟨h4,hE⟩:=Zan hD
  obtain ⟨h5,hF⟩:=Zan hE
  cases hF
  have h1:=Zaw h1
  have h4:=Zay h4
  have h5:=Zaw h5
  rw [Zat] at h4 h5
  have h5:off+n≤cs.length:=h5
  obtain ⟨i,hr,rfl,_⟩:=ptr_inv ha
  obtain ⟨i',s,ds,e,a,w,c,k1,k2,hg,hs,nb,hcc,hw,hcl⟩:=hG.cellsAt hb
  rw [hr] at k1;cases k1
  obtain ⟨q1,q2,q3⟩:=cellsT_rel hx h2
  have hl:=q1.length
  have hlo:=hG.rlo b i h1 hr
  refine ⟨H.set i (.cells s (over ds off (cellsOf x')) e),?_,?_⟩
  ·show evStoreL lo H n i off (cellsOf x')=_
   unfold evStoreL Zdm
   rw [hg]
   show Zap (Nat.ble lo i) (Zap (Nat.beq (lenN (cellsOf x')) n) (Zap (Nat.ble (off+n) s) (Zap ((cellsOf x').all single) _)))=_
   rw [Nat.ble_eq_true_of_le hlo,lenN_eq,beqt (by omega),Nat.ble_eq_true_of_le (by omega),q2];rfl
  ·rw [setBox_eq hb]
   refine Res.wrote hG hb hr hg h1 (by omega) q1 hc (stor_nb h2 hv) (fun c hc=>(q3 c hc).1) (fun m hm hbm=>?_) (fun _ _=>.und) (.inl (.tup .nil fun c hc=>by cases hc))
   have h3:cond (Nat.blt b base) (looseT x) true=true:=h3
   rw [show Nat.blt b base=true from by rw [Nat.blt_eq];omega] at h3
   have:∀ c∈Zav x,Bel m c:=by
    have hb:=looseT_bel (n:=m) h3
    cases x with
    |agg cs=>cases hb with
     |agg hb=>exact hb.mem
    |_=>intro c hc;rw [show Zav _=[_] from rfl,List.mem_singleton] at hc;subst hc;exact hb
   exact BelL.of this
 ·cases h
theorem zeroT_eq {i:TyI} {z:Value} (h:zeroT i=some z):zeroOf i=some z∧plain z=true∧∀ l,z≠.tuple l:=by
 obtain ⟨z',h1,h2⟩:=Zac h
 obtain ⟨h3,h4⟩:=Zan h2
 cases h4
 obtain ⟨z2,h5,h6⟩:=Zac (show Zaf i.zero (fun z=>Zap (plain z) (some z))=some z from h1)
 obtain ⟨h7,h8⟩:=Zan h6
 cases h8
 refine ⟨h1,h7,fun l e=>?_⟩
 subst e;cases h3
theorem zero_cells {S:Nat→Prop} {z:Value} (hp:plain z=true) (ht:∀ l,z≠.tuple l):KRL H S (Zav (ofV z)) (cellsOf z)∧(∀ c∈Zav (ofV z),Zbw c=true):=by
 obtain ⟨h1,h2⟩:=ofV_kr (H:=H) (S:=S) hp ht
 generalize ofV z=x at h1 h2
 cases h1 with
 |agg hc h=>exact ⟨h,hc⟩
 |v h3 h4=>exact ⟨by
   have:cellsOf z=[z]:=by cases z <;> first |rfl |cases h3
   rw [this];exact .cons (.v h3 h4) .nil,fun c hc=>by rw [show Zav _=[_] from rfl,List.mem_singleton] at hc;subst hc;rfl⟩
 |nil=>exact ⟨.cons .nil .nil,fun c hc=>by rw [show Zav _=[_] from rfl,List.mem_singleton] at hc;subst hc;rfl⟩
 |row a b c d e f g h=>exact ⟨.cons (.row a b c d e f g h) .nil,fun c hc=>by rw [show Zav _=[_] from rfl,List.mem_singleton] at hc;subst hc;rfl⟩
 |iface h=>exact ⟨.cons (.iface h) .nil,fun c hc=>by rw [show Zav _=[_] from rfl,List.mem_singleton] at hc;subst hc;rfl⟩
 |fn0=>cases h2
theorem alloc_run {e:TypeId} {z:Value} (hp:plain z=true) (ht:∀ l,z≠.tuple l) (hG:Good C F lo tlo H r T Oh os) (hb:base≤T.length) :
  Res C F lo tlo base ends H r T Oh os (.ptr (Zag T) 0) (Zaq T (.cells (Zav (ofV z)))) (newPtr H) (pushBox H e z):=by
 rw [Zat]
 show Res C F lo tlo base ends H r T Oh os _ (T++[_]) _ (H.push (.cells (lenN (cellsOf z)) (cellsOf z) e))
 refine Res.box (w:=[]) hG hb (fun i=>by simp) (fun S r' st _=>?_) (fun S r' hr=>.ptr hr) (.inl (.ptr _ _))
 obtain ⟨h1,h2⟩:=zero_cells (H:=H) (S:=Sof F r Oh os) hp ht
 exact .cells (by rw [AH.get_push,if_pos rfl]) (by rw [lenN_eq]) (NBL.of fun c hc=>(Zcq (h2 c hc)).1) (fun c hc=>(Zcq (h2 c hc)).2) (h1.mono st).vrl
theorem box_run {e:TypeId} {x:TV} {x':Value} {ox:List Nat} (hs:stor x=true) (hv:OV x) (hx:VR H (Sof F r Oh os) r x x' ox) (hc:∀ j,ox.count j≤os.count j) (hG:Good C F lo tlo H r T Oh os) (hb:base≤T.length) :
  Res C F lo tlo base ends H r T Oh os (.ptr (Zag T) 0) (Zaq T (.cells (Zav x))) (newPtr H) (pushBox H e x'):=by
 rw [Zat]
 show Res C F lo tlo base ends H r T Oh os _ (T++[_]) _ (H.push (.cells (lenN (cellsOf x')) (cellsOf x') e))
 obtain ⟨q1,q2,q3⟩:=cellsT_rel hx hs
 refine Res.box (w:=ox) hG hb hc (fun S r' st pre=>?_) (fun S r' hr=>.ptr hr) (.inl (.ptr _ _))
 refine .cells (by rw [AH.get_push,if_pos rfl]) (by rw [lenN_eq]) (stor_nb hs hv) (fun c hc=>(q3 c hc).1) (q1.monoN st pre (stor_nb hs hv) fun j hj=>?_)
 rw [AH.get_push,if_neg]
 have:=(hG.mem_x (Zax.1 (Nat.lt_of_lt_of_le (Zax.2 hj) (hc j)))).1
 omega
theorem fillT_run {S:Nat→Prop}:∀ {ps:List (Nat×Nat×TV)} {qs:List (Nat×Nat×Value)} {cs out:List TV} {ds:List Value} {o0 o1:List Nat},fillT ps cs=some out→VRL H S r cs ds o0→VRL H S r (ps.map (·.2.2)) (qs.map (·.2.2)) o1→ps.map (fun p=>(p.1,p.2.1))=qs.map (fun p=>(p.1,p.2.1)) →
  (∀ p∈ps,OV p.2.2)→NBL cs→(∀ c∈cs,Zcp c)→∃ out' o,evFill qs ds=some out'∧VRL H S r out out' o∧(∀ j,o.count j≤o0.count j+o1.count j)∧NBL out∧∀ c∈out,Zcp c
 |[],[],cs,out,ds,o0,o1,h,hr,_,_,_,nb,hc=>by cases h;exact ⟨ds,o0,rfl,hr,fun j=>by omega,nb,hc⟩
 |[],_::_,_,_,_,_,_,_,_,_,he,_,_,_=>by cases he
 |_::_,[],_,_,_,_,_,_,_,_,he,_,_,_=>by cases he
 |(off,size,x)::ps,(off',size',y)::qs,cs,out,ds,o0,o1,h,hr,hv,he,ho,nb,hc=>by
  obtain ⟨h1,hA⟩:=Zan h
  obtain ⟨h2,hB⟩:=Zan hA
  obtain ⟨h3,h4⟩:=Zan hB
  have h2:=Zay h2
  have h3:=Zaw h3
  rw [Zat] at h2 h3
  have h3:off+size≤cs.length:=h3
  simp only [List.map_cons,List.cons.injEq,Prod.mk.injEq] at he
  obtain ⟨⟨e1,e2⟩,he⟩:=he
  subst e1 e2
  cases hv with
  | @cons _ _ ox _ _ ot hx ht=>
   have hx:VR H S r x y ox:=hx
   obtain ⟨q1,q2,q3⟩:=cellsT_rel hx h1
   have nbx:=stor_nb h1 (ho _ (List.mem_cons_self ..))
   have hl:=q1.length
   have hds:=hr.length
   obtain ⟨a1,o2,c1,rfl,k4,k5⟩:=hr.seg off size h3
   have k6:=k5 (Zav x) (cellsOf y) ox h2 q1
   have hov:overG cs off (Zav x)=cs.take off++(Zav x++cs.drop (off+size)):=by rw [overG_eq _ _ _ (by omega),h2]
   have how:over ds off (cellsOf y)=ds.take off++(cellsOf y++ds.drop (off+size)):=by rw [over_eq _ _ _ (by omega),← hl,h2]
   rw [hov] at h4
   have memo:∀ z∈cs.take off++(Zav x++cs.drop (off+size)),z∈cs∨z∈Zav x:=by
    intro z hz
    rcases List.mem_append.1 hz with hz |hz
    ·exact .inl (List.mem_of_mem_take hz)
    ·rcases List.mem_append.1 hz with hz |hz
     ·exact .inr hz
     ·exact .inl (List.mem_of_mem_drop hz)
   obtain ⟨out',o,r1,r2,r3,r4,r5⟩:=fillT_run h4 k6 ht he (fun p hp=>ho p (List.mem_cons_of_mem _ hp)) (NBL.of fun z hz=>(memo z hz).elim (nb.mem z) (nbx.mem z)) (fun z hz=>(memo z hz).elim (hc z) fun h=>(q3 z h).1)
   refine ⟨out',o,?_,r2,fun j=>?_,r4,r5⟩
   ·show Zap (Nat.beq (lenN (cellsOf y)) size) (Zap (Nat.ble (off+size) (lenN ds)) (evFill qs (over ds off (cellsOf y))))=_
    rw [lenN_eq,beqt (by omega),lenN_eq,Nat.ble_eq_true_of_le (by omega),how];exact r1
   ·have:=r3 j
    simp only [List.count_append] at this ⊢
    omega
theorem placesT_run {P:Program} {E:Env} {place:Nat→Option (Nat×Nat)}:∀ {parts:List (Nat×Operand)} {xs:List TV} {ys:List Value} {ps:List (Nat×Nat×TV)},placesT place (parts.map (·.1)) xs=some ps→xs.length=parts.length→evxs P E (parts.map (·.2))=some ys →
  ∃ qs,partsX P E place parts=some qs∧ps.map (·.2.2)=xs∧qs.map (·.2.2)=ys∧ps.map (fun p=>(p.1,p.2.1))=qs.map (fun p=>(p.1,p.2.1))
 |[],xs,ys,ps,h,hl,he=>by
  have:xs=[]:=List.length_eq_zero_iff.1 hl
  subst this
  cases h;cases he;exact ⟨[],rfl,rfl,rfl,rfl⟩
 |(i,o)::parts,[],ys,ps,h,hl,he=>by cases hl
 |(i,o)::parts,x::xs,ys,ps,h,hl,he=>by
  obtain ⟨p,h1,hA⟩:=Zac (show Zaf (place i) (fun p=>Zaf (placesT place (parts.map (·.1)) xs) fun l=>some ((p.1,p.2,x)::l))=some ps from h)
  obtain ⟨l,h2,h3⟩:=Zac hA
  cases h3
  obtain ⟨y,h4,hB⟩:=Zac (show Zaf (evx P E o) (fun v=>Zaf (evxs P E (parts.map (·.2))) fun vs=>some (v::vs))=some ys from he)
  obtain ⟨l2,h5,h6⟩:=Zac hB
  cases h6
  obtain ⟨qs,k1,k2,k3,k4⟩:=placesT_run h2 (by simpa using hl) h5
  refine ⟨(p.1,p.2,y)::qs,?_,by simp [k2],by simp [k3],by simp [k4]⟩
  show Zaf (evx P E o) (fun v=>Zaf (place i) fun p=>Zaf (partsX P E place parts) fun vs=>some ((p.1,p.2,v)::vs))=_
  rw [h4,Zai,h1,Zai,k1];rfl
theorem buildT_run {P:Program} {t:TypeId} {parts:List (Nat×Operand)} {xs:List TV} {β:Type} {k:TV→Option β} {ρ:β} (h:buildT P t (parts.map (·.1)) xs k=some ρ) (hl:xs.length=parts.length) :
  ∃ v,k v=some ρ∧∀ {E:Env} {H:AH} {S:Nat→Prop} {r:List Nat} {ys:List Value} {o:List Nat},VRL H S r xs ys o→(∀ x∈xs,OV x)→evxs P E (parts.map (·.2))=some ys →
   ∃ v' o',(∀ {γ:Type} (k':Value→Option γ),opBuild P E t parts k'=k' v')∧VR H S r v v' o'∧(∀ j,o'.count j≤o.count j)∧OV v:=by
 obtain ⟨i,hi,hA⟩:=Zac h
 obtain ⟨z,hz,hB⟩:=Zac hA
 obtain ⟨z1,z2,z3⟩:=zeroT_eq hz
 have key:∀ {place:Nat→Option (Nat×Nat)} {ps:List (Nat×Nat×TV)},placesT place (parts.map (·.1)) xs=some ps→Zaa (aggT ps (Zav (ofV z))) k=some ρ →
   ∃ v,k v=some ρ∧∀ {E:Env} {H:AH} {S:Nat→Prop} {r:List Nat} {ys:List Value} {o:List Nat},VRL H S r xs ys o→(∀ x∈xs,OV x)→evxs P E (parts.map (·.2))=some ys →
    ∃ v' o',(∀ {γ:Type} (k':Value→Option γ),Zaf (partsX P E place parts) (fun ps=>Zaa (evAgg ps (cellsOf z)) k')=k' v')∧VR H S r v v' o'∧(∀ j,o'.count j≤o.count j)∧OV v:=by
  intro place ps hps hk
  obtain ⟨v,h1,h2⟩:=Zau hk
  obtain ⟨out,h3,h4⟩:=Zac (show Zaf (fillT ps (Zav (ofV z))) (fun cs=>some (TV.agg cs))=some v from h1)
  cases h4
  refine ⟨_,h2,fun {E H S r ys o} hx hv he=>?_⟩
  obtain ⟨qs,k1,k2,k3,k4⟩:=placesT_run hps hl he
  obtain ⟨z4,z5⟩:=zero_cells (H:=H) (S:=S) z2 z3
  obtain ⟨out',o',r1,r2,r3,r4,r5⟩:=fillT_run h3 (z4.vrl (r:=r)) (by rw [k2,k3];exact hx) k4 (fun p hp=>hv _ (by rw [← k2];exact List.mem_map_of_mem hp)) (NBL.of fun c hc=>(Zcq (z5 c hc)).1) (fun c hc=>(Zcq (z5 c hc)).2)
  refine ⟨.agg ⟨out'⟩,o',fun k'=>?_,.agg r2,fun j=>by have:=r3 j;simpa using this,.inl (.agg r4 r5)⟩
  rw [k1,Zai]
  show Zaa (Zaf (evFill qs (cellsOf z)) _) k'=_
  rw [r1];rfl
 split at hB
 ·rename_i fs hd
  obtain ⟨h1,hC⟩:=Zan hB
  obtain ⟨ps,hps,hk⟩:=Zac hC
  obtain ⟨v,q1,q2⟩:=key hps hk
  refine ⟨v,q1,fun {E H S r ys o} hx hv he=>?_⟩
  obtain ⟨v',o',p1,p2,p3,p4⟩:=q2 hx hv he
  refine ⟨v',o',fun k'=>?_,p2,p3,p4⟩
  show Zaf (tyI P t) _=_
  rw [hi,Zai,z1,Zai,hd]
  show Zap (fs.toList.all fun f=>(tyI P f.type).isSome) (Zaf (partsX P E (fieldPlaces P fs.toList) parts) fun ps=>Zaa (evAgg ps (cellsOf z)) k')=_
  rw [h1];exact p1 k'
 ·rename_i n e hd
  obtain ⟨j,hj,hC⟩:=Zac hB
  obtain ⟨ps,hps,hk⟩:=Zac hC
  obtain ⟨v,q1,q2⟩:=key hps hk
  refine ⟨v,q1,fun {E H S r ys o} hx hv he=>?_⟩
  obtain ⟨v',o',p1,p2,p3,p4⟩:=q2 hx hv he
  refine ⟨v',o',fun k'=>?_,p2,p3,p4⟩
  show Zaf (tyI P t) _=_
  rw [hi,Zai,z1,Zai,hd]
  show Zaf (tyI P e) _=_
  rw [hj];exact p1 k'
 ·cases hB
end
end Go.Ev
namespace Go.Ev
section
variable {H:AH} {S:Nat→Prop} {r:List Nat}
theorem closedC_kr {x:TV} {y:Value} {o:List Nat} (hc:Zbw x=true) (h:VR H S r x y o):KR H S x y∧o=[]:=by
 cases x with
 |v a=>obtain ⟨rfl,h1,h2,h3⟩:=v_inv h;exact ⟨.v h1 h2,h3⟩
 |row c q n es=>cases q with
  |set=>
   cases h with
   |k h=>exact ⟨h,rfl⟩
  |_=>cases hc
 |iface t x=>obtain ⟨z,rfl,h1,h2⟩:=iface_inv h;exact ⟨.iface h1,h2⟩
 |_=>cases hc
theorem closed_krl:∀ {xs:List TV} {ys:List Value} {o:List Nat},(∀ c∈xs,Zbw c=true)→VRL H S r xs ys o→KRL H S xs ys∧o=[]
 |_,_,_,_,.nil=>⟨.nil,rfl⟩
 |x::xs,_,_,hc,.cons h t=>by
  obtain ⟨h1,rfl⟩:=closedC_kr (hc x (List.mem_cons_self ..)) h
  obtain ⟨h2,rfl⟩:=closed_krl (fun c hx=>hc c (List.mem_cons_of_mem _ hx)) t
  exact ⟨.cons h1 h2,rfl⟩
theorem closed_cases {x:TV} (h:closed x=true):(∃ cs,x=.agg cs∧∀ c∈cs,Zbw c=true)∨(Zbw x=true∧Zav x=[x]):=by
 cases x with
 |agg cs=>
  have h:Zbu Zbw cs=true:=h
  rw [Zds,List.all_eq_true] at h
  exact .inl ⟨cs,rfl,h⟩
 |_=>exact .inr ⟨h,rfl⟩
theorem closed_kr {x:TV} {y:Value} {o:List Nat} (hc:closed x=true) (h:VR H S r x y o):KR H S x y∧o=[]:=by
 rcases closed_cases hc with ⟨cs,rfl,hc2⟩ |⟨hc2,_⟩
 ·obtain ⟨ds,rfl,h1⟩:=agg_inv h
  obtain ⟨h2,h3⟩:=closed_krl hc2 h1
  exact ⟨.agg hc2 h2,h3⟩
 ·exact closedC_kr hc2 h
theorem closed_cells {x:TV} (hc:closed x=true):∀ c∈Zav x,Zbw c=true:=by
 rcases closed_cases hc with ⟨cs,rfl,hc2⟩ |⟨hc2,e⟩
 ·exact hc2
 ·intro c h;rw [e,List.mem_singleton] at h;subst h;exact hc2
theorem closed_stor {x:TV} (hc:closed x=true):stor x=true:=by
 have one:∀ {x:TV},Zbw x=true→storC x=true:=fun {x} h=>by
  cases x with
  |row c q n es=>cases q <;> first |rfl |cases h
  |_=>first |rfl |cases h
 cases x with
 |agg cs=>
  have hc:Zbu Zbw cs=true:=hc
  show Zbu storC cs=true
  rw [Zds,List.all_eq_true] at hc ⊢
  exact fun c h=>one (hc c h)
 |v a=>exact one (x:=.v a) hc
 |row c q n es=>exact one (x:=.row c q n es) hc
 |iface t y=>exact one (x:=.iface t y) hc
 |_=>cases hc
theorem kr_cells {x:TV} {y:Value} (hc:closed x=true) (h:KR H S x y):KRL H S (Zav x) (cellsOf y):=by
 obtain ⟨q1,_,_⟩:=cellsT_rel (r:=[]) (.k h) (closed_stor hc)
 exact (closed_krl (closed_cells hc) q1).1
theorem flatL_set {n:Nat} {es:List TV} {i:Nat} {x:TV} (he:Each n es) (hi:i < es.length):Zbl (es.set i x)=(Zbl es).take (i * n)++(Zav x++(Zbl es).drop (i * n+n)):=by
 rw [List.set_eq_take_append_cons_drop,if_pos hi,flatL_append,flatL_cons,flatL_take i he,show i * n+n=(i+1) * n by rw [Nat.succ_mul],flatL_drop (i+1) he]
theorem Each.set {n:Nat} {es:List TV} {i:Nat} {x:TV} (he:Each n es) (hx:(Zav x).length=n∧∀ c∈Zav x,Zbw c=true):Each n (es.set i x):=fun y hy=>by
 rcases List.mem_or_eq_of_mem_set hy with hy |rfl
 ·exact he y hy
 ·exact hx
theorem elemsT_run {P:Program} {E:Env} {n:Nat}:∀ {parts:List (Nat×Operand)} {xs es out:List TV} {ys ds:List Value} {o:List Nat},Zcx n (parts.map (·.1)) xs es=some out→xs.length=parts.length→evxs P E (parts.map (·.2))=some ys→VRL H S r xs ys o→Each n es→KRL H S (Zbl es) ds →
  ∃ qs ds',partsX P E (fun j=>some (Nat.mul j n,n)) parts=some qs∧evFill qs ds=some ds'∧KRL H S (Zbl out) ds'∧Each n out∧out.length=es.length
 |[],xs,es,out,ys,ds,o,h,hl,he,hr,hE,hk=>by
  have:xs=[]:=List.length_eq_zero_iff.1 hl
  subst this
  cases h
  exact ⟨[],ds,rfl,rfl,hk,hE,rfl⟩
 |(i,x0)::parts,[],es,out,ys,ds,o,h,hl,he,hr,hE,hk=>by cases hl
 |(i,x0)::parts,x::xs,es,out,ys,ds,o,h,hl,he,hr,hE,hk=>by
  obtain ⟨h1,hA⟩:=Zan (show Zap (closed x) (Zap (Nat.beq (Zag (Zav x)) n) (Zap (Nat.blt i (Zag es)) (Zcx n (parts.map (·.1)) xs (overG es i [x]))))=some out from h)
  obtain ⟨h2,hB⟩:=Zan hA
  obtain ⟨h3,h4⟩:=Zan hB
  have h2:=Zay h2
  rw [Zat] at h2
  rw [Nat.blt_eq,Zat] at h3
  rw [overG_one _ _ _ h3] at h4
  obtain ⟨y,h5,hC⟩:=Zac (show Zaf (evx P E x0) (fun v=>Zaf (evxs P E (parts.map (·.2))) fun vs=>some (v::vs))=some ys from he)
  obtain ⟨l2,h6,h7⟩:=Zac hC
  cases h7
  cases hr with
  |cons hx ht=>
   obtain ⟨k1,_⟩:=closed_kr h1 hx
   have k2:=kr_cells h1 k1
   have hl2:=k2.length
   have hdl:=hk.length
   rw [flatL_length hE] at hdl
   have hfit:i * n+n≤es.length * n:=by
    have:=Nat.mul_le_mul_right n (show i+1≤es.length by omega)
    rw [Nat.succ_mul] at this;exact this
   have hkr:KRL H S (Zbl (es.set i x)) (over ds (i * n) (cellsOf y)):=by
    rw [flatL_set hE h3,over_eq _ _ _ (by omega),← hl2,h2]
    exact (hk.take _).append (k2.append (hk.drop _))
   obtain ⟨qs,ds',r1,r2,r3,r4,r5⟩:=elemsT_run h4 (by simpa using hl) h6 ht (hE.set ⟨h2,closed_cells h1⟩) hkr
   refine ⟨(i * n,n,y)::qs,ds',?_,?_,r3,r4,by rw [r5,List.length_set]⟩
   ·show Zaf (evx P E x0) (fun v=>Zaf (some (Nat.mul i n,n)) fun p=>Zaf (partsX P E _ parts) fun vs=>some ((p.1,p.2,v)::vs))=_
    rw [h5,Zai,Zai,r1];rfl
   ·show Zap (Nat.beq (lenN (cellsOf y)) n) (Zap (Nat.ble (i * n+n) (lenN ds)) (evFill qs (over ds (i * n) (cellsOf y))))=_
    rw [lenN_eq,beqt (by omega),lenN_eq,Nat.ble_eq_true_of_le (by omega)];exact r2
theorem repG_succ {α:Type} (z:List α) (n:Nat):repG z (n+1)=z++repG z n:=rfl
theorem repG_length {α:Type} (z:List α) (n:Nat):(repG z n).length=n * z.length:=by
 induction n with
 |zero=>rw [Nat.zero_mul];rfl
 |succ n ih=>rw [repG_succ,List.length_append,ih,Nat.succ_mul];omega
theorem mem_repG {α:Type} {z:List α} {n:Nat} {x:α} (h:x∈repG z n):x∈z:=by
 induction n with
 |zero=>cases h
 |succ n ih=>
  rw [repG_succ] at h
  exact (List.mem_append.1 h).elim id ih
theorem zeros_rel {z:Value} (hp:plain z=true) (ht:∀ l,z≠.tuple l) (n:Nat):KRL H S (repG (Zav (ofV z)) n) (zeros (cellsOf z) n)∧Zbl (repG [ofV z] n)=repG (Zav (ofV z)) n:=by
 obtain ⟨h1,h2⟩:=zero_cells (H:=H) (S:=S) hp ht
 induction n with
 |zero=>exact ⟨.nil,rfl⟩
 |succ n ih=>
  refine ⟨h1.append ih.1,?_⟩
  rw [repG_succ,repG_succ,flatL_append,ih.2,flatL_cons,flatL_nil,List.append_nil]
theorem zeros_each {z:Value} {n:Nat} (hp:plain z=true) (ht:∀ l,z≠.tuple l) (hn:(cellsOf z).length=n) (m:Nat):Each n (repG [ofV z] m):=fun x hx=>by
 have:=mem_repG hx
 rw [List.mem_singleton] at this
 subst this
 obtain ⟨h1,h2⟩:=zero_cells (H:=⟨0,.leaf⟩) (S:=fun _=>False) hp ht
 exact ⟨by rw [h1.length,hn],h2⟩
end
section
variable {C:TC} {F:Nat→Prop} {lo tlo base:Nat} {ends:Bool} {H:AH} {r:List Nat} {T:TH} {Oh os:List Nat}
theorem litT_run {P:Program} {t:TypeId} {len:Nat} {parts:List (Nat×Operand)} {xs:List TV} {β:Type} {k:TV→Option β} {ρ:β} (h:litT P t len (parts.map (·.1)) xs k=some ρ) (hl:xs.length=parts.length) :
  ∃ v,k v=some ρ∧∀ {E:Env} {C:TC} {F:Nat→Prop} {lo:Nat} {H:AH} {r Oh os:List Nat} {ends:Bool} {ys:List Value} {o:List Nat},Good C F lo tlo H r T Oh os→VRL H (Sof F r Oh os) r xs ys o→evxs P E (parts.map (·.2))=some ys →
   ∃ v' H',(∀ {γ:Type} (k':Value→AH→Option γ),opBuildSlice P E H t len parts k'=k' v' H')∧Res C F lo tlo base ends H r T Oh os v T v' H':=by
 obtain ⟨e,he,hA⟩:=Zac h
 obtain ⟨i,hi,hB⟩:=Zac hA
 obtain ⟨z,hz,hC⟩:=Zac hB
 obtain ⟨h1,hD⟩:=Zan hC
 obtain ⟨h2,hE⟩:=Zan hD
 obtain ⟨h3,hF⟩:=Zan hE
 obtain ⟨es,h4,h5⟩:=Zau hF
 obtain ⟨z1,z2,z3⟩:=zeroT_eq hz
 have h3':=Zay h3
 rw [lenN_eq] at h3'
 refine ⟨_,h5,fun {E C F lo H r Oh os ends ys o} hG hx he'=>?_⟩
 obtain ⟨zr1,zr2⟩:=zeros_rel (H:=H) (S:=Sof F r Oh os) z2 z3 len
 obtain ⟨qs,ds',r1,r2,r3,r4,r5⟩:=elemsT_run h4 hl he' hx (zeros_each z2 z3 h3' len) (by rw [zr2];exact zr1)
 rw [repG_length] at r5
 have r5:es.length=len:=by simpa using r5
 refine ⟨Zck H len len,H.push (.cells (Nat.mul len i.size) ds' e),fun k'=>?_,?_⟩
 ·show Zaf (tyElem P t) _=_
  rw [he,Zai,hi,Zai,z1,Zai,h1,Zcv,h2,Zcv,h3,Zcv,r1,Zai,r2];rfl
 ·refine Res.row hG (fun S r' st=>?_) (.inl (.mk_row (by intro h;cases h)))
  have:=VR.own (H:=H.push (.cells (Nat.mul len i.size) ds' e)) (S:=S) (r:=r') (c:=.full) (n:=i.size) (es:=es) (i:=H.next) (cs:=ds') (e:=e) (by intro h;cases h) (by rw [r5];rwa [Nat.blt_eq] at h1) (by simp)
   (by rw [AH.get_push,if_pos rfl,r5];rfl) r4 (r3.mono st)
  rw [r5] at this;exact this
theorem makeT_run {P:Program} {t:TypeId} {len cap:TV} {β:Type} {k:TV→TH→Option β} {ρ:β} (h:makeT P T t len cap k=some ρ) :
  ∃ v T',k v T'=some ρ∧∀ {C:TC} {F:Nat→Prop} {lo:Nat} {H:AH} {r Oh os:List Nat} {ends:Bool} {l' c':Value} {o o':List Nat},Good C F lo tlo H r T Oh os→VR H (Sof F r Oh os) r len l' o→VR H (Sof F r Oh os) r cap c' o'→base≤T.length →
   ∃ v' H',(∀ {γ:Type} (k':Value→AH→Option γ),opMakeSlice P H t l' c' k'=k' v' H')∧Res C F lo tlo base ends H r T Oh os v T' v' H':=by
 obtain ⟨e,he,hA⟩:=Zac h
 obtain ⟨i,hi,hB⟩:=Zac hA
 obtain ⟨z,hz,hC⟩:=Zac hB
 obtain ⟨h1,hD⟩:=Zan hC
 obtain ⟨l,hl,hE⟩:=Zac hD
 obtain ⟨c,hc,hF⟩:=Zac hE
 obtain ⟨p,hp,hk⟩:=Zau hF
 obtain ⟨z1,z2,z3⟩:=zeroT_eq hz
 refine ⟨_,_,hk,fun {C F lo H r Oh os ends l' c' o o'} hG hl' hc' hb=>?_⟩
 have e1:=toV_eq hl hl'
 have e2:=toV_eq hc hc'
 subst e1 e2
 refine ⟨Zck H p.1 p.2,H.push (.cells (Nat.mul p.2 i.size) (zeros (cellsOf z) p.2) e),fun k'=>?_,?_⟩
 ·show Zaf (tyElem P t) _=_
  rw [he,Zai,hi,Zai,z1,Zai,h1,Zcv,hp];rfl
 ·rw [Zat]
  obtain ⟨zr1,_⟩:=zeros_rel (H:=H) (S:=Sof F r Oh os) z2 z3 p.2
  obtain ⟨_,zc⟩:=zero_cells (H:=H) (S:=Sof F r Oh os) z2 z3
  have h1':=Zay h1
  rw [lenN_eq] at h1'
  refine Res.box (w:=[]) hG hb (fun i=>by simp) (fun S r' st _=>.cells (by rw [AH.get_push,if_pos rfl]) (by rw [length_zeros,h1'];rfl) (NBL.of fun c hc=>(Zcq (zc c (mem_repG hc))).1) (fun c hc=>(Zcq (zc c (mem_repG hc))).2) (zr1.mono st).vrl) (fun S r' hr=>.vec hr) (.inl (.vec _ _ _ _ _ _))
end
section
variable {H:AH} {S:Nat→Prop} {r:List Nat}
theorem shiftT_run {x v:TV} {d:Nat} (h:Zar x d=some v) {y:Value} {o:List Nat} (hx:VR H S r x y o):∃ y',evShift y d=some y'∧VR H S r v y' []∧OV v∧o=[]:=by
 unfold Zar at h
 split at h
 ·cases h
  obtain ⟨i,hr,rfl,e⟩:=ptr_inv hx
  exact ⟨_,rfl,.ptr hr,.inl (.ptr _ _),e⟩
 ·rename_i q cs off
  cases h
  cases hx with
  |k h=>cases h
  | @elS _ i o _ s ds e hi hl hg hs hb hc h=>exact ⟨.pointer (some ⟨i,o+(off+d),none⟩),by show some (Value.pointer (some ⟨i,o+off+d,none⟩))=_;rw [Nat.add_assoc],.elS hi hl hg hs hb hc h,.inl .el,rfl⟩
  | @elB _ i o _ s ds e hi hl hg hs hb hc h=>exact ⟨.pointer (some ⟨i,o+(off+d),none⟩),by show some (Value.pointer (some ⟨i,o+off+d,none⟩))=_;rw [Nat.add_assoc],.elB hi hl hg hs hb hc h,.inr trivial,rfl⟩
 ·cases h
theorem partT_run {ag:Bool} {n off:Nat} {x v:TV} (h:partT ag n x off=some v) {y:Value} (hx:VR H S r x y []) (hv:OV x):∃ y',evPart ag n y off=some y'∧VR H S r v y' []∧OV v:=by
 unfold partT at h
 split at h
 ·rename_i cs
  obtain ⟨ds,rfl,h1⟩:=agg_inv hx
  have hn:NB (.agg cs):=hv.elim id fun h=>h.elim
  have hl:=h1.length
  cases hn with
  |agg nb hc=>
   cases ag with
   |true=>
    obtain ⟨h2,h3⟩:=Zan h
    cases h3
    have h2:=Zaw h2
    rw [Zat] at h2
    have h2:off+n≤cs.length:=h2
    obtain ⟨a,ox,c,k1,k2,_⟩:=h1.seg off n h2
    have hox:ox=[]:=by
     have:=congrArg List.length k1
     simp at this
     exact List.length_eq_zero_iff.1 (by omega)
    subst hox
    refine ⟨.agg ⟨seg ds.toList off n⟩,?_,?_,?_⟩
    ·show Zap (Nat.ble (off+n) (lenN ds.toList)) _=_
     rw [lenN_eq,Nat.ble_eq_true_of_le (by omega)];rfl
    ·refine .agg ?_
     show VRL H S r (segG cs off n) (seg ds.toList off n) []
     rw [segG_eq,seg_eq];exact k2
    ·rw [segG_eq]
     exact .inl (.agg (NBL.of fun c hc'=>nb.mem c (List.mem_of_mem_drop (List.mem_of_mem_take hc'))) fun c hc'=>hc c (List.mem_of_mem_drop (List.mem_of_mem_take hc')))
   |false=>
    have h:nth cs off=some v:=h
    rw [Zcb] at h
    obtain ⟨y,a,ox,c,k1,k2,k3,_⟩:=h1.get h
    have hox:ox=[]:=by
     have:=congrArg List.length k2
     simp at this
     exact List.length_eq_zero_iff.1 (by omega)
    subst hox
    exact ⟨y,by show nth ds.toList off=_;rw [Zcb];exact k1,k3,.inl (nb.mem v (List.mem_of_getElem? h))⟩
 ·cases h
theorem row_inv2 {c:Cp} {q:Lf} {n:Nat} {es:List TV} {y:Value} {o:List Nat} (h:VR H S r (.row c q n es) y o) (ho:∀ j∈o,j ∉ r) (hc:c≠.nil) :
  ∃ i off cap s cs e,y=.slice (some ⟨i,off,none⟩) es.length cap∧capOk c cap es.length n∧i < H.next∧H.get i=some (.cells s cs e)∧cs.length=s∧off+es.length * n≤s∧Each n es∧KRL H S (Zbl es) ((cs.drop off).take (es.length * n)) ∧
   (match elQ q with |.set=>S i |_=>i ∉ r):=by
 cases h with
 |k h=>cases h with
  |nil=>exact absurd rfl hc
  |row h1 h2 h3 h4 h5 h6 h7 h8=>exact ⟨_,_,_,_,_,_,rfl,h1,h3,h4,h5,h6,h7,h8,h2⟩
 |bor h1 h2 h3 h4 h5 h6 h7 h8=>exact ⟨_,_,_,_,_,_,rfl,h1,h3,h4,h5,h6,h7,h8,h2⟩
 |own h1 h2 h3 h4 h5 h6=>
  have h7:=h6.length
  rw [flatL_length h5] at h7
  exact ⟨_,0,_,_,_,_,rfl,capOk_thaw h1 h2,h3,h4,h7.symm,by omega,h5,by rw [List.drop_zero,List.take_of_length_le (by omega)];exact h6,ho _ (List.mem_singleton.2 rfl)⟩
theorem row_mk {c:Cp} {q:Lf} {n:Nat} {es:List TV} {i off cap s:Nat} {cs:List Value} {e:TypeId} (hc:capOk c cap es.length n) (hl:i < H.next) (hg:H.get i=some (.cells s cs e)) (hs:cs.length=s) (hb:off+es.length * n≤s) (he:Each n es)
  (h:KRL H S (Zbl es) ((cs.drop off).take (es.length * n))) (hq:match elQ q with |.set=>S i |_=>i ∉ r):VR H S r (.row c (elQ q) n es) (.slice (some ⟨i,off,none⟩) es.length cap) []∧OV (.row c (elQ q) n es):=by
 cases q with
 |set=>exact ⟨.k (.row hc hq hl hg hs hb he h),.inl (.mk_row (by intro h;cases h))⟩
 |bor=>exact ⟨.bor hc hq hl hg hs hb he h,.inr trivial⟩
 |own e=>exact ⟨.bor hc hq hl hg hs hb he h,.inr trivial⟩
theorem idxSlT_run {n:Nat} {x ix v:TV} (h:Zbn n x ix=some v) {y iy:Value} {o o':List Nat} (hx:VR H S r x y o) (ho:∀ j∈o,j ∉ r) (hi:VR H S r ix iy o'):∃ y',evIdxSlice n y iy=some y'∧VR H S r v y' []∧OV v:=by
 obtain ⟨j,hj,hA⟩:=Zac h
 obtain ⟨a,rfl,ha⟩:=asNatT_inv hj
 obtain ⟨rfl,_⟩:=v_inv hi
 split at hA
 ·rename_i c q m es
  obtain ⟨e,h1,hB⟩:=Zac hA
  obtain ⟨h2,h3⟩:=Zan hB
  cases h3
  have h2:=Zay h2
  subst h2
  rw [Zcb] at h1
  have hjl:=lt_of_get h1
  have hc:c≠.nil:=by
   intro hc
   subst hc
   rcases row_inv hx with ⟨_,_,_,rfl,_⟩ |⟨h,_⟩
   ·simp at hjl
   ·exact h rfl
  obtain ⟨i,off,cap,s,cs,e',rfl,k1,k2,k3,k4,k5,k6,k7,k8⟩:=row_inv2 hx ho hc
  have hcl:=(k6 e (List.mem_of_getElem? h1)).1
  have hfit:j * m+m≤es.length * m:=by
   have:=Nat.mul_le_mul_right m (show j+1≤es.length by omega)
   rw [Nat.succ_mul] at this;exact this
  have hk:KRL H S (Zav e) ((cs.drop (off+j * m)).take (Zav e).length):=by
   have:=(k7.drop (j * m)).take m
   rw [flatL_at k6 h1,List.drop_take,List.take_take,Nat.min_eq_left (by omega),List.drop_drop] at this
   rw [hcl];exact this
  refine ⟨.pointer (some ⟨i,off+j * m+0,none⟩),?_,?_⟩
  ·show Zaf (asNat _) _=_
   rw [ha,Zai]
   show Zap (Nat.blt j es.length) _=_
   rw [show Nat.blt j es.length=true from by rw [Nat.blt_eq];exact hjl];rfl
  ·cases q with
   |set=>exact ⟨.elS k8 k2 k3 k4 (by omega) (k6 e (List.mem_of_getElem? h1)).2 hk,.inl .el⟩
   |bor=>exact ⟨.elB k8 k2 k3 k4 (by omega) (k6 e (List.mem_of_getElem? h1)).2 hk,.inr trivial⟩
   |own e2=>exact ⟨.elB k8 k2 k3 k4 (by omega) (k6 e (List.mem_of_getElem? h1)).2 hk,.inr trivial⟩
 ·rename_i b off len cap m ag
  obtain ⟨h2,hB⟩:=Zan hA
  obtain ⟨h3,h4⟩:=Zan hB
  cases h4
  have h2:=Zay h2
  subst h2
  obtain ⟨i,hr,rfl,_⟩:=vec_inv hx
  refine ⟨.pointer (some ⟨i,off+j * m,none⟩),?_,.ptr hr,.inl (.ptr _ _)⟩
  show Zaf (asNat _) _=_
  rw [ha,Zai]
  show Zap (Nat.blt j len) _=_
  rw [h3];rfl
 ·cases hA
theorem idxArrT_run {len n:Nat} {x ix v:TV} (h:Zbj len n x ix=some v) {y iy:Value} {o o':List Nat} (hx:VR H S r x y o) (hi:VR H S r ix iy o'):∃ y',evIdxArr len n y iy=some y'∧VR H S r v y' []∧OV v:=by
 obtain ⟨j,hj,hA⟩:=Zac h
 obtain ⟨a,rfl,ha⟩:=asNatT_inv hj
 obtain ⟨rfl,_⟩:=v_inv hi
 obtain ⟨h1,h2⟩:=Zan hA
 obtain ⟨y',h3,h4,h5,_⟩:=shiftT_run h2 hx
 refine ⟨y',?_,h4,h5⟩
 unfold evIdxArr
 rw [ha,Zai]
 have h3:withPtr y (fun i off=>some (.pointer (some ⟨i,Nat.add off (Nat.mul j n),none⟩)))=some y':=h3
 obtain ⟨i,off,rfl,h6⟩:=withPtr_eq h3
 show Zap (Nat.blt j len) _=_
 rw [h1];exact h6
inductive BR (H:AH) (S:Nat→Prop) (r:List Nat):Option TV→Option Value→Prop where
 |absent:BR H S r none none
 |given {x:TV} {y:Value} {o:List Nat} (h:VR H S r x y o):BR H S r (some x) (some y)
theorem BR.bnd {x:Option TV} {y:Option Value} (h:BR H S r x y) {d n:Nat} (hn:bndT x d=some n):bnd y d=some n:=by
 cases h with
 |absent=>exact hn
 |given h=>
  obtain ⟨a,rfl,ha⟩:=asNatT_inv (show asNatT _=some n from hn)
  obtain ⟨rfl,_⟩:=v_inv h
  exact ha
theorem BR.isNone {x:Option TV} {y:Option Value} (h:BR H S r x y):y.isNone=x.isNone∧y.isSome=x.isSome:=by cases h <;> exact ⟨rfl,rfl⟩
theorem cutsT_run {len cap:Nat} {lo hi mx:Option TV} {p:Nat×Nat×Nat} (h:cutsT len cap lo hi mx=some p) {lo' hi' mx':Option Value} (hl:BR H S r lo lo') (hh:BR H S r hi hi') (hm:BR H S r mx mx'):cutBounds len cap lo' hi' mx'=some p:=by
 obtain ⟨l,h1,hA⟩:=Zac h
 obtain ⟨h0,h2,hB⟩:=Zac hA
 obtain ⟨m,h3,hC⟩:=Zac hB
 unfold cutBounds
 rw [hl.bnd h1,Zai,hh.bnd h2,Zai,hm.bnd h3,Zai,hm.isNone.1,hh.isNone.2]
 exact hC
theorem cutT_run {n:Nat} {x v:TV} {lo hi mx:Option TV} (h:cutT n x lo hi mx=some v) {y:Value} {o:List Nat} {lo' hi' mx':Option Value} (hx:VR H S r x y o) (ho:∀ j∈o,j ∉ r) (hl:BR H S r lo lo') (hh:BR H S r hi hi') (hm:BR H S r mx mx') :
  ∃ y',evCut n y lo' hi' mx'=some y'∧VR H S r v y' []∧OV v:=by
 unfold cutT at h
 split at h
 ·rename_i c q m es
  cases hc:isNilC c with
  |true=>
   rw [hc] at h
   obtain ⟨p,h1,h2⟩:=Zac (show Zaf (cutsT 0 0 lo hi mx) (fun _=>some nilT)=some v from h)
   cases h2
   have hcn:c=.nil:=by cases c <;> first |rfl |cases hc
   subst hcn
   rcases row_inv hx with ⟨_,_,_,_,rfl,_⟩ |⟨h,_⟩
   ·refine ⟨.slice none 0 0,?_,.k .nil,.inl (.mk_row (by intro h;cases h))⟩
    show Zaf (cutBounds 0 0 lo' hi' mx') _=_
    rw [cutsT_run h1 hl hh hm];rfl
   ·exact absurd rfl h
  |false=>
   rw [hc] at h
   have hcn:c≠.nil:=by intro e;subst e;cases hc
   obtain ⟨h0,hA⟩:=Zan (show Zap (Nat.beq m n) _=some v from h)
   have h0:=Zay h0
   subst h0
   obtain ⟨l,h1,hB⟩:=Zac hA
   obtain ⟨h',h2,hC⟩:=Zac hB
   obtain ⟨h3,hD⟩:=Zan hC
   obtain ⟨h4,hE⟩:=Zan hD
   obtain ⟨h5,hF⟩:=Zan hE
   have h3:=Zaw h3
   have h4:=Zaw h4
   rw [Zat] at h2 h4 h5
   rw [Nat.blt_eq] at h5
   obtain ⟨i,off,cap,s,cs,e',rfl,k1,k2,k3,k4,k5,k6,k7,k8⟩:=row_inv2 hx ho hcn
   obtain ⟨es',hes⟩:∃ es',es'=(es.drop l).take (h' - l):=⟨_,rfl⟩
   have hel:es'.length=h' - l:=by rw [hes,List.length_take,List.length_drop];omega
   have he':Each m es':=fun x hx=>k6 x (by rw [hes] at hx;exact List.mem_of_mem_drop (List.mem_of_mem_take hx))
   have hmul:l * m+(h' - l) * m=h' * m:=by rw [← Nat.add_mul];congr 1;omega
   have hle:h' * m≤es.length * m:=Nat.mul_le_mul_right _ h4
   have hk:∀ off',(off'=off+l * m∨h'=l)→off'≤off+l * m→KRL H S (Zbl es') ((cs.drop off').take (es'.length * m)):=by
    intro off' hoff _
    rcases hoff with rfl |e2
    ·have:=(k7.drop (l * m)).take ((h' - l) * m)
     rw [flatL_drop l k6,flatL_take (h' - l) (fun x hx=>k6 x (List.mem_of_mem_drop hx)),← hes,List.drop_take,List.take_take,Nat.min_eq_left (by omega),List.drop_drop] at this
     rw [hel];exact this
    ·have:es'=[]:=List.length_eq_zero_iff.1 (by omega)
     rw [this];simp [flatL_nil];exact .nil
   have known:∀ (c':Cp) (mx2:Option Value) (m' cap2:Nat),cond (Nat.ble UNK cap) es.length cap=cap2→cond (Nat.ble UNK cap) mx2.isNone false=false→bnd mx2 cap2=some m'→cond mx2.isNone true hi'.isSome=true→h'≤m'→m'≤cap2→m' < UNK→capOk c' (m' - l) (h' - l) m →
     ∃ y',evCut m (.slice (some ⟨i,off,none⟩) es.length cap) lo' hi' mx2=some y'∧VR H S r (.row c' (elQ q) m es') y' []∧OV (.row c' (elQ q) m es'):=by
    intro c' mx2 m' cap2 e1 e2 e3 e4 e5 e6 e7 e8
    have hcb:cutBounds es.length cap2 lo' hi' mx2=some (l,h',m'):=by
     unfold cutBounds
     rw [hl.bnd h1,Zai,hh.bnd h2,Zai,e3,Zai,e4,Zcv,Nat.ble_eq_true_of_le h3,Zcv,Nat.ble_eq_true_of_le e5,Zcv,Nat.ble_eq_true_of_le e6,Zcv,show Nat.blt m' UNK=true from by rw [Nat.blt_eq];exact e7];rfl
    obtain ⟨off',hoff⟩:∃ off',off'=cond (Nat.beq m' l) off (off+l * m):=⟨_,rfl⟩
    have ho2:(off'=off+l * m∨h'=l)∧off'≤off+l * m:=by
     cases hb:Nat.beq m' l with
     |true=>
      have:=Zay hb
      rw [hb] at hoff
      have hoff:off'=off:=hoff
      exact ⟨.inr (by omega),by omega⟩
     |false=>rw [hb] at hoff;exact ⟨.inl hoff,Nat.le_of_eq hoff⟩
    have hrow:=row_mk (r:=r) (q:=q) (c:=c') (n:=m) (es:=es') (i:=i) (off:=off') (cap:=m' - l) (by rw [hel];exact e8) k2 k3 k4 (by rw [hel];have:=ho2.2;omega) he' (hk off' ho2.1 ho2.2) k8
    rw [hel] at hrow
    refine ⟨_,?_,hrow⟩
    show cond (cond (Nat.ble UNK cap) mx2.isNone false) _ (Zaf (cutBounds es.length (cond (Nat.ble UNK cap) es.length cap) lo' hi' mx2) fun b=>some (Value.slice (some ⟨i,cond (Nat.beq b.2.2 b.1) off (Nat.add off (Nat.mul b.1 m)),none⟩) (Nat.sub b.2.1 b.1) (Nat.sub b.2.2 b.1)))=_
    rw [e2,e1,hcb]
    show some (Value.slice (some ⟨i,cond (Nat.beq m' l) off (off+l * m),none⟩) (h' - l) (m' - l))=_
    rw [hoff]
   have hsub:Nat.sub h' l=h' - l:=rfl
   cases hmn:mx.isNone with
   |true=>
    rw [hmn] at hF
    have hF:some (TV.row (cond (isFull c) (cond (Nat.beq h' (Zag es)) .full .opn) .opn) (elQ q) m (segG es l (h' - l)))=some v:=hF
    cases hF
    rw [segG_eq,← hes,Zat]
    have hmx:mx'=none:=by
     have:=hm.isNone.1
     rw [hmn] at this
     cases mx' with
     |none=>rfl
     |some=>cases this
    subst hmx
    cases c with
    |nil=>exact absurd rfl hcn
    |full=>
     obtain ⟨e1,e2⟩:cap=es.length∧es.length < UNK:=k1
     subst e1
     have hU:Nat.ble UNK es.length=false:=by
      cases hb:Nat.ble UNK es.length with
      |false=>rfl
      |true=>have:=Zaw hb;omega
     refine known _ none es.length es.length (by rw [hU];rfl) (by rw [hU];rfl) rfl rfl h4 (Nat.le_refl _) e2 ?_
     show capOk (cond (Nat.beq h' es.length) .full .opn) _ _ _
     cases hb:Nat.beq h' es.length with
     |true=>have:=Zay hb;exact ⟨by omega,by omega⟩
     |false=>exact .inl ⟨by omega,by omega⟩
    |opn=>
     rcases (show (es.length≤cap∧cap < UNK)∨(cap=UNK+m∧es.length < UNK) from k1) with ⟨e1,e2⟩ |⟨e1,_⟩
     ·have hU:Nat.ble UNK cap=false:=by
       cases hb:Nat.ble UNK cap with
       |false=>rfl
       |true=>have:=Zaw hb;omega
      exact known .opn none cap cap (by rw [hU];rfl) (by rw [hU];rfl) rfl rfl (by omega) (Nat.le_refl _) e2 (.inl ⟨by omega,by omega⟩)
     ·have hU:Nat.ble UNK cap=true:=Nat.ble_eq_true_of_le (by omega)
      have hrow:=row_mk (r:=r) (q:=q) (c:=.opn) (n:=m) (es:=es') (i:=i) (off:=off+l * m) (cap:=cap) (.inr ⟨e1,by omega⟩) k2 k3 k4 (by rw [hel];omega) he' (hk _ (.inl rfl) (Nat.le_refl _)) k8
      rw [hel] at hrow
      refine ⟨_,?_,hrow⟩
      show cond (cond (Nat.ble UNK cap) true false) (Zaf (bnd lo' 0) fun l=>Zaf (bnd hi' es.length) fun h=>Zap (Nat.ble l h) (Zap (Nat.ble h es.length) (Zap (Nat.beq cap (Nat.add UNK m)) (some (Value.slice (some ⟨i,Nat.add off (Nat.mul l m),none⟩) (Nat.sub h l) cap))))) _=_
      rw [hU]
      show Zaf (bnd lo' 0) _=_
      rw [hl.bnd h1,Zai,hh.bnd h2,Zai,Nat.ble_eq_true_of_le h3,Zcv,Nat.ble_eq_true_of_le h4,Zcv,beqt (show cap=Nat.add UNK m from e1)];rfl
   |false=>
    rw [hmn] at hF
    obtain ⟨m',h6,hG⟩:=Zac (show Zaf (bndT mx 0) _=some v from hF)
    obtain ⟨h7,hH⟩:=Zan hG
    obtain ⟨h8,hI⟩:=Zan hH
    obtain ⟨h9,hJ⟩:=Zan hI
    have h8:=Zaw h8
    have h9:=Zaw h9
    rw [Zat] at h9
    have hJ:some (TV.row (cond (Nat.beq m' h') .full .opn) (elQ q) m (segG es l (h' - l)))=some v:=hJ
    cases hJ
    rw [segG_eq,← hes]
    obtain ⟨mz,rfl⟩:∃ mz,mx'=some mz:=by
     have:=hm.isNone.1
     rw [hmn] at this
     cases mx' with
     |none=>cases this
     |some z=>exact ⟨z,rfl⟩
    have h6':∀ d,bnd (some mz) d=some m':=fun d=>by
     have:=hm.bnd (d:=0) h6
     exact this
    refine known _ (some mz) m' (cond (Nat.ble UNK cap) es.length cap) rfl (by cases Nat.ble UNK cap <;> rfl) (h6' _) (by rw [hh.isNone.2];exact h7) h8 ?_ (by omega) ?_
    ·cases hU:Nat.ble UNK cap with
     |true=>exact h9
     |false=>
      show m'≤cap
      have hU:=lt_of_ble' hU
      cases c with
      |nil=>exact absurd rfl hcn
      |full=>obtain ⟨e1,e2⟩:cap=es.length∧es.length < UNK:=k1;omega
      |opn=>
       rcases (show (es.length≤cap∧cap < UNK)∨(cap=UNK+m∧es.length < UNK) from k1) with ⟨e1,e2⟩ |⟨e1,_⟩ <;> omega
    ·cases hb:Nat.beq m' h' with
     |true=>have:=Zay hb;exact ⟨by omega,by omega⟩
     |false=>exact .inl ⟨by omega,by omega⟩
 ·rename_i b off len cap sz ag
  obtain ⟨h0,hA⟩:=Zan h
  have h0:=Zay h0
  subst h0
  obtain ⟨i,hr,rfl,_⟩:=vec_inv hx
  rw [show mx.isNone=mx'.isNone from hm.isNone.1.symm] at hA
  cases hU:cond (Nat.ble UNK cap) mx'.isNone false with
  |true=>
   rw [hU] at hA
   obtain ⟨l,h1,hB⟩:=Zac (show Zaf (bndT lo 0) _=some v from hA)
   obtain ⟨h',h2,hC⟩:=Zac hB
   obtain ⟨h3,hD⟩:=Zan hC
   obtain ⟨h4,hE⟩:=Zan hD
   obtain ⟨h5,hF⟩:=Zan hE
   cases hF
   refine ⟨.slice (some ⟨i,off+l * sz,none⟩) (h' - l) cap,?_,.vec hr,.inl (.vec _ _ _ _ _ _)⟩
   show cond (cond (Nat.ble UNK cap) mx'.isNone false) (Zaf (bnd lo' 0) fun l=>Zaf (bnd hi' len) fun h=>Zap (Nat.ble l h) (Zap (Nat.ble h len) (Zap (Nat.beq cap (Nat.add UNK sz)) (some (Value.slice (some ⟨i,Nat.add off (Nat.mul l sz),none⟩) (Nat.sub h l) cap))))) _=_
   rw [hU]
   show Zaf (bnd lo' 0) _=_
   rw [hl.bnd h1,Zai,hh.bnd h2,Zai,h3,Zcv,h4,Zcv,h5];rfl
  |false=>
   rw [hU] at hA
   obtain ⟨p,h1,h2⟩:=Zac (show Zaf (cutsT len (cond (Nat.ble UNK cap) len cap) lo hi mx) _=some v from hA)
   cases h2
   refine ⟨.slice (some ⟨i,cond (Nat.beq p.2.2 p.1) off (off+p.1 * sz),none⟩) (p.2.1 - p.1) (p.2.2 - p.1),?_,.vec hr,.inl (.vec _ _ _ _ _ _)⟩
   show cond (cond (Nat.ble UNK cap) mx'.isNone false) _ (Zaf (cutBounds len (cond (Nat.ble UNK cap) len cap) lo' hi' mx') fun b=>some (Value.slice (some ⟨i,cond (Nat.beq b.2.2 b.1) off (Nat.add off (Nat.mul b.1 sz)),none⟩) (Nat.sub b.2.1 b.1) (Nat.sub b.2.2 b.1)))=_
   rw [hU,cutsT_run h1 hl hh hm];rfl
 ·cases h
end
end Go.Ev
namespace Go.Ev
section
variable {H:AH} {S:Nat→Prop} {r:List Nat}
theorem grpT_run {ag:Bool} {n:Nat}:∀ {len:Nat} {cs es:List TV},grpT ag n len cs=some es→(∀ c∈cs.take (len * n),Zbw c=true)→len * n≤cs.length∧es.length=len∧Zbl es=cs.take (len * n)∧Each n es
 |0,cs,es,h,_=>by cases h;exact ⟨by omega,rfl,by simp [flatL_nil],fun x hx=>by cases hx⟩
 |len+1,cs,es,h,hc=>by
  obtain ⟨x,h1,hA⟩:=Zac (show Zaf (cellT ag n cs) (fun x=>Zaf (grpT ag n len (dropG cs n)) fun l=>some (x::l))=some es from h)
  obtain ⟨l,h2,h3⟩:=Zac hA
  cases h3
  rw [dropG_eq] at h2
  rw [Nat.succ_mul] at hc ⊢
  have hx:n≤cs.length∧Zav x=cs.take n:=by
   cases ag with
   |true=>
    obtain ⟨h4,h5⟩:=Zan (show Zap (Nat.ble n (Zag cs)) (some (TV.agg (Zdg cs n)))=some x from h1)
    cases h5
    have h4:=Zaw h4
    rw [Zat] at h4
    exact ⟨h4,by show Zdg cs n=_;rw [Zct]⟩
   |false=>
    obtain ⟨h4,h5⟩:=Zan (show Zap (Nat.beq n 1) (nth cs 0)=some x from h1)
    have h4:=Zay h4
    subst h4
    rw [Zcb] at h5
    have hl:=lt_of_get h5
    cases cs with
    |nil=>simp at hl
    |cons c cs=>
     simp at h5
     subst h5
     have hcc:Zbw c=true:=hc c (by
      rw [show len * 1+1=(len+0)+1 by omega,List.take_succ_cons];exact List.mem_cons_self ..)
     refine ⟨by simp,?_⟩
     cases c with
     |agg=>cases hcc
     |_=>rfl
  obtain ⟨q1,q2,q3,q4⟩:=grpT_run h2 (fun c hc'=>hc c (by
   have e:(cs.drop n).take (len * n)=(cs.take (len * n+n)).drop n:=by rw [List.drop_take,Nat.add_sub_cancel]
   rw [e] at hc'
   exact List.mem_of_mem_drop hc'))
  rw [List.length_drop] at q1
  refine ⟨by omega,by rw [List.length_cons,q2],?_,fun y hy=>?_⟩
  ·rw [flatL_cons,hx.2,q3,Nat.add_comm (len * n) n,List.take_add]
  ·rcases List.mem_cons.1 hy with rfl |hy
   ·rw [hx.2]
    exact ⟨by rw [List.length_take];omega,fun c hc'=>hc c (by
     have:cs.take n=(cs.take (len * n+n)).take n:=by rw [List.take_take,Nat.min_eq_left (by omega)]
     rw [this] at hc'
     exact List.mem_of_mem_take hc')⟩
   ·exact q4 y hy
theorem cutArrT_run {ag:Bool} {n len:Nat} {x v:TV} {lo hi mx:Option TV} (h:cutArrT ag n len x lo hi mx=some v) {y:Value} {o:List Nat} {lo' hi' mx':Option Value} (hx:VR H S r x y o) (hl:BR H S r lo lo') (hh:BR H S r hi hi') (hm:BR H S r mx mx') :
  ∃ y',evCutArr n len y lo' hi' mx'=some y'∧VR H S r v y' []∧OV v:=by
 obtain ⟨p,h1,hA⟩:=Zac h
 have hcb:=cutsT_run h1 hl hh hm
 have ev:∀ i off,evCutArr n len (.pointer (some ⟨i,off,none⟩)) lo' hi' mx'=some (.slice (some ⟨i,cond (Nat.beq p.2.2 p.1) off (off+p.1 * n),none⟩) (p.2.1 - p.1) (p.2.2 - p.1)):=fun i off=>by
  show Zaf (cutBounds len len lo' hi' mx') _=_
  rw [hcb];rfl
 split at hA
 ·cases hA
  obtain ⟨i,hr,rfl,_⟩:=ptr_inv hx
  exact ⟨_,ev i _,.vec hr,.inl (.vec _ _ _ _ _ _)⟩
 ·rename_i q cs off
  obtain ⟨h2,hB⟩:=Zan hA
  obtain ⟨h3,hC⟩:=Zan hB
  obtain ⟨es,h4,h5⟩:=Zac hC
  cases h5
  rw [Nat.blt_eq] at h2
  have h3:=Zaw h3
  rw [Zat] at h3
  have h3:off+len * n≤cs.length:=h3
  obtain ⟨b1,b2,b3,b4,b5,b6,b7,b8⟩:=cutBounds_eq hcb
  rw [dropG_eq] at h4
  have elem:∃ i o' s ds e,y=.pointer (some ⟨i,o'+off,none⟩)∧i < H.next∧H.get i=some (.cells s ds e)∧ds.length=s∧o'+cs.length≤s∧(∀ c∈cs,Zbw c=true)∧KRL H S cs ((ds.drop o').take cs.length)∧(match elQ q with |.set=>S i |_=>i ∉ r):=by
   cases hx with
   |k h=>cases h
   |elS hi hl hg hs hb hc h=>exact ⟨_,_,_,_,_,rfl,hl,hg,hs,hb,hc,h,hi⟩
   |elB hi hl hg hs hb hc h=>exact ⟨_,_,_,_,_,rfl,hl,hg,hs,hb,hc,h,hi⟩
  obtain ⟨i,o',s,ds,e,rfl,k1,k2,k3,k4,k5,k6,k7⟩:=elem
  obtain ⟨g1,g2,g3,g4⟩:=grpT_run h4 fun c hc=>k5 c (List.mem_of_mem_drop (List.mem_of_mem_take hc))
  have hne:Nat.beq p.2.2 p.1=false:=beqf (by omega)
  have hev:=ev i (o'+off)
  rw [hne] at hev
  have hlen:es.length=p.2.1 - p.1:=g2
  have hmul:p.1 * n+(p.2.1 - p.1) * n=p.2.1 * n:=by rw [← Nat.add_mul];congr 1;omega
  have hle:p.2.1 * n≤len * n:=Nat.mul_le_mul_right _ (by omega)
  have hoff:(cs.drop (off+p.1 * n)).take ((p.2.1 - p.1) * n)=Zbl es:=g3.symm
  have hk:KRL H S (Zbl es) ((ds.drop (o'+off+p.1 * n)).take (es.length * n)):=by
   have:=(k6.drop (off+p.1 * n)).take ((p.2.1 - p.1) * n)
   rw [hoff,List.drop_take,List.take_take,Nat.min_eq_left (by omega),List.drop_drop,← Nat.add_assoc] at this
   rw [hlen];exact this
  have hrow:=row_mk (r:=r) (q:=q) (c:=cond (Nat.beq p.2.2 p.2.1) .full .opn) (n:=n) (es:=es) (i:=i) (off:=o'+off+p.1 * n) (cap:=p.2.2 - p.1) (by
   rw [hlen]
   cases hb:Nat.beq p.2.2 p.2.1 with
   |true=>have:=Zay hb;exact ⟨by omega,by omega⟩
   |false=>exact .inl ⟨by omega,by omega⟩) k1 k2 k3 (by rw [hlen];omega) g4 hk k7
  rw [hlen] at hrow
  exact ⟨_,hev,hrow⟩
 ·cases hA
theorem findT_run {k:Value}:∀ {es:List (Value×TV)} {fs:List MapEntry} {i:Nat} {q:Option (Nat×TV)},findT k es i=some q→MRel H S es fs →
  ∃ q',evFind k fs i=some q'∧(match q,q' with |none,none=>True |some p,some p'=>p.1=p'.1∧i≤p.1∧p.1 - i < es.length∧KR H S p.2 p'.2 |_,_=>False)
 |[],_,i,q,h,.nil=>by cases h;exact ⟨none,rfl,trivial⟩
 |e::es,f::fs,i,q,h,.cons hk hv t=>by
  have h:(match evKeyEq k e.1 with |some true=>some (some (i,e.2)) |some false=>findT k es (i+1) |none=>none)=some q:=h
  have hg:evFind k (f::fs) i=(match evKeyEq k f.key with |some true=>some (some (i,f.val)) |some false=>evFind k fs (i+1) |none=>none):=rfl
  rw [hk] at hg
  rw [hg]
  cases hq:evKeyEq k e.1 with
  |none=>rw [hq] at h;cases h
  |some b=>
   rw [hq] at h
   cases b with
   |true=>cases h;exact ⟨_,rfl,rfl,Nat.le_refl _,by simp,hv⟩
   |false=>
    have h:findT k es (i+1)=some q:=h
    obtain ⟨q',h1,h2⟩:=findT_run h t
    refine ⟨q',h1,?_⟩
    cases q with
    |none=>cases q' with
     |none=>trivial
     |some=>exact h2.elim
    |some p=>cases q' with
     |none=>exact h2.elim
     |some p'=>exact ⟨h2.1,by omega,by simp;omega,h2.2.2.2⟩
theorem okT_rel {ok is:Bool} {x:TV} {y:Value} (h:KR H S x y) (hn:NB x) (hc:compish x):VR H S r (okT ok x is) (cond ok (.tuple #[y,.bool is]) y) []∧OV (okT ok x is):=by
 cases ok with
 |false=>exact ⟨.k h,.inl hn⟩
 |true=>
  refine ⟨.tup (VRL.cons (o:=[]) (.k h) (VRL.cons (o:=[]) (.k (.v rfl rfl)) .nil)),.inl (.tup (.cons hn (.cons (.v _) .nil)) fun c hc'=>?_)⟩
  rcases List.mem_cons.1 hc' with rfl |hc'
  ·exact hc
  ·rw [List.mem_singleton] at hc';subst hc';trivial
theorem kr_nb {x:TV} {y:Value} (h:KR H S x y):NB x∧compish x:=by
 cases h with
 |v=>exact ⟨.v _,trivial⟩
 |nil=>exact ⟨.mk_row (by intro h;cases h),trivial⟩
 |row=>exact ⟨.mk_row (by intro h;cases h),trivial⟩
 |agg hc h=>exact ⟨.agg (NBL.of fun c h=>(Zcq (hc c h)).1) fun c h=>(Zcq (hc c h)).2,trivial⟩
 |iface h=>exact ⟨.iface _ _,trivial⟩
 |fn0=>exact ⟨.fn .nil .nil,trivial⟩
end
section
variable {C:TC} {F:Nat→Prop} {lo tlo base:Nat} {ends:Bool} {H:AH} {r:List Nat} {T:TH} {Oh os:List Nat}
theorem withMapT_inv {β:Type} {b:Nat} {k:List (Value×TV)→Option β} {ρ:β} (h:withMapT T b k=some ρ):∃ es,T[b]? = some (.map es)∧k es=some ρ:=by
 obtain ⟨o,h1,h2⟩:=Zac h
 rw [Zcb] at h1
 cases o with
 |map es=>exact ⟨es,h1,h2⟩
 |_=>cases h2
theorem Good.mapAt (hG:Good C F lo tlo H r T Oh os) {b:Nat} {es:List (Value×TV)} (hb:T[b]? = some (.map es)):∃ i c fs,r[b]? = some i∧H.get i=some (.map fs c)∧MRel H (Sof F r Oh os) es fs:=by
 obtain ⟨i,a,w,c,h1,h2,h3,_,_⟩:=hG.heap.at hb
 cases h3 with
 |map hg h=>exact ⟨i,_,_,h1,hg,h⟩
theorem lookupT_run {q:KeyKind} {z:Value} {x key v:TV} {ok:Bool} (h:lookupT T q (ofV z) x key ok=some v) (hp:plain z=true) (ht:∀ l,z≠.tuple l) (hG:Good C F lo tlo H r T Oh os) {x' k':Value} {o o':List Nat} (hx:VR H (Sof F r Oh os) r x x' o) (hk:VR H (Sof F r Oh os) r key k' o') :
  ∃ v',evLookup H q z x' k' ok=some v'∧VR H (Sof F r Oh os) r v v' []∧OV v:=by
 obtain ⟨a,h1,hA⟩:=Zac h
 have:=toV_eq h1 hk
 subst this
 obtain ⟨h2,hB⟩:=Zan hA
 obtain ⟨z1,_⟩:=ofV_kr (H:=H) (S:=Sof F r Oh os) hp ht
 have zz:=kr_nb z1
 split at hB
 ·cases hB
  obtain ⟨rfl,_⟩:=v_inv hx
  refine ⟨_,?_,okT_rel z1 zz.1 zz.2⟩
  show Zap (keyOk q k') _=_
  rw [h2];rfl
 ·rename_i b
  obtain ⟨es,hb,hC⟩:=withMapT_inv hB
  obtain ⟨i,c,fs,hr,hg,hm⟩:=hG.mapAt hb
  obtain ⟨i',hr',rfl,_⟩:=map_inv hx
  rw [hr] at hr';cases hr'
  obtain ⟨p,h3,h4⟩:=Zac hC
  obtain ⟨p',h5,h6⟩:=findT_run h3 hm
  have hev:evLookup H q z (.map (some i)) k' ok=(match (generalizing:=false) p' with |some p=>some (cond ok (.tuple #[p.2,.bool true]) p.2) |none=>some (cond ok (.tuple #[z,.bool false]) z)):=by
   show Zap (keyOk q k') (withMap H i fun es _=>Zaf (evFind k' es 0) _)=_
   rw [h2]
   show (match H.get i with |some (.map es c)=>Zaf (evFind k' es 0) _ |_=>none)=_
   rw [hg]
   show Zaf (evFind k' fs 0) _=_
   rw [h5];cases p' <;> rfl
  cases p with
  |none=>cases p' with
   |none=>cases h4;exact ⟨_,hev,okT_rel z1 zz.1 zz.2⟩
   |some=>exact h6.elim
  |some p=>cases p' with
   |none=>exact h6.elim
   |some p'=>
    cases h4
    have kn:=kr_nb h6.2.2.2
    exact ⟨_,hev,okT_rel h6.2.2.2 kn.1 kn.2⟩
 ·cases hB
theorem updateT_run {q:KeyKind} {x key y:TV} {T':TH} (h:updateT tlo T q x key y=some T') (hG:Good C F lo tlo H r T Oh os) {x' k' y':Value} {o o' oy:List Nat} (hx:VR H (Sof F r Oh os) r x x' o) (hk:VR H (Sof F r Oh os) r key k' o') (hy:VR H (Sof F r Oh os) r y y' oy) :
  ∃ H',evUpdate lo H q x' k' y'=some H'∧Res C F lo tlo base ends H r T Oh os Zao T' undef H':=by
 obtain ⟨a,h1,hA⟩:=Zac h
 have:=toV_eq h1 hk
 subst this
 obtain ⟨h2,hB⟩:=Zan hA
 obtain ⟨h3,hC⟩:=Zan hB
 obtain ⟨ky,_⟩:=closed_kr h3 hy
 split at hC
 ·rename_i b
  obtain ⟨h4,hD⟩:=Zan hC
  have h4:=Zaw h4
  obtain ⟨es,hb,hE⟩:=withMapT_inv hD
  obtain ⟨i,c,fs,hr,hg,hm⟩:=hG.mapAt hb
  obtain ⟨i',hr',rfl,_⟩:=map_inv hx
  rw [hr] at hr';cases hr'
  obtain ⟨p,h5,h6⟩:=Zac hE
  obtain ⟨p',h7,h8⟩:=findT_run h5 hm
  have hlo:=hG.rlo b i h4 hr
  have hev:∀ r2,(match p' with |some p=>some (H.set i (.map (setAt fs p.1 k' y') c)) |none=>some (H.set i (.map (List.append fs [{ key:=k',val:=y',born:=c }]) (Nat.succ c))))=some r2→evUpdate lo H q (.map (some i)) k' y'=some r2:=by
   intro r2 hr2
   show Zap (keyOk q k') (Zap (Nat.ble lo i) (withMap H i fun es c=>Zaf (evFind k' es 0) _))=_
   rw [h2,Zcv,Nat.ble_eq_true_of_le hlo,Zcv]
   show (match H.get i with |some (.map es c)=>Zaf (evFind k' es 0) _ |_=>none)=_
   rw [hg]
   show Zaf (evFind k' fs 0) _=_
   rw [h7];exact hr2
  have wr:∀ (es':List (Value×TV)) (fs':List MapEntry) (c':Nat),(∀ S,Stay H (Sof F r Oh os) (H.set i (.map fs' c')) S→MRel (H.set i (.map fs' c')) S es' fs')→Res C F lo tlo base ends H r T Oh os Zao (T.set b (.map es')) undef (H.set i (.map fs' c')):=by
   intro es' fs' c' hm'
   exact Res.write hG hb hr h4 (fun w ho _=>⟨[],fun j=>by simp,fun S st=>.map (by rw [AH.get_set,if_pos rfl]) (hm' S st)⟩) (fun _ _ _ _=>trivial) (fun _ _=>.und) (.inl (.tup .nil fun c hc=>by cases hc))
  have hset:∀ {S:Nat→Prop} {H:AH} {es:List (Value×TV)} {fs:List MapEntry} (j:Nat),MRel H S es fs→KR H S y y'→MRel H S (setAtT es j k' y) (setAt fs j k' y'):=by
   intro S H es fs j hm hy
   induction hm generalizing j with
   |nil=>exact .nil
   | @cons e f es fs hk hv t ih=>
    cases j with
    |zero=>exact .cons rfl hy t
    |succ j=>exact .cons hk hv (ih j)
  have happ:∀ {S:Nat→Prop} {H:AH} {es:List (Value×TV)} {fs:List MapEntry},MRel H S es fs→KR H S y y'→MRel H S (es++[(k',y)]) (fs++[{ key:=k',val:=y',born:=c }]):=by
   intro S H es fs hm hy
   induction hm with
   |nil=>exact .cons rfl hy .nil
   |cons hk hv t ih=>exact .cons hk hv ih
  cases p with
  |none=>cases p' with
   |none=>
    have h6:some (setBox T b (.map (es++[(k',y)])))=some T':=h6
    cases h6
    rw [setBox_eq hb]
    exact ⟨_,hev _ rfl,wr _ _ _ fun S st=>happ (hm.mono st) (ky.mono st)⟩
   |some=>exact h8.elim
  |some p=>cases p' with
   |none=>exact h8.elim
   |some p'=>
    have h6:some (setBox T b (.map (setAtT es p.1 k' y)))=some T':=h6
    cases h6
    rw [setBox_eq hb]
    refine ⟨_,hev _ rfl,wr _ _ _ fun S st=>?_⟩
    rw [h8.1]
    exact hset _ (hm.mono st) (ky.mono st)
 ·cases hC
end
end Go.Ev
