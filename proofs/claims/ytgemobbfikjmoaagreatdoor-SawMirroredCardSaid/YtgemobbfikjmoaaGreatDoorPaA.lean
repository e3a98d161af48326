/- An evaluator of the program's functions, and that the machine answers what it answers, part one.
   Conditions: none beyond the given statement's own. -/
import Derived.Orders
import Derived.LoopN
import Derived.Scope
import Derived.Laws.Entries
import Derived.Lib.FrozenHead
import Derived.Laws.Append
import Derived.Laws.Small
import Derived.Lib.SliceRun
import Derived.Laws.BitsAllLaws
import Derived.Laws.BitsLemmas
import Derived.Laws.Bits64
import Derived.Laws.Tables
import Derived.Laws.MakeOwn
import Derived.Deep.AppendSrc
import Derived.Lib.AppendZerosOnto
set_option linter.unusedVariables false
set_option linter.unusedSimpArgs false
set_option linter.defProp false
namespace Go.Ev
noncomputable section
def nth {α:Type} (l:List α):Nat->Option α:=
 List.rec (motive:=λ_=>Nat->Option α) (λ_=>none) (λx _ ih n=>Nat.casesOn (motive:=λ_=>Option α) n (some x) (λn=>ih n)) l
inductive Tr (α:Type) where
 |leaf
 |node (l:Tr α) (v:Option α) (r:Tr α)
def Tr.get {α:Type} (t:Tr α):Nat->Option α:=
 Tr.rec (motive:=λ_=>Nat->Option α) (λ_=>none)
  (λ_ v _ gl gr n=>cond (Nat.beq n (nat_lit 0)) v (cond (Nat.beq (Nat.mod n (nat_lit 2)) (nat_lit 1)) (gl (Nat.div n (nat_lit 2))) (gr (Nat.pred (Nat.div n (nat_lit 2)))))) t
def Tr.lef {α:Type} (t:Tr α):Tr α:=Tr.casesOn (motive:=λ_=>Tr α) t .leaf (λl _ _=>l)
def Tr.val {α:Type} (t:Tr α):Option α:=Tr.casesOn (motive:=λ_=>Option α) t none (λ_ v _=>v)
def Tr.rig {α:Type} (t:Tr α):Tr α:=Tr.casesOn (motive:=λ_=>Tr α) t .leaf (λ_ _ r=>r)
def Tr.Zdt {α:Type} (f:Nat):Tr α->Nat->Option α->Tr α:=
 Nat.rec (motive:=λ_=>Tr α->Nat->Option α->Tr α) (λt _ _=>t)
  (λ_ ih t n x=>
   cond (Nat.beq n (nat_lit 0)) (.node t.lef x t.rig)
    (cond (Nat.beq (Nat.mod n (nat_lit 2)) (nat_lit 1)) (.node (ih t.lef (Nat.div n (nat_lit 2)) x) t.val t.rig)
     (.node t.lef t.val (ih t.rig (Nat.pred (Nat.div n (nat_lit 2))) x)))) f
def Tr.put {α:Type} (t:Tr α) (n:Nat) (x:Option α):Tr α:=Tr.Zdt (Nat.succ n) t n x
inductive Ir where
 |cells (size:Nat) (cs:List Value) (elem:TypeId)
 |map (es:List MapEntry) (clock:Nat)
structure AH where
 next:Nat
 objs:Tr Ir
def AH.get (H:AH) (i:Nat):Option Ir:=H.objs.get i
def AH.push (H:AH) (o:Ir):AH:=⟨Nat.succ H.next,H.objs.put H.next (some o)⟩
def AH.set (H:AH) (i:Nat) (o:Ir):AH:=⟨H.next,H.objs.put i (some o)⟩
def AH.kill (H:AH) (i:Nat):AH:=⟨H.next,H.objs.put i none⟩
@[irreducible] def Xk:Nat:=18446744073709551616
def xb:Nat:=1099511627776
def Za {α β:Type} (r:Option α) (k:α->Option β):Option β:=Option.rec (motive:=λ_=>Option β) none (λv=>k v) r
def Zf {α β:Type} (r:Option α) (k:α->Option β):Option β:=Option.rec (motive:=λ_=>Option β) none (λv=>k v) r
def Gm {β:Type} (r:Option (Value×AH)) (k:Value->AH->Option β):Option β:=Option.rec (motive:=λ_=>Option β) none (λp=>k p.1 p.2) r
def Zp {β:Type} (b:Bool) (k:Option β):Option β:=Bool.rec (motive:=λ_=>Option β) none k b
structure S8 where
 desc:TypeDesc
 size:Nat
 bytes:Nat
 zero:Option Value
 agg:Bool
def fh:TypeDesc->Bool
 |.struct _=>true
 |.array _ _=>true
 |_=>false
def Y7 (P:Program) (t:TypeId):Option S8:=
 Zf (P.underlying t) λd=>Zf (P.info? t) λi=>some ⟨d,i.size,i.bytes,i.zero,fh d⟩
def gy:TypeDesc->Option TypeId
 |.slice e=>some e
 |_=>none
def mapOf:TypeDesc->Option (TypeId×TypeId)
 |.map k e=>some (k,e)
 |_=>none
def structOf:TypeDesc->Option (List Field)
 |.struct fs=>some fs.toList
 |_=>none
def intOf:TypeDesc->Option IntKind
 |.int k=>some k
 |_=>none
def G8 (P:Program) (t:TypeId):Option TypeId:=Zf (Y7 P t) λi=>gy i.desc
def flat:Value->Bool
 |.bool _=>true
 |.int _ _=>true
 |.string _=>true
 |.pointer none=>true
 |.slice none 0 0=>true
 |.map none=>true
 |.nilFunc=>true
 |.nilIface=>true
 |_=>false
def plain:Value->Bool
 |.agg cs=>cs.toList.all flat
 |.tuple cs=>cs.toList.all flat
 |v=>flat v
def single:Value->Bool
 |.agg _=>false
 |.tuple _=>false
 |_=>true
def zeroOf (i:S8):Option Value:=Zf i.zero λz=>Zp (plain z) (some z)
abbrev Env:=List (Tmp×Value)
def X4:Env->Tmp->Option Value
 |[],_=>none
 |(s,v)::E,t=>cond (Nat.beq s t) (some v) (X4 E t)
def V:List Tmp->Type
 |[]=>Unit
 |_::ts=>Value×V ts
def Wt:(Zs:List Tmp)->V Zs->Env
 |[],_=>[]
 |t::ts,S=>(t,(show Value×V ts from S).1)::Wt ts (show Value×V ts from S).2
def mkV (E:Env):(Zs:List Tmp)->V Zs
 |[]=>()
 |t::ts=>((X4 E t).getD undef,mkV E ts)
def Ck (args:List Value) (t:Tmp):Value:=(nth args t).getD undef
def Ad (args:List Value):(Zs:List Tmp)->V Zs
 |[]=>()
 |t::ts=>(Ck args t,Ad args ts)
def K9 (P:Program) (E:Env):Operand->Option Value
 |.tmp t=>X4 E t
 |.const v=>Zp (plain v) (some v)
 |.global g=>Zp (Nat.blt g P.globals.size) (some (.pointer (some ⟨g,nat_lit 0,none⟩)))
 |.func f=>some (.func (.func f) #[] #[])
def Kz (P:Program) (E:Env):List Operand->Option (List Value)
 |[]=>some []
 |x::xs=>Zf (K9 P E x) λv=>Zf (Kz P E xs) λvs=>some (v::vs)
def Vo:Int->Int->Bool
 |.ofNat a,.ofNat b=>Nat.blt a b
 |.ofNat _,.negSucc _=>false
 |.negSucc _,.ofNat _=>true
 |.negSucc a,.negSucc b=>Nat.blt b a
def Qn:Int->Int->Bool
 |.ofNat a,.ofNat b=>Nat.beq a b
 |.ofNat _,.negSucc _=>false
 |.negSucc _,.ofNat _=>false
 |.negSucc a,.negSucc b=>Nat.beq a b
def Gs:IntKind->Nat
 |.i8=>128 |.i16=>32768 |.i32=>2147483648 |.i64=>9223372036854775808
 |.u8=>256 |.u16=>65536 |.u32=>4294967296 |.u64=>18446744073709551616
def Zoa:IntKind->Nat
 |.i8=>0 |.i16=>1 |.i32=>2 |.i64=>3 |.u8=>4 |.u16=>5 |.u32=>6 |.u64=>7
def Sh (a b:IntKind):Bool:=Nat.beq (Zoa a) (Zoa b)
def Jl (k:IntKind) (n:Int):Int:=
 Int.casesOn (motive:=λ_=>Int) n (λm=>cond (Nat.blt m (Gs k)) (.ofNat m) (k.wrap (.ofNat m)))
  (λm=>cond (k.signed && Nat.blt m (Gs k)) (.negSucc m) (k.wrap (.negSucc m)))
def bitsOf (k:IntKind):Int->Nat
 |.ofNat m=>Nat.mod m (Nat.pow 2 k.bits)
 |.negSucc m=>Nat.sub (Nat.sub (Nat.pow 2 k.bits) 1) (Nat.mod m (Nat.pow 2 k.bits))
def shlF (k:IntKind) (n:Nat):Int->Int
 |.ofNat m=>Jl k (.ofNat (Nat.mul m (Nat.pow 2 n)))
 |x=>k.wrap (x * 2 ^ n)
def shrF (n:Nat):Int->Int
 |.ofNat m=>.ofNat (Nat.div m (Nat.pow 2 n))
 |x=>x.fdiv (2 ^ n)
def Zgy:Int->Option Nat
 |.ofNat m=>some m
 |_=>none
def addF (a b:Int):Int:=
 Int.casesOn (motive:=λ_=>Int) a (λm=>Int.casesOn (motive:=λ_=>Int) b (λn=>.ofNat (Nat.add m n)) (λn=>Int.add (.ofNat m) (.negSucc n))) (λm=>Int.add (.negSucc m) b)
def Aq (x:Value):Option (IntKind×Int):=match x with |.int k n=>some (k,n) |_=>none
def Dk {β:Type} (x y:Value) (f:IntKind->Int->Int->Option β):Option β:=
 match x with
 |.int k a=>match y with
  |.int k' b=>Zp (Sh k k') (f k a b)
  |_=>none
 |_=>none
def Z0 (x y:Value):Option Value:=Dk x y λk a b=>some (.int k (Jl k (addF a b)))
def Qq (x y:Value):Option Value:=Dk x y λk a b=>some (.int k (Jl k (Int.sub a b)))
def Y2 (x y:Value):Option Value:=Dk x y λk a b=>some (.int k (Jl k (Int.mul a b)))
def Jp (x y:Value):Option Value:=Dk x y λk a b=>cond (Qn b 0) none (some (.int k (Jl k (a.tdiv b))))
def Y1 (x y:Value):Option Value:=Dk x y λk a b=>cond (Qn b 0) none (some (.int k (a.tmod b)))
def Km (x y:Value):Option Value:=Dk x y λk a b=>some (.int k (Jl k (.ofNat (Nat.land (bitsOf k a) (bitsOf k b)))))
def Ep (x y:Value):Option Value:=Dk x y λk a b=>some (.int k (Jl k (.ofNat (Nat.lor (bitsOf k a) (bitsOf k b)))))
def Zo9 (x y:Value):Option Value:=Dk x y λk a b=>some (.int k (Jl k (.ofNat (Nat.xor (bitsOf k a) (bitsOf k b)))))
def Y6 (x y:Value):Option Value:=Dk x y λk a b=>some (.int k (Jl k (.ofNat (Nat.land (bitsOf k a) (Nat.sub (Nat.sub (Nat.pow 2 k.bits) 1) (bitsOf k b))))))
def Xg (x y:Value):Option Value:=Dk x y λ_ a b=>some (.bool (Vo a b))
def Am (x y:Value):Option Value:=Dk x y λ_ a b=>some (.bool (!Vo b a))
def Vt (x y:Value):Option Value:=Dk x y λ_ a b=>some (.bool (Vo b a))
def K0 (x y:Value):Option Value:=Dk x y λ_ a b=>some (.bool (!Vo a b))
def Y8 (x y:Value):Option Value:=
 match x with
 |.int k a=>match y with
  |.int _ b=>Zf (Zgy b) λn=>some (.int k (shlF k (Nat.min n k.bits) a))
  |_=>none
 |_=>none
def K7 (x y:Value):Option Value:=
 match x with
 |.int k a=>match y with
  |.int _ b=>Zf (Zgy b) λn=>some (.int k (shrF (Nat.min n k.bits) a))
  |_=>none
 |_=>none
def W9:List Value->List Value->Option Bool
 |[],[]=>some true
 |.int k a::xs,.int k' b::ys=>Zp (Sh k k') (Zf (W9 xs ys) λr=>some (Qn a b && r))
 |_,_=>none
inductive I5 where
 |int |bool |slice
 |ints (n:Nat)
def R0 (P:Program) (t:TypeId):Option I5:=
 Zf (Y7 P t) λi=>
  match i.desc with
  |.int _=>some .int
  |.bool=>some .bool
  |.slice _=>some .slice
  |.array n e=>Zf (Y7 P e) λj=>Zf (intOf j.desc) λ_=>Zp (Nat.beq j.size 1) (Zp (!(P.eqGuardType P.depth t)) (some (.ints n)))
  |_=>none
def An (q:I5) (x y:Value):Option Bool:=
 match q with
 |.int=>Dk x y λ_ a b=>some (Qn a b)
 |.bool=>match x,y with
  |.bool a,.bool b=>some (a == b)
  |_,_=>none
 |.slice=>match x,y with
  |.slice none _ _,.slice b _ _=>some b.isNone
  |.slice (some _) _ _,.slice none _ _=>some false
  |_,_=>none
 |.ints n=>match x,y with
  |.agg a,.agg b=>Zp (Nat.beq a.size n && Nat.beq b.size n) (W9 a.toList b.toList)
  |_,_=>none
def Zpf (q:I5) (x y:Value):Option Value:=Zf (An q x y) λr=>some (.bool r)
def Zpe (q:I5) (x y:Value):Option Value:=Zf (An q x y) λr=>some (.bool (!r))
def Zhl {β:Type} (P:Program) (op:BinOp) (t:TypeId) (x y:Value) (k:Value->Option β):Option β:=
 match op with
 |.add=>Za (Z0 x y) k
 |.sub=>Za (Qq x y) k
 |.mul=>Za (Y2 x y) k
 |.quo=>Za (Jp x y) k
 |.rem=>Za (Y1 x y) k
 |.and=>Za (Km x y) k
 |.or=>Za (Ep x y) k
 |.xor=>Za (Zo9 x y) k
 |.andNot=>Za (Y6 x y) k
 |.shl=>Za (Y8 x y) k
 |.shr=>Za (K7 x y) k
 |.lss=>Za (Xg x y) k
 |.leq=>Za (Am x y) k
 |.gtr=>Za (Vt x y) k
 |.geq=>Za (K0 x y) k
 |.eql=>Zf (R0 P t) λq=>Za (Zpf q x y) k
 |.neq=>Zf (R0 P t) λq=>Za (Zpe q x y) k
def Cg (x:Value):Option Value:=match x with |.int k n=>some (.int k (Jl k (Int.sub 0 n))) |_=>none
def Zhk (x:Value):Option Value:=match x with |.int k n=>some (.int k (Jl k (.ofNat (Nat.xor (bitsOf k (cond k.signed (-1) k.max)) (bitsOf k n))))) |_=>none
def Gh (x:Value):Option Value:=match x with |.bool b=>some (.bool (!b)) |_=>none
def evUn {β:Type} (op:UnOp) (x:Value) (k:Value->Option β):Option β:=
 match op with
 |.neg=>Za (Cg x) k
 |.xor=>Za (Zhk x) k
 |.not=>Za (Gh x) k
 |.plus=>none
def Zpb (c a b:Value):Option Value:=match c with |.bool t=>some (cond t a b) |_=>none
def Ki (k:IntKind) (x:Value):Option Value:=match x with |.int _ n=>some (.int k (Jl k n)) |_=>none
def Zpd (x:Value):Option Value:=match x with |.pointer (some a)=>some (.pointer (some a)) |_=>none
def Zpl (l:List Value):Nat->List Value:=
 List.rec (motive:=λ_=>Nat->List Value) (λ_=>[]) (λx xs ih n=>Nat.casesOn (motive:=λ_=>List Value) n (x::xs) (λn=>ih n)) l
def takeN (l:List Value):Nat->List Value:=
 List.rec (motive:=λ_=>Nat->List Value) (λ_=>[]) (λx _ ih n=>Nat.casesOn (motive:=λ_=>List Value) n [] (λn=>x::ih n)) l
def Ix (l:List Value):Nat:=List.rec (motive:=λ_=>Nat) (nat_lit 0) (λ_ _ n=>Nat.succ n) l
def Zam (vs:List Value):List Value->List Value:=
 List.rec (motive:=λ_=>List Value->List Value) (λcs=>cs)
  (λv _ ih cs=>List.casesOn (motive:=λ_=>List Value) cs [] (λ_ cs=>v::ih cs)) vs
def over (cs:List Value):Nat->List Value->List Value:=
 List.rec (motive:=λ_=>Nat->List Value->List Value) (λ_ _=>[])
  (λc cs ih off vs=>Nat.casesOn (motive:=λ_=>List Value) off (Zam vs (c::cs)) (λoff=>c::ih off vs)) cs
def P9 (cs:List Value) (off n:Nat):List Value:=takeN (Zpl cs off) n
def cellAt (agg:Bool) (n size:Nat) (cs:List Value) (off:Nat):Option Value:=
 cond agg (Zp (Nat.ble (Nat.add off n) size) (some (.agg ⟨P9 cs off n⟩))) (nth cs off)
def Kp {β:Type} (H:AH) (i:Nat) (k:Nat->List Value->TypeId->Option β):Option β:=
 match H.get i with
 |some (.cells s cs e)=>k s cs e
 |_=>none
def Mx {β:Type} (v:Value) (k:Nat->Nat->Option β):Option β:=
 match v with
 |.pointer (some ⟨i,off,none⟩)=>k i off
 |_=>none
def I0 (H:AH) (agg:Bool) (n:Nat) (v:Value):Option Value:=
 Mx v λi off=>Kp H i λs cs _=>cellAt agg n s cs off
def cellsOf:Value->List Value
 |.agg cs=>cs.toList
 |v=>[v]
def Pv (lo:Nat) (H:AH) (n:Nat) (i off:Nat) (l:List Value):Option AH:=
 Kp H i λs cs e=>
  Zp (Nat.ble lo i) (Zp (Nat.beq (Ix l) n) (Zp (Nat.ble (Nat.add off n) s) (Zp (l.all single)
   (some (H.set i (.cells s (over cs off l) e))))))
def Hx (lo:Nat) (H:AH) (n:Nat) (a x:Value):Option AH:=Mx a λi off=>Pv lo H n i off (cellsOf x)
def Oo (H:AH):Value:=.pointer (some ⟨H.next,nat_lit 0,none⟩)
def Ez (H:AH) (elem:TypeId) (v:Value):AH:=H.push (.cells (Ix (cellsOf v)) (cellsOf v) elem)
def Vs (z:List Value) (n:Nat):List Value:=Nat.rec (motive:=λ_=>List Value) [] (λ_ l=>List.append z l) n
def Er:List (Nat×Nat×Value)->List Value->Option (List Value)
 |[],cs=>some cs
 |(off,size,v)::rest,cs=>
  Zp (Nat.beq (Ix (cellsOf v)) size) (Zp (Nat.ble (Nat.add off size) (Ix cs)) (Er rest (over cs off (cellsOf v))))
def V4 (P:Program) (E:Env) (place:Nat->Option (Nat×Nat)):List (Nat×Operand)->Option (List (Nat×Nat×Value))
 |[]=>some []
 |(i,x)::xs=>Zf (K9 P E x) λv=>Zf (place i) λp=>Zf (V4 P E place xs) λvs=>some ((p.1,p.2,v)::vs)
def Jb (P:Program) (fs:List Field) (i:Nat):Option (Nat×Nat):=
 Zf (nth fs i) λf=>Zf (Y7 P f.type) λj=>some (f.offset,j.size)
def my (ps:List (Nat×Nat×Value)) (z:List Value):Option Value:=Zf (Er ps z) λcs=>some (.agg ⟨cs⟩)
def F7 {β:Type} (P:Program) (E:Env) (t:TypeId) (parts:List (Nat×Operand)) (k:Value->Option β):Option β:=
 Zf (Y7 P t) λi=>Zf (zeroOf i) λz=>
  match i.desc with
  |.struct fs=>Zp (fs.toList.all λf=>(Y7 P f.type).isSome) (Zf (V4 P E (Jb P fs.toList) parts) λps=>Za (my ps (cellsOf z)) k)
  |.array _ e=>Zf (Y7 P e) λj=>Zf (V4 P E (λi=>some (Nat.mul i j.size,j.size)) parts) λps=>Za (my ps (cellsOf z)) k
  |_=>none
def Yi (H:AH) (len cap:Nat):Value:=.slice (some ⟨H.next,nat_lit 0,none⟩) len cap
def D0 {β:Type} (P:Program) (E:Env) (H:AH) (t:TypeId) (len:Nat) (parts:List (Nat×Operand)) (k:Value->AH->Option β):Option β:=
 Zf (G8 P t) λe=>Zf (Y7 P e) λi=>Zf (zeroOf i) λz=>
  Zp (Nat.blt len Xk) (Zp (Nat.ble (Nat.mul len i.size) 16777216) (Zp (Nat.beq (Ix (cellsOf z)) i.size)
   (Zf (V4 P E (λj=>some (Nat.mul j i.size,i.size)) parts) λps=>
    Za (Er ps (Vs (cellsOf z) len)) λcs=>k (Yi H len len) (H.push (.cells (Nat.mul len i.size) cs e)))))
def Zhj (x:Value) (d:Nat):Option Value:=Mx x λi off=>some (.pointer (some ⟨i,Nat.add off d,none⟩))
def T8 {β:Type} (P:Program) (t:TypeId) (x:Value) (f:Nat) (k:Value->Option β):Option β:=
 Zf (Y7 P t) λi=>Zf (structOf i.desc) λfs=>Zf (Jb P fs f) λp=>
  cond (Nat.beq p.2 0) none (Za (Zhj x p.1) k)
def Fe (agg:Bool) (n:Nat) (x:Value) (off:Nat):Option Value:=
 match x with
 |.agg cs=>cellAt agg n (Ix cs.toList) cs.toList off
 |_=>none
def rj {β:Type} (P:Program) (t:TypeId) (x:Value) (f:Nat) (k:Value->Option β):Option β:=
 Zf (Y7 P t) λi=>Zf (structOf i.desc) λfs=>Zf (nth fs f) λfd=>Zf (Y7 P fd.type) λj=>
  Za (Fe j.agg j.size x fd.offset) k
def asNat (v:Value):Option Nat:=match v with |.int _ j=>Zgy j |_=>none
def Nb (len n:Nat) (x ix:Value):Option Value:=
 Zf (asNat ix) λj=>Mx x λi off=>Zp (Nat.blt j len) (some (.pointer (some ⟨i,Nat.add off (Nat.mul j n),none⟩)))
def Db (n:Nat) (x ix:Value):Option Value:=
 Zf (asNat ix) λj=>
  match x with
  |.slice (some ⟨i,off,none⟩) len _=>Zp (Nat.blt j len) (some (.pointer (some ⟨i,Nat.add off (Nat.mul j n),none⟩)))
  |_=>none
def T7 {β:Type} (P:Program) (t:TypeId) (x ix:Value) (k:Value->Option β):Option β:=
 Zf (Y7 P t) λi=>
  match i.desc with
  |.array len e=>Zf (Y7 P e) λj=>Za (Nb len j.size x ix) k
  |.slice e=>Zf (Y7 P e) λj=>Za (Db j.size x ix) k
  |_=>none
def Zcd (agg:Bool) (len n:Nat) (x ix:Value):Option Value:=
 Zf (asNat ix) λj=>Zp (Nat.blt j len) (Fe agg n x (Nat.mul j n))
def Na (x ix:Value):Option Value:=
 Zf (asNat ix) λj=>
  match x with
  |.string s=>Zf (nth s.data.toList j) λb=>some (.int .u8 b.toNat)
  |_=>none
def ri {β:Type} (P:Program) (t:TypeId) (x ix:Value) (k:Value->Option β):Option β:=
 Zf (Y7 P t) λi=>
  match i.desc with
  |.array len e=>Zf (Y7 P e) λj=>Za (Zcd j.agg len j.size x ix) k
  |.string=>Za (Na x ix) k
  |_=>none
def roomFor (bytes:Nat) (n:Nat):Bool:=cond (Nat.ble (Nat.mul n bytes) xb) (Nat.blt n xb) false
def Rw (bytes:Nat) (len cap:Value):Option (Nat×Nat):=
 Zf (asNat len) λl=>Zf (asNat cap) λc=>Zp (Nat.ble l c) (Zp (roomFor bytes c) (some (l,c)))
def M6 {β:Type} (P:Program) (H:AH) (t:TypeId) (len cap:Value) (k:Value->AH->Option β):Option β:=
 Zf (G8 P t) λe=>Zf (Y7 P e) λi=>Zf (zeroOf i) λz=>
  Zp (Nat.beq (Ix (cellsOf z)) i.size)
   (Za (Rw i.bytes len cap) λp=>k (Yi H p.1 p.2) (H.push (.cells (Nat.mul p.2 i.size) (Vs (cellsOf z) p.2) e)))
def Dd (P:Program) (E:Env):Option Operand->Option (Option Value)
 |none=>some none
 |some x=>Zf (K9 P E x) λv=>some (some v)
def I3 (x:Option Value) (d:Nat):Option Nat:=match x with |none=>some d |some v=>asNat v
def Vb (len:Nat) (cap:Nat) (lo hi mx:Option Value):Option (Nat×Nat×Nat):=
 Zf (I3 lo 0) λl=>Zf (I3 hi len) λh=>Zf (I3 mx cap) λm=>
  Zp (cond mx.isNone true hi.isSome) (Zp (Nat.ble l h) (Zp (Nat.ble h m) (Zp (Nat.ble m cap) (Zp (Nat.blt m Xk) (some (l,h,m))))))
def mr (n:Nat) (x:Value) (lo hi mx:Option Value):Option Value:=
 match x with
 |.slice none 0 0=>Zf (Vb 0 0 lo hi mx) λ_=>some (.slice none 0 0)
 |.slice (some ⟨i,off,none⟩) len cap=>
  cond (cond (Nat.ble Xk cap) mx.isNone false)
   (Zf (I3 lo 0) λl=>Zf (I3 hi len) λh=>Zp (Nat.ble l h) (Zp (Nat.ble h len) (Zp (Nat.beq cap (Nat.add Xk n))
    (some (.slice (some ⟨i,Nat.add off (Nat.mul l n),none⟩) (Nat.sub h l) cap)))))
   (Zf (Vb len (cond (Nat.ble Xk cap) len cap) lo hi mx) λb=>
    some (.slice (some ⟨i,cond (Nat.beq b.2.2 b.1) off (Nat.add off (Nat.mul b.1 n)),none⟩) (Nat.sub b.2.1 b.1) (Nat.sub b.2.2 b.1)))
 |_=>none
def Py (n len:Nat) (x:Value) (lo hi mx:Option Value):Option Value:=
 Mx x λi off=>
  Zf (Vb len len lo hi mx) λb=>
   some (.slice (some ⟨i,cond (Nat.beq b.2.2 b.1) off (Nat.add off (Nat.mul b.1 n)),none⟩) (Nat.sub b.2.1 b.1) (Nat.sub b.2.2 b.1))
def F5 {β:Type} (P:Program) (E:Env) (t:TypeId) (x:Value) (lo hi mx:Option Operand) (k:Value->Option β):Option β:=
 Zf (Dd P E lo) λlo=>Zf (Dd P E hi) λhi=>Zf (Dd P E mx) λmx=>Zf (Y7 P t) λi=>
  match i.desc with
  |.array len e=>Zf (Y7 P e) λj=>Za (Py j.size len x lo hi mx) k
  |.slice e=>Zf (Y7 P e) λj=>Za (mr j.size x lo hi mx) k
  |_=>none
def Oe:Value->Value->Option Bool
 |.int k a,.int k' b=>Zp (Sh k k') (some (Qn a b))
 |.agg a,.agg b=>Zp (Nat.beq a.size b.size) (W9 a.toList b.toList)
 |_,_=>none
def Wk (k:Value):List MapEntry->Nat->Option (Option (Nat×Value))
 |[],_=>some none
 |e::es,i=>
  match Oe k e.key with
  |some true=>some (some (i,e.val))
  |some false=>Wk k es (Nat.succ i)
  |none=>none
inductive Wp where
 |int
 |ints (n:Nat)
def M9 (P:Program) (t:TypeId):Option Wp:=
 Zf (Y7 P t) λi=>
  match i.desc with
  |.int _=>some .int
  |.array n e=>Zf (Y7 P e) λj=>Zf (intOf j.desc) λ_=>Zp (Nat.beq j.size 1) (some (.ints n))
  |_=>none
def Ge (q:Wp) (k:Value):Bool:=
 match q,k with
 |.int,.int _ _=>true
 |.ints n,.agg a=>Nat.beq a.size n && a.toList.all (λv=>(Aq v).isSome)
 |_,_=>false
def Re {β:Type} (H:AH) (i:Nat) (k:List MapEntry->Nat->Option β):Option β:=
 match H.get i with
 |some (.map es c)=>k es c
 |_=>none
def Hz (H:AH) (q:Wp) (z:Value) (x k:Value) (ok:Bool):Option Value:=
 Zp (Ge q k)
  (match x with
   |.map none=>some (cond ok (.tuple #[z,.bool false]) z)
   |.map (some i)=>Re H i λes _=>Zf (Wk k es (nat_lit 0)) λr=>
    match r with
    |some p=>some (cond ok (.tuple #[p.2,.bool true]) p.2)
    |none=>some (cond ok (.tuple #[z,.bool false]) z)
   |_=>none)
def setAt:List MapEntry->Nat->Value->Value->List MapEntry
 |[],_,_,_=>[]
 |e::es,0,k,v=>{ e with key:=k,val:=v }::es
 |e::es,n+1,k,v=>e::setAt es n k v
def Hw (lo:Nat) (H:AH) (q:Wp) (x k v:Value):Option AH:=
 Zp (Ge q k)
  (match x with
   |.map (some i)=>Zp (Nat.ble lo i) (Re H i λes c=>Zf (Wk k es (nat_lit 0)) λr=>
    match r with
    |some p=>some (H.set i (.map (setAt es p.1 k v) c))
    |none=>some (H.set i (.map (List.append es [{ key:=k,val:=v,born:=c }]) (Nat.succ c))))
   |_=>none)
def kc {β:Type} (P:Program) (H:AH) (t:TypeId) (x k:Value) (ok:Bool) (c:Value->Option β):Option β:=
 Zf (Y7 P t) λi=>Zf (mapOf i.desc) λp=>Zf (M9 P p.1) λq=>Zf (Y7 P p.2) λj=>Zf (zeroOf j) λz=>
  Za (Hz H q z x k ok) c
def kb {β:Type} (P:Program) (lo:Nat) (H:AH) (t:TypeId) (x k v:Value) (c:AH->Option β):Option β:=
 Zf (Y7 P t) λi=>Zf (mapOf i.desc) λp=>Zf (M9 P p.1) λq=>Za (Hw lo H q x k v) c
def Sy (x:Value):Option Value:=match x with |.slice _ n _=>some (.int .i64 (.ofNat n)) |_=>none
def cg (H:AH) (x:Value):Option Value:=
 match x with
 |.map none=>some (.int .i64 0)
 |.map (some i)=>Re H i λes _=>some (.int .i64 (.ofNat es.length))
 |_=>none
def Zgs {β:Type} (P:Program) (H:AH) (t:TypeId) (x:Value) (k:Value->Option β):Option β:=
 Zf (Y7 P t) λi=>
  match i.desc with
  |.slice _=>Za (Sy x) k
  |.array n _=>k (.int .i64 (.ofNat n))
  |.map _ _=>Za (cg H x) k
  |_=>none
def ve (x:Value):Option Value:=match x with |.slice _ _ n=>cond (Nat.ble Xk n) none (some (.int .i64 (.ofNat n))) |_=>none
def Zgt {β:Type} (P:Program) (t:TypeId) (x:Value) (k:Value->Option β):Option β:=
 Zf (Y7 P t) λi=>
  match i.desc with
  |.slice _=>Za (ve x) k
  |.array n _=>k (.int .i64 (.ofNat n))
  |_=>none
def Y0 (mx:Bool) (x y:Value):Option Value:=
 match x with
 |.int k a=>match y with
  |.int _ b=>some (.int k (cond (cond mx (Vo a b) (Vo b a)) b a))
  |_=>none
 |_=>none
def Pg {β:Type} (mx:Bool) (v:Value) (vs:List Value) (k:Value->Option β):Option β:=
 match vs with
 |[]=>k v
 |w::vs=>Za (Y0 mx v w) λv=>Pg mx v vs k
def rowOf (H:AH) (size:Nat) (x:Value):Option (List Value):=
 match x with
 |.slice none 0 0=>some []
 |.slice (some ⟨i,off,none⟩) len _=>
  cond (Nat.beq len 0) (some [])
   (Kp H i λs cs _=>Zp (Nat.ble (Nat.add off (Nat.mul len size)) s) (some (P9 cs off (Nat.mul len size))))
 |_=>none
def Je (H:AH) (e:TypeId) (size Zp:Nat) (l:List Value):AH:=H.push (.cells (Nat.mul Zp size) l e)
def Od (lo:Nat) (H:AH) (e:TypeId) (size i off len n:Nat) (new:List Value):Option (Value×AH):=
 Kp H i λs cs e'=>
  Zp (Nat.ble lo i) (Zp (Nat.beq e e') (Zp (Nat.ble (Nat.add off (Nat.mul len size)) s)
   (some (Yi H (Nat.add len n) (Nat.add Xk size),Je (H.kill i) e size (Nat.add len n) (List.append (P9 cs off (Nat.mul len size)) new)))))
def Lw (lo:Nat) (H:AH) (size i off len cap n:Nat) (new:List Value):Option (Value×AH):=
 Kp H i λs cs e'=>
  Zp (Nat.ble lo i) (Zp (Nat.ble (Nat.add off (Nat.mul (Nat.add len n) size)) s)
   (some (.slice (some ⟨i,off,none⟩) (Nat.add len n) cap,H.set i (.cells s (over cs (Nat.add off (Nat.mul len size)) new) e'))))
def Dc (lo:Nat) (H:AH) (e:TypeId) (size bytes:Nat) (s:Value) (n:Nat) (new:List Value):Option (Value×AH):=
 match s with
 |.slice none 0 0=>cond (Nat.beq n 0) (some (.slice none 0 0,H)) (Zp (roomFor bytes n) (some (Yi H n (Nat.add Xk size),Je H e size n new)))
 |.slice (some ⟨i,off,none⟩) len cap=>
  cond (Nat.beq n 0) (Zp (Nat.ble len cap) (some (.slice (some ⟨i,off,none⟩) len cap,H)))
   (Zp (roomFor bytes (Nat.add len n))
    (cond (Nat.ble Xk cap) (Zp (Nat.beq cap (Nat.add Xk size)) (Od lo H e size i off len n new))
     (cond (Nat.ble (Nat.add len n) cap) (Lw lo H size i off len cap n new)
      (Zf (rowOf H size (.slice (some ⟨i,off,none⟩) len cap)) λEg=>
       some (Yi H (Nat.add len n) (Nat.add Xk size),Je H e size (Nat.add len n) (List.append Eg new))))))
 |_=>none
def Gx (lo:Nat) (H:AH) (e:TypeId) (size bytes:Nat) (s x:Value):Option (Value×AH):=
 match x with
 |.slice a n c=>Zf (rowOf H size (.slice a n c)) λnew=>Zp (new.all single) (Dc lo H e size bytes s n new)
 |_=>none
def Lx (H:AH) (e:TypeId) (size bytes:Nat) (z:List Value) (s x:Value):Option (Value×AH):=
 Zf (asNat x) λn=>Zp (Nat.blt 0 n) (Zp (Nat.blt 0 size)
  (match s with
   |.slice a len cap=>Zp (Nat.blt cap Xk) (Zp (Nat.blt cap (Nat.add len n)) (Zp (roomFor bytes (Nat.add len n))
    (Zf (rowOf H size (.slice a len cap)) λEg=>
     some (Yi H (Nat.add len n) (Nat.add Xk size),Je H e size (Nat.add len n) (List.append Eg (Vs z n))))))
   |_=>none))
def L8 {β:Type} (P:Program) (lo:Nat) (H:AH) (st xt:TypeId) (s x:Value) (k:Value->AH->Option β):Option β:=
 Zf (G8 P st) λe=>Zf (Y7 P e) λi=>Zf (zeroOf i) λz=>Zf (Y7 P xt) λj=>
  Zp (Nat.beq (Ix (cellsOf z)) i.size)
   (match j.desc with
    |.slice _=>Gm (Gx lo H e i.size i.bytes s x) k
    |.int _=>Gm (Lx H e i.size i.bytes (cellsOf z) s x) k
    |_=>none)
def ck (lo:Nat) (H:AH) (size:Nat) (z:List Value) (x:Value):Option AH:=
 match x with
 |.slice none 0 0=>some H
 |.slice (some ⟨i,off,none⟩) n _=>
  cond (Nat.beq n 0) (some H) (Kp H i λs cs e'=>
   Zp (Nat.ble lo i) (Zp (Nat.ble (Nat.add off (Nat.mul n size)) s) (some (H.set i (.cells s (over cs off (Vs z n)) e')))))
 |_=>none
def F6 {β:Type} (P:Program) (lo:Nat) (H:AH) (t:TypeId) (x:Value) (k:AH->Option β):Option β:=
 Zf (G8 P t) λe=>Zf (Y7 P e) λi=>Zf (zeroOf i) λz=>
  Zp (Nat.beq (Ix (cellsOf z)) i.size) (Zp ((cellsOf z).all single) (Za (ck lo H i.size (cellsOf z) x) k))
def U5 {β:Type} (P:Program) (lo:Nat) (H:AH) (b:Builtin) (ts:List TypeId) (vs:List Value) (k:Value->AH->Option β):Option β:=
 match b with
 |.append=>match ts,vs with
  |[st,xt],[s,x]=>L8 P lo H st xt s x k
  |_,_=>none
 |.len=>match ts,vs with
  |[t],[x]=>Zgs P H t x λv=>k v H
  |_,_=>none
 |.cap=>match ts,vs with
  |[t],[x]=>Zgt P t x λv=>k v H
  |_,_=>none
 |.min=>match vs with
  |v::vs=>Pg false v vs λv=>k v H
  |_=>none
 |.max=>match vs with
  |v::vs=>Pg true v vs λv=>k v H
  |_=>none
 |.clear=>match ts,vs with
  |[t],[x]=>F6 P lo H t x λH=>k (.tuple #[]) H
  |_,_=>none
 |_=>none
abbrev Jh:=Nat->FuncId->List Value->AH->Option (Value×AH)
def R5 {β:Type} (call:Jh) (lo:Nat) (f:Value) (vs:List Value) (H:AH) (k:Value->AH->Option β):Option β:=
 match f with
 |.func (.func g) first captured=>Gm (call lo g (List.append first.toList (List.append vs captured.toList)) H) k
 |_=>none
def L9:TypeDesc->Bool
 |.interface _=>false
 |_=>true
def Zq2:TypeDesc->Bool
 |.pointer _=>true
 |_=>false
def Al (P:Program) (t:TypeId) (name:String):Option FuncId:=
 Zf (P.info? t) λi=>Zf (Y7 P t) λj=>Zp (!Zq2 j.desc)
  (Zf (i.methods.toList.find? (·.name == name)) λm=>Zp m.path.toList.isEmpty
   (match m.func with
    |some (f,false)=>some f
    |_=>none))
def vy {β:Type} (P:Program) (call:Jh) (lo:Nat) (f:Value) (name:String) (vs:List Value) (H:AH) (k:Value->AH->Option β):Option β:=
 match f with
 |.iface t v=>Zf (Al P t name) λg=>Gm (call lo g (v::vs) H) k
 |_=>none
def Nc (asserted:TypeId) (z x:Value) (ok:Bool):Option Value:=
 match x with
 |.nilIface=>cond ok (some (.tuple #[z,.bool false])) none
 |.iface t v=>cond (Nat.beq t asserted) (some (cond ok (.tuple #[v,.bool true]) v)) (cond ok (some (.tuple #[z,.bool false])) none)
 |_=>none
def Zpg (x:Value) (i:Nat):Option Value:=match x with |.tuple vs=>nth vs.toList i |_=>none
def Uu {β:Type} (P:Program) (call:Jh) (lo:Nat) (E:Env) (H:AH) (o:Op) (k:Value->AH->Option β):Option β:=
 match o with
 |.move x=>Zf (K9 P E x) λv=>k v H
 |.assign x=>Zf (K9 P E x) λv=>k v H
 |.pick c a b=>Zf (K9 P E c) λc=>Zf (K9 P E a) λa=>Zf (K9 P E b) λb=>Za (Zpb c a b) λv=>k v H
 |.alloc e=>Zf (Y7 P e) λi=>Zf (zeroOf i) λz=>k (Oo H) (Ez H e z)
 |.box e x=>Zf (K9 P E x) λv=>k (Oo H) (Ez H e v)
 |.build t parts=>F7 P E t parts.toList λv=>k v H
 |.buildSlice t len parts=>D0 P E H t len parts.toList k
 |.load t a=>Zf (K9 P E a) λa=>Zf (Y7 P t) λi=>Za (I0 H i.agg i.size a) λv=>k v H
 |.store t a x=>Zf (K9 P E a) λa=>Zf (K9 P E x) λx=>Zf (Y7 P t) λi=>Za (Hx lo H i.size a x) λH=>k undef H
 |.nilCheck x=>Zf (K9 P E x) λx=>Za (Zpd x) λv=>k v H
 |.binOp op t x y _=>Zf (K9 P E x) λx=>Zf (K9 P E y) λy=>Zhl P op t x y λv=>k v H
 |.unOp op _ x=>Zf (K9 P E x) λx=>evUn op x λv=>k v H
 |.convert s d x=>Zf (K9 P E x) λx=>Zf (Y7 P s) λ_=>Zf (Y7 P d) λi=>Zf (intOf i.desc) λq=>Za (Ki q x) λv=>k v H
 |.makeFunc fn first captured=>Zf (Kz P E first.toList) λf=>Zf (Kz P E captured.toList) λc=>k (.func fn ⟨f⟩ ⟨c⟩) H
 |.makeMap t r=>match r with
  |none=>k (.map (some H.next)) (H.push (.map [] 0))
  |some x=>Zf (K9 P E x) λx=>Zf (Y7 P t) λi=>Zf (mapOf i.desc) λ_=>Za (Aq x) λ_=>k (.map (some H.next)) (H.push (.map [] 0))
 |.makeSlice t l c=>Zf (K9 P E l) λl=>Zf (K9 P E c) λc=>M6 P H t l c k
 |.slice t x lo hi mx=>Zf (K9 P E x) λx=>F5 P E t x lo hi mx λv=>k v H
 |.fieldAddr t x f=>Zf (K9 P E x) λx=>T8 P t x f λv=>k v H
 |.field t x f=>Zf (K9 P E x) λx=>rj P t x f λv=>k v H
 |.indexAddr t x i=>Zf (K9 P E x) λx=>Zf (K9 P E i) λi=>T7 P t x i λv=>k v H
 |.index t x i=>Zf (K9 P E x) λx=>Zf (K9 P E i) λi=>ri P t x i λv=>k v H
 |.lookup t x key ok=>Zf (K9 P E x) λx=>Zf (K9 P E key) λkey=>kc P H t x key ok λv=>k v H
 |.mapUpdate t m key x=>Zf (K9 P E m) λm=>Zf (K9 P E key) λkey=>Zf (K9 P E x) λx=>kb P lo H t m key x λH=>k undef H
 |.extract x i=>Zf (K9 P E x) λx=>Za (Zpg x i) λv=>k v H
 |.call c=>Zf (Kz P E c.args.toList) λvs=>
  match c.callee with
  |.builtin b=>U5 P lo H b c.argTypes.toList vs k
  |.value f=>Zf (K9 P E f) λf=>R5 call lo f vs H k
  |.invoke r name=>Zf (K9 P E r) λr=>vy P call lo r name vs H k
 |.makeInterface t x=>Zf (K9 P E x) λv=>Zf (Y7 P t) λi=>Zp (L9 i.desc) (k (.iface t v) H)
 |.typeAssert x _ a ok=>Zf (K9 P E x) λx=>Zf (Y7 P a) λi=>Zp (L9 i.desc) (Zf (zeroOf i) λz=>Za (Nc a z x ok) λv=>k v H)
 |_=>none
def bound (n:Nat) (d:Option Tmp):Bool:=match d with |none=>true |some d=>Nat.blt d n
def Bv (E:Env) (d:Option Tmp) (v:Value):Env:=match d with |none=>E |some d=>(d,v)::E
def isB (v:Value) (want:Bool):Bool:=match v with |.bool b=>b == want |_=>false
def guarded {β:Type} (v:Value) (want:Bool) (r:Option (Value×AH)) (H:AH) (k:Value->AH->Option β):Option β:=
 Gm (cond (isB v want) r (some (undef,H))) k
def Zd3 (v:Value) (H:AH):Option (Value×AH):=some (v,H)
def Vn {β:Type} (P:Program) (call:Jh) (lo:Nat) (ops:List Oper) (E:Env) (H:AH) (o:Oper) (k:Value->AH->Option β):Option β:=
 match o.guard with
 |none=>Uu P call lo E H o.op k
 |some g=>Zf (nth ops g.1) λp=>Zf p.dst λd=>Zf (X4 E d) λv=>guarded v g.2 (Uu P call lo E H o.op Zd3) H k
def ml {β:Type} (P:Program) (call:Jh) (lo nt:Nat) (ops:List Oper):List Oper->Env->AH->(Env->AH->Option β)->Option β
 |[],E,H,k=>k E H
 |o::rest,E,H,k=>cond (bound nt o.dst) (Vn P call lo ops E H o λv H=>ml P call lo nt ops rest (Bv E o.dst v) H k) none
def Xl:Value->List Nat
 |.pointer (some a)=>[a.block]
 |.slice (some a) _ _=>[a.block]
 |.map (some i)=>[i]
 |_=>[]
def Y9:Op->List Operand
 |.load _ a=>[a]
 |.store _ a _=>[a]
 |.lookup _ x _ _=>[x]
 |.mapUpdate _ m _ _=>[m]
 |.call ⟨.builtin .min,_,_⟩=>[]
 |.call ⟨.builtin .max,_,_⟩=>[]
 |.call ⟨.builtin .cap,_,_⟩=>[]
 |.call ⟨.builtin _,args,_⟩=>args.toList
 |_=>[]
inductive Class where
 |none |rd |wr |call
def Yd:Op->Class
 |.load _ _=>.rd
 |.lookup _ _ _ _=>.rd
 |.store _ _ _=>.wr
 |.mapUpdate _ _ _ _=>.wr
 |.call ⟨.builtin .min,_,_⟩=>.none
 |.call ⟨.builtin .max,_,_⟩=>.none
 |.call ⟨.builtin .cap,_,_⟩=>.none
 |.call ⟨.builtin .len,_,_⟩=>.rd
 |.call ⟨.builtin _,_,_⟩=>.wr
 |.call _=>.call
 |_=>.none
def Class.U2:Class->Bool
 |.none=>false
 |_=>true
def Ou:Class->Bool
 |.call=>true
 |_=>false
def Yp:List Oper->List Nat->List Nat
 |[],acc=>acc.reverse
 |o::rest,acc=>
  Yp rest ((o.after.toList.foldl (λs e=>cond (Region.binds .any e) (Nat.lor (Nat.lor s (2 ^ e.on)) ((nth acc.reverse e.on).getD 0)) s) 0)::acc)
def reads (ops:List Oper) (o:Oper):List Tmp:=
 (o.op.operands.toList.filterMap fun |.tmp t=>some t |_=>none) ++
 (match o.guard with
  |some g=>(match nth ops g.1 with |some p=>p.dst.toList |none=>[])
  |none=>[])
def behind (bs:List Nat) (i j:Nat):Bool:=Nat.testBit ((nth bs i).getD 0) j
def O7 (ops:List Oper) (o p:Oper):Bool:=
 (match o.dst with |none=>true |some d=>!((reads ops p).contains d) && p.dst != some d) &&
 (match p.dst with |none=>true |some d=>!((reads ops o).contains d))
def Cz:Class->Class->Option Bool
 |.none,_=>some false
 |_,.none=>some false
 |.rd,.rd=>some false
 |.rd,.call=>some false
 |.call,.rd=>some false
 |.call,.call=>some false
 |.rd,.wr=>some true
 |.wr,.rd=>some true
 |.wr,.wr=>some true
 |.call,.wr=>none
 |.wr,.call=>none
structure Row where
 quiet:Bool
 apart:List Operand
 own:List Operand
structure Plan where
 ok:Bool
 rows:List Row
def Zfg (ops:List Oper) (i:Nat):Class:=match nth ops i with |some o=>Yd o.op |none=>.none
def bq (bs:List Nat) (i j:Nat):Bool:=!(Nat.beq i j) && !(behind bs i j) && !(behind bs j i)
def makes:Op->Bool
 |.alloc _=>true
 |.box _ _=>true
 |.buildSlice _ _ _=>true
 |.makeSlice _ _ _=>true
 |.makeMap _ _=>true
 |_=>false
def ti (ops:List Oper) (i:Nat):Bool:=match nth ops i with |some o=>makes o.op |none=>false
def names (xs:List Operand) (d:Option Tmp):Bool:=
 match d with
 |none=>false
 |some d=>xs.any fun |.tmp t=>Nat.beq t d |_=>false
def okAt (ops:List Oper) (bs:List Nat) (i:Nat):Bool:=
 match nth ops i with
 |none=>true
 |some o=>
  !names (Y9 o.op) o.dst && o.after.toList.all (λe=>!Region.binds .any e || Nat.blt e.on i) &&
  (List.range i).all λj=>
   (match nth ops j with
    |none=>true
    |some p=>!names (Y9 p.op) o.dst && (behind bs i j || (O7 ops o p && (Cz (Yd o.op) (Yd p.op)).isSome)))
def Dr (ops:List Oper) (bs:List Nat) (i:Nat):List Nat:=
 (List.range i).filter λj=>bq bs i j && (match Cz (Zfg ops i) (Zfg ops j) with |some b=>b |none=>true)
def Lu (ops:List Oper) (i:Nat):List Operand:=match nth ops i with |some o=>Y9 o.op |none=>[]
def rowAt (ops:List Oper) (bs:List Nat) (i:Nat):Row:=
 ⟨Ou (Zfg ops i) && (List.range ops.length).any (λj=>bq bs i j && ((Zfg ops j).U2 || (Nat.blt j i && ti ops j))),
  (Dr ops bs i).flatMap (Lu ops),
  cond (Dr ops bs i).isEmpty [] (Lu ops i)⟩
def L5 (ops:List Oper) (bs:List Nat):Plan:=
 ⟨(List.range ops.length).all (okAt ops bs),(List.range ops.length).map (rowAt ops bs)⟩
def Gl (P:Program) (E:Env):List Operand->Option (List (List Nat))
 |[]=>some []
 |x::xs=>Zf (K9 P E x) λv=>Zf (Gl P E xs) λl=>some (Xl v::l)
def D3 (a b:List (List Nat)):Bool:=a.all λx=>b.all λy=>x.all λi=>y.all λj=>!(Nat.beq i j)
def Ak {β:Type} (P:Program) (call:Jh) (lo nt:Nat) (ops:List Oper):List Oper->List Row->Env->AH->(Env->AH->Option β)->Option β
 |[],_,E,H,k=>k E H
 |o::rest,rows,E,H,k=>
  match rows with
  |[]=>none
  |r::rows=>
   cond (bound nt o.dst)
    (Zf (Gl P E r.apart) λa=>Zf (Gl P E r.own) λb=>Zp (D3 a b) (Zp (cond r.quiet (Nat.ble lo H.next) true)
     (Vn P call (cond r.quiet H.next lo) ops E H o λv H=>Ak P call lo nt ops rest rows (Bv E o.dst v) H k))) none
def Pw {β:Type} (P:Program) (call:Jh) (lo nt:Nat) (ops:List Oper) (draw:Bool) (E:Env) (H:AH) (k:Env->AH->Option β):Option β:=
 match draw with
 |true=>(match L5 ops (Yp ops []) with |⟨ok,rows⟩=>cond ok (Ak P call lo nt ops ops rows E H k) none)
 |false=>ml P call lo nt ops ops E H k
inductive Ex where
 |normal
 |exit (id:Nat)
 |ret
abbrev Bn (σ:Type):=Option (Ex×σ×AH)
abbrev Piece (σ:Type)   := σ->AH->Bn σ
def leafE {σ:Type} (f:σ->AH->(σ->AH->Bn σ)->Bn σ):Piece σ:=λS H=>f S H λS H=>some (.normal,S,H)
def Zcj {σ:Type} (e:Ex):Piece σ:=λS H=>some (e,S,H)
def seqE {σ:Type} (f g:Piece σ):Piece σ:=λS H=>
 Option.rec (motive:=λ_=>Bn σ) none (λp=>Ex.casesOn (motive:=λ_=>Bn σ) p.1 (g p.2.1 p.2.2) (λ_=>some p) (some p)) (f S H)
def condE {σ:Type} (c:σ->Option Value) (f g:Piece σ):Piece σ:=λS H=>
 Za (c S) λv=>match v with
  |.bool t=>cond t (f S H) (g S H)
  |_=>none
def S7 {σ:Type} (id:Nat) (f:Piece σ):Piece σ:=λS H=>
 Option.rec (motive:=λ_=>Bn σ) none (λp=>Ex.casesOn (motive:=λ_=>Bn σ) p.1 (some p) (λSl=>cond (Nat.beq Sl id) (some (.normal,p.2)) (some p)) (some p)) (f S H)
def Cb {σ:Type} (f:Piece σ) (fuel:Nat):Piece σ:=
 Nat.rec (motive:=λ_=>Piece σ) (λ_ _=>none)
  (λ_ ih S H=>Option.rec (motive:=λ_=>Bn σ) none (λp=>Ex.casesOn (motive:=λ_=>Bn σ) p.1 (ih p.2.1 p.2.2) (λ_=>some p) (some p)) (f S H)) fuel
def I1 (P:Program) (call:Jh) (fuel lo nt:Nat) (Zs:List Tmp):Code->Piece (V Zs)
 |.skip=>Zcj .normal
 |.label _=>Zcj .normal
 |.ret=>Zcj .ret
 |.exit id=>Zcj (.exit id)
 |.region _ ops draw=>leafE λS H k=>Pw P call lo nt ops.toList draw (Wt Zs S) H λE H=>k (mkV E Zs) H
 |.seq a b=>seqE (I1 P call fuel lo nt Zs a) (I1 P call fuel lo nt Zs b)
 |.cond c a b=>condE (λS=>K9 P (Wt Zs S) c) (I1 P call fuel lo nt Zs a) (I1 P call fuel lo nt Zs b)
 |.block id c=>S7 id (I1 P call fuel lo nt Zs c)
 |.loop c=>Cb (I1 P call fuel lo nt Zs c) fuel
 |.scope c=>I1 P call fuel lo nt Zs c
 |_=>λ_ _=>none
def Eo {β:Type} (P:Program) (E:Env) (H:AH):List ResultVar->(List Value->Option β)->Option β
 |[],k=>k []
 |.tmp t::rs,k=>Zf (X4 E t) λv=>Eo P E H rs λvs=>k (v::vs)
 |.cell a t::rs,k=>Zf (X4 E a) λa=>Zf (Y7 P t) λi=>Za (I0 H i.agg i.size a) λv=>Eo P E H rs λvs=>k (v::vs)
def oneOf:List Value->Value
 |[v]=>v
 |vs=>.tuple ⟨vs⟩
def Xr {β:Type} (e:Ex) (r:Option β):Option β:=Ex.casesOn (motive:=λ_=>Option β) e r (λ_=>none) r
def Zfc (P:Program) (call:Jh) (fuel lo nt:Nat) (Zs:List Tmp) (c:Code) (rs:List ResultVar) (args:List Value) (H:AH):Option (Value×AH):=
 Za (I1 P call fuel lo nt Zs c (Ad args Zs) H) λp=>
  Xr p.1 (Eo P (Wt Zs p.2.1) p.2.2 rs λvs=>some (oneOf vs,p.2.2))
inductive Lv where
 |all |pure
def leave (m:Lv) (B:AH) (r:Option (Value×AH)):Option (Value×AH):=
 match m with
 |.all=>r
 |.pure=>Gm r λv _=>Zp (plain v) (some (v,B))
def Za7 (m:Lv) (lo:Nat) (H:AH):Nat:=match m with |.all=>lo |.pure=>cond (Nat.ble lo H.next) H.next lo
structure Ctx where
 fuel:Nat
 Zs:FuncId->List Tmp
 mode:FuncId->Lv
def evFn (P:Program) (C:Ctx) (call:Jh):Jh:=λlo f args H=>
 Zf (nth P.funcs.toList f) λfn=>Zf fn.body λc=>
  Zp (!(fn.name == "runtime.NumGoroutine"))
   (leave (C.mode f) H (Zfc P call C.fuel (Za7 (C.mode f) lo H) fn.ntmps (C.Zs f) c fn.results.toList args H))
def Zfb (P:Program) (C:Ctx):Nat->Jh
 |0=>λ_ _ _ _=>none
 |d+1=>evFn P C (Zfb P C d)
abbrev FnF:=Nat->List Value->AH->Option (Value×AH)
end
end Go.Ev
namespace Go.Ev
theorem Uj {a b:Nat} (h:a=b):Nat.beq a b=true:=by subst h;exact Nat.beq_refl a
theorem Wm {a b:Nat} (h:a≠b):Nat.beq a b=false:=by
 cases e:Nat.beq a b with
 |false=>rfl
 |true=>exact absurd (Nat.eq_of_beq_eq_true e) h
theorem Qb {a b:Nat} (h:Nat.beq a b=true):a=b:=Nat.eq_of_beq_eq_true h
theorem Qa {a b:Nat} (h:Nat.ble a b=true):a<=b:=Nat.le_of_ble_eq_true h
theorem Vq {a b:Nat} (h:Nat.beq a b=false):a≠b:=by intro e;rw [Uj e] at h;cases h
theorem Up {a b:Nat} (h:Nat.ble a b=false):b < a:=by
 rcases Nat.lt_or_ge b a with h' |h'
 ·exact h'
 ·rw [Nat.ble_eq_true_of_le h'] at h;cases h
@[simp] theorem Tr.get_leaf {α:Type} (n:Nat):(Tr.leaf:Tr α).get n=none:=rfl
theorem Tr.Hp {α:Type} (l r:Tr α) (v:Option α) (n:Nat) :
  (Tr.node l v r).get n=if n=0 then v else if n % 2=1 then l.get (n / 2) else r.get (n / 2 - 1):=by
 show cond (Nat.beq n 0) v (cond (Nat.beq (n % 2) 1) (l.get (n / 2)) (r.get (Nat.pred (n / 2))))=_
 by_cases h:n=0
 ·subst h;rfl
 ·have h1:Nat.beq n 0=false:=Wm h;rw [h1,if_neg h]
  by_cases h2:n % 2=1
  ·have h3:Nat.beq (n % 2) 1=true:=Uj h2;rw [h3,if_pos h2];rfl
  ·have h3:Nat.beq (n % 2) 1=false:=Wm h2;rw [h3,if_neg h2];rfl
theorem Tr.Sw {α:Type} (t:Tr α) (n:Nat) :
  t.get n=if n=0 then t.val else if n % 2=1 then t.lef.get (n / 2) else t.rig.get (n / 2 - 1):=by
 cases t with
 |leaf=>simp [Tr.val,Tr.lef,Tr.rig]
 |node l v r=>rw [Tr.Hp];rfl
theorem Tr.Zir {α:Type} (f:Nat) (t:Tr α) (n:Nat) (x:Option α) :
  Tr.Zdt (f+1) t n x=if n=0 then .node t.lef x t.rig else if n % 2=1 then .node (Tr.Zdt f t.lef (n / 2) x) t.val t.rig
   else .node t.lef t.val (Tr.Zdt f t.rig (n / 2 - 1) x):=by
 show cond (Nat.beq n 0) _ (cond (Nat.beq (n % 2) 1) (Tr.node (Tr.Zdt f t.lef (n / 2) x) t.val t.rig) (Tr.node t.lef t.val (Tr.Zdt f t.rig (Nat.pred (n / 2)) x)))=_
 by_cases h:n=0
 ·subst h;rfl
 ·have h1:Nat.beq n 0=false:=Wm h;rw [h1,if_neg h]
  by_cases h2:n % 2=1
  ·have h3:Nat.beq (n % 2) 1=true:=Uj h2;rw [h3,if_pos h2];rfl
  ·have h3:Nat.beq (n % 2) 1=false:=Wm h2;rw [h3,if_neg h2];rfl
theorem Tr.Zo1 {α:Type}:∀ (f:Nat) (t:Tr α) (n m:Nat) (x:Option α),n < f->(Tr.Zdt f t n x).get m=if m=n then x else t.get m:=by
 intro f
 induction f with
 |zero=>intro t n m x h;omega
 |succ f ih=>
  intro t n m x h;rw [Tr.Zir]
  by_cases h0:n=0
  ·rw [if_pos h0,Tr.Hp,Tr.Sw t m];subst h0
   by_cases hm:m=0 <;> simp [hm]
  ·rw [if_neg h0]
   by_cases h2:n % 2=1
   ·rw [if_pos h2,Tr.Hp,Tr.Sw t m,ih _ _ _ _ (by omega)]
    by_cases hm:m=0
    ·rw [if_pos hm,if_pos hm,if_neg (by omega)]
    ·rw [if_neg hm,if_neg hm]
     by_cases hm2:m % 2=1
     ·rw [if_pos hm2,if_pos hm2]
      by_cases e:m=n
      ·rw [if_pos e,if_pos (by omega)]
      ·rw [if_neg e,if_neg (by omega)]
     ·rw [if_neg hm2,if_neg hm2,if_neg (by intro e;subst e;exact hm2 h2)]
   ·rw [if_neg h2,Tr.Hp,Tr.Sw t m,ih _ _ _ _ (by omega)]
    by_cases hm:m=0
    ·rw [if_pos hm,if_pos hm,if_neg (by omega)]
    ·rw [if_neg hm,if_neg hm]
     by_cases hm2:m % 2=1
     ·rw [if_pos hm2,if_pos hm2,if_neg (by intro e;subst e;exact h2 hm2)]
     ·rw [if_neg hm2,if_neg hm2]
      by_cases e:m=n
      ·rw [if_pos e,if_pos (by omega)]
      ·rw [if_neg e,if_neg (by omega)]
theorem Tr.U7 {α:Type} (t:Tr α) (n m:Nat) (x:Option α):(t.put n x).get m=if m=n then x else t.get m:=
 Tr.Zo1 (n+1) t n m x (by omega)
theorem AH.Yq (H:AH) (o:Ir) (i:Nat):(H.push o).get i=if i=H.next then some o else H.get i:=Tr.U7 _ _ _ _
theorem AH.D2 (H:AH) (j:Nat) (o:Ir) (i:Nat):(H.set j o).get i=if i=j then some o else H.get i:=Tr.U7 _ _ _ _
theorem AH.Mi (H:AH) (j i:Nat):(H.kill j).get i=if i=j then none else H.get i:=Tr.U7 _ _ _ _
@[simp] theorem AH.next_push (H:AH) (o:Ir):(H.push o).next=H.next+1:=rfl
@[simp] theorem AH.Zaz (H:AH) (j:Nat) (o:Ir):(H.set j o).next=H.next:=rfl
@[simp] theorem AH.Sd (H:AH) (j:Nat):(H.kill j).next=H.next:=rfl
@[simp] theorem bindV_some {α β:Type} (v:α) (k:α->Option β):Za (some v) k=k v:=rfl
@[simp] theorem bindV_none {α β:Type} (k:α->Option β):Za none k=none:=rfl
@[simp] theorem Zo {α β:Type} (v:α) (k:α->Option β):Zf (some v) k=k v:=rfl
@[simp] theorem withX_none {α β:Type} (k:α->Option β):Zf none k=none:=rfl
@[simp] theorem Zt1 {β:Type} (p:Value×AH) (k:Value->AH->Option β):Gm (some p) k=k p.1 p.2:=rfl
@[simp] theorem Zt2 {β:Type} (k:Value->AH->Option β):Gm none k=none:=rfl
@[simp] theorem Yw {β:Type} (k:Option β):Zp true k=k:=rfl
@[simp] theorem need_false {β:Type} (k:Option β):Zp false k=none:=rfl
theorem Z5 {α β:Type} {r:Option α} {k:α->Option β} {y:β} (h:Za r k=some y):∃ v,r=some v/\k v=some y:=by
 cases r with
 |none=>cases h
 |some v=>exact ⟨v,rfl,h⟩
theorem Zj {α β:Type} {r:Option α} {k:α->Option β} {y:β} (h:Zf r k=some y):∃ v,r=some v/\k v=some y:=by
 cases r with
 |none=>cases h
 |some v=>exact ⟨v,rfl,h⟩
theorem Lz {β:Type} {r:Option (Value×AH)} {k:Value->AH->Option β} {y:β} (h:Gm r k=some y):∃ v H,r=some (v,H)/\k v H=some y:=by
 cases r with
 |none=>cases h
 |some p=>exact ⟨p.1,p.2,rfl,h⟩
theorem Zt {β:Type} {b:Bool} {k:Option β} {y:β} (h:Zp b k=some y):b=true/\k=some y:=by
 cases b with
 |false=>cases h
 |true=>exact ⟨rfl,h⟩
theorem Lk {β:Type} {b:Bool} {k:Option β} {y:β} (h:cond b k none=some y):b=true/\k=some y:=by
 cases b with
 |false=>cases h
 |true=>exact ⟨rfl,h⟩
theorem Xq {α:Type} (l:List α) (n:Nat):nth l n=l[n]?:=by
 induction l generalizing n with
 |nil=>rfl
 |cons x l ih=>
  cases n with
  |zero=>rfl
  |succ n=>rw [List.getElem?_cons_succ,<- ih];rfl
theorem Zpk (l:List Value) (n:Nat):Zpl l n=l.drop n:=by
 induction l generalizing n with
 |nil=>simp [Zpl]
 |cons x l ih=>
  cases n with
  |zero=>rfl
  |succ n=>rw [List.drop_succ_cons,<- ih];rfl
theorem Zln (l:List Value) (n:Nat):takeN l n=l.take n:=by
 induction l generalizing n with
 |nil=>simp [takeN]
 |cons x l ih=>
  cases n with
  |zero=>rfl
  |succ n=>rw [List.take_succ_cons,<- ih];rfl
theorem K4 (l:List Value):Ix l=l.length:=by
 induction l with
 |nil=>rfl
 |cons x l ih=>rw [List.length_cons,<- ih];rfl
theorem Zm6 (vs cs:List Value) (h:vs.length<=cs.length):Zam vs cs=vs++cs.drop vs.length:=by
 induction vs generalizing cs with
 |nil=>rfl
 |cons v vs ih=>
  cases cs with
  |nil=>simp at h
  |cons c cs=>
   have:Zam (v::vs) (c::cs)=v::Zam vs cs:=rfl;rw [this,ih cs (by simpa using h)];rfl
theorem Rl (cs vs:List Value) (off:Nat) (h:off+vs.length<=cs.length):over cs off vs=cs.take off++(vs++cs.drop (off+vs.length)):=by
 induction cs generalizing off with
 |nil=>
  have h1:vs=[]:=by cases vs with |nil=>rfl |cons=>simp at h
  have h2:off=0:=by subst h1;simpa using h
  subst h1 h2;rfl
 |cons c cs ih=>
  cases off with
  |zero=>
   have:over (c::cs) 0 vs=Zam vs (c::cs):=rfl;rw [this,Zm6 _ _ (by simpa using h)];simp
  |succ off=>
   have:over (c::cs) (off+1) vs=c::over cs off vs:=rfl;rw [this,ih off (by simp at h;omega)]
   simp [show off+1+vs.length=off+vs.length+1 from by omega]
theorem Dz (cs:List Value) (off n:Nat):P9 cs off n=(cs.drop off).take n:=by simp [P9,Zln,Zpk]
theorem zi (cs vs:List Value) (off:Nat) (h:off+vs.length<=cs.length):(over cs off vs).length=cs.length:=by
 rw [Rl _ _ _ h];simp;omega
theorem Zo2 (cs vs:List Value) (off i:Nat) (h:off+vs.length<=cs.length) :
  (over cs off vs)[i]? = if i < off then cs[i]? else if i < off+vs.length then vs[i - off]? else cs[i]?:=by
 rw [Rl _ _ _ h]
 by_cases h1:i < off
 ·rw [if_pos h1,List.getElem?_append_left (by simp;omega),List.getElem?_take,if_pos h1]
 ·rw [if_neg h1,List.getElem?_append_right (by simp;omega)]
  have e:(List.take off cs).length=off:=by simp;omega
  rw [e]
  by_cases h2:i < off+vs.length
  ·rw [if_pos h2,List.getElem?_append_left (by omega)]
  ·rw [if_neg h2,List.getElem?_append_right (by omega),List.getElem?_drop]
   congr 1;omega
theorem bh (cs:List Value) (off n i:Nat):(P9 cs off n)[i]? = if i < n then cs[off+i]? else none:=by
 rw [Dz,List.getElem?_take];split
 ·rw [List.getElem?_drop]
 ·rfl
theorem C3 (cs:List Value) (off n:Nat) (h:off+n<=cs.length):(P9 cs off n).length=n:=by
 rw [Dz];simp;omega
theorem Rc (z:List Value) (n:Nat):Vs z (n+1)=z++Vs z n:=rfl
theorem U6 (z:List Value) (n:Nat):(Vs z n).length=n * z.length:=by
 induction n with
 |zero=>rw [Nat.zero_mul];rfl
 |succ n ih=>rw [Rc,List.length_append,ih,Nat.succ_mul];omega
structure Loc where
 W5:Nat
 sh:Nat
 size:Nat
abbrev Map:=Nat->Option Loc
mutual
inductive Qc (ρ:Map):Value->Value->Prop where
 |flat {v:Value} (h:flat v=true):Qc ρ v v
 |ptr {i off:Nat} {l:Loc} (h:ρ i=some l):Qc ρ (.pointer (some ⟨i,off,none⟩)) (.pointer (some ⟨l.W5,l.sh+off,none⟩))
 |slice {i off len cap c:Nat} {l:Loc} (h:ρ i=some l) (h1:cap < Xk->c=cap) (h2:Xk<=cap->len<=c/\l.sh+off+c * (cap - Xk)<=l.size) :
   Qc ρ (.slice (some ⟨i,off,none⟩) len cap) (.slice (some ⟨l.W5,l.sh+off,none⟩) len c)
 |Kj {i off cap:Nat} {a:Addr} {l:Loc} (h:ρ i=some l) (ha:a.spot=none) (hc:Xk<=cap\/cap=0):Qc ρ (.slice (some ⟨i,off,none⟩) 0 cap) (.slice (some a) 0 0)
 |map {i:Nat} {l:Loc} (h:ρ i=some l):Qc ρ (.map (some i)) (.map (some l.W5))
 |func {fn:Fn} {f f' c c':Array Value} (h:Xt ρ f.toList f'.toList) (h':Xt ρ c.toList c'.toList):Qc ρ (.func fn f c) (.func fn f' c')
 |iface {t:TypeId} {v v':Value} (h:Qc ρ v v'):Qc ρ (.iface t v) (.iface t v')
 |agg {cs ds:Array Value} (h:Xt ρ cs.toList ds.toList):Qc ρ (.agg cs) (.agg ds)
 |tuple {cs ds:Array Value} (h:Xt ρ cs.toList ds.toList):Qc ρ (.tuple cs) (.tuple ds)
inductive Xt (ρ:Map):List Value->List Value->Prop where
 |nil:Xt ρ [] []
 |cons {v v':Value} {l l':List Value} (h:Qc ρ v v') (t:Xt ρ l l'):Xt ρ (v::l) (v'::l')
end
def Ext (ρ ρ':Map):Prop:=∀ i l,ρ i=some l->ρ' i=some l
mutual
theorem Qc.mono {ρ ρ':Map} (e:Ext ρ ρ'):∀ {v v':Value},Qc ρ v v'->Qc ρ' v v'
 |_,_,.flat h=>.flat h
 |_,_,.ptr h=>.ptr (e _ _ h)
 |_,_,.slice h h1 h2=>.slice (e _ _ h) h1 h2
 |_,_,.Kj h ha hc=>.Kj (e _ _ h) ha hc
 |_,_,.map h=>.map (e _ _ h)
 |_,_,.func h h'=>.func (Xt.mono e h) (Xt.mono e h')
 |_,_,.iface h=>.iface (Qc.mono e h)
 |_,_,.agg h=>.agg (Xt.mono e h)
 |_,_,.tuple h=>.tuple (Xt.mono e h)
theorem Xt.mono {ρ ρ':Map} (e:Ext ρ ρ'):∀ {l l':List Value},Xt ρ l l'->Xt ρ' l l'
 |_,_,.nil=>.nil
 |_,_,.cons h t=>.cons (Qc.mono e h) (Xt.mono e t)
end
theorem Xt.length {ρ:Map}:∀ {l l':List Value},Xt ρ l l'->l.length=l'.length
 |_,_,.nil=>rfl
 |_,_,.cons _ t=>by simp [Xt.length t]
theorem Xt.get {ρ:Map}:∀ {l l':List Value},Xt ρ l l'->∀ (i:Nat) (v:Value),l[i]? = some v->∃ v',l'[i]? = some v'/\Qc ρ v v'
 |_,_,.nil,i,v,h=>by simp at h
 |_,_,.cons h t,i,v,hi=>by
  cases i with
  |zero=>simp at hi;subst hi;exact ⟨_,rfl,h⟩
  |succ i=>simp at hi;simpa using Xt.get t i v hi
theorem Xt.Zne {ρ:Map}:∀ {l l':List Value},l.length=l'.length->(∀ (i:Nat) (v:Value),l[i]? = some v->∃ v',l'[i]? = some v'/\Qc ρ v v')->Xt ρ l l'
 |[],[],_,_=>.nil
 |[],_::_,h,_=>by simp at h
 |_::_,[],h,_=>by simp at h
 |x::l,y::l',h,hh=>by
  obtain ⟨v',h1,h2⟩:=hh 0 x rfl;simp at h1;subst h1;exact .cons h2 (Xt.Zne (by simpa using h) λi v hi=>by simpa using hh (i+1) v (by simpa using hi))
theorem Xt.append {ρ:Map}:∀ {a a' b b':List Value},Xt ρ a a'->Xt ρ b b'->Xt ρ (a++b) (a'++b')
 |_,_,_,_,.nil,h=>h
 |_,_,_,_,.cons h t,h'=>.cons h (Xt.append t h')
theorem Xt.take {ρ:Map}:∀ (n:Nat) {a a':List Value},Xt ρ a a'->Xt ρ (a.take n) (a'.take n)
 |0,_,_,_=>by simpa using Xt.nil
 |_+1,_,_,.nil=>by simpa using Xt.nil
 |n+1,_,_,.cons h t=>by simpa using Xt.cons h (Xt.take n t)
theorem Xt.drop {ρ:Map}:∀ (n:Nat) {a a':List Value},Xt ρ a a'->Xt ρ (a.drop n) (a'.drop n)
 |0,_,_,h=>by simpa using h
 |_+1,_,_,.nil=>by simpa using Xt.nil
 |n+1,_,_,.cons _ t=>by simpa using Xt.drop n t
theorem Xt.P9 {ρ:Map} {a a':List Value} (h:Xt ρ a a') (off n:Nat):Xt ρ (P9 a off n) (P9 a' off n):=by
 rw [Dz,Dz];exact Xt.take n (Xt.drop off h)
theorem Xt.flat {ρ:Map}:∀ {l:List Value},l.all Ev.flat=true->Xt ρ l l
 |[],_=>.nil
 |_::l,h=>by
  simp at h;exact .cons (.flat h.1) (Xt.flat (by simpa using h.2))
theorem Qc.plain {ρ:Map} {v:Value} (h:Ev.plain v=true):Qc ρ v v:=by
 unfold Ev.plain at h;split at h
 ·exact .agg (Xt.flat h)
 ·exact .tuple (Xt.flat h)
 ·exact .flat h
theorem Qc.undef {ρ:Map}:Qc ρ undef undef:=.tuple (by simpa using Xt.nil)
theorem Qc.cells {ρ:Map} {v v':Value} (h:Qc ρ v v'):Xt ρ (cellsOf v) v'.cells.toList:=by
 cases h with
 |agg h=>exact h
 |flat h=>cases v <;> first |(simp [Ev.flat] at h;done) |exact .cons (.flat h) .nil
 |_=>first |exact .cons (.ptr (by assumption)) .nil |exact .cons (.slice (by assumption) (by assumption) (by assumption)) .nil |exact .cons (.Kj (by assumption) (by assumption) (by assumption)) .nil |exact .cons (.map (by assumption)) .nil |exact .cons (.func (by assumption) (by assumption)) .nil |exact .cons (.iface (by assumption)) .nil |exact .cons (.tuple (by assumption)) .nil
theorem Qc.single {ρ:Map} {v v':Value} (h:Qc ρ v v') (hs:Ev.single v=true):v'.oneCell'=true:=by
 cases h with
 |flat h=>cases v <;> first |rfl |(simp [Ev.single] at hs;done)
 |agg h=>simp [Ev.single] at hs
 |tuple h=>simp [Ev.single] at hs
 |_=>rfl
inductive Df (ρ:Map):List MapEntry->List MapEntry->Prop where
 |nil:Df ρ [] []
 |cons {e e':MapEntry} {l l':List MapEntry} (hk:Qc ρ e.key e'.key) (hv:Qc ρ e.val e'.val) (hb:e.born=e'.born) (t:Df ρ l l'):Df ρ (e::l) (e'::l')
theorem Df.mono {ρ ρ':Map} (e:Ext ρ ρ'):∀ {l l':List MapEntry},Df ρ l l'->Df ρ' l l'
 |_,_,.nil=>.nil
 |_,_,.cons hk hv hb t=>.cons (hk.mono e) (hv.mono e) hb (Df.mono e t)
theorem Df.length {ρ:Map}:∀ {l l':List MapEntry},Df ρ l l'->l.length=l'.length
 |_,_,.nil=>rfl
 |_,_,.cons _ _ _ t=>by simp [Df.length t]
def To (_P:Program) (ρ:Map) (o:Ir) (l:Loc) (w:World):Prop:=
 match o with
 |.cells s cs e=>cs.length=s/\l.sh+s<=l.size /\
   ∃ c fz,w.heap[l.W5]? = some (.cells c e fz)/\c.size=l.size/\∀ (i:Nat) (v:Value),cs[i]? = some v->∃ v',c[l.sh+i]? = some v'/\Qc ρ v v'
 |.map es clock=>∃ Ed,w.heap[l.W5]? = some (.map Ed clock)/\Df ρ es Ed.toList
theorem To.mono {P:Program} {ρ ρ':Map} {o:Ir} {l:Loc} {w:World} (e:Ext ρ ρ') (h:To P ρ o l w):To P ρ' o l w:=by
 cases o with
 |cells s cs t=>
  obtain ⟨h1,h3,c,fz,h4,h5,h6⟩:=h;exact ⟨h1,h3,c,fz,h4,h5,λi v hi=>let ⟨v',a,b⟩:=h6 i v hi;⟨v',a,b.mono e⟩⟩
 |map es clock=>
  obtain ⟨Ed,h1,h2⟩:=h;exact ⟨Ed,h1,h2.mono e⟩
theorem To.same {P:Program} {ρ:Map} {o:Ir} {l:Loc} {w w':World} (e:w'.heap[l.W5]? = w.heap[l.W5]?) (h:To P ρ o l w):To P ρ o l w':=by
 cases o with
 |cells s cs t=>
  obtain ⟨h1,h3,c,fz,h4,h5,h6⟩:=h;exact ⟨h1,h3,c,fz,e.trans h4,h5,h6⟩
 |map es clock=>
  obtain ⟨Ed,h1,h2⟩:=h;exact ⟨Ed,e.trans h1,h2⟩
def W7 (w:World) (b:Nat):Prop:=∀ c e fz,w.heap[b]? = some (.cells c e fz)->fz.2=0
structure Jd (P:Program) (base:Nat) (K:Nat->Prop) (ρ:Map) (H:AH) (w:World):Prop where
 fit:∀ i o,K i->H.get i=some o->∃ l,ρ i=some l/\To P ρ o l w/\(base<=i->W7 w l.W5)
 inj:∀ i j oi oj li lj,K i->K j->H.get i=some oi->H.get j=some oj->ρ i=some li->ρ j=some lj->li.W5=lj.W5->i=j
 Js:∀ i l,ρ i=some l->i < H.next/\l.W5 < w.heap.size
 uv:∀ g,g < P.globals.size->∃ l,ρ g=some l/\l.W5=g/\l.sh=0
def Ln (w w':World):Prop:=w'.os=w.os/\w'.output=w.output
structure Step (P:Program) (base:Nat) (W K:Nat->Prop) (ρ:Map) (H:AH) (w:World) (ρ':Map) (H':AH) (w':World):Prop where
 Dq:∀ i,i < H.next->ρ' i=ρ i
 next:H.next<=H'.next
 rel:Jd P base (λi=>K i\/(H.next<=i/\(ρ' i).isSome=true)) ρ' H' w'
 size:w.heap.size<=w'.heap.size
 alive:∀ i,i < H.next->H'.get i≠none->H.get i≠none
 Zs:∀ i,i < H.next->¬ W i->H'.get i=H.get i
 frame:∀ b,b < w.heap.size->(∀ i l,W i->H.get i≠none->ρ i=some l->l.W5≠b)->w'.heap[b]? = w.heap[b]?
 Pj:∀ i l,H.next<=i->ρ' i=some l->w.heap.size<=l.W5\/∃ j lj,W j/\H.get j≠none/\ρ j=some lj/\lj.W5=l.W5
 full:∀ i,H.next<=i->i < H'.next->∃ l,ρ' i=some l
 env:Ln w w'
 Bw:∀ b,b < w.heap.size->W7 w b->W7 w' b
theorem Step.ext {P:Program} {base:Nat} {W K:Nat->Prop} {ρ ρ':Map} {H H':AH} {w w':World} (h:Step P base W K ρ H w ρ' H' w')
  (hr:∀ i l,ρ i=some l->i < H.next):Ext ρ ρ':=λi l hi=>by rw [h.Dq i (hr i l hi)];exact hi
end Go.Ev
namespace Go.Ev
def Js (ρ:Map) (i:Nat):Prop:=(ρ i).isSome=true
theorem Yv {ρ:Map} {i:Nat} {l:Loc} (h:ρ i=some l):Js ρ i:=by simp [Js,h]
variable {P:Program} {base:Nat} {W K:Nat->Prop} {ρ ρ':Map} {H H':AH} {w w':World}
theorem Jd.weaken {K':Nat->Prop} (h:Jd P base K ρ H w) (hk:∀ i,K' i->K i):Jd P base K' ρ H w:=
 ⟨λi o hi=>h.fit i o (hk i hi),λi j oi oj li lj hi hj=>h.inj i j oi oj li lj (hk i hi) (hk j hj),h.Js,h.uv⟩
theorem Step.refl (h:Jd P base K ρ H w):Step P base W K ρ H w ρ H w where
 Dq _ _:=rfl
 next:=Nat.le_refl _
 rel:=h.weaken λi hi=>hi.elim id λ⟨a,b⟩=>by
  obtain ⟨l,hl⟩:=Option.isSome_iff_exists.1 b;exact absurd (h.Js i l hl).1 (by omega)
 size:=Nat.le_refl _
 alive _ _ hi:=hi
 Zs _ _ _:=rfl
 frame _ _ _:=rfl
 Pj i l hi hl:=absurd (h.Js i l hl).1 (by omega)
 full i h1 h2:=absurd h1 (by omega)
 env:=⟨rfl,rfl⟩
 Bw _ _ h:=h
theorem Step.wider {W':Nat->Prop} (h:Step P base W K ρ H w ρ' H' w') (hw:∀ i,W i->W' i):Step P base W' K ρ H w ρ' H' w' where
 Dq:=h.Dq
 next:=h.next
 rel:=h.rel
 size:=h.size
 alive:=h.alive
 Zs i hi hn:=h.Zs i hi λx=>hn (hw i x)
 frame b hb hh:=h.frame b hb λi l hi=>hh i l (hw i hi)
 Pj i l h1 h2:=(h.Pj i l h1 h2).imp id λ⟨j,lj,a,b,c,d⟩=>⟨j,lj,hw j a,b,c,d⟩
 full:=h.full
 env:=h.env
 Bw:=h.Bw
theorem Step.trans {W':Nat->Prop} {ρ₁ ρ₂:Map} {Zc9 H₂:AH} {w₁ w₂:World} (h:Step P base W K ρ H w ρ₁ Zc9 w₁)
  (h':Step P base W' (λi=>K i\/(H.next<=i/\(ρ₁ i).isSome=true)) ρ₁ Zc9 w₁ ρ₂ H₂ w₂) (hW:∀ i,i < H.next->W' i->W i) :
  Step P base W K ρ H w ρ₂ H₂ w₂ where
 Dq i hi:=by rw [h'.Dq i (by have:=h.next;omega),h.Dq i hi]
 next:=Nat.le_trans h.next h'.next
 rel:=h'.rel.weaken λi hi=>by
  rcases hi with hi |⟨hi,hs⟩
  ·exact .inl (.inl hi)
  ·by_cases Jo:i < Zc9.next
   ·exact .inl (.inr ⟨hi,by rw [<- h'.Dq i Jo];exact hs⟩)
   ·exact .inr ⟨by omega,hs⟩
 size:=Nat.le_trans h.size h'.size
 alive i hi ha:=h.alive i hi (h'.alive i (by have:=h.next;omega) ha)
 Zs i hi hn:=by rw [h'.Zs i (by have:=h.next;omega) λx=>hn (hW i hi x),h.Zs i hi hn]
 frame b hb hh:=by
  rw [h'.frame b (by have:=h.size;omega) ?_,h.frame b hb hh]
  intro i l hi ha hl
  by_cases Jo:i < H.next
  ·exact hh i l (hW i Jo hi) (h.alive i Jo ha) (by rw [<- h.Dq i Jo];exact hl)
  ·rcases h.Pj i l (by omega) hl with hs |⟨j,lj,a,b',c,d⟩
   ·omega
   ·rw [<- d];exact hh j lj a b' c
 Pj i l hi hl:=by
  by_cases Jo:i < Zc9.next
  ·exact h.Pj i l hi (by rw [<- h'.Dq i Jo];exact hl)
  ·rcases h'.Pj i l (by omega) hl with hs |⟨j,lj,a,b',c,d⟩
   ·left;have:=h.size;omega
   ·by_cases hj:j < H.next
    ·exact .inr ⟨j,lj,hW j hj a,h.alive j hj b',by rw [<- h.Dq j hj];exact c,d⟩
    ·rw [<- d];exact h.Pj j lj (by omega) c
 full i h1 h2:=by
  by_cases Jo:i < Zc9.next
  ·obtain ⟨l,hl⟩:=h.full i h1 Jo;exact ⟨l,by rw [h'.Dq i Jo];exact hl⟩
  ·exact h'.full i (by omega) h2
 env:=⟨h'.env.1.trans h.env.1,h'.env.2.trans h.env.2⟩
 Bw b hl hb:=h'.Bw b (Nat.lt_of_lt_of_le hl h.size) (h.Bw b hl hb)
theorem Step.pw (h:Step P base W (Js ρ) ρ H w ρ' H' w'):Jd P base (Js ρ') ρ' H' w':=
 h.rel.weaken λi hi=>by
  by_cases Jo:i < H.next
  ·exact .inl (by unfold Js at *;rw [<- h.Dq i Jo];exact hi)
  ·exact .inr ⟨by omega,hi⟩
def Tf (ρ:Map) (i:Nat) (l:Loc):Map:=λj=>if j=i then some l else ρ j
theorem Jz (ρ:Map) (i:Nat) (l:Loc):Tf ρ i l i=some l:=by simp [Tf]
theorem G7 {ρ:Map} {i j:Nat} (l:Loc) (h:j≠i):Tf ρ i l j=ρ j:=by simp [Tf,h]
theorem Rf (h:Jd P base K ρ H w) (l:Loc):Ext ρ (Tf ρ H.next l):=λi m hi=>by
 have:=(h.Js i m hi).1;rw [G7 l (by omega)];exact hi
theorem Lh {w w':World} {o:Obj} (e:w'.heap=w.heap.push o) {b:Nat} (hb:b < w.heap.size):w'.heap[b]? = w.heap[b]?:=by
 rw [e,Array.getElem?_push,if_neg (by omega)]
theorem Hk {w w':World} {o:Obj} (e:w'.heap=w.heap.push o):w'.heap[w.heap.size]? = some o:=by
 rw [e,Array.getElem?_push,if_pos rfl]
theorem Step.alloc (h:Jd P base K ρ H w) {ob:Obj} (e:w'.heap=w.heap.push ob) (l:Loc) (hl:l.W5=w.heap.size) (o:Ir)
  (Ov:To P (Tf ρ H.next l) o l w') (xr:W7 w' l.W5) (Sq:Ln w w'):Step P base W K ρ H w (Tf ρ H.next l) (H.push o) w':=by
 have Ec:w'.heap.size=w.heap.size+1:=by rw [e,Array.size_push]
 refine { Dq:=λi hi=>G7 l (by omega),next:=by simp,rel:=⟨?_,?_,?_,?_⟩,size:=by omega,alive:=?_,Zs:=?_,frame:=λb hb _=>Lh e hb,Pj:=?_,full:=?_,env:=Sq,Bw:=?_ }
 ·intro i o' hk ho;rw [AH.Yq] at ho
  by_cases hi:i=H.next
  ·subst hi;rw [if_pos rfl] at ho;cases ho;exact ⟨l,Jz _ _ _,Ov,λ_=>xr⟩
  ·rw [if_neg hi] at ho
   have Sp:K i:=by
    rcases hk with hk |⟨h1,h2⟩
    ·exact hk
    ·rw [G7 l hi] at h2;obtain ⟨m,hm⟩:=Option.isSome_iff_exists.1 h2;exact absurd (h.Js i m hm).1 (by omega)
   obtain ⟨m,hm,hf,ht⟩:=h.fit i o' Sp ho;have Jo:=(h.Js i m hm).2
   exact ⟨m,by rw [G7 l hi];exact hm,(hf.same (Lh e Jo)).mono (Rf h l),λhb=>by
    have:=ht hb;simpa only [W7,Lh e Jo] using this⟩
 ·intro i j oi oj li lj hki hkj hoi hoj hli um Hl;rw [AH.Yq] at hoi hoj
  have aux:∀ {i:Nat} {oi:Ir} {li:Loc},i≠H.next->(K i\/(H.next<=i/\((Tf ρ H.next l) i).isSome=true))->Tf ρ H.next l i=some li->K i/\ρ i=some li/\li.W5 < w.heap.size:=by
   intro i _ li hi hk hli;rw [G7 l hi] at hli;have hd:=h.Js i li hli;refine ⟨?_,hli,hd.2⟩;rcases hk with hk |⟨h1,_⟩
   ·exact hk
   ·exact absurd hd.1 (by omega)
  by_cases hi:i=H.next
  ·by_cases hj:j=H.next
   ·rw [hi,hj]
   ·obtain ⟨_,_,hb⟩:=aux (oi:=oj) hj hkj um;rw [hi,Jz] at hli;cases hli;omega
  ·by_cases hj:j=H.next
   ·obtain ⟨_,_,hb⟩:=aux (oi:=oi) hi hki hli;rw [hj,Jz] at um;cases um;omega
   ·rw [if_neg hi] at hoi;rw [if_neg hj] at hoj;obtain ⟨k1,r1,_⟩:=aux (oi:=oi) hi hki hli;obtain ⟨k2,r2,_⟩:=aux (oi:=oj) hj hkj um;exact h.inj i j oi oj li lj k1 k2 hoi hoj r1 r2 Hl
 ·intro i m hm
  by_cases hi:i=H.next
  ·rw [hi,Jz] at hm;cases hm;exact ⟨by simp [hi],by omega⟩
  ·rw [G7 l hi] at hm;have:=h.Js i m hm;exact ⟨by simp;omega,by omega⟩
 ·intro g hg;obtain ⟨m,hm,h1,h2⟩:=h.uv g hg;exact ⟨m,Rf h l g m hm,h1,h2⟩
 ·intro i hi ha;rw [AH.Yq,if_neg (by omega)] at ha;exact ha
 ·intro i hi _;rw [AH.Yq,if_neg (by omega)]
 ·intro i m hi hm
  by_cases Mh:i=H.next
  ·rw [Mh,Jz] at hm;cases hm;left;omega
  ·rw [G7 l Mh] at hm;exact absurd (h.Js i m hm).1 (by omega)
 ·intro i h1 h2;have:i=H.next:=by simp at h2;omega
  exact ⟨l,by rw [this,Jz]⟩
 ·intro b _ hb c e' fz hc;rcases Nat.lt_trichotomy b w.heap.size with h1 |h1 |h1
  ·rw [Lh e h1] at hc;exact hb c e' fz hc
  ·rw [h1,<- hl] at hc;exact xr c e' fz hc
  ·rw [Array.getElem?_eq_none (by omega)] at hc;cases hc
theorem Step.write (h:Jd P base K ρ H w) {i:Nat} {o o':Ir} {l:Loc} (hk:K i) (ho:H.get i=some o) (hl:ρ i=some l) (hW:W i)
  (hs:w'.heap.size=w.heap.size) (he:∀ b,b≠l.W5->w'.heap[b]? = w.heap[b]?) (Ov:To P ρ o' l w') (xr:W7 w' l.W5) (Sq:Ln w w') :
  Step P base W K ρ H w ρ (H.set i o') w':=by
 have Eg:∀ j,(K j\/(H.next<=j/\(ρ j).isSome=true))->K j:=λj hj=>hj.elim id λ⟨a,b⟩=>by
  obtain ⟨m,hm⟩:=Option.isSome_iff_exists.1 b;exact absurd (h.Js j m hm).1 (by omega)
 have get:∀ j x,(H.set i o').get j=some x->∃ y,H.get j=some y:=λj x hx=>by
  rw [AH.D2] at hx
  by_cases hj:j=i
  ·exact ⟨o,by rw [hj];exact ho⟩
  ·rw [if_neg hj] at hx;exact ⟨x,hx⟩
 refine { Dq:=λ_ _=>rfl,next:=Nat.le_refl _,rel:=⟨?_,?_,?_,h.uv⟩,size:=by omega,alive:=?_,Zs:=?_,frame:=?_,Pj:=?_,full:=λ_ _ _=>by simp at *;omega,env:=Sq,Bw:=?_ }
 ·intro j x hj hx;have kj:=Eg j hj
  by_cases hji:j=i
  ·subst hji;rw [AH.D2,if_pos rfl] at hx;cases hx;exact ⟨l,hl,Ov,λ_=>xr⟩
  ·rw [AH.D2,if_neg hji] at hx;obtain ⟨m,hm,hf,ht⟩:=h.fit j x kj hx;have Da:m.W5≠l.W5:=λe=>hji (h.inj j i x o m l kj hk hx ho hm hl e);exact ⟨m,hm,hf.same (he _ Da),λhb=>by simpa only [W7,he _ Da] using ht hb⟩
 ·intro j k oj ok lj lk hj Sp hoj iu um aj hb;obtain ⟨y,hy⟩:=get j oj hoj;obtain ⟨z,hz⟩:=get k ok iu;exact h.inj j k y z lj lk (Eg j hj) (Eg k Sp) hy hz um aj hb
 ·intro j m hm;have:=h.Js j m hm;exact ⟨this.1,by omega⟩
 ·intro j _ ha;cases hx:(H.set i o').get j with
  |none=>exact absurd hx ha
  |some x=>obtain ⟨y,hy⟩:=get j x hx;rw [hy];simp
 ·intro j _ hn;rw [AH.D2,if_neg];intro e;subst e;exact hn hW
 ·intro b hb hh;exact he b λe=>hh i l hW (by rw [ho];simp) hl e.symm
 ·intro j m hj hm;exact absurd (h.Js j m hm).1 (by omega)
 ·intro b _ hb c e' fz hc
  by_cases h1:b=l.W5
  ·rw [h1] at hc;exact xr c e' fz hc
  ·rw [he b h1] at hc;exact hb c e' fz hc
theorem Step.kill (h:Jd P base K ρ H w) {i:Nat} (hW:W i):Step P base W K ρ H w ρ (H.kill i) w:=by
 have Eg:∀ j,(K j\/(H.next<=j/\(ρ j).isSome=true))->K j:=λj hj=>hj.elim id λ⟨a,b⟩=>by
  obtain ⟨m,hm⟩:=Option.isSome_iff_exists.1 b;exact absurd (h.Js j m hm).1 (by omega)
 have get:∀ j x,(H.kill i).get j=some x->H.get j=some x:=λj x hx=>by
  rw [AH.Mi] at hx
  by_cases hj:j=i
  ·rw [if_pos hj] at hx;cases hx
  ·rw [if_neg hj] at hx;exact hx
 refine { Dq:=λ_ _=>rfl,next:=Nat.le_refl _,rel:=⟨?_,?_,h.Js,h.uv⟩,size:=Nat.le_refl _,alive:=?_,Zs:=?_,frame:=λ_ _ _=>rfl,Pj:=?_,full:=λ_ _ _=>by simp at *;omega,env:=⟨rfl,rfl⟩,Bw:=λ_ _ h=>h }
 ·intro j x hj hx;exact h.fit j x (Eg j hj) (get j x hx)
 ·intro j k oj ok lj lk hj Sp hoj iu um aj hb;exact h.inj j k oj ok lj lk (Eg j hj) (Eg k Sp) (get _ _ hoj) (get _ _ iu) um aj hb
 ·intro j _ ha hn;cases hx:(H.kill i).get j with
  |none=>exact ha hx
  |some x=>rw [get j x hx] at hn;cases hn
 ·intro j _ hn;rw [AH.Mi,if_neg];intro e;subst e;exact hn hW
 ·intro j m hj hm;exact absurd (h.Js j m hm).1 (by omega)
theorem Step.take (h:Jd P base K ρ H w) {i:Nat} {o o':Ir} {l l':Loc} (hk:K i) (ho:H.get i=some o) (hl:ρ i=some l) (hW:W i) (ur:l'.W5=l.W5)
  (hs:w'.heap.size=w.heap.size) (he:∀ b,b≠l.W5->w'.heap[b]? = w.heap[b]?) (Ov:To P (Tf ρ H.next l') o' l' w') (xr:W7 w' l.W5) (Sq:Ln w w') :
  Step P base W K ρ H w (Tf ρ H.next l') ((H.kill i).push o') w':=by
 have hin:=h.Js i l hl
 have Eg:∀ j,j≠H.next->(K j\/(H.next<=j/\((Tf ρ H.next l') j).isSome=true))->K j:=λj Da hj=>hj.elim id λ⟨a,b⟩=>by
  rw [G7 l' Da] at b;obtain ⟨m,hm⟩:=Option.isSome_iff_exists.1 b;exact absurd (h.Js j m hm).1 (by omega)
 have get:∀ j x,j≠H.next->((H.kill i).push o').get j=some x->j≠i/\H.get j=some x:=λj x Da hx=>by
  rw [AH.Yq,AH.Sd,if_neg Da,AH.Mi] at hx
  by_cases hj:j=i
  ·rw [if_pos hj] at hx;cases hx
  ·rw [if_neg hj] at hx;exact ⟨hj,hx⟩
 refine { Dq:=λi hi=>G7 l' (by omega),next:=by simp,rel:=⟨?_,?_,?_,?_⟩,size:=by omega,alive:=?_,Zs:=?_,frame:=?_,Pj:=?_,full:=?_,env:=Sq,Bw:=?_ }
 ·intro j x hj hx
  by_cases hn:j=H.next
  ·subst hn;rw [AH.Yq,AH.Sd,if_pos rfl] at hx;cases hx;exact ⟨l',Jz _ _ _,Ov,λ_=>by rw [ur];exact xr⟩
  ·obtain ⟨hji,hx⟩:=get j x hn hx;have kj:=Eg j hn hj;obtain ⟨m,hm,hf,ht⟩:=h.fit j x kj hx;have Da:m.W5≠l.W5:=λe=>hji (h.inj j i x o m l kj hk hx ho hm hl e);exact ⟨m,by rw [G7 l' hn];exact hm,(hf.same (he _ Da)).mono (Rf h l'),λhb=>by simpa only [W7,he _ Da] using ht hb⟩
 ·intro j k oj ok lj lk hj Sp hoj iu um aj Hl
  by_cases hjn:j=H.next
  ·by_cases hkn:k=H.next
   ·rw [hjn,hkn]
   ·obtain ⟨hki,iu⟩:=get k ok hkn iu;rw [hjn,Jz] at um;cases um;rw [G7 l' hkn] at aj;exact absurd (h.inj k i ok o lk l (Eg k hkn Sp) hk iu ho aj hl (by rw [<- Hl];exact ur)) hki
  ·obtain ⟨hji,hoj⟩:=get j oj hjn hoj;rw [G7 l' hjn] at um
   by_cases hkn:k=H.next
   ·rw [hkn,Jz] at aj;cases aj;exact absurd (h.inj j i oj o lj l (Eg j hjn hj) hk hoj ho um hl (by rw [Hl];exact ur)) hji
   ·obtain ⟨hki,iu⟩:=get k ok hkn iu;rw [G7 l' hkn] at aj;exact h.inj j k oj ok lj lk (Eg j hjn hj) (Eg k hkn Sp) hoj iu um aj Hl
 ·intro j m hm
  by_cases hn:j=H.next
  ·rw [hn,Jz] at hm;cases hm;exact ⟨by simp [hn],by omega⟩
  ·rw [G7 l' hn] at hm;have:=h.Js j m hm;exact ⟨by simp;omega,by omega⟩
 ·intro g hg;obtain ⟨m,hm,h1,h2⟩:=h.uv g hg;exact ⟨m,Rf h l' g m hm,h1,h2⟩
 ·intro j hj ha hn;cases hx:((H.kill i).push o').get j with
  |none=>exact ha hx
  |some x=>rw [(get j x (by omega) hx).2] at hn;cases hn
 ·intro j hj hn;rw [AH.Yq,AH.Sd,if_neg (by omega),AH.Mi,if_neg]
  intro e;subst e;exact hn hW
 ·intro b hb hh;exact he b λe=>hh i l hW (by rw [ho];simp) hl e.symm
 ·intro j m hj hm
  by_cases hn:j=H.next
  ·rw [hn,Jz] at hm;cases hm;exact .inr ⟨i,l,hW,by rw [ho];simp,hl,ur.symm⟩
  ·rw [G7 l' hn] at hm;exact absurd (h.Js j m hm).1 (by omega)
 ·intro j h1 h2;have:j=H.next:=by simp at h2;omega
  exact ⟨l',by rw [this,Jz]⟩
 ·intro b _ hb c e' fz hc
  by_cases h1:b=l.W5
  ·rw [h1] at hc;exact xr c e' fz hc
  ·rw [he b h1] at hc;exact hb c e' fz hc
end Go.Ev
namespace Go.Ev
theorem Kq {P:Program} {t:TypeId} {i:S8} (h:Y7 P t=some i) :
  ∃ inf,P.underlying t=some i.desc/\P.info? t=some inf/\i.size=inf.size/\i.bytes=inf.bytes/\i.zero=inf.zero/\i.agg=fh i.desc:=by
 unfold Y7 at h;obtain ⟨d,hd,h⟩:=Zj h;obtain ⟨inf,hi,h⟩:=Zj h;cases h;exact ⟨inf,hd,hi,rfl,rfl,rfl,rfl⟩
theorem run_typeInfo {P:Program} {t:TypeId} {inf:TypeInfo} (h:P.info? t=some inf) (w:World):(typeInfo t).run P w=.ok inf w:=by
 simp [typeInfo,h]
theorem run_sizeOf {P:Program} {t:TypeId} {i:S8} (h:Y7 P t=some i) (w:World):(sizeOf t).run P w=.ok i.size w:=by
 obtain ⟨inf,_,h2,h3,_⟩:=Kq h;simp [sizeOf,run_typeInfo h2,h3]
theorem Pc {P:Program} {t:TypeId} {i:S8} (h:Y7 P t=some i) (w:World):(isAgg t).run P w=.ok i.agg w:=by
 obtain ⟨inf,h1,_,_,_,_,h4⟩:=Kq h;rw [h4];cases hd:i.desc <;> simp [isAgg,run_underlying h1,hd,fh]
theorem W2 {i:S8} {z:Value} (h:zeroOf i=some z):i.zero=some z/\plain z=true:=by
 unfold zeroOf at h;obtain ⟨y,hy,h⟩:=Zj h;obtain ⟨hp,h⟩:=Zt h;cases h;exact ⟨hy,hp⟩
theorem K2 {P:Program} {t:TypeId} {i:S8} {z:Value} (h:Y7 P t=some i) (hz:zeroOf i=some z) (w:World):(zeroValue t).run P w=.ok z w:=by
 obtain ⟨inf,_,h2,_,_,h5,_⟩:=Kq h;have:=(W2 hz).1;rw [h5] at this;simp [zeroValue,run_typeInfo h2,this]
theorem V7 (a b:Int):Vo a b=decide (a < b):=by
 cases a with
 |ofNat m=>
  cases b with
  |ofNat n=>
   have h1:Vo (.ofNat m) (.ofNat n)=Nat.blt m n:=rfl;rw [h1,Bool.eq_iff_iff,decide_eq_true_iff];simp only [Nat.blt_eq,Int.ofNat_eq_natCast];omega
  |negSucc n=>
   have h1:Vo (.ofNat m) (.negSucc n)=false:=rfl;rw [h1,eq_comm,decide_eq_false_iff_not];simp only [Int.ofNat_eq_natCast];omega
 |negSucc m=>
  cases b with
  |ofNat n=>
   have h1:Vo (.negSucc m) (.ofNat n)=true:=rfl;rw [h1,eq_comm,decide_eq_true_iff];simp only [Int.ofNat_eq_natCast];omega
  |negSucc n=>
   have h1:Vo (.negSucc m) (.negSucc n)=Nat.blt n m:=rfl;rw [h1,Bool.eq_iff_iff,decide_eq_true_iff,Nat.blt_eq];omega
theorem Ij (a b:Int):Qn a b=(a == b):=by
 rw [Bool.eq_iff_iff,beq_iff_eq];cases a with
 |ofNat m=>
  cases b with
  |ofNat n=>
   have h1:Qn (.ofNat m) (.ofNat n)=Nat.beq m n:=rfl;rw [h1,Nat.beq_eq];simp only [Int.ofNat_eq_natCast];omega
  |negSucc n=>
   have h1:Qn (.ofNat m) (.negSucc n)=false:=rfl;rw [h1];simp
 |negSucc m=>
  cases b with
  |ofNat n=>
   have h1:Qn (.negSucc m) (.ofNat n)=false:=rfl;rw [h1];simp
  |negSucc n=>
   have h1:Qn (.negSucc m) (.negSucc n)=Nat.beq m n:=rfl;rw [h1,Nat.beq_eq];simp
theorem Pp {a b:IntKind} (h:Sh a b=true):a=b:=by
 cases a <;> cases b <;> first |rfl |(exact absurd h (by decide))
theorem nw (n:Int):IntKind.i8.wrap n=(n+128) % 256 - 128:=by
 simp only [IntKind.wrap,IntKind.bits,IntKind.signed,Bool.true_and]
 by_cases h:n % (2 ^ 8) ≥ 2 ^ (8 - 1)
 ·rw [if_pos (by simpa using h)];omega
 ·rw [if_neg (by simpa using h)];omega
theorem gi (n:Int):IntKind.i16.wrap n=(n+32768) % 65536 - 32768:=by
 simp only [IntKind.wrap,IntKind.bits,IntKind.signed,Bool.true_and]
 by_cases h:n % (2 ^ 16) ≥ 2 ^ (16 - 1)
 ·rw [if_pos (by simpa using h)];omega
 ·rw [if_neg (by simpa using h)];omega
theorem Jk (k:IntKind) (n:Int):Jl k n=k.wrap n:=by
 cases n with
 |ofNat m=>
  have h1:Jl k (.ofNat m)=cond (Nat.blt m (Gs k)) (.ofNat m) (k.wrap (.ofNat m)):=rfl;rw [h1];cases hb:Nat.blt m (Gs k) with
  |false=>rfl
  |true=>
   rw [Nat.blt_eq] at hb;show Int.ofNat m=_;rw [Int.ofNat_eq_natCast];cases k
   ·rw [nw];simp only [Gs] at hb;omega
   ·rw [gi];simp only [Gs] at hb;omega
   ·rw [IntKind.wrap_i32];simp only [Gs] at hb;omega
   ·rw [IntKind.wrap_i64];simp only [Gs] at hb;omega
   ·rw [IntKind.wrap_u8'];simp only [Gs] at hb;omega
   ·rw [IntKind.wrap_u16];simp only [Gs] at hb;omega
   ·rw [IntKind.wrap_u32'];simp only [Gs] at hb;omega
   ·rw [IntKind.wrap_u64];simp only [Gs] at hb;omega
 |negSucc m=>
  have h1:Jl k (.negSucc m)=cond (k.signed && Nat.blt m (Gs k)) (.negSucc m) (k.wrap (.negSucc m)):=rfl;rw [h1];cases hb:(k.signed && Nat.blt m (Gs k)) with
  |false=>rfl
  |true=>
   simp only [Bool.and_eq_true,Nat.blt_eq] at hb;show Int.negSucc m=_;cases k
   ·rw [nw];have:=hb.2;simp only [Gs] at this;omega
   ·rw [gi];have:=hb.2;simp only [Gs] at this;omega
   ·rw [IntKind.wrap_i32];have:=hb.2;simp only [Gs] at this;omega
   ·rw [IntKind.wrap_i64];have:=hb.2;simp only [Gs] at this;omega
   all_goals exact absurd hb.1 (by decide)
theorem Ga (k:IntKind) (n:Int):bitsOf k n=(BitVec.ofInt k.bits n).toNat:=by
 rw [BitVec.toNat_ofInt];cases n with
 |ofNat m=>
  show m % 2 ^ k.bits=_;simp only [Int.ofNat_eq_natCast];rw [<- Int.natCast_emod];rfl
 |negSucc m=>
  show 2 ^ k.bits - 1 - m % 2 ^ k.bits=_;have hp:0 < 2 ^ k.bits:=Nat.pow_pos (by omega)
  rw [Int.negSucc_emod _ (by exact_mod_cast hp)]
  have hm:=Nat.mod_lt m hp;have:((m:Int) % ((2 ^ k.bits:Nat):Int))=((m % 2 ^ k.bits:Nat):Int):=rfl;rw [this];omega
theorem kh {n:Int} {m:Nat} (h:Zgy n=some m):n=(m:Int):=by
 cases n with
 |ofNat k=>cases h;rfl
 |negSucc k=>cases h
theorem Zqr (k:IntKind) (n:Nat) (a:Int):shlF k n a=k.wrap (a * 2 ^ n):=by
 cases a with
 |ofNat m=>
  show Jl k (.ofNat (m * 2 ^ n))=_;rw [Jk];simp
 |negSucc m=>rfl
theorem Zqq (n:Nat) (a:Int):shrF n a=a.fdiv (2 ^ n):=by
 cases a with
 |ofNat m=>
  show Int.ofNat (m / 2 ^ n)=_;have:((2:Int) ^ n)=((2 ^ n:Nat):Int):=by simp
  rw [this,Int.ofNat_eq_natCast,Int.ofNat_eq_natCast,Int.ofNat_fdiv]
 |negSucc m=>rfl
theorem Zhw (a b:Int):addF a b=a+b:=by
 cases a <;> cases b <;> rfl
section
variable {P:Program} (w:World) (t:TypeId) {x y v:Value}
theorem J1 {β:Type} {x y:Value} {f:IntKind->Int->Int->Option β} {r:β} (h:Dk x y f=some r) :
  ∃ k a b,x=.int k a/\y=.int k b/\f k a b=some r:=by
 unfold Dk at h;split at h
 ·split at h
  ·obtain ⟨hk,h'⟩:=Zt h;cases Pp hk;exact ⟨_,_,_,rfl,rfl,h'⟩
  ·cases h
 ·cases h
theorem Zks (h:Z0 x y=some v):(binOp .add t x y).run P w=.ok v w/\flat v=true:=by
 obtain ⟨k,a,b,rfl,rfl,h'⟩:=J1 h;cases h';simp [binOp_add,Op.intArith,Jk,Zhw,flat]
theorem Zkd (h:Qq x y=some v):(binOp .sub t x y).run P w=.ok v w/\flat v=true:=by
 obtain ⟨k,a,b,rfl,rfl,h'⟩:=J1 h;cases h';simp [binOp_sub,Op.intArith,Jk,flat];rfl
theorem Zkj (h:Y2 x y=some v):(binOp .mul t x y).run P w=.ok v w/\flat v=true:=by
 obtain ⟨k,a,b,rfl,rfl,h'⟩:=J1 h;cases h';simp [binOp_mul,Op.intArith,Jk,flat]
theorem Zkh (h:Jp x y=some v):(binOp .quo t x y).run P w=.ok v w/\flat v=true:=by
 obtain ⟨k,a,b,rfl,rfl,h'⟩:=J1 h;cases hb:Qn b 0 with
 |true=>rw [hb] at h';cases h'
 |false=>
  rw [hb] at h';cases h';rw [Ij,beq_eq_false_iff_ne] at hb;simp [binOp_quo,Op.intDiv,Jk,flat,hb]
theorem Zkg (h:Y1 x y=some v):(binOp .rem t x y).run P w=.ok v w/\flat v=true:=by
 obtain ⟨k,a,b,rfl,rfl,h'⟩:=J1 h;cases hb:Qn b 0 with
 |true=>rw [hb] at h';cases h'
 |false=>
  rw [hb] at h';cases h';rw [Ij,beq_eq_false_iff_ne] at hb;simp [binOp_rem,Op.intDiv,flat,hb]
theorem Zkr (h:Km x y=some v):(binOp .and t x y).run P w=.ok v w/\flat v=true:=by
 obtain ⟨k,a,b,rfl,rfl,h'⟩:=J1 h;cases h';refine ⟨?_,rfl⟩;rw [binOp_and,Jk,Ga,Ga];simp only [Op.intBits,Sem.run_pure,BitVec.toNat_and];rfl
theorem Zpc (h:Ep x y=some v):(binOp .or t x y).run P w=.ok v w/\flat v=true:=by
 obtain ⟨k,a,b,rfl,rfl,h'⟩:=J1 h;cases h';refine ⟨?_,rfl⟩;rw [binOp_or,Jk,Ga,Ga];simp only [Op.intBits,Sem.run_pure,BitVec.toNat_or];rfl
theorem Zkc (h:Zo9 x y=some v):(binOp .xor t x y).run P w=.ok v w/\flat v=true:=by
 obtain ⟨k,a,b,rfl,rfl,h'⟩:=J1 h;cases h';refine ⟨?_,rfl⟩;rw [binOp_xor,Jk,Ga,Ga];simp only [Op.intBits,Sem.run_pure,BitVec.toNat_xor];rfl
theorem cp (h:Y6 x y=some v):(binOp .andNot t x y).run P w=.ok v w/\flat v=true:=by
 obtain ⟨k,a,b,rfl,rfl,h'⟩:=J1 h;cases h';refine ⟨?_,rfl⟩;rw [binOp_andNot,Jk,Ga,Ga];simp only [Op.intBits,Sem.run_pure,BitVec.toNat_and,BitVec.toNat_not];rfl
theorem Zkk (h:Xg x y=some v):(binOp .lss t x y).run P w=.ok v w/\flat v=true:=by
 obtain ⟨k,a,b,rfl,rfl,h'⟩:=J1 h;cases h';simp [binOp_lss,V7,flat]
theorem Zkl (h:Am x y=some v):(binOp .leq t x y).run P w=.ok v w/\flat v=true:=by
 obtain ⟨k,a,b,rfl,rfl,h'⟩:=J1 h;cases h';simp [binOp_leq,V7,flat,<- Int.not_lt]
theorem Zkm (h:Vt x y=some v):(binOp .gtr t x y).run P w=.ok v w/\flat v=true:=by
 obtain ⟨k,a,b,rfl,rfl,h'⟩:=J1 h;cases h';simp [binOp_gtr,V7,flat]
theorem Zkn (h:K0 x y=some v):(binOp .geq t x y).run P w=.ok v w/\flat v=true:=by
 obtain ⟨k,a,b,rfl,rfl,h'⟩:=J1 h;cases h';simp [binOp_geq,V7,flat,<- Int.not_lt]
theorem Zkf (h:Y8 x y=some v):(binOp .shl t x y).run P w=.ok v w/\flat v=true:=by
 unfold Y8 at h;split at h
 ·split at h
  ·obtain ⟨n,hn,h'⟩:=Zj h;cases h';have hn':=kh hn;subst hn';refine ⟨?_,rfl⟩;rw [binOp_shl,Zqr];simp only [Op.shift];rw [if_neg (by omega)]
   simp [Nat.min_def]
  ·cases h
 ·cases h
theorem Zke (h:K7 x y=some v):(binOp .shr t x y).run P w=.ok v w/\flat v=true:=by
 unfold K7 at h;split at h
 ·split at h
  ·obtain ⟨n,hn,h'⟩:=Zj h;cases h';have hn':=kh hn;subst hn';refine ⟨?_,rfl⟩;rw [binOp_shr,Zqq];simp only [Op.shift];rw [if_neg (by omega)]
   simp [Nat.min_def]
  ·cases h
 ·cases h
theorem m7 {xs ys:List Value} {r:Bool} (h:W9 xs ys=some r):xs.length=ys.length/\∀ i:Nat,i < xs.length->∃ k a b,xs[i]? = some (.int k a)/\ys[i]? = some (.int k b):=by
 induction xs generalizing ys r with
 |nil=>
  cases ys with
  |nil=>exact ⟨rfl,λi hi=>by simp at hi⟩
  |cons y ys=>simp [W9] at h
 |cons x xs ih=>
  cases ys with
  |nil=>cases x <;> simp [W9] at h
  |cons y ys=>
   unfold W9 at h;split at h
   ·rename_i e;cases e
   ·rename_i h1 h2;cases h1;cases h2;obtain ⟨hk,h'⟩:=Zt h;cases Pp hk;obtain ⟨r',hr,h''⟩:=Zj h';obtain ⟨hl,hi⟩:=ih hr;refine ⟨by simp [hl],λi Mh=>?_⟩
    cases i with
    |zero=>exact ⟨_,_,_,rfl,rfl⟩
    |succ i=>simpa using hi i (by simpa using Mh)
   ·cases h
theorem Ri {P:Program} {e:TypeId} {j:S8} (he:Y7 P e=some j) {kk:IntKind} (hk:intOf j.desc=some kk) {cs:Array Value} {i:Nat} {v:Value} (hv:cs[i]? = some v) (w:World) :
  (part e cs i).run P w=.ok v w:=by
 have xv:j.agg=false:=by
  obtain ⟨_,_,_,_,_,_,h⟩:=Kq he;rw [h];cases hd:j.desc <;> simp [hd,intOf] at hk <;> rfl
 simp [part,Pc he,xv,hv]
theorem qh {P:Program} {e:TypeId} {j:S8} (he:Y7 P e=some j) {kk:IntKind} (hk:intOf j.desc=some kk) (d:Nat) (k:IntKind) (a b:Int) (w:World) :
  (Op.equalIn (d+1) e (.int k a) (.int k b)).run P w=.ok (a == b) w:=by
 obtain ⟨_,h1,_⟩:=Kq he;cases hd:j.desc <;> simp [hd,intOf] at hk
 rw [hd] at h1;simp [Op.equalIn,run_underlying h1]
theorem Zdv {P:Program} {e:TypeId} {j:S8} (he:Y7 P e=some j) {kk:IntKind} (hk:intOf j.desc=some kk) (d:Nat) (a b:Array Value) (w:World) :
  ∀ (m s:Nat) (r:Bool),W9 ((a.toList.drop s).take m) ((b.toList.drop s).take m)=some r->s+m<=a.size->s+m<=b.size ->
   (forIn (m:=Sem) (List.range' s m) ((none,()):Option Bool×Unit) λi _=>do
    let x <- part e a (i * 1);let y <- part e b (i * 1);let q <- Op.equalIn (d+1) e x y
    if (!q)=true then pure (ForInStep.done (some false,())) else pure (ForInStep.yield (none,()))).run P w
   = .ok (if r then (none,()) else (some false,())) w:=by
 intro m
 induction m with
 |zero=>
  intro s r h _ _;simp [W9] at h;subst h;simp
 |succ m ih=>
  intro s r h h1 h2;have ha:s < a.size:=by omega
  have hb:s < b.size:=by omega
  have ea:(a.toList.drop s).take (m+1)=a[s]::(a.toList.drop (s+1)).take m:=by
   rw [List.drop_eq_getElem_cons (by simpa using ha),List.take_succ_cons];simp
  have eb:(b.toList.drop s).take (m+1)=b[s]::(b.toList.drop (s+1)).take m:=by
   rw [List.drop_eq_getElem_cons (by simpa using hb),List.take_succ_cons];simp
  rw [ea,eb] at h;unfold W9 at h;split at h
  ·rename_i e1;cases e1
  ·rename_i k x xs k' y ys e1 e2;obtain ⟨hkk,h'⟩:=Zt h;cases Pp hkk;obtain ⟨r',hr,h''⟩:=Zj h';cases h'';injection e1 with e1 e1'
   injection e2 with e2 e2'
   subst e1' e2';have pa:=Ri he hk (cs:=a) (i:=s * 1) (v:=.int k x) (by rw [Nat.mul_one,Array.getElem?_eq_getElem ha,e1]) w
   have pb:=Ri he hk (cs:=b) (i:=s * 1) (v:=.int k y) (by rw [Nat.mul_one,Array.getElem?_eq_getElem hb,e2]) w
   rw [List.range'_succ,List.forIn_cons];simp only [Sem.run_bind,pa,pb,Result.andThen_ok,qh he hk]
   by_cases hxy:x=y
   ·subst hxy;simp only [beq_self_eq_true,Bool.not_true,Bool.false_eq_true,if_false,Sem.run_pure,Result.andThen_ok,Ij,Bool.true_and];exact ih (s+1) r' hr (by omega) (by omega)
   ·have Da:(x == y)=false:=by simpa using hxy
    simp [Da,Ij]
  ·cases h
theorem Pd {P:Program} {t e:TypeId} {n:Nat} {j:S8} (ht:P.underlying t=some (.array n e)) (he:Y7 P e=some j) {kk:IntKind} (hk:intOf j.desc=some kk)
  (hs:j.size=1) (d:Nat) (a b:Array Value) (ha:a.size=n) (hb:b.size=n) {r:Bool} (h:W9 a.toList b.toList=some r) (w:World) :
  (Op.equalIn (d+2) t (.agg a) (.agg b)).run P w=.ok r w:=by
 have hl:=Zdv he hk d a b w n 0 r (by
  rw [List.drop_zero,List.drop_zero,List.take_of_length_le (by simp [ha]),List.take_of_length_le (by simp [hb])];exact h) (by omega) (by omega)
 have Ec:(sizeOf e).run P w=.ok 1 w:=by rw [run_sizeOf he,hs]
 unfold Op.equalIn;simp only [Sem.run_bind,run_underlying ht,Result.andThen_ok,Ec];simp only [Std.Legacy.Range.forIn_eq_forIn_range',Std.Legacy.Range.size,Nat.sub_zero,Nat.add_sub_cancel,Nat.div_one];rw [hl];cases r <;> rfl
theorem N0 {P:Program} (d:Nat) {t e:TypeId} (h:P.underlying t=some (.slice e)) (b:Option Addr) (n c n' c':Nat) (w:World) :
  (Op.equalIn (d+1) t (.slice none n c) (.slice b n' c')).run P w=.ok b.isNone w:=by
 simp [Op.equalIn,run_underlying h]
theorem Zkt {P:Program} {t:TypeId} {q:I5} (h:R0 P t=some q) :
  match q with
  |.int=>∃ k,P.underlying t=some (.int k)
  |.bool=>P.underlying t=some .bool
  |.slice=>∃ e,P.underlying t=some (.slice e)
  |.ints n=>∃ e j kk,P.underlying t=some (.array n e)/\Y7 P e=some j/\intOf j.desc=some kk/\j.size=1/\P.eqGuardType P.depth t=false:=by
 unfold R0 at h;obtain ⟨i,hi,h⟩:=Zj h;obtain ⟨_,hu,_⟩:=Kq hi;split at h
 ·rename_i k hd;cases h;rw [hd] at hu;exact ⟨k,hu⟩
 ·rename_i hd;cases h;rw [hd] at hu;exact hu
 ·rename_i e hd;cases h;rw [hd] at hu;exact ⟨e,hu⟩
 ·rename_i n e hd;obtain ⟨j,hj,h⟩:=Zj h;obtain ⟨kk,hk,h⟩:=Zj h;obtain ⟨h1,h⟩:=Zt h;obtain ⟨h2,h⟩:=Zt h;cases h;rw [hd] at hu;exact ⟨e,j,kk,hu,hj,hk,Qb h1,by simpa using h2⟩
 ·cases h
theorem Qc.ints {ρ:Map} {l l':List Value} (h:Xt ρ l l') {r:List Value} {b:Bool} (hb:W9 l r=some b\/W9 r l=some b):l'=l:=by
 have key:∀ i:Nat,i < l.length->∃ k a,l[i]? = some (.int k a):=by
  intro i hi;rcases hb with hb |hb
  ·obtain ⟨_,hh⟩:=m7 hb;obtain ⟨k,a,_,e,_⟩:=hh i hi;exact ⟨k,a,e⟩
  ·obtain ⟨hl,hh⟩:=m7 hb;obtain ⟨k,_,a,_,e⟩:=hh i (by omega)
   exact ⟨k,a,e⟩
 apply List.ext_getElem?;intro i
 by_cases hi:i < l.length
 ·obtain ⟨k,a,e⟩:=key i hi;obtain ⟨v',hv,hr⟩:=h.get i _ e;rw [e,hv];cases hr;rfl
 ·have hl:=h.length;rw [List.getElem?_eq_none (by omega),List.getElem?_eq_none (by omega)]
theorem mq {P:Program} {ρ:Map} {t:TypeId} {q:I5} (hq:R0 P t=some q) {x y x' y':Value} {r:Bool} (h:An q x y=some r)
  (hx:Qc ρ x x') (hy:Qc ρ y y') (w:World) (ox oy:Operand) :
  (∀ op,(eqGuard op t ox oy x' y').run P w=.ok () w)/\(binOp .eql t x' y').run P w=.ok (.bool r) w/\(binOp .neq t x' y').run P w=.ok (.bool (!r)) w:=by
 have hk:=Zkt hq;cases q with
 |int=>
  obtain ⟨k,a,b,rfl,rfl,h'⟩:=J1 h;cases h';cases hx;cases hy;simp only [eqGuard_at_int,Sem.run_pure,binOp_eql,binOp_neq,Ij];exact ⟨λ_=>trivial,trivial,rfl⟩
 |bool=>
  simp only [An] at h;split at h
  ·cases h;cases hx;cases hy;refine ⟨λop=>by simp [eqGuard_at_bool],?_,?_⟩
   all_goals
    simp only [binOp,Sem.run_bind,run_equal_bool w t _ _ hk,Result.andThen_ok,Sem.run_pure]
  ·cases h
 |slice=>
  obtain ⟨e,hk⟩:=hk;simp only [An] at h
  have nilL:∀ (b:Option Addr) (n c n' c':Nat),(Op.equal t (.slice none n c) (.slice b n' c')).run P w=.ok b.isNone w:=λb n c n' c'=>
   N0 9999 hk b n c n' c' w
  have nilR:∀ (b:Option Addr) (n c n' c':Nat),(Op.equal t (.slice b n c) (.slice none n' c')).run P w=.ok b.isNone w:=λb n c n' c'=>
   Lib.run_equalIn_slice_nil w 9999 t e b n c n' c' hk
  have fin:∀ (b:Bool) (x' y':Value),(∀ op,eqGuard op t ox oy x' y'=pure ())->(Op.equal t x' y').run P w=.ok b w->(binOp .eql t x' y'=do pure (.bool (<- Op.equal t x' y')))->(binOp .neq t x' y'=do pure (.bool (!(<- Op.equal t x' y')))) ->
    (∀ op,(eqGuard op t ox oy x' y').run P w=.ok () w)/\(binOp .eql t x' y').run P w=.ok (.bool b) w/\(binOp .neq t x' y').run P w=.ok (.bool (!b)) w:=by
   intro b x' y' h1 h2 h3 h4;refine ⟨λop=>by rw [h1];rfl,?_,?_⟩
   ·rw [h3];simp only [Sem.run_bind,h2,Result.andThen_ok,Sem.run_pure]
   ·rw [h4];simp only [Sem.run_bind,h2,Result.andThen_ok,Sem.run_pure]
  split at h
  ·cases h;cases hx with
   |flat hf=>
    cases hy with
    |flat hf'=>exact fin _ _ _ (λop=>eqGuard_at_slice ..) (nilL _ _ _ _ _) rfl rfl
    |slice hl h1 h2=>exact fin _ _ _ (λop=>eqGuard_at_slice ..) (nilL _ _ _ _ _) rfl rfl
    |Kj hl ha=>exact fin _ _ _ (λop=>eqGuard_at_slice ..) (nilL _ _ _ _ _) rfl rfl
  ·cases h;cases hy with
   |flat hf'=>
    cases hx with
    |flat hf=>simp [flat] at hf
    |slice hl h1 h2=>exact fin _ _ _ (λop=>eqGuard_at_slice ..) (nilR _ _ _ _ _) rfl rfl
    |Kj hl ha=>exact fin _ _ _ (λop=>eqGuard_at_slice ..) (nilR _ _ _ _ _) rfl rfl
  ·cases h
 |ints n=>
  obtain ⟨e,j,kk,hu,hj,hkk,hs,hg⟩:=hk;simp only [An] at h;split at h
  ·rename_i a b;obtain ⟨h1,h⟩:=Zt h;simp only [Bool.and_eq_true] at h1;cases hx with
   |flat hf=>simp [flat] at hf
   |agg ha=>
    cases hy with
    |flat hf=>simp [flat] at hf
    |agg hb=>
     rename_i a' b'
     have e1:a'=a:=by
      have:=Qc.ints ha (.inl h);exact Array.ext' this
     have e2:b'=b:=by
      have:=Qc.ints hb (.inr h);exact Array.ext' this
     subst e1 e2;have hr:=Pd hu hj hkk hs 9998 a' b' (Qb h1.1) (Qb h1.2) h w;have iq:(Op.equal t (.agg a') (.agg b')).run P w=.ok r w:=hr;refine ⟨λop=>?_,?_,?_⟩
     ·cases op <;> first |rfl |simp [eqGuard,hg]
     ·simp only [binOp,Sem.run_bind,iq,Result.andThen_ok,Sem.run_pure]
     ·simp only [binOp,Sem.run_bind,iq,Result.andThen_ok,Sem.run_pure]
  ·cases h
end
end Go.Ev
namespace Go.Ev
theorem G6 {β:Type} {v:Value} {k:Nat->Nat->Option β} {r:β} (h:Mx v k=some r):∃ i off,v=.pointer (some ⟨i,off,none⟩)/\k i off=some r:=by
 unfold Mx at h;split at h
 ·exact ⟨_,_,rfl,h⟩
 ·cases h
theorem U0 {β:Type} {H:AH} {i:Nat} {k:Nat->List Value->TypeId->Option β} {r:β} (h:Kp H i k=some r) :
  ∃ s cs e,H.get i=some (.cells s cs e)/\k s cs e=some r:=by
 unfold Kp at h;split at h
 ·rename_i hg;exact ⟨_,_,_,hg,h⟩
 ·cases h
theorem Co {β:Type} {H:AH} {i:Nat} {k:List MapEntry->Nat->Option β} {r:β} (h:Re H i k=some r) :
  ∃ es c,H.get i=some (.map es c)/\k es c=some r:=by
 unfold Re at h;split at h
 ·rename_i hg;exact ⟨_,_,hg,h⟩
 ·cases h
theorem Qc.T4 {ρ:Map} {i off:Nat} {v':Value} (h:Qc ρ (.pointer (some ⟨i,off,none⟩)) v') :
  ∃ l,ρ i=some l/\v'=.pointer (some ⟨l.W5,l.sh+off,none⟩):=by
 cases h with
 |flat h=>simp [Ev.flat] at h
 |ptr h=>exact ⟨_,h,rfl⟩
section
variable {P:Program} {base:Nat} {W K:Nat->Prop} {ρ:Map} {H:AH} {w:World}
theorem cell_of {w:World} {b o:Nat} {c:Array Value} {e:TypeId} {fz:Nat×Nat} (h:w.heap[b]? = some (.cells c e fz)):w.cell? ⟨b,o,none⟩=c[o]?:=by
 simp [World.cell?,h]
theorem Tz (hH:Jd P base K ρ H w) {i:Nat} (hk:K i) {s:Nat} {cs:List Value} {e:TypeId} (hg:H.get i=some (.cells s cs e)) {l:Loc} (hl:ρ i=some l)
  (off n:Nat) (hn:off+n<=s):∃ vs:List Value,(∀ w':World,w'.heap=w.heap->(loadCells ⟨l.W5,l.sh+off,none⟩ n).run P w'=.ok vs.toArray w')/\Xt ρ (P9 cs off n) vs:=by
 obtain ⟨l',So,hf,_⟩:=hH.fit i _ hk hg;rw [hl] at So;cases So;obtain ⟨h1,h3,c,fz,h4,h5,h6⟩:=hf;let vs:=(c.toList.drop (l.sh+off)).take n;have hlen:vs.length=n:=by simp [vs];omega
 refine ⟨vs,?_,?_⟩
 ·intro w' hw';rw [<- hlen];apply run_loadCells_list;intro j v hj;rw [Addr.add_lit,cell_of (by rw [hw'];exact h4)]
  simp only [vs,List.getElem?_take,List.getElem?_drop] at hj;split at hj
  ·rw [<- hj,<- Array.getElem?_toList]
  ·cases hj
 ·apply Xt.Zne
  ·rw [C3 _ _ _ (by omega),hlen]
  ·intro j v hj;rw [bh] at hj;split at hj
   ·rename_i hjn;obtain ⟨v',a,b⟩:=h6 _ _ hj;refine ⟨v',?_,b⟩;simp only [vs,List.getElem?_take,if_pos hjn,List.getElem?_drop];rw [Array.getElem?_toList,Nat.add_assoc];exact a
   ·cases hj
theorem vc {t:TypeId} {i:S8} (ht:Y7 P t=some i) {v u v':Value} (h:I0 H i.agg i.size v=some u) (hv:Qc ρ v v') (hH:Jd P base K ρ H w)
  (hK:∀ j∈Xl v,K j):∃ u',(Instr.loadAt t v').run P w=.ok u' w/\Qc ρ u u':=by
 obtain ⟨j,off,rfl,h⟩:=G6 h;obtain ⟨s,cs,e,hg,h⟩:=U0 h;obtain ⟨l,hl,rfl⟩:=hv.T4;have hk:K j:=hK j (by simp [Xl])
 unfold cellAt at h;cases xv:i.agg with
 |true=>
  rw [xv] at h;obtain ⟨hb,h⟩:=Zt h;cases h;obtain ⟨vs,h1,h2⟩:=Tz hH hk hg hl off i.size (Qa hb);have h1:=h1 w rfl;refine ⟨.agg vs.toArray,?_,.agg h2⟩;simp [Instr.loadAt,Instr.sureAddr,loadVar,Pc ht,xv,run_sizeOf ht,h1]
 |false=>
  rw [xv] at h;simp only [cond_false] at h;rw [Xq] at h;obtain ⟨l',So,hf,_⟩:=hH.fit j _ hk hg;rw [hl] at So;cases So;obtain ⟨h1,h3,c,fz,h4,h5,h6⟩:=hf;obtain ⟨u',a,b⟩:=h6 _ _ h;refine ⟨u',?_,b⟩;simp [Instr.loadAt,Instr.sureAddr,loadVar,Pc ht,xv,cell_of h4,a]
theorem Rh (hH:Jd P base K ρ H w) {i:Nat} (hk:K i) (hW:W i) (hb:base<=i) {s:Nat} {cs:List Value} {e:TypeId} (hg:H.get i=some (.cells s cs e)) {l:Loc} (hl:ρ i=some l)
  (off:Nat) {vs Wq:List Value} (hn:off+vs.length<=s) (hr:Xt ρ vs Wq) (h1:∀ v∈Wq,v.oneCell'=true) :
  ∃ w',(storeCells ⟨l.W5,l.sh+off,none⟩ Wq).run P w=.ok () w'/\Step P base W K ρ H w ρ (H.set i (.cells s (over cs off vs) e)) w':=by
 obtain ⟨l',So,hf,ht⟩:=hH.fit i _ hk hg;rw [hl] at So;cases So;obtain ⟨h2,h4,c,fz,h5,h6,h7⟩:=hf;have hfz:=ht hb _ _ _ h5;have hlen:=hr.length;have Rt:=run_storeCells_atF P l.W5 (l.sh+off) e fz Wq 0 c w h5 (by omega) (by omega) h1
 refine ⟨_,Rt,?_⟩;refine Step.write hH hk hg hl hW (setRow_size ..) (λb Da=>setRow_other w l.W5 b _ Da) ?_ ?_ ⟨rfl,rfl⟩
 ·refine ⟨by rw [zi _ _ _ (by omega),h2],h4,_,fz,setRow_heap w l.W5 c _ e fz h5,?_,?_⟩
  ·simp;omega
  ·intro j v hj;rw [Zo2 _ _ _ _ (by omega)] at hj
   have key:∀ m:Nat,(c.toList.take (l.sh+off+0)++Wq++c.toList.drop (l.sh+off+0+Wq.length))[m]? =
     if m < l.sh+off then c[m]? else if m < l.sh+off+Wq.length then Wq[m - (l.sh+off)]? else c[m]?:=by
    intro m;have e1:(c.toList.take (l.sh+off+0)).length=l.sh+off:=by simp;omega
    rw [List.append_assoc]
    by_cases a1:m < l.sh+off
    ·rw [if_pos a1,List.getElem?_append_left (by omega),List.getElem?_take,if_pos (by omega),Array.getElem?_toList]
    ·rw [if_neg a1,List.getElem?_append_right (by omega),e1]
     by_cases a2:m < l.sh+off+Wq.length
     ·rw [if_pos a2,List.getElem?_append_left (by omega)]
     ·rw [if_neg a2,List.getElem?_append_right (by omega),List.getElem?_drop,Array.getElem?_toList]
      congr 1;omega
   rw [List.getElem?_toArray,key]
   by_cases a1:j < off
   ·rw [if_pos a1] at hj;rw [if_pos (by omega)]
    exact h7 _ _ hj
   ·rw [if_neg a1] at hj;rw [if_neg (by omega)]
    by_cases a2:j < off+vs.length
    ·rw [if_pos a2] at hj;rw [if_pos (by omega)]
     have:=hr.get _ _ hj
     rwa [show l.sh+j - (l.sh+off)=j - off from by omega]
    ·rw [if_neg a2] at hj;rw [if_neg (by omega)]
     exact h7 _ _ hj
 ·intro c' e' fz' Ow;rw [setRow_heap w l.W5 c _ e fz h5] at Ow;cases Ow;exact hfz
theorem Wf (v:Value):cellsOf v=v.cells.toList:=by cases v <;> rfl
theorem Step.F9 (hH:Jd P base K ρ H w) (e:TypeId) (cs:List Value) (c:Array Value) (hc:∀ (i:Nat) (v:Value),cs[i]? = some v->∃ v',c[i]? = some v'/\Qc ρ v v')
  {w':World} (hw:w'.heap=w.heap.push (.cells c e)) (Sq:Ln w w') :
  Step P base W K ρ H w (Tf ρ H.next ⟨w.heap.size,0,c.size⟩) (H.push (.cells cs.length cs e)) w':=by
 have hlen:cs.length<=c.size:=by
  rcases Nat.lt_or_ge c.size cs.length with h |h
  ·have h1:cs[c.size]? = some cs[c.size]:=List.getElem?_eq_getElem h;obtain ⟨v',h2,_⟩:=hc _ _ h1;rw [Array.getElem?_eq_none (Nat.le_refl _)] at h2;cases h2
  ·exact h
 refine Step.alloc hH hw ⟨w.heap.size,0,c.size⟩ rfl _ ⟨rfl,by simpa using hlen,c,(0,0),Hk hw,rfl,?_⟩ ?_ Sq
 ·intro i v hi;obtain ⟨v',a,b⟩:=hc i v hi;exact ⟨v',by simpa using a,b.mono (Rf hH _)⟩
 ·intro c' e' fz h;rw [Hk hw] at h;cases h;rfl
theorem Xt.cells {cs:List Value} {c:Array Value} (h:Xt ρ cs c.toList):∀ (i:Nat) (v:Value),cs[i]? = some v->∃ v',c[i]? = some v'/\Qc ρ v v':=λi v hi=>by
 obtain ⟨v',a,b⟩:=h.get i v hi;exact ⟨v',by rw [<- Array.getElem?_toList];exact a,b⟩
theorem Zee (H:AH) (l:Loc) (h:l.sh=0):Qc (Tf ρ H.next l) (Oo H) (.pointer (some ⟨l.W5,0,none⟩)):=by
 have:=Qc.ptr (ρ:=Tf ρ H.next l) (i:=H.next) (off:=0) (l:=l) (Jz ..)
 rwa [h] at this
theorem Rn (H:AH) (l:Loc) (h:l.sh=0) (len cap c:Nat) (h1:cap < Xk->c=cap) (h2:Xk<=cap->len<=c/\c * (cap - Xk)<=l.size) :
  Qc (Tf ρ H.next l) (Yi H len cap) (.slice (some ⟨l.W5,0,none⟩) len c):=by
 have:=Qc.slice (ρ:=Tf ρ H.next l) (i:=H.next) (off:=0) (len:=len) (cap:=cap) (c:=c) (l:=l) (Jz ..) h1 (λe=>by have:=h2 e;exact ⟨this.1,by rw [h];omega⟩)
 rwa [h] at this
theorem yq (hH:Jd P base K ρ H w) (e:TypeId) {v v':Value} (hv:Qc ρ v v') :
  ∃ w' ρ',(newVar e v').run P w=.ok ⟨w.heap.size,0,none⟩ w'/\Qc ρ' (Oo H) (.pointer (some ⟨w.heap.size,0,none⟩))/\Step P base W K ρ H w ρ' (Ez H e v) w':=by
 refine ⟨{ w with heap:=w.heap.push (.cells v'.cells e) },Tf ρ H.next ⟨w.heap.size,0,v'.cells.size⟩,rfl,Zee H ⟨w.heap.size,0,v'.cells.size⟩ rfl,?_⟩
 unfold Ez;rw [K4];exact Step.F9 hH e (cellsOf v) v'.cells (Xt.cells hv.cells) rfl ⟨rfl,rfl⟩
theorem Zce (hH:Jd P base K ρ H w) {e:TypeId} {i:S8} (he:Y7 P e=some i) {z:Value} (hz:zeroOf i=some z) :
  ∃ w' ρ' v',(Instr.alloc e true (.tuple #[])).run P w=.ok v' w'/\Qc ρ' (Oo H) v'/\Step P base W K ρ H w ρ' (Ez H e z) w':=by
 obtain ⟨w',ρ',h1,h2,h3⟩:=yq (W:=W) hH e (Qc.plain (ρ:=ρ) (W2 hz).2);refine ⟨w',ρ',_,?_,h2,h3⟩;simp [Instr.alloc,K2 he hz,h1]
theorem Zkp (hH:Jd P base K ρ H w) (e:TypeId) {v v':Value} (hv:Qc ρ v v') :
  ∃ w' ρ' u',(Instr.box e v').run P w=.ok u' w'/\Qc ρ' (Oo H) u'/\Step P base W K ρ H w ρ' (Ez H e v) w':=by
 obtain ⟨w',ρ',h1,h2,h3⟩:=yq (W:=W) hH e hv;refine ⟨w',ρ',_,?_,h2,h3⟩;simp [Instr.box,h1]
theorem Zka (vs:List Value):∀ (k off:Nat) (cs:Array Value),off+k+vs.length<=cs.size ->
  ((vs.zipIdx k).foldl (λcs (p:Value×Nat)=>cs.setIfInBounds (off+p.2) p.1) cs).toList=cs.toList.take (off+k)++vs++cs.toList.drop (off+k+vs.length):=by
 induction vs with
 |nil=>intro k off cs h;simp
 |cons v vs ih=>
  intro k off cs h;simp only [List.length_cons] at h;rw [List.zipIdx_cons,List.foldl_cons,ih (k+1) off _ (by simp;omega)]
  rw [Array.toList_setIfInBounds];have Jo:off+k < cs.toList.length:=by simp;omega
  apply List.ext_getElem?;intro j;simp only [List.append_assoc];have e1:(List.take (off+(k+1)) (cs.toList.set (off+k) v)).length=off+k+1:=by simp;omega
  have e2:(List.take (off+k) cs.toList).length=off+k:=by simp;omega
  by_cases a:j < off+k
  ·rw [List.getElem?_append_left (by omega),List.getElem?_append_left (by omega),List.getElem?_take,List.getElem?_take,if_pos (by omega),if_pos (by omega),List.getElem?_set_ne (by omega)]
  ·by_cases b:j=off+k
   ·subst b;rw [List.getElem?_append_left (by omega),List.getElem?_take,if_pos (by omega),List.getElem?_set_self (by omega),List.getElem?_append_right (by omega),e2]
    simp
   ·rw [List.getElem?_append_right (by omega),e1,List.getElem?_append_right (l₁:=List.take (off+k) cs.toList) (by omega),e2]
    rw [show j - (off+k)=(j - (off+k+1))+1 from by omega,List.cons_append,List.getElem?_cons_succ]
    by_cases c:j - (off+k+1) < vs.length
    ·rw [List.getElem?_append_left c,List.getElem?_append_left c]
    ·rw [List.getElem?_append_right (by omega),List.getElem?_append_right (by omega),List.getElem?_drop,List.getElem?_drop,List.getElem?_set_ne (by omega)]
     congr 1;simp;omega
theorem vd {place:Nat->Option (Nat×Nat)}:∀ {ps:List (Nat×Nat×Value)} {qs:List (Nat×Value)} {cs out:List Value} {c:Array Value},
  Er ps cs=some out->(∀ (j:Nat) (p:Nat×Nat×Value),ps[j]? = some p->∃ q,qs[j]? = some q/\place q.1=some (p.1,p.2.1)/\Qc ρ p.2.2 q.2)->ps.length=qs.length->Xt ρ cs c.toList ->
  ∃ c',Instr.fill place c qs=some c'/\Xt ρ out c'.toList
 |[],[],cs,out,c,h,_,_,hr=>by cases h;exact ⟨c,rfl,hr⟩
 |[],_::_,_,_,_,_,_,hl,_=>by simp at hl
 |_::_,[],_,_,_,_,_,hl,_=>by simp at hl
 |(off,size,v)::ps,(i,v')::qs,cs,out,c,h,hh,hl,hr=>by
  simp only [Er] at h;obtain ⟨h1,h⟩:=Zt h;obtain ⟨h2,h⟩:=Zt h;have h1:=Qb h1;have h2:off+size<=Ix cs:=Qa h2;rw [K4] at h1 h2;obtain ⟨q,hq,hp,hv⟩:=hh 0 (off,size,v) rfl;simp at hq;subst hq;simp only at hp hv;have Tm:=hv.cells;have Ec:v'.cells.size=size:=by rw [<- h1,Tm.length];simp
  have hcs:cs.length=c.size:=by rw [hr.length];simp
  have hfold:=Zka v'.cells.toList 0 off c (by simp;omega)
  have hov:Xt ρ (over cs off (cellsOf v)) ((v'.cells.zipIdx.foldl (λcs (p:Value×Nat)=>cs.setIfInBounds (off+p.2) p.1) c)).toList:=by
   have e:(v'.cells.zipIdx.foldl (λcs (p:Value×Nat)=>cs.setIfInBounds (off+p.2) p.1) c)=(v'.cells.toList.zipIdx 0).foldl (λcs (p:Value×Nat)=>cs.setIfInBounds (off+p.2) p.1) c:=by
    rw [<- Array.foldl_toList];simp
   rw [e,hfold,Rl _ _ _ (by omega),<- List.append_assoc]
   refine Xt.append (Xt.append ?_ Tm) ?_
   ·simpa using Xt.take off hr
   ·rw [Tm.length];simpa using Xt.drop (off+v'.cells.toList.length) hr
  obtain ⟨c',h3,h4⟩:=vd (place:=place) h (λj p hj=>by simpa using hh (j+1) p (by simpa using hj)) (by simpa using hl) hov
  refine ⟨c',?_,h4⟩;simp only [Instr.fill,hp];rw [if_neg (by simp;omega)]
  exact h3
theorem dg:∀ (fs:List Field),(fs.all λf=>(Y7 P f.type).isSome)=true ->
  ∃ places,fs.mapM (λf=>(P.info? f.type).map λi=>(f.offset,i.size))=some places/\∀ j p,Jb P fs j=some p->places[j]? = some p
 |[],_=>⟨[],rfl,λj p h=>by simp [Jb,Xq] at h⟩
 |f::fs,h=>by
  simp only [List.all_cons,Bool.and_eq_true] at h;obtain ⟨i,hi⟩:=Option.isSome_iff_exists.1 h.1;obtain ⟨inf,_,h2,h3,_⟩:=Kq hi;obtain ⟨places,h4,h5⟩:=dg fs h.2;refine ⟨(f.offset,inf.size)::places,?_,?_⟩
  ·simp [List.mapM_cons,h2,h4]
  ·intro j p hj;cases j with
   |zero=>
    simp only [Jb,Xq,List.getElem?_cons_zero,Zo,hi] at hj;cases hj;simp [h3]
   |succ j=>
    rw [List.getElem?_cons_succ];apply h5;simpa [Jb,Xq] using hj
theorem dk {E:Env} {place:Nat->Option (Nat×Nat)}:∀ {xs:List (Nat×Operand)} {ps:List (Nat×Nat×Value)},V4 P E place xs=some ps ->
  ps.length=xs.length/\∀ (j:Nat) (p:Nat×Nat×Value),ps[j]? = some p->∃ i x,xs[j]? = some (i,x)/\K9 P E x=some p.2.2/\place i=some (p.1,p.2.1)
 |[],ps,h=>by cases h;exact ⟨rfl,λj p h=>by simp at h⟩
 |(i,x)::xs,ps,h=>by
  simp only [V4] at h;obtain ⟨v,hv,h⟩:=Zj h;obtain ⟨p,hp,h⟩:=Zj h;obtain ⟨vs,fw,h⟩:=Zj h;cases h;obtain ⟨h1,h2⟩:=dk fw;refine ⟨by simp [h1],λj q hq=>?_⟩
  cases j with
  |zero=>simp at hq;subst hq;exact ⟨i,x,rfl,hv,hp⟩
  |succ j=>simpa using h2 j q (by simpa using hq)
def qy (P:Program) (ρ:Map) (E:Env) (ev:Operand->Value):Prop:=∀ x v,K9 P E x=some v->Qc ρ v (ev x)
theorem Rz {E:Env} {ev:Operand->Value} (hX:qy P ρ E ev) {place:Nat->Option (Nat×Nat)} {yr:Nat->Option (Nat×Nat)} (Ns:∀ i p,place i=some p->yr i=some p)
  {parts:List (Nat×Operand)} {ps:List (Nat×Nat×Value)} (hp:V4 P E place parts=some ps) {cs out:List Value} {c:Array Value} (h:Er ps cs=some out) (hr:Xt ρ cs c.toList) :
  ∃ c',Instr.fill yr c (parts.map λp=>(p.1,ev p.2))=some c'/\Xt ρ out c'.toList:=by
 obtain ⟨h1,h2⟩:=dk hp;refine vd h (λj p hj=>?_) (by simp [h1]) hr
 obtain ⟨i,x,a,b,c⟩:=h2 j p hj;exact ⟨(i,ev x),by simp [a],Ns _ _ c,hX _ _ b⟩
theorem Zaw {β:Type} {E:Env} {t:TypeId} {parts:List (Nat×Operand)} {k:Value->Option β} {r:β} (h:F7 P E t parts k=some r) :
  ∃ u,k u=some r/\∀ (ρ:Map) (ev:Operand->Value),qy P ρ E ev->∀ w:World,∃ u',(Instr.build t (parts.map λp=>(p.1,ev p.2)).toArray).run P w=.ok u' w/\Qc ρ u u':=by
 unfold F7 at h;obtain ⟨i,hi,h⟩:=Zj h;obtain ⟨z,hz,h⟩:=Zj h;obtain ⟨inf,hu,Zez,Ec,_,hzz,_⟩:=Kq hi;have fu:=W2 hz;split at h
 ·rename_i fs hd;obtain ⟨Ze2,h⟩:=Zt h;obtain ⟨ps,hps,h⟩:=Zj h;obtain ⟨u,Be,h⟩:=Z5 h;unfold my at Be;obtain ⟨cs,hcs,Be⟩:=Zj Be;cases Be;refine ⟨_,h,λρ ev hX w=>?_⟩;obtain ⟨places,hp1,hp2⟩:=dg fs.toList Ze2;obtain ⟨c',h1,h2⟩:=Rz hX (yr:=λx=>places[x]?) (λj p hj=>hp2 j p hj) hps hcs (c:=z.cells) (Qc.plain (ρ:=ρ) fu.2).cells;refine ⟨.agg c',?_,.agg h2⟩;rw [hd] at hu;simp [Instr.build,run_underlying hu,K2 hi hz,Array.mapM_eq_mapM_toList,run_places w _ _ hp1,h1]
 ·rename_i n e hd;obtain ⟨j,hj,h⟩:=Zj h;obtain ⟨ps,hps,h⟩:=Zj h;obtain ⟨u,Be,h⟩:=Z5 h;unfold my at Be;obtain ⟨cs,hcs,Be⟩:=Zj Be;cases Be;refine ⟨_,h,λρ ev hX w=>?_⟩;obtain ⟨c',h1,h2⟩:=Rz hX (yr:=λx=>some (x * j.size,j.size)) (λj p hj=>hj) hps hcs (c:=z.cells) (Qc.plain (ρ:=ρ) fu.2).cells;refine ⟨.agg c',?_,.agg h2⟩;rw [hd] at hu;simp [Instr.build,run_underlying hu,K2 hi hz,run_sizeOf hj,h1]
 ·cases h
theorem O5 {t e:TypeId} (h:G8 P t=some e):P.underlying t=some (.slice e):=by
 unfold G8 at h;obtain ⟨i,hi,h⟩:=Zj h;obtain ⟨_,hu,_⟩:=Kq hi;cases hd:i.desc <;> simp [hd,gy] at h
 rw [hd] at hu;subst h;exact hu
theorem mc (z:List Value):∀ (n i:Nat),i < n * z.length->(Vs z n)[i]? = z[i % z.length]?
 |0,i,h=>by simp at h
 |n+1,i,h=>by
  rw [Rc]
  have hz:0 < z.length:=by
   rcases Nat.eq_zero_or_pos z.length with h' |h'
   ·rw [h'] at h;simp at h
   ·exact h'
  by_cases hi:i < z.length
  ·rw [List.getElem?_append_left hi,Nat.mod_eq_of_lt hi]
  ·rw [List.getElem?_append_right (by omega),mc z n (i - z.length) (by rw [Nat.add_mul,Nat.one_mul] at h;omega)]
   congr 1;exact (Nat.mod_eq_sub_mod (by omega)).symm
theorem Tq (z:Value) (n m:Nat) (hm:m=n * z.cells.size):((Array.range m).map (z.cells[· % z.cells.size]!)).toList=Vs (cellsOf z) n:=by
 subst hm;rw [Wf];apply List.ext_getElem?;intro i
 by_cases hi:i < n * z.cells.size
 ·rw [mc _ _ _ (by simpa using hi)]
  have hpos:0 < z.cells.size:=by
   rcases Nat.eq_zero_or_pos z.cells.size with h' |h'
   ·rw [h'] at hi;simp at hi
   ·exact h'
  have Jo:=Nat.mod_lt i hpos;simp only [Array.toList_map,Array.toList_range,List.getElem?_map,List.getElem?_range hi,Option.map_some];rw [Array.length_toList,Array.getElem?_toList,Array.getElem?_eq_getElem Jo];simp [Jo]
 ·rw [List.getElem?_eq_none (by simp;omega),List.getElem?_eq_none (by rw [U6];simp;omega)]
theorem E3 {z:Value} (hz:plain z=true) (n:Nat):Xt ρ (Vs (cellsOf z) n) (Vs (cellsOf z) n):=by
 have h1:Xt ρ (cellsOf z) (cellsOf z):=by
  have:=(Qc.plain (ρ:=ρ) hz).cells
  rwa [<- Wf] at this
 induction n with
 |zero=>exact .nil
 |succ n ih=>rw [Rc];exact Xt.append h1 ih
theorem Sa {β:Type} {E:Env} {t:TypeId} {len:Nat} {parts:List (Nat×Operand)} {k:Value->AH->Option β} {r:β} (h:D0 P E H t len parts k=some r) :
  ∃ u H',k u H'=some r/\∀ (ρ:Map) (K:Nat->Prop) (w:World) (ev:Operand->Value),Jd P base K ρ H w->qy P ρ E ev ->
   ∃ u' w' ρ',(Instr.buildSlice t len (parts.map λp=>(p.1,ev p.2)).toArray).run P w=.ok u' w'/\Qc ρ' u u'/\Step P base W K ρ H w ρ' H' w':=by
 unfold D0 at h;obtain ⟨e,he,h⟩:=Zj h;obtain ⟨i,hi,h⟩:=Zj h;obtain ⟨z,hz,h⟩:=Zj h;obtain ⟨h0,h⟩:=Zt h;rw [Nat.blt_eq] at h0;obtain ⟨h1,h⟩:=Zt h;obtain ⟨h2,h⟩:=Zt h;obtain ⟨ps,hps,h⟩:=Zj h;obtain ⟨cs,hcs,h⟩:=Z5 h;have h1:len * i.size<=16777216:=Qa h1;have h2:=Qb h2;rw [K4,Wf,Array.length_toList] at h2;refine ⟨_,_,h,λρ K w ev hH hX=>?_⟩;have fu:=W2 hz;have hu:=O5 he;have hzl:=Tq z len (len * i.size) (by rw [h2])
 obtain ⟨c',h3,h4⟩:=Rz hX (yr:=λx=>some (x * i.size,i.size)) (λj p hj=>hj) hps hcs (c:=((Array.range (len * i.size)).map (z.cells[· % z.cells.size]!)))
  (by rw [hzl];exact E3 fu.2 len)
 have hlen:cs.length=len * i.size:=by
  have e1:∀ {ps:List (Nat×Nat×Value)} {a b:List Value},Er ps a=some b->b.length=a.length:=by
   intro ps
   induction ps with
   |nil=>intro a b h;cases h;rfl
   |cons p ps ih=>
    intro a b h;obtain ⟨off,size,v⟩:=p;simp only [Er] at h;obtain ⟨q1,h⟩:=Zt h;obtain ⟨q2,h⟩:=Zt h;have q1:=Qb q1;have q2:off+size<=Ix a:=Qa q2;rw [K4] at q1 q2;rw [ih h,zi _ _ _ (by omega)]
  rw [e1 hcs,U6,Wf,Array.length_toList,h2]
 let w':World:={ w with heap:=w.heap.push (.cells c' e) }
 let l:Loc:=⟨w.heap.size,0,c'.size⟩;refine ⟨.slice (some ⟨w.heap.size,0,none⟩) len len,w',Tf ρ H.next l,?_,Rn H l rfl len len len (λ_=>rfl) (λhU=>absurd hU (by omega)),?_⟩
 ·have hcond:¬ (len * i.size > 2 ^ 24):=by omega
  by_cases h0:len * i.size=0
  ·have hA:∀ f:Nat->Value,(Array.range (len * i.size)).map f=#[]:=by intro f;rw [h0];simp
   rw [hA] at h3;simp only [Instr.buildSlice,Sem.run_bind,run_underlying hu,Result.andThen_ok,run_sizeOf hi,if_neg hcond,if_pos h0,Sem.run_pure,hA,h3];rfl
  ·simp only [Instr.buildSlice,Sem.run_bind,run_underlying hu,Result.andThen_ok,run_sizeOf hi,if_neg hcond,if_neg h0,Sem.run_pure,K2 hi hz,h3];rfl
 ·have:=Step.F9 (W:=W) hH e cs c' (Xt.cells h4) (w':=w') rfl ⟨rfl,rfl⟩;rw [hlen] at this;exact this
end
end Go.Ev
namespace Go.Ev
section
variable {P:Program} {base:Nat} {W K:Nat->Prop} {ρ:Map} {H:AH} {w:World}
theorem D4 {v:Value} {n:Nat} (h:asNat v=some n):∃ k,v=.int k (n:Int):=by
 unfold asNat at h;split at h
 ·rw [kh h];exact ⟨_,rfl⟩
 ·cases h
theorem Qc.int_eq {ρ:Map} {k:IntKind} {n:Int} {v':Value} (h:Qc ρ (.int k n) v'):v'=.int k n:=by cases h;rfl
theorem Qc.asNat {ρ:Map} {v v':Value} {n:Nat} (h:Qc ρ v v') (hn:Ev.asNat v=some n):v'=v:=by
 obtain ⟨k,rfl⟩:=D4 hn;exact h.int_eq
theorem j9 {fs:Array Field} {f:Nat} {p:Nat×Nat} (h:Jb P fs.toList f=some p) :
  ∃ fd j,fs[f]? = some fd/\Y7 P fd.type=some j/\p=(fd.offset,j.size):=by
 unfold Jb at h;obtain ⟨fd,hf,h⟩:=Zj h;obtain ⟨j,hj,h⟩:=Zj h;cases h;rw [Xq,Array.getElem?_toList] at hf;exact ⟨fd,j,hf,hj,rfl⟩
theorem zg {d:TypeDesc} {fs:List Field} (h:structOf d=some fs):∃ a:Array Field,d=.struct a/\fs=a.toList:=by
 cases d <;> simp [structOf] at h
 exact ⟨_,rfl,h.symm⟩
theorem ql {β:Type} {t:TypeId} {x:Value} {f:Nat} {k:Value->Option β} {r:β} (h:T8 P t x f k=some r) :
  ∃ u,k u=some r/\∀ (ρ:Map) (x':Value),Qc ρ x x'->∀ w:World,∃ u',(Instr.fieldAt t x' f).run P w=.ok u' w/\Qc ρ u u':=by
 unfold T8 at h;obtain ⟨i,hi,h⟩:=Zj h;obtain ⟨fs,hfs,h⟩:=Zj h;obtain ⟨p,hp,h⟩:=Zj h;obtain ⟨_,hu,_⟩:=Kq hi;obtain ⟨a,hd,rfl⟩:=zg hfs;rw [hd] at hu;obtain ⟨fd,j,h1,h2,rfl⟩:=j9 hp;cases hz:Nat.beq j.size 0 with
 |true=>simp only [hz] at h;cases h
 |false=>
  simp only [hz,cond_false] at h;obtain ⟨u,Be,h⟩:=Z5 h;obtain ⟨b,off,rfl,Be⟩:=G6 Be;cases Be;refine ⟨_,h,λρ x' hx w=>?_⟩;obtain ⟨l,hl,rfl⟩:=hx.T4;refine ⟨_,?_,Qc.ptr hl⟩;have Da:=Vq hz;simp [Instr.fieldAt,run_underlying hu,h1,Instr.sureAddr,fieldPlace,run_sizeOf h2,Da,Addr.add_lit,Nat.add_assoc]
theorem vb {t:TypeId} {j:S8} (hj:Y7 P t=some j) {x x' u:Value} {off:Nat} (h:Fe j.agg j.size x off=some u) (hx:Qc ρ x x') (w:World) :
  ∃ qw u',x'=.agg qw/\(part t qw off).run P w=.ok u' w/\Qc ρ u u':=by
 unfold Fe at h;split at h
 ·rename_i cs;cases hx with
  |flat hf=>simp [flat] at hf
  |agg hr=>
   rename_i ds;refine ⟨ds,?_⟩;unfold cellAt at h;have hlen:=hr.length;simp only [Array.length_toList] at hlen;cases xv:j.agg with
   |true=>
    rw [xv] at h;obtain ⟨hb,h⟩:=Zt h;have hb:off+j.size<=Ix cs.toList:=Qa hb;rw [K4,Array.length_toList] at hb;cases h;refine ⟨.agg (ds.extract off (off+j.size)),rfl,?_,.agg ?_⟩
    ·simp [part,Pc hj,xv,run_sizeOf hj]
    ·have:=hr.P9 off j.size
     have e:(ds.extract off (off+j.size)).toList=P9 ds.toList off j.size:=by
      rw [Dz];simp
     rw [e];exact this
   |false=>
    rw [xv] at h;simp only [cond_false,Xq] at h;obtain ⟨u',a,b⟩:=hr.get _ _ h;refine ⟨u',rfl,?_,b⟩;rw [Array.getElem?_toList] at a;simp [part,Pc hj,xv,a]
 ·cases h
theorem Zat {β:Type} {t:TypeId} {x:Value} {f:Nat} {k:Value->Option β} {r:β} (h:rj P t x f k=some r) :
  ∃ u,k u=some r/\∀ (ρ:Map) (x':Value),Qc ρ x x'->∀ w:World,∃ u',(Instr.field t x' f).run P w=.ok u' w/\Qc ρ u u':=by
 unfold rj at h;obtain ⟨i,hi,hA⟩:=Zj h;obtain ⟨fs,hfs,hB⟩:=Zj hA;obtain ⟨fd,hfd,hC⟩:=Zj hB;obtain ⟨j,hj,hD⟩:=Zj hC;obtain ⟨_,hu,_⟩:=Kq hi;obtain ⟨a,hd,rfl⟩:=zg hfs;rw [hd] at hu;rw [Xq,Array.getElem?_toList] at hfd;obtain ⟨u,Be,hE⟩:=Z5 hD;refine ⟨u,hE,λρ x' hx w=>?_⟩;obtain ⟨qw,u',rfl,h1,h2⟩:=vb hj Be hx w;refine ⟨u',?_,h2⟩;simp [Instr.field,run_underlying hu,hfd,asAgg,h1]
theorem qk {β:Type} {t:TypeId} {x ix:Value} {k:Value->Option β} {r:β} (h:T7 P t x ix k=some r) :
  ∃ u,k u=some r/\∀ (ρ:Map) (x' ix':Value),Qc ρ x x'->Qc ρ ix ix'->∀ w:World,∃ u',(Instr.indexAt t x' ix').run P w=.ok u' w/\Qc ρ u u':=by
 unfold T7 at h;obtain ⟨i,hi,h1⟩:=Zj h;obtain ⟨_,hu,_⟩:=Kq hi;split at h1
 ·rename_i len e hd;obtain ⟨j,hj,h2⟩:=Zj h1;obtain ⟨u,h3,h4⟩:=Z5 h2;unfold Nb at h3;obtain ⟨n,hn,h5⟩:=Zj h3;obtain ⟨b,off,rfl,h6⟩:=G6 h5;obtain ⟨Jo,h7⟩:=Zt h6;cases h7;refine ⟨_,h4,λρ x' ix' hx hix w=>?_⟩;rw [hix.asNat hn];obtain ⟨kk,rfl⟩:=D4 hn;obtain ⟨l,hl,rfl⟩:=hx.T4;refine ⟨_,?_,Qc.ptr hl⟩;rw [hd] at hu;rw [Nat.blt_eq] at Jo;simp [Instr.indexAt,asIntOf,run_underlying hu,Instr.sureAddr,run_sizeOf hj,Addr.add_lit,Nat.add_assoc,Jo]
 ·rename_i e hd;obtain ⟨j,hj,h2⟩:=Zj h1;obtain ⟨u,h3,h4⟩:=Z5 h2;unfold Db at h3;obtain ⟨n,hn,h5⟩:=Zj h3;split at h5
  ·rename_i b off len cap;obtain ⟨Jo,h7⟩:=Zt h5;cases h7;refine ⟨_,h4,λρ x' ix' hx hix w=>?_⟩;rw [hix.asNat hn];obtain ⟨kk,rfl⟩:=D4 hn;rw [hd] at hu;rw [Nat.blt_eq] at Jo;cases hx with
   |flat hf=>simp [flat] at hf
   |slice hl h1 h2=>
    refine ⟨_,?_,Qc.ptr hl⟩;simp [Instr.indexAt,asIntOf,run_underlying hu,run_sizeOf hj,Addr.add_lit,Nat.add_assoc,Jo]
   |Kj hl ha hc=>omega
  ·cases h5
 ·cases h1
theorem Zas {β:Type} {t:TypeId} {x ix:Value} {k:Value->Option β} {r:β} (h:ri P t x ix k=some r) :
  ∃ u,k u=some r/\∀ (ρ:Map) (x' ix':Value),Qc ρ x x'->Qc ρ ix ix'->∀ w:World,∃ u',(Instr.index t x' ix').run P w=.ok u' w/\Qc ρ u u':=by
 unfold ri at h;obtain ⟨i,hi,h1⟩:=Zj h;obtain ⟨_,hu,_⟩:=Kq hi;split at h1
 ·rename_i len e hd;obtain ⟨j,hj,h2⟩:=Zj h1;obtain ⟨u,h3,h4⟩:=Z5 h2;unfold Zcd at h3;obtain ⟨n,hn,h5⟩:=Zj h3;obtain ⟨Jo,h6⟩:=Zt h5;refine ⟨u,h4,λρ x' ix' hx hix w=>?_⟩;rw [hix.asNat hn];obtain ⟨kk,rfl⟩:=D4 hn;obtain ⟨qw,u',rfl,h7,h8⟩:=vb hj h6 hx w;refine ⟨u',?_,h8⟩;rw [hd] at hu;rw [Nat.blt_eq] at Jo;have h7:(part e qw (n * j.size)).run P w=.ok u' w:=h7;simp [Instr.index,asIntOf,run_underlying hu,Jo,run_sizeOf hj,h7]
 ·rename_i hd;obtain ⟨u,h3,h4⟩:=Z5 h1;unfold Na at h3;obtain ⟨n,hn,h5⟩:=Zj h3;split at h5
  ·rename_i s;obtain ⟨b,hb,h6⟩:=Zj h5;cases h6;refine ⟨_,h4,λρ x' ix' hx hix w=>?_⟩;rw [hix.asNat hn];obtain ⟨kk,rfl⟩:=D4 hn;cases hx;refine ⟨_,?_,Qc.flat rfl⟩;rw [hd] at hu;rw [Xq,Array.getElem?_toList] at hb
   have ur:s[n]? = some b:=by
    obtain ⟨Jo,e⟩:=Array.getElem?_eq_some_iff.1 hb;have hlt':n < s.size:=Jo;rw [getElem?_pos s n hlt'];exact congrArg some e
   simp [Instr.index,asIntOf,run_underlying hu,ur]
  ·cases h5
 ·cases h1
theorem qj {β:Type} {t:TypeId} {len cap:Value} {k:Value->AH->Option β} {r:β} (h:M6 P H t len cap k=some r) :
  ∃ u H',k u H'=some r/\∀ (ρ:Map) (K:Nat->Prop) (w:World) (len' cap':Value),Jd P base K ρ H w->Qc ρ len len'->Qc ρ cap cap' ->
   ∃ u' w' ρ',(Instr.makeSlice t len' cap').run P w=.ok u' w'/\Qc ρ' u u'/\Step P base W K ρ H w ρ' H' w':=by
 unfold M6 at h;obtain ⟨e,he,h⟩:=Zj h;obtain ⟨i,hi,h⟩:=Zj h;obtain ⟨z,hz,h⟩:=Zj h;obtain ⟨h2,h⟩:=Zt h;obtain ⟨p,hp,h⟩:=Z5 h;unfold Rw at hp;obtain ⟨l,hl,hp⟩:=Zj hp;obtain ⟨c,hc,hp⟩:=Zj hp;obtain ⟨h3,hp⟩:=Zt hp;obtain ⟨h4,hp⟩:=Zt hp;cases hp;have h2:=Qb h2;rw [K4,Wf,Array.length_toList] at h2;have h3:=Qa h3;unfold roomFor at h4
 have h5:c * i.bytes<=1099511627776/\c < 1099511627776:=by
  cases hb:Nat.ble (Nat.mul c i.bytes) xb with
  |false=>rw [hb] at h4;cases h4
  |true=>rw [hb] at h4;exact ⟨Qa hb,by simpa [Nat.blt_eq,xb] using h4⟩
 refine ⟨_,_,h,λρ K w len' cap' hH hlr hcr=>?_⟩;have e1:=hlr.asNat hl;have e2:=hcr.asNat hc;subst e1 e2;obtain ⟨k1,rfl⟩:=D4 hl;obtain ⟨k2,rfl⟩:=D4 hc;obtain ⟨inf,_,Zez,Ec,hby,hzz,_⟩:=Kq hi;have fu:=W2 hz;have hu:=O5 he;have hzl:=Tq z c (c * i.size) (by rw [h2])
 let cells:Array Value:=(Array.range (c * i.size)).map (z.cells[· % z.cells.size]!)
 let w':World:={ w with heap:=w.heap.push (.cells cells e) }
 let loc:Loc:=⟨w.heap.size,0,cells.size⟩;have hcs:cells.size=c * i.size:=by simp [cells]
 have hcU:¬ Xk<=c:=by unfold Xk;omega
 refine ⟨.slice (some ⟨w.heap.size,0,none⟩) l c,w',Tf ρ H.next loc,?_,Rn H loc rfl l c c (λ_=>rfl) (λhU=>absurd hU hcU),?_⟩
 ·have hb:(inf.bytes:Int) * (c:Int)<=281474976710656:=by
   have:inf.bytes * c<=281474976710656:=by rw [<- hby,Nat.mul_comm];omega
   have h9:=Int.ofNat_le.2 this;rw [Int.natCast_mul] at h9;omega
  have hr:=run_make w t e inf z hu Zez (by rw [<- hzz];exact fu.1) k1 k2 (l:Int) (c:Int) (by omega) (by omega) hb (by omega)
  rw [Int.toNat_natCast,Int.toNat_natCast,<- Ec] at hr;rw [hr];rfl
 ·have:=Step.F9 (W:=W) hH e (Vs (cellsOf z) c) cells (Xt.cells (by rw [show cells.toList=Vs (cellsOf z) c from hzl];exact E3 fu.2 c)) (w':=w') rfl ⟨rfl,rfl⟩
  have h2':(cellsOf z).length=i.size:=by rw [Wf,Array.length_toList,h2]
  rw [U6,h2'] at this;exact this
end
end Go.Ev
namespace Go.Ev
section
variable {P:Program} {base:Nat} {W K:Nat->Prop} {ρ:Map} {H:AH} {w:World}
theorem run_sliceBound {v:Value} {n y:Nat} (h:asNat v=some n) (hn:n<=y) (code:BoundsCode):(Instr.sliceBound v y code).run P w=.ok n w:=by
 obtain ⟨k,rfl⟩:=D4 h;simp [Instr.sliceBound,asIntOf,hn]
theorem W0 {v:Value} {d n:Nat} (h:I3 (some v) d=some n):asNat v=some n:=h
theorem P0 {d n:Nat} (h:I3 none d=some n):n=d:=by cases h;rfl
theorem Wu (isSlice:Bool) {len cap:Nat} {lo hi mx:Option Value} {l h m:Nat} (h1:I3 lo 0=some l) (h2:I3 hi len=some h) (h3:I3 mx cap=some m)
  (h4:l<=h) (h5:h<=m) (h6:m<=cap) (h7:mx=none\/hi.isSome=true):(Instr.sliceBounds isSlice len cap lo hi mx).run P w=.ok (l,h,m) w:=by
 cases mx with
 |none=>
  obtain rfl:=P0 h3;cases hi with
  |none=>
   obtain rfl:=P0 h2;cases lo with
   |none=>obtain rfl:=P0 h1;simp [Instr.sliceBounds]
   |some v=>simp [Instr.sliceBounds,run_sliceBound (W0 h1) h4]
  |some u=>
   cases lo with
   |none=>obtain rfl:=P0 h1;simp [Instr.sliceBounds,run_sliceBound (W0 h2) h5]
   |some v=>simp [Instr.sliceBounds,run_sliceBound (W0 h1) h4,run_sliceBound (W0 h2) h5]
 |some x=>
  cases hi with
  |none=>rcases h7 with h7 |h7 <;> cases h7
  |some u=>
   cases lo with
   |none=>obtain rfl:=P0 h1;simp [Instr.sliceBounds,run_sliceBound (W0 h2) h5,run_sliceBound (W0 h3) h6]
   |some v=>simp [Instr.sliceBounds,run_sliceBound (W0 h1) h4,run_sliceBound (W0 h2) h5,run_sliceBound (W0 h3) h6]
theorem Lj {len cap:Nat} {lo hi mx:Option Value} {b:Nat×Nat×Nat} (h:Vb len cap lo hi mx=some b) :
  I3 lo 0=some b.1/\I3 hi len=some b.2.1/\I3 mx cap=some b.2.2/\b.1<=b.2.1/\b.2.1<=b.2.2/\b.2.2<=cap/\(mx=none\/hi.isSome=true)/\b.2.2 < Xk:=by
 unfold Vb at h;obtain ⟨l,h1,hA⟩:=Zj h;obtain ⟨h',h2,hB⟩:=Zj hA;obtain ⟨m,h3,hC⟩:=Zj hB;obtain ⟨h4,hD⟩:=Zt hC;obtain ⟨h5,hE⟩:=Zt hD;obtain ⟨h6,hF⟩:=Zt hE;obtain ⟨h7,hG⟩:=Zt hF;obtain ⟨h8,hI⟩:=Zt hG;cases hI;refine ⟨h1,h2,h3,Qa h5,Qa h6,Qa h7,?_,by rwa [Nat.blt_eq] at h8⟩
 cases mx with
 |none=>exact .inl rfl
 |some x=>exact .inr h4
inductive Fl (ρ:Map):Option Value->Option Value->Prop where
 |nil:Fl ρ none none
 |one {v v':Value} (h:Qc ρ v v'):Fl ρ (some v) (some v')
theorem Fl.I3 {ρ:Map} {x x':Option Value} {d n:Nat} (h:Fl ρ x x') (hb:Ev.I3 x d=some n):Ev.I3 x' d=some n:=by
 cases h with
 |nil=>exact hb
 |one h=>rw [h.asNat (W0 hb)];exact hb
theorem Fl.Ph {ρ:Map} {x x':Option Value} (h:Fl ρ x x'):(x=none↔x'=none):=by
 cases h <;> simp
theorem Fl.isSome {ρ:Map} {x x':Option Value} (h:Fl ρ x x'):x.isSome=x'.isSome:=by cases h <;> rfl
theorem Td (b o n:Nat):Addr.add ⟨b,o,none⟩ n=⟨b,o+n,none⟩:=Addr.add_lit b o n
theorem ch {t e:TypeId} {len:Nat} {i j:S8} (hi:Y7 P t=some i) (hd:i.desc=.array len e) (hj:Y7 P e=some j) {x x' u:Value} {lo Mh mx Dv hi'' Ma:Option Value}
  (h:Py j.size len x lo Mh mx=some u) (hx:Qc ρ x x') (hl:Fl ρ lo Dv) (hh:Fl ρ Mh hi'') (hm:Fl ρ mx Ma) :
  ∃ u',(Instr.sliceAt t x' Dv hi'' Ma).run P w=.ok u' w/\Qc ρ u u':=by
 unfold Py at h;obtain ⟨b,off,rfl,hA⟩:=G6 h;obtain ⟨bb,hb,hB⟩:=Zj hA;cases hB;obtain ⟨b1,b2,b3,b4,b5,b6,b7,b8⟩:=Lj hb;obtain ⟨l,So,rfl⟩:=hx.T4;obtain ⟨_,hu,_⟩:=Kq hi;rw [hd] at hu;have hr:=Wu (P:=P) (w:=w) false (hl.I3 b1) (hh.I3 b2) (hm.I3 b3) b4 b5 b6 (by rw [<- hm.Ph,<- hh.isSome];exact b7)
 have Da:¬ Xk<=Nat.sub bb.2.2 bb.1:=λh=>by
  have:Xk<=bb.2.2 - bb.1:=h;omega
 by_cases e:bb.2.2=bb.1
 ·refine ⟨.slice (some ⟨l.W5,l.sh+off,none⟩) (bb.2.1 - bb.1) (bb.2.2 - bb.1),?_,?_⟩
  ·simp [Instr.sliceAt,run_underlying hu,Instr.sureAddr,hr,run_sizeOf hj,e]
  ·rw [Uj e];exact Qc.slice So (λ_=>rfl) (λhU=>absurd hU Da)
 ·refine ⟨.slice (some ⟨l.W5,l.sh+(off+bb.1 * j.size),none⟩) (bb.2.1 - bb.1) (bb.2.2 - bb.1),?_,?_⟩
  ·simp [Instr.sliceAt,run_underlying hu,Instr.sureAddr,hr,run_sizeOf hj,e,Td,Nat.add_assoc]
  ·rw [Wm e];exact Qc.slice So (λ_=>rfl) (λhU=>absurd hU Da)
theorem Zko {t e:TypeId} {i j:S8} (hi:Y7 P t=some i) (hd:i.desc=.slice e) (hj:Y7 P e=some j) {x x' u:Value} {lo Mh mx Dv hi'' Ma:Option Value}
  (h:mr j.size x lo Mh mx=some u) (hx:Qc ρ x x') (hl:Fl ρ lo Dv) (hh:Fl ρ Mh hi'') (hm:Fl ρ mx Ma) :
  ∃ u',(Instr.sliceAt t x' Dv hi'' Ma).run P w=.ok u' w/\Qc ρ u u':=by
 obtain ⟨_,hu,_⟩:=Kq hi;rw [hd] at hu;unfold mr at h;split at h
 ·obtain ⟨bb,hb,hA⟩:=Zj h;cases hA;obtain ⟨b1,b2,b3,b4,b5,b6,b7,_⟩:=Lj hb;cases hx;have hr:=Wu (P:=P) (w:=w) true (hl.I3 b1) (hh.I3 b2) (hm.I3 b3) b4 b5 b6 (by rw [<- hm.Ph,<- hh.isSome];exact b7)
  have e0:bb.2.2=0:=by omega
  have e1:bb.1=0:=by omega
  have e2:bb.2.1=0:=by omega
  rw [e0,e1,e2] at hr;refine ⟨.slice none 0 0,?_,Qc.flat rfl⟩;simp [Instr.sliceAt,Instr.slice,run_underlying hu,hr,run_sizeOf hj]
 ·rename_i b off len cap;cases hc:(cond (Nat.ble Xk cap) mx.isNone false) with
  |true=>
   rw [hc] at h;simp only [cond_true] at h
   have Bz:Xk<=cap/\mx=none:=by
    cases hU:Nat.ble Xk cap with
    |false=>rw [hU] at hc;cases hc
    |true=>
     rw [hU] at hc;cases mx with
     |none=>exact ⟨Qa hU,rfl⟩
     |some x=>cases hc
   obtain ⟨Bz,rfl⟩:=Bz;have hmx:Ma=none:=hm.Ph.1 rfl;subst hmx;obtain ⟨l,h1,hA⟩:=Zj h;obtain ⟨hb,h2,hB⟩:=Zj hA;obtain ⟨h3,hC⟩:=Zt hB;obtain ⟨h4,hD⟩:=Zt hC;obtain ⟨h5,hE⟩:=Zt hD;cases hE;have h3:=Qa h3;have h4:=Qa h4;have h5:cap=Xk+j.size:=Qb h5;cases hx with
   |flat hf=>simp [flat] at hf
   | @slice _ _ _ _ c lc hρ k1 k2=>
    obtain ⟨k3,k4⟩:=k2 Bz;have hr:=Wu (P:=P) (w:=w) true (cap:=c) (hl.I3 h1) (hh.I3 h2) (show I3 none c=some c from rfl) h3 (by omega) (Nat.le_refl _) (.inl rfl)
    by_cases e:c=l
    ·subst e;have e1:hb=c:=by omega
     subst e1;refine ⟨.slice (some ⟨lc.W5,lc.sh+off,none⟩) 0 0,?_,?_⟩
     ·simp [Instr.sliceAt,Instr.slice,run_underlying hu,hr,run_sizeOf hj]
     ·have:Nat.sub hb hb=0:=Nat.sub_self hb;rw [this];exact Qc.Kj hρ rfl (.inl Bz)
    ·refine ⟨.slice (some ⟨lc.W5,lc.sh+(off+l * j.size),none⟩) (hb - l) (c - l),?_,?_⟩
     ·simp [Instr.sliceAt,Instr.slice,run_underlying hu,hr,run_sizeOf hj,e,Td,Nat.add_assoc]
     ·refine Qc.slice hρ (λJo=>absurd Bz (Nat.not_le_of_lt Jo)) (λ_=>⟨?_,?_⟩)
      ·show hb - l<=c - l;omega
      ·show lc.sh+(off+l * j.size)+(c - l) * (cap - Xk)<=lc.size;have e5:cap - Xk=j.size:=by omega
       rw [e5] at k4 ⊢;have:l * j.size+(c - l) * j.size=c * j.size:=by rw [<- Nat.add_mul];congr 1;omega
       omega
   | @Kj _ _ _ a lc hρ ha Ow=>
    have hr:=Wu (P:=P) (w:=w) true (cap:=0) (hl.I3 h1) (hh.I3 h2) (show I3 none 0=some 0 from rfl) h3 (by omega) (Nat.le_refl _) (.inl rfl)
    have e1:hb=0:=by omega
    have e2:l=0:=by omega
    subst e1 e2;refine ⟨.slice (some a) 0 0,?_,Qc.Kj hρ ha (.inl Bz)⟩;simp [Instr.sliceAt,Instr.slice,run_underlying hu,hr,run_sizeOf hj]
  |false=>
   rw [hc] at h;simp only [cond_false] at h;obtain ⟨bb,hb,hA⟩:=Zj h;cases hA;obtain ⟨b1,b2,b3,b4,b5,b6,b7,b8⟩:=Lj hb
   have Da:¬ Xk<=Nat.sub bb.2.2 bb.1:=λh=>by
    have:Xk<=bb.2.2 - bb.1:=h;omega
   have main:∀ (a:Addr) (c:Nat),x'=.slice (some a) len c->bb.2.2<=c->(Ma=none->c=bb.2.2) ->
     (Instr.sliceAt t x' Dv hi'' Ma).run P w=.ok (.slice (some (if bb.2.2=bb.1 then a else a.add (bb.1 * j.size))) (bb.2.1 - bb.1) (bb.2.2 - bb.1)) w:=by
    intro a c hxe hle hno;subst hxe
    have b3':I3 Ma c=some bb.2.2:=by
     cases hm with
     |nil=>rw [hno rfl];rfl
     |one hv=>
      have:=hv.asNat (W0 b3);show asNat _=_;rw [this];exact W0 b3
    have hr:=Wu (P:=P) (w:=w) true (hl.I3 b1) (hh.I3 b2) b3' b4 b5 hle (by rw [<- hm.Ph,<- hh.isSome];exact b7)
    by_cases e:bb.2.2=bb.1
    ·simp [Instr.sliceAt,Instr.slice,run_underlying hu,hr,run_sizeOf hj,e]
    ·simp [Instr.sliceAt,Instr.slice,run_underlying hu,hr,run_sizeOf hj,e]
   have hU:Xk<=cap->∃ m,mx=some m:=λhU=>by
    cases mx with
    |none=>
     have:Nat.ble Xk cap=true:=Nat.ble_eq_true_of_le hU;rw [this] at hc;cases hc
    |some m=>exact ⟨m,rfl⟩
   cases hx with
   |flat hf=>simp [flat] at hf
   | @slice _ _ _ _ c lc hρ k1 k2=>
    have hle:bb.2.2<=c/\(Ma=none->c=bb.2.2):=by
     cases hk:Nat.ble Xk cap with
     |true=>
      have Sp:=Qa hk;rw [hk] at b6;simp only [cond_true] at b6;have:=(k2 Sp).1;refine ⟨by omega,λhn=>?_⟩
      obtain ⟨m,rfl⟩:=hU Sp;rw [<- hm.Ph] at hn;cases hn
     |false=>
      have Sp:=Up hk;rw [hk] at b6 b3;simp only [cond_false] at b6 b3;have:=k1 Sp;refine ⟨by omega,λhn=>?_⟩
      rw [<- hm.Ph] at hn;subst hn;have:=P0 b3;omega
    have hr:=main _ _ rfl hle.1 hle.2
    by_cases e:bb.2.2=bb.1
    ·rw [if_pos e] at hr;refine ⟨_,hr,?_⟩;rw [Uj e];exact Qc.slice hρ (λ_=>rfl) (λhU=>absurd hU Da)
    ·rw [if_neg e,Td,Nat.add_assoc] at hr;refine ⟨_,hr,?_⟩;rw [Wm e];exact Qc.slice hρ (λ_=>rfl) (λhU=>absurd hU Da)
   | @Kj _ _ _ a lc hρ ha Ow=>
    have hcap0:(cond (Nat.ble Xk cap) 0 cap)=0:=by
     rcases Ow with h0 |h0
     ·rw [Nat.ble_eq_true_of_le h0];rfl
     ·rw [h0];cases Nat.ble Xk 0 <;> rfl
    rw [hcap0] at b6;have e:bb.2.2=bb.1:=by omega
    have e0:bb.2.2=0:=by omega
    have e1:bb.1=0:=by omega
    have e2:bb.2.1=0:=by omega
    have hr:=main a 0 rfl (by omega) (λ_=>by omega)
    rw [if_pos e,e0,e1,e2] at hr;refine ⟨_,hr,?_⟩;rw [Uj e,e0,e1,e2];exact Qc.Kj hρ ha (.inr rfl)
 ·cases h
theorem Zar {β:Type} {E:Env} {t:TypeId} {x:Value} {lo hi mx:Option Operand} {k:Value->Option β} {r:β} (h:F5 P E t x lo hi mx k=some r) :
  ∃ u,k u=some r/\∀ (ρ:Map) (ev:Operand->Value) (x':Value),qy P ρ E ev->Qc ρ x x'->∀ w:World,
   ∃ u',(Instr.sliceAt t x' (lo.map ev) (hi.map ev) (mx.map ev)).run P w=.ok u' w/\Qc ρ u u':=by
 unfold F5 at h;obtain ⟨Dv,h1,hA⟩:=Zj h;obtain ⟨Mh,h2,hB⟩:=Zj hA;obtain ⟨Ma,h3,hC⟩:=Zj hB;obtain ⟨i,hi,hD⟩:=Zj hC
 have bx:∀ {o:Option Operand} {v:Option Value} (ρ:Map) (ev:Operand->Value),qy P ρ E ev->Dd P E o=some v->Fl ρ v (o.map ev):=by
  intro o v ρ ev hX ho;cases o with
  |none=>cases ho;exact .nil
  |some x=>
   obtain ⟨u,hu,he⟩:=Zj ho;cases he;exact .one (hX _ _ hu)
 split at hD
 ·rename_i len e hd;obtain ⟨j,hj,hE⟩:=Zj hD;obtain ⟨u,hu,hF⟩:=Z5 hE;exact ⟨u,hF,λρ ev x' hX hx w=>ch hi hd hj hu hx (bx ρ ev hX h1) (bx ρ ev hX h2) (bx ρ ev hX h3)⟩
 ·rename_i e hd;obtain ⟨j,hj,hE⟩:=Zj hD;obtain ⟨u,hu,hF⟩:=Z5 hE;exact ⟨u,hF,λρ ev x' hX hx w=>Zko hi hd hj hu hx (bx ρ ev hX h1) (bx ρ ev hX h2) (bx ρ ev hX h3)⟩
 ·cases hD
theorem Zi4 {β:Type} {t ty:TypeId} {x:Value} {k:Value->Option β} {r:β} (h:Zgs P H t x k=some r) :
  ∃ u,k u=some r/\∀ (ρ:Map) (K:Nat->Prop) (w:World) (x':Value),Jd P base K ρ H w->(∀ j∈Xl x,K j)->Qc ρ x x' ->
   ∃ u',(Builtin.len_ #[t] ty #[x']).run P w=.ok u' w/\Qc ρ u u':=by
 unfold Zgs at h;obtain ⟨i,hi,hA⟩:=Zj h;obtain ⟨_,hu,_⟩:=Kq hi;split at hA
 ·rename_i e hd;rw [hd] at hu;obtain ⟨u,Be,hB⟩:=Z5 hA;refine ⟨u,hB,λρ K w x' hH hK hx=>?_⟩;unfold Sy at Be;split at Be
  ·cases Be;cases hx with
   |flat hf=>exact ⟨_,by simp [Builtin.len_,run_underlying hu,goInt],Qc.flat rfl⟩
   |slice h1 h2 h3=>exact ⟨_,by simp [Builtin.len_,run_underlying hu,goInt],Qc.flat rfl⟩
   |Kj h1 h2 h3=>exact ⟨_,by simp [Builtin.len_,run_underlying hu,goInt],Qc.flat rfl⟩
  ·cases Be
 ·rename_i n e hd;rw [hd] at hu;exact ⟨_,hA,λρ K w x' hH hK hx=>⟨_,by simp [Builtin.len_,run_underlying hu,goInt],Qc.flat rfl⟩⟩
 ·rename_i kt et hd;rw [hd] at hu;obtain ⟨u,Be,hB⟩:=Z5 hA;refine ⟨u,hB,λρ K w x' hH hK hx=>?_⟩;unfold cg at Be;split at Be
  ·cases Be;cases hx;exact ⟨_,by simp [Builtin.len_,run_underlying hu,goInt],Qc.flat rfl⟩
  ·rename_i b;obtain ⟨es,c,hg,hC⟩:=Co Be;cases hC;cases hx with
   |flat hf=>simp [flat] at hf
   |map hl=>
    rename_i l;obtain ⟨l',So,hf,_⟩:=hH.fit b _ (hK b (by simp [Xl])) hg
    rw [hl] at So;cases So;obtain ⟨Ed,h1,h2⟩:=hf;have hlen:=h2.length;refine ⟨_,?_,Qc.flat rfl⟩;simp [Builtin.len_,run_underlying hu,goInt,getObj,Sem.run,h1,hlen]
  ·cases Be
 ·cases hA
theorem Zi5 {β:Type} {t ty:TypeId} {x:Value} {k:Value->Option β} {r:β} (h:Zgt P t x k=some r) :
  ∃ u,k u=some r/\∀ (ρ:Map) (w:World) (x':Value),Qc ρ x x'->∃ u',(Builtin.cap_ #[t] ty #[x']).run P w=.ok u' w/\Qc ρ u u':=by
 unfold Zgt at h;obtain ⟨i,hi,hA⟩:=Zj h;obtain ⟨_,hu,_⟩:=Kq hi;split at hA
 ·rename_i e hd;rw [hd] at hu;obtain ⟨u,Be,hB⟩:=Z5 hA;refine ⟨u,hB,λρ w x' hx=>?_⟩;unfold ve at Be;split at Be
  ·rename_i a n c;cases hc:Nat.ble Xk c with
   |true=>rw [hc] at Be;cases Be
   |false=>
    rw [hc] at Be;cases Be;have Jo:=Up hc;cases hx with
    |flat hf=>exact ⟨_,by simp [Builtin.cap_,run_underlying hu,goInt],Qc.flat rfl⟩
    |slice h1 h2 h3=>
     have:=h2 Jo;subst this;exact ⟨_,by simp [Builtin.cap_,run_underlying hu,goInt],Qc.flat rfl⟩
    |Kj h1 h2 h3=>
     rcases h3 with h3 |h3
     ·exact absurd h3 (Nat.not_le_of_lt Jo)
     ·subst h3;exact ⟨_,by simp [Builtin.cap_,run_underlying hu,goInt],Qc.flat rfl⟩
  ·cases Be
 ·rename_i n e hd;rw [hd] at hu;exact ⟨_,hA,λρ w x' hx=>⟨_,by simp [Builtin.cap_,run_underlying hu,goInt],Qc.flat rfl⟩⟩
 ·cases hA
theorem cf {mx:Bool} {x y x' y' u:Value} (h:Y0 mx x y=some u) (hx:Qc ρ x x') (hy:Qc ρ y y') :
  Qc ρ u u/\(cond mx (Builtin.max2 x' y') (Builtin.min2 x' y')).run P w=.ok u w:=by
 unfold Y0 at h;split at h
 ·split at h
  ·cases h;cases hx;cases hy;refine ⟨Qc.flat rfl,?_⟩;cases mx with
   |true=>simp only [cond_true,Builtin.max2,Sem.run_pure,V7,Bool.cond_decide,gt_iff_lt]
   |false=>simp only [cond_false,Builtin.min2,Sem.run_pure,V7,Bool.cond_decide]
  ·cases h
 ·cases h
theorem Rm {β:Type} {mx:Bool}:∀ {vs:List Value} {v:Value} {k:Value->Option β} {r:β},Pg mx v vs k=some r ->
  ∃ u,k u=some r/\∀ (ρ:Map) (w:World) (v':Value) (Wq:List Value),Qc ρ v v'->Xt ρ vs Wq ->
   ∃ u',(Wq.foldlM (cond mx Builtin.max2 Builtin.min2) v').run P w=.ok u' w/\Qc ρ u u'
 |[],v,k,r,h=>⟨v,h,λρ w v' Wq hv fw=>by cases fw;exact ⟨v',rfl,hv⟩⟩
 |x::vs,v,k,r,h=>by
  unfold Pg at h;obtain ⟨u,hu,hA⟩:=Z5 h;obtain ⟨u2,hB,hC⟩:=Rm hA;refine ⟨u2,hB,λρ w v' Wq hv fw=>?_⟩;cases fw with
  |cons hx ht=>
   obtain ⟨h1,h2⟩:=cf (P:=P) (w:=w) hu hv hx;obtain ⟨u',h3,h4⟩:=hC ρ w u _ h1 ht;refine ⟨u',?_,h4⟩;rw [List.foldlM_cons,Sem.run_bind];cases mx with
   |true=>simp only [cond_true] at h2 ⊢;rw [h2];exact h3
   |false=>simp only [cond_false] at h2 ⊢;rw [h2];exact h3
end
end Go.Ev
namespace Go.Ev
section
variable {P:Program} {base:Nat} {W K:Nat->Prop} {ρ:Map} {H:AH} {w:World}
theorem N1 (hH:Jd P base K ρ H w) {size:Nat} {x x':Value} {l:List Value} (h:rowOf H size x=some l) (hx:Qc ρ x x') (hK:∀ j∈Xl x,K j) :
  ∃ (a a':Option Addr) (n c c':Nat) (l':List Value),x=.slice a n c/\x'=.slice a' n c'/\(∀ w':World,w'.heap=w.heap->(Builtin.firstCells size n x').run P w'=.ok l'.toArray w')/\Xt ρ l l'/\l.length=n * size:=by
 unfold rowOf at h;split at h
 ·cases h;cases hx;exact ⟨none,none,0,0,0,[],rfl,rfl,λw' _=>by simp [Builtin.firstCells],.nil,by simp⟩
 ·rename_i i off len cap;cases hz:Nat.beq len 0 with
  |true=>
   rw [hz] at h;cases h;have hz:=Qb hz;subst hz;cases hx with
   |flat hf=>simp [flat] at hf
   |slice h1 h2 h3=>exact ⟨_,_,0,_,_,[],rfl,rfl,λw' _=>by simp [Builtin.firstCells,loadCells,loadCellsFrom],.nil,by simp⟩
   |Kj h1 h2 h3=>exact ⟨_,_,0,_,_,[],rfl,rfl,λw' _=>by simp [Builtin.firstCells,loadCells,loadCellsFrom],.nil,by simp⟩
  |false=>
   rw [hz] at h;simp only [cond_false] at h;obtain ⟨s,cs,e,hg,hA⟩:=U0 h;obtain ⟨hb,hB⟩:=Zt hA;cases hB;have hb:off+len * size<=s:=Qa hb;have hk:K i:=hK i (by simp [Xl])
   cases hx with
   |flat hf=>simp [flat] at hf
   |slice h1 h2 h3=>
    obtain ⟨vs,h4,h5⟩:=Tz hH hk hg h1 off (len * size) hb;obtain ⟨l',So,hf,_⟩:=hH.fit i _ hk hg;refine ⟨_,_,len,_,_,vs,rfl,rfl,λw' hw'=>by simpa [Builtin.firstCells] using h4 w' hw',h5,?_⟩
    rw [C3 _ _ _ (by rw [hf.1];exact hb)]
    rfl
   |Kj h1 h2 h3=>exact absurd hz (by simp)
 ·cases h
theorem Fj {l l':List Value} (h:l.all single=true) (hr:Xt ρ l l'):∀ v∈l',v.oneCell'=true:=by
 induction hr using Xt.rec (motive_1:=λ_ _ _=>True) with
 |nil=>intro v hv;cases hv
 |cons hv t _ ih=>
  simp only [List.all_cons,Bool.and_eq_true] at h;intro v hm;rcases List.mem_cons.1 hm with rfl |hm
  ·exact hv.single h.1
  ·exact ih h.2 v hm
 |_=>trivial
theorem me (hH:Jd P base K ρ H w) (e:TypeId) {size m g:Nat} {z:Value} (hz:z.cells.size=size) {l l':List Value} (hl:Xt ρ l l') (hlen:l.length=m * size) (hg:m<=g)
  {w':World} (hw:w'.heap=w.heap.push (.cells (l'.toArray++Builtin.zeroCells z.cells (g - m)) e)) (Sq:Ln w w') :
  ∃ ρ',Qc ρ' (Yi H m (Nat.add Xk size)) (.slice (some ⟨w.heap.size,0,none⟩) m g)/\Step P base W K ρ H w ρ' (Je H e size m l) w':=by
 let c:=l'.toArray++Builtin.zeroCells z.cells (g - m)
 have hc:c.size=g * size:=by
  have:=hl.length;simp only [c,Array.size_append,List.size_toArray,Builtin.zeroCells,Array.size_map,Array.size_range,hz];rw [<- this,hlen,<- Nat.add_mul];congr 1;omega
 refine ⟨Tf ρ H.next ⟨w.heap.size,0,c.size⟩,Rn H ⟨w.heap.size,0,c.size⟩ rfl m _ g (λh=>?_) (λ_=>⟨hg,?_⟩),?_⟩
 ·exact absurd h (Nat.not_lt_of_le (Nat.le_add_right _ _))
 ·show g * (Xk+size - Xk)<=c.size;rw [hc,Nat.add_sub_cancel_left];exact Nat.le_refl _
 ·have:=Step.F9 (W:=W) hH e l c (λi v hi=>by
   obtain ⟨v',a,b⟩:=hl.get i v hi;refine ⟨v',?_,b⟩
   have Jo:i < l'.toArray.size:=by
    rcases Nat.lt_or_ge i l'.length with h |h
    ·simpa using h
    ·rw [List.getElem?_eq_none h] at a;cases a
   rw [Array.getElem?_append_left Jo];simpa using a) hw Sq
  unfold Je;rw [hlen] at this;exact this
theorem grownCap_ge (w:World) (Zp Eg:Nat) (e:TypeId):Zp<=grownCap w Zp Eg e:=by
 unfold grownCap Question.cut;exact Nat.le_add_right _ _
theorem Cv {bytes n:Nat} (h:roomFor bytes n=true):n * bytes<=1099511627776/\n < 1099511627776:=by
 unfold roomFor at h;cases hb:Nat.ble (Nat.mul n bytes) xb with
 |false=>rw [hb] at h;cases h
 |true=>rw [hb] at h;exact ⟨Qa hb,by simpa only [Nat.blt_eq,xb,cond_true] using h⟩
structure Zf2 (P:Program) (st xt e e':TypeId) (i:S8) (z:Value):Prop where
 Us:P.underlying st=some (.slice e)
 hxt:P.underlying xt=some (.slice e')
 he:Y7 P e=some i
 hz:zeroOf i=some z
 Ec:z.cells.size=i.size
theorem Ta {st xt e e' ty:TypeId} {i:S8} {z:Value} (C:Zf2 P st xt e e' i z) (hH:Jd P base K ρ H w)
  {a:Option Addr} {len cap n:Nat} {Eg kd new Pk:List Value} {x':Value}
  (hold:∀ w':World,w'.heap=w.heap->(Builtin.firstCells i.size len (.slice a len cap)).run P w'=.ok kd.toArray w') (af:Xt ρ Eg kd) (hol:Eg.length=len * i.size)
  (hx:Src P i.size xt x' n Pk w) (hnr:Xt ρ new Pk) (G4:new.length=n * i.size) (Bz:cap < len+n) (Cc:roomFor i.bytes (len+n)=true) :
  ∃ u' w' ρ',(Builtin.append_ #[st,xt] ty #[.slice a len cap,x']).run P w=.ok u' w'/\Qc ρ' (Yi H (len+n) (Nat.add Xk i.size)) u' /\
   Step P base W K ρ H w ρ' (Je H e i.size (len+n) (Eg++new)) w':=by
 obtain ⟨inf,_,Zez,Ec,hby,hzz,_⟩:=Kq C.he;have fu:=W2 C.hz;obtain ⟨r1,r2⟩:=Cv Cc;have Ov:Builtin.nextslicecap (len+n) cap * inf.bytes<=281474976710656:=growslice_fits Bz (by rw [<- hby];omega)
 have Rt:=run_append_grow_src w st xt ty e inf z C.Us Zez (by rw [<- hzz];exact fu.1) a len cap kd (by rw [<- Ec];exact hold _ rfl) x' n Pk (by rw [<- Ec];exact hx) Bz (by omega) Ov
 obtain ⟨ρ',h1,h2⟩:=me (W:=W) hH e (m:=len+n) (g:=grownCap w (len+n) cap e) C.Ec (Xt.append af hnr) (by rw [List.length_append,hol,G4,Nat.add_mul]) (grownCap_ge ..)
  (w':=w.drew.alloc (.cells ((kd++Pk).toArray++Builtin.zeroCells z.cells (grownCap w (len+n) cap e - (len+n))) e)) rfl ⟨rfl,rfl⟩
 exact ⟨_,_,ρ',Rt,h1,h2⟩
theorem Zc1 {st xt e e' ty:TypeId} {i:S8} {z:Value} (C:Zf2 P st xt e e' i z) {b off len cap n:Nat} {Pk:List Value} {x':Value}
  (hx:Src P i.size xt x' n Pk w) {c:Array Value} {t:TypeId} {fz:Nat×Nat} (hc:w.heap[b]? = some (.cells c t fz)) (hfz:fz.2=0) (hcs:off+len * i.size+Pk.length<=c.size) (Cc:len+n<=cap) :
  (Builtin.append_ #[st,xt] ty #[.slice (some ⟨b,off,none⟩) len cap,x']).run P w=.ok (.slice (some ⟨b,off,none⟩) (len+n) cap)
   (w.setRow b (c.toList.take (off+len * i.size)++Pk++c.toList.drop (off+len * i.size+Pk.length)).toArray):=by
 obtain ⟨inf,_,Zez,Ec,hby,hzz,_⟩:=Kq C.he;have Us:=run_storeCells_atF P b (off+len * i.size) t fz Pk 0 c w hc (by omega) (by omega) hx.one
 simp only [Nat.add_zero] at Us;simp [Builtin.append_,run_underlying C.Us,run_underlying C.hxt,run_sizeOf C.he,hx.len,Cc,hx.cells,Addr.add_lit,Us]
theorem cn {st xt e e' ty:TypeId} {i:S8} {z:Value} (C:Zf2 P st xt e e' i z) {lo:Nat} (J7:base<=lo) {s x s' x' u:Value} {H':AH}
  (h:Gx lo H e i.size i.bytes s x=some (u,H')) (hH:Jd P base K ρ H w) (hs:Qc ρ s s') (hx:Qc ρ x x') (hKs:∀ j∈Xl s,K j) (hKx:∀ j∈Xl x,K j)
  (hW:∀ j∈Xl s,lo<=j->W j) :
  ∃ u' w' ρ',(Builtin.append_ #[st,xt] ty #[s',x']).run P w=.ok u' w'/\Qc ρ' u u'/\Step P base W K ρ H w ρ' H' w':=by
 unfold Gx at h;split at h
 case h_2=>cases h
 rename_i xa n xc;obtain ⟨new,hnew,hA⟩:=Zj h;obtain ⟨Zol,hB⟩:=Zt hA;obtain ⟨_,a',n,_,c',Pk,heq,hxe,Rt,hnr,G4⟩:=N1 hH hnew hx hKx;injection heq with _ heq _
 subst heq;have Sn:Src P i.size xt x' n Pk w:=⟨.inl ⟨e',C.hxt⟩,λw'=>by rw [hxe];rfl,Rt w rfl,Rt w.drew rfl,by rw [<- hnr.length,G4],Fj Zol hnr⟩
 unfold Dc at hB;split at hB
 ·
  cases hs;cases hz:Nat.beq n 0 with
  |true=>
   rw [hz] at hB;cases hB;have hn:=Qb hz;refine ⟨.slice none 0 0,w,ρ,?_,Qc.flat rfl,Step.refl hH⟩;have hl:=Sn.len w;have hc:=Sn.cells;rw [hn] at hl hc;simp [Builtin.append_,run_underlying C.Us,run_underlying C.hxt,run_sizeOf C.he,hl,hc]
  |false=>
   rw [hz] at hB;obtain ⟨Cc,hC⟩:=Zt hB;cases hC;have hn:=Vq hz;have:=Ta (W:=W) (ty:=ty) C hH (a:=none) (len:=0) (cap:=0) (Eg:=[]) (kd:=[]) (λw' _=>by simp [Builtin.firstCells]) .nil (by simp) Sn hnr G4 (by omega) (by rw [Nat.zero_add];exact Cc)
   rw [Nat.zero_add,List.nil_append] at this;exact this
 ·
  rename_i b off len cap;have hKb:K b:=hKs b (by simp [Xl])
  cases hz:Nat.beq n 0 with
  |true=>
   rw [hz] at hB;obtain ⟨hle,hC⟩:=Zt hB;cases hC;have hle:=Qa hle;have hn:=Qb hz;have hl:=Sn.len w;have hc:=Sn.cells;rw [hn] at hl hc
   have hnew0:Pk=[]:=by
    have:=Sn.newsLen;rw [hn,Nat.zero_mul] at this;exact List.length_eq_zero_iff.1 this
   rw [hnew0] at hc;refine ⟨s',w,ρ,?_,hs,Step.refl hH⟩;cases hs with
   |flat hf=>simp [flat] at hf
   | @slice _ _ _ _ c lc hρ k1 k2=>
    have hlc:len<=c:=by
     rcases Nat.lt_or_ge cap Xk with Jo |hge
     ·rw [k1 Jo];exact hle
     ·exact (k2 hge).1
    simp [Builtin.append_,run_underlying C.Us,run_underlying C.hxt,run_sizeOf C.he,hl,hc,hlc,storeCells]
   |Kj hρ ha Ow=>
    simp [Builtin.append_,run_underlying C.Us,run_underlying C.hxt,run_sizeOf C.he,hl,hc,storeCells]
  |false=>
   rw [hz] at hB;obtain ⟨Cc,hC⟩:=Zt hB;have hn:=Vq hz;cases hU:Nat.ble Xk cap with
   |true=>
    rw [hU] at hC;simp only [cond_true] at hC;obtain ⟨Bz,hD⟩:=Zt hC;have Bz:cap=Xk+i.size:=Qb Bz;have hU':=Qa hU;unfold Od at hD;obtain ⟨sz,cs,e2,hg,hE⟩:=U0 hD;obtain ⟨jn,hF⟩:=Zt hE;obtain ⟨hee,hG⟩:=Zt hF;obtain ⟨Ec,hI⟩:=Zt hG;cases hI;have jn:=Qa jn;have hee:=Qb hee;subst hee;have Ec:off+len * i.size<=sz:=Qa Ec;obtain ⟨l,hl,Ov,xr⟩:=hH.fit b _ hKb hg;have hfit0:=Ov;obtain ⟨f1,f2,c0,fz,f4,f5,f6⟩:=Ov;have hWb:W b:=hW b (by simp [Xl]) jn
    obtain ⟨vs,fw,hvr⟩:=Tz hH hKb hg hl off (len * i.size) Ec;have hvl:(P9 cs off (len * i.size)).length=len * i.size:=C3 _ _ _ (by omega)
    have kill:=Step.kill (W:=W) hH (i:=b) hWb
    have fresh:∀ (ao:Option Addr) (c:Nat),c < len+n->s'=.slice ao len c->(∀ w':World,w'.heap=w.heap->(Builtin.firstCells i.size len (.slice ao len c)).run P w'=.ok vs.toArray w') ->
      ∃ u' w' ρ',(Builtin.append_ #[st,xt] ty #[s',x']).run P w=.ok u' w'/\Qc ρ' (Yi H (Nat.add len n) (Nat.add Xk i.size)) u' /\
       Step P base W K ρ H w ρ' (Je (H.kill b) e i.size (Nat.add len n) (List.append (P9 cs off (Nat.mul len i.size)) new)) w':=by
     intro ao c Jo hse hold;subst hse;have hH2:Jd P base K ρ (H.kill b) w:=kill.rel.weaken λj hj=>.inl hj;obtain ⟨u',w',ρ',q1,q2,q3⟩:=Ta (W:=W) (ty:=ty) C hH2 hold hvr hvl Sn hnr G4 Jo Cc;refine ⟨u',w',ρ',q1,q2,?_⟩
     exact kill.trans (W':=W) (by
      refine { q3 with rel:=q3.rel.weaken λj hj=>?_ }
      rcases hj with hj |hj
      ·rcases hj with hj |⟨hj,hs⟩
       ·exact .inl hj
       ·exact .inr ⟨hj,by
         obtain ⟨m,hm⟩:=Option.isSome_iff_exists.1 hs;exact absurd (hH.Js j m hm).1 (by omega)⟩
      ·exact .inr hj) (λ_ _ h=>h)
    cases hs with
    |flat hf=>simp [flat] at hf
    | @slice _ _ _ _ c lc hρ k1 k2=>
     rw [hl] at hρ;cases hρ;obtain ⟨k3,k4⟩:=k2 hU';rw [Bz,Nat.add_sub_cancel_left] at k4
     by_cases Jo:c < len+n
     ·exact fresh _ c Jo rfl (λw' hw'=>by simpa [Builtin.firstCells] using fw w' hw')
     ·
      have hle:len+n<=c:=by omega
      have hmul:(len+n) * i.size<=c * i.size:=Nat.mul_le_mul_right _ hle;rw [Nat.add_mul] at hmul;have hnl':Pk.length=n * i.size:=Sn.newsLen;have hfz:=xr (by omega) _ _ _ f4
      have hr:=Zc1 (ty:=ty) C (b:=l.W5) (off:=l.sh+off) (len:=len) (cap:=c) Sn f4 hfz (by omega) hle
      refine ⟨_,_,Tf ρ H.next ⟨l.W5,l.sh+off,l.size⟩,hr,?_,?_⟩
      ·exact Qc.slice (ρ:=Tf ρ H.next ⟨l.W5,l.sh+off,l.size⟩) (i:=H.next) (off:=0) (l:=⟨l.W5,l.sh+off,l.size⟩) (Jz ..)
        (λh=>absurd h (Nat.not_lt_of_le (Nat.le_add_right _ _))) (λ_=>⟨hle,by
         show l.sh+off+0+c * (Xk+i.size - Xk)<=l.size;rw [Nat.add_sub_cancel_left];omega⟩)
      ·refine Step.take hH hKb hg hl hWb rfl (setRow_size ..) (λbb Da=>setRow_other w l.W5 bb _ Da) ?_ ?_ ⟨rfl,rfl⟩
       ·refine ⟨by show (P9 cs off (len * i.size)++new).length=(len+n) * i.size;rw [List.length_append,Nat.add_mul,hvl,G4],?_,_,fz,setRow_heap w l.W5 c0 _ e fz f4,?_,?_⟩
        ·show l.sh+off+(len+n) * i.size<=l.size;rw [Nat.add_mul];omega
        ·simp;omega
        ·intro j v hj;have hvlen:=hvr.length;rw [hvl] at hvlen
         have key:∀ m:Nat,m < len * i.size+n * i.size->(c0.toList.take (l.sh+off+len * i.size)++Pk++c0.toList.drop (l.sh+off+len * i.size+Pk.length))[l.sh+off+m]? =
           if m < len * i.size then c0[l.sh+off+m]? else Pk[m - len * i.size]?:=by
          intro m hm;have e1:(c0.toList.take (l.sh+off+len * i.size)).length=l.sh+off+len * i.size:=by simp;omega
          rw [List.append_assoc]
          by_cases a1:m < len * i.size
          ·rw [if_pos a1,List.getElem?_append_left (by omega),List.getElem?_take,if_pos (by omega),Array.getElem?_toList]
          ·rw [if_neg a1,List.getElem?_append_right (by omega),e1,List.getElem?_append_left (by omega)]
           congr 1;omega
         have hlen2:(List.append (P9 cs off (Nat.mul len i.size)) new).length=len * i.size+n * i.size:=by
          show (P9 cs off (len * i.size)++new).length=_;rw [List.length_append,hvl,G4]
         have hjlt:j < len * i.size+n * i.size:=by
          rcases Nat.lt_or_ge j (len * i.size+n * i.size) with h |h
          ·exact h
          ·rw [List.getElem?_eq_none (by omega)] at hj;cases hj
         rw [List.getElem?_toArray];show ∃ v',(c0.toList.take (l.sh+off+len * i.size)++Pk++c0.toList.drop (l.sh+off+len * i.size+Pk.length))[l.sh+off+j]? = some v'/\_;rw [key j hjlt];have hj':(P9 cs off (len * i.size)++new)[j]? = some v:=hj
         by_cases a1:j < len * i.size
         ·rw [if_pos a1];rw [List.getElem?_append_left (by omega),bh,if_pos a1] at hj'
          obtain ⟨v',p1,p2⟩:=f6 _ _ hj';exact ⟨v',by rw [Nat.add_assoc];exact p1,p2.mono (Rf hH _)⟩
         ·rw [if_neg a1];rw [List.getElem?_append_right (by omega),hvl] at hj'
          obtain ⟨v',p1,p2⟩:=hnr.get _ _ hj';exact ⟨v',p1,p2.mono (Rf hH _)⟩
       ·intro c' e3 fz' Ow;rw [setRow_heap w l.W5 c0 _ e fz f4] at Ow;cases Ow;exact hfz
    | @Kj _ _ _ a lc hρ ha Ow=>
     have hv0:vs=[]:=by
      have:=hvr.length;rw [hvl,Nat.zero_mul] at this;exact List.length_eq_zero_iff.1 this.symm
     exact fresh (some a) 0 (by omega) rfl (λw' hw'=>by rw [hv0];simp [Builtin.firstCells,loadCells,loadCellsFrom])
   |false=>
    rw [hU] at hC;simp only [cond_false] at hC;have hU':=Up hU;cases hle:Nat.ble (Nat.add len n) cap with
    |true=>
     rw [hle] at hC;simp only [cond_true] at hC;have hle:len+n<=cap:=Qa hle;unfold Lw at hC;obtain ⟨sz,cs,e2,hg,hE⟩:=U0 hC;obtain ⟨jn,hF⟩:=Zt hE;obtain ⟨Ec,hG⟩:=Zt hF;cases hG;have jn:=Qa jn;have Ec:off+(len+n) * i.size<=sz:=Qa Ec;rw [Nat.add_mul] at Ec;have hWb:W b:=hW b (by simp [Xl]) jn
     cases hs with
     |flat hf=>simp [flat] at hf
     | @slice _ _ _ _ c lc hρ k1 k2=>
      have hc:=k1 hU';subst hc;obtain ⟨w',q1,q2⟩:=Rh (W:=W) hH hKb hWb (by omega) hg hρ (off+len * i.size) (vs:=new) (Wq:=Pk) (by rw [G4];omega) hnr Sn.one
      refine ⟨.slice (some ⟨lc.W5,lc.sh+off,none⟩) (len+n) c,w',ρ,?_,Qc.slice hρ (λ_=>rfl) (λh=>absurd h (Nat.not_le_of_lt hU')),q2⟩;have ld:=Sn.len w;have na:=Sn.cells;rw [<- Nat.add_assoc] at q1;simp [Builtin.append_,run_underlying C.Us,run_underlying C.hxt,run_sizeOf C.he,ld,hle,na,Addr.add_lit,q1]
     |Kj hρ ha Ow=>
      rcases Ow with h0 |h0
      ·exact absurd h0 (Nat.not_le_of_lt hU')
      ·omega
    |false=>
     rw [hle] at hC;simp only [cond_false] at hC;have Jo:cap < len+n:=Up hle;obtain ⟨Eg,hold,hD⟩:=Zj hC;cases hD;obtain ⟨_,ao,n2,_,c2,kd,heq,hse,Zom,af,hol⟩:=N1 hH hold hs hKs;injection heq with _ heq _
     subst heq
     have na:c2 < len+n:=by
      cases hs with
      |flat hf=>simp [flat] at hf
      | @slice _ _ _ _ c lc hρ k1 k2=>
       injection hse with _ _ hse
       have:=k1 hU';omega
      |Kj hρ ha Ow=>
       injection hse with _ _ hse
       omega
     subst hse;exact Ta (W:=W) (ty:=ty) C hH Zom af hol Sn hnr G4 na Cc
 ·cases hB
theorem Tt (z:Value) (n:Nat):(Builtin.zeroCells z.cells n).toList=Vs (cellsOf z) n:=
 Tq z n (n * z.cells.size) rfl
theorem uz {st xt e ty:TypeId} {i:S8} {z:Value} {kn:IntKind} (Us:P.underlying st=some (.slice e)) (hxt:P.underlying xt=some (.int kn)) (he:Y7 P e=some i) (hz:zeroOf i=some z)
  (Ec:z.cells.size=i.size) {s x s' x' u:Value} {H':AH} (h:Lx H e i.size i.bytes (cellsOf z) s x=some (u,H')) (hH:Jd P base K ρ H w) (hs:Qc ρ s s') (hx:Qc ρ x x') (hKs:∀ j∈Xl s,K j) :
  ∃ u' w' ρ',(Builtin.append_ #[st,xt] ty #[s',x']).run P w=.ok u' w'/\Qc ρ' u u'/\Step P base W K ρ H w ρ' H' w':=by
 unfold Lx at h;obtain ⟨n,hn,hA⟩:=Zj h;obtain ⟨h0,hB⟩:=Zt hA;obtain ⟨h1,hC⟩:=Zt hB;split at hC
 case h_2=>cases hC
 rename_i a len cap;obtain ⟨hU,hD⟩:=Zt hC;obtain ⟨Jo,hE⟩:=Zt hD;obtain ⟨Cc,hF⟩:=Zt hE;obtain ⟨Eg,hold,hG⟩:=Zj hF;cases hG;rw [Nat.blt_eq] at h0 h1 hU;have Jo:cap < len+n:=by rwa [Nat.blt_eq] at Jo
 rw [hx.asNat hn];obtain ⟨kq,rfl⟩:=D4 hn;obtain ⟨_,ao,n2,_,c2,kd,heq,hse,Zom,af,hol⟩:=N1 hH hold hs hKs;injection heq with _ heq _
 subst heq
 have na:c2 < len+n:=by
  cases hs with
  |flat hf=>injection hse with _ _ hse;omega
  | @slice _ _ _ _ c lc hρ k1 k2=>
   injection hse with _ _ hse
   have:=k1 hU;omega
  |Kj hρ ha Ow=>
   injection hse with _ _ hse
   omega
 subst hse;obtain ⟨inf,_,Zez,hsz',hby,hzz,_⟩:=Kq he;have fu:=W2 hz;have ⟨r1,r2⟩:(len+n) * i.bytes<=1099511627776/\len+n < 1099511627776:=Cv Cc;have Ov:Builtin.nextslicecap (len+n) c2 * inf.bytes<=281474976710656:=growslice_fits na (by rw [<- hby];omega)
 have hnb:n * inf.bytes<=281474976710656:=by
  have:n * i.bytes<=(len+n) * i.bytes:=Nat.mul_le_mul_right _ (by omega)
  rw [<- hby];omega
 have Rt:=Lib.run_append_grow_zeros w st xt ty e inf z kq kn Us hxt Zez (by rw [<- hzz];exact fu.1) ao len c2 kd (by rw [<- hsz'];exact Zom _ rfl) n h0 (by omega) na (by omega) hnb Ov
 have Ti:(kd.toArray++Builtin.zeroCells z.cells n)=(kd++Vs (cellsOf z) n).toArray:=by
  apply Array.ext';rw [Array.toList_append,Tt]
 rw [Ti] at Rt
 obtain ⟨ρ',q1,q2⟩:=me (W:=W) hH e (m:=len+n) (g:=grownCap w (len+n) c2 e) Ec (Xt.append af (E3 fu.2 n))
  (by rw [List.length_append,hol,U6,Wf,Array.length_toList,Ec,Nat.add_mul]) (grownCap_ge ..)
  (w':=w.drew.alloc (.cells ((kd++Vs (cellsOf z) n).toArray++Builtin.zeroCells z.cells (grownCap w (len+n) c2 e - (len+n))) e)) rfl ⟨rfl,rfl⟩
 exact ⟨_,_,ρ',Rt,q1,q2⟩
theorem rm {β:Type} {lo:Nat} {st xt ty:TypeId} {s x:Value} {k:Value->AH->Option β} {r:β} (J7:base<=lo) (h:L8 P lo H st xt s x k=some r) :
  ∃ u H',k u H'=some r/\∀ (ρ:Map) (W K:Nat->Prop) (w:World) (s' x':Value),Jd P base K ρ H w->Qc ρ s s'->Qc ρ x x'->(∀ j∈Xl s,K j)->(∀ j∈Xl x,K j)->(∀ j∈Xl s,lo<=j->W j) ->
   ∃ u' w' ρ',(Builtin.append_ #[st,xt] ty #[s',x']).run P w=.ok u' w'/\Qc ρ' u u'/\Step P base W K ρ H w ρ' H' w':=by
 unfold L8 at h;obtain ⟨e,he,hA⟩:=Zj h;obtain ⟨i,hi,hB⟩:=Zj hA;obtain ⟨z,hz,hC⟩:=Zj hB;obtain ⟨j,hj,hD⟩:=Zj hC;obtain ⟨Ec,hE⟩:=Zt hD;have Ec:=Qb Ec;rw [K4,Wf,Array.length_toList] at Ec;obtain ⟨_,hu,_⟩:=Kq hj;split at hE
 ·rename_i e' hd;rw [hd] at hu;obtain ⟨u,H',hr,hk⟩:=Lz hE;exact ⟨u,H',hk,λρ W K w s' x' hH hs hx hKs hKx hW=>cn ⟨O5 he,hu,hi,hz,Ec⟩ J7 hr hH hs hx hKs hKx hW⟩
 ·rename_i kn hd;rw [hd] at hu;obtain ⟨u,H',hr,hk⟩:=Lz hE;exact ⟨u,H',hk,λρ W K w s' x' hH hs hx hKs hKx hW=>uz (O5 he) hu hi hz Ec hr hH hs hx hKs⟩
 ·cases hE
theorem pd {z:List Value} (h:z.all single=true) (n:Nat):(Vs z n).all single=true:=by
 induction n with
 |zero=>rfl
 |succ n ih=>rw [Rc,List.all_append,h,Bool.true_and];exact ih
theorem Zau {β:Type} {lo:Nat} {t ty:TypeId} {x:Value} {k:AH->Option β} {r:β} (J7:base<=lo) (h:F6 P lo H t x k=some r) :
  ∃ H',k H'=some r/\∀ (ρ:Map) (W K:Nat->Prop) (w:World) (x':Value),Jd P base K ρ H w->Qc ρ x x'->(∀ j∈Xl x,K j)->(∀ j∈Xl x,lo<=j->W j) ->
   ∃ w',(Builtin.clear_ #[t] ty #[x']).run P w=.ok (.tuple #[]) w'/\Step P base W K ρ H w ρ H' w':=by
 unfold F6 at h;obtain ⟨e,he,hA⟩:=Zj h;obtain ⟨i,hi,hB⟩:=Zj hA;obtain ⟨z,hz,hC⟩:=Zj hB;obtain ⟨Ec,hD⟩:=Zt hC;obtain ⟨Zol,hE⟩:=Zt hD;obtain ⟨H',hr,hk⟩:=Z5 hE;have Ec:=Qb Ec;rw [K4] at Ec;have hu:=O5 he;have fu:=W2 hz;refine ⟨H',hk,λρ W K w x' hH hx hK hW=>?_⟩;unfold ck at hr;split at hr
 ·cases hr;cases hx;exact ⟨w,by simp [Builtin.clear_,run_underlying hu],Step.refl hH⟩
 ·rename_i b off n cap;cases h0:Nat.beq n 0 with
  |true=>
   rw [h0] at hr;cases hr;have hn:=Qb h0;subst hn;refine ⟨w,?_,Step.refl hH⟩;cases hx with
   |flat hf=>simp [flat] at hf
   |slice h1 h2 h3=>simp [Builtin.clear_,run_underlying hu]
   |Kj h1 h2 h3=>simp [Builtin.clear_,run_underlying hu]
  |false=>
   rw [h0] at hr;simp only [cond_false] at hr;have hn:=Vq h0;obtain ⟨sz,cs,e2,hg,hE⟩:=U0 hr;obtain ⟨jn,hF⟩:=Zt hE;obtain ⟨Ov,hG⟩:=Zt hF;cases hG;have jn:=Qa jn;have Ov:off+n * i.size<=sz:=Qa Ov;have hKb:K b:=hK b (by simp [Xl])
   have hWb:W b:=hW b (by simp [Xl]) jn
   cases hx with
   |flat hf=>simp [flat] at hf
   | @slice _ _ _ _ c lc hρ k1 k2=>
    have hone:∀ v∈Vs (cellsOf z) n,v.oneCell'=true:=by
     have h1:(Vs (cellsOf z) n).all single=true:=pd Zol n;exact Fj (ρ:=ρ) h1 (E3 fu.2 n)
    obtain ⟨w',q1,q2⟩:=Rh (W:=W) hH hKb hWb (by omega) hg hρ off (vs:=Vs (cellsOf z) n) (Wq:=Vs (cellsOf z) n) (by rw [U6,Ec];exact Ov) (E3 fu.2 n) hone
    refine ⟨w',?_,q2⟩;rw [<- Tt] at q1;obtain ⟨m,rfl⟩:∃ m,n=m+1:=⟨n - 1,by omega⟩
    simp [Builtin.clear_,run_underlying hu,K2 hi hz,q1]
   |Kj h1 h2 h3=>exact absurd rfl hn
 ·cases hr
end
end Go.Ev
