/- A deterministic big-step evaluator over an abstract heap: its definitions.
   Conditions: none (definitions alone). -/
import Derived.Orders
import Derived.LoopN
import Derived.Scope
namespace Go.Ev
noncomputable section

/-! Lists, and maps from numbers. -/
def nth {α : Type} (l : List α) : Nat → Option α :=
  List.rec (motive := fun _ => Nat → Option α) (fun _ => none) (fun x _ ih n => Nat.casesOn (motive := fun _ => Option α) n (some x) (fun n => ih n)) l

inductive Tr (α : Type) where
  | leaf
  | node (l : Tr α) (v : Option α) (r : Tr α)

def Tr.get {α : Type} (t : Tr α) : Nat → Option α :=
  Tr.rec (motive := fun _ => Nat → Option α) (fun _ => none)
    (fun _ v _ gl gr n => cond (Nat.beq n (nat_lit 0)) v (cond (Nat.beq (Nat.mod n (nat_lit 2)) (nat_lit 1)) (gl (Nat.div n (nat_lit 2))) (gr (Nat.pred (Nat.div n (nat_lit 2)))))) t

def Tr.lef {α : Type} (t : Tr α) : Tr α := Tr.casesOn (motive := fun _ => Tr α) t .leaf (fun l _ _ => l)
def Tr.val {α : Type} (t : Tr α) : Option α := Tr.casesOn (motive := fun _ => Option α) t none (fun _ v _ => v)
def Tr.rig {α : Type} (t : Tr α) : Tr α := Tr.casesOn (motive := fun _ => Tr α) t .leaf (fun _ _ r => r)

def Tr.setF {α : Type} (f : Nat) : Tr α → Nat → Option α → Tr α :=
  Nat.rec (motive := fun _ => Tr α → Nat → Option α → Tr α) (fun t _ _ => t)
    (fun _ ih t n x =>
      cond (Nat.beq n (nat_lit 0)) (.node t.lef x t.rig)
        (cond (Nat.beq (Nat.mod n (nat_lit 2)) (nat_lit 1)) (.node (ih t.lef (Nat.div n (nat_lit 2)) x) t.val t.rig)
          (.node t.lef t.val (ih t.rig (Nat.pred (Nat.div n (nat_lit 2))) x)))) f

def Tr.put {α : Type} (t : Tr α) (n : Nat) (x : Option α) : Tr α := Tr.setF (Nat.succ n) t n x

/-! The abstract heap. -/
inductive AObj where
  | cells (size : Nat) (cs : List Value) (elem : TypeId)
  | map (es : List MapEntry) (clock : Nat)

structure AH where
  next : Nat
  objs : Tr AObj

def AH.get (H : AH) (i : Nat) : Option AObj := H.objs.get i
def AH.push (H : AH) (o : AObj) : AH := ⟨Nat.succ H.next, H.objs.put H.next (some o)⟩
def AH.set (H : AH) (i : Nat) (o : AObj) : AH := ⟨H.next, H.objs.put i (some o)⟩
def AH.kill (H : AH) (i : Nat) : AH := ⟨H.next, H.objs.put i none⟩

/-- from here on a capacity is not known: it is this and an element's cells -/
@[irreducible] def UNK : Nat := 18446744073709551616
/-- the most bytes of what grows -/
def BIG : Nat := 1099511627776

/-! Steps that may fail. -/
def bindV {α β : Type} (r : Option α) (k : α → Option β) : Option β := Option.rec (motive := fun _ => Option β) none (fun v => k v) r
/-- the same, where the value is known ahead -/
def withX {α β : Type} (r : Option α) (k : α → Option β) : Option β := Option.rec (motive := fun _ => Option β) none (fun v => k v) r
def bindVH {β : Type} (r : Option (Value × AH)) (k : Value → AH → Option β) : Option β := Option.rec (motive := fun _ => Option β) none (fun p => k p.1 p.2) r
/-- a test that must hold -/
def need {β : Type} (b : Bool) (k : Option β) : Option β := Bool.rec (motive := fun _ => Option β) none k b

/-! Types. -/
structure TyI where
  desc : TypeDesc
  size : Nat
  bytes : Nat
  zero : Option Value
  agg : Bool

def aggDesc : TypeDesc → Bool
  | .struct _ => true
  | .array _ _ => true
  | _ => false

def tyI (P : Program) (t : TypeId) : Option TyI :=
  withX (P.underlying t) fun d => withX (P.info? t) fun i => some ⟨d, i.size, i.bytes, i.zero, aggDesc d⟩

def sliceElem : TypeDesc → Option TypeId
  | .slice e => some e
  | _ => none
def arrayOf : TypeDesc → Option (Nat × TypeId)
  | .array n e => some (n, e)
  | _ => none
def mapOf : TypeDesc → Option (TypeId × TypeId)
  | .map k e => some (k, e)
  | _ => none
def structOf : TypeDesc → Option (List Field)
  | .struct fs => some fs.toList
  | _ => none
def intOf : TypeDesc → Option IntKind
  | .int k => some k
  | _ => none
def stringDesc : TypeDesc → Bool
  | .string => true
  | _ => false
def boolDesc : TypeDesc → Bool
  | .bool => true
  | _ => false

def tyElem (P : Program) (t : TypeId) : Option TypeId := withX (tyI P t) fun i => sliceElem i.desc
def tyInt (P : Program) (t : TypeId) : Bool := match tyI P t with | some i => (intOf i.desc).isSome | none => false

/-! Values. -/
/-- a value without an address, of one cell -/
def flat : Value → Bool
  | .bool _ => true
  | .int _ _ => true
  | .string _ => true
  | .pointer none => true
  | .slice none 0 0 => true
  | .map none => true
  | .nilFunc => true
  | .nilIface => true
  | _ => false
def plain : Value → Bool
  | .agg cs => cs.toList.all flat
  | .tuple cs => cs.toList.all flat
  | v => flat v
/-- may it lie in one cell? -/
def single : Value → Bool
  | .agg _ => false
  | .tuple _ => false
  | _ => true

def zeroOf (i : TyI) : Option Value := withX i.zero fun z => need (plain z) (some z)

/-! Temporaries: what a region has made so far, and what a function keeps from region to region. -/
abbrev Env := List (Tmp × Value)
def lookE : Env → Tmp → Option Value
  | [], _ => none
  | (s, v) :: E, t => cond (Nat.beq s t) (some v) (lookE E t)

def V : List Tmp → Type
  | [] => Unit
  | _ :: ts => Value × V ts

def zipE : (keep : List Tmp) → V keep → Env
  | [], _ => []
  | t :: ts, S => (t, (show Value × V ts from S).1) :: zipE ts (show Value × V ts from S).2

def mkV (E : Env) : (keep : List Tmp) → V keep
  | [] => ()
  | t :: ts => ((lookE E t).getD undef, mkV E ts)

def argAt (args : List Value) (t : Tmp) : Value := (nth args t).getD undef
def initV (args : List Value) : (keep : List Tmp) → V keep
  | [] => ()
  | t :: ts => (argAt args t, initV args ts)

def evx (P : Program) (E : Env) : Operand → Option Value
  | .tmp t => lookE E t
  | .const v => need (plain v) (some v)
  | .global g => need (Nat.blt g P.globals.size) (some (.pointer (some ⟨g, nat_lit 0, none⟩)))
  | .func f => some (.func (.func f) #[] #[])

def evxs (P : Program) (E : Env) : List Operand → Option (List Value)
  | [] => some []
  | x :: xs => withX (evx P E x) fun v => withX (evxs P E xs) fun vs => some (v :: vs)

/-! Numbers. -/
def intLt : Int → Int → Bool
  | .ofNat a, .ofNat b => Nat.blt a b
  | .ofNat _, .negSucc _ => false
  | .negSucc _, .ofNat _ => true
  | .negSucc a, .negSucc b => Nat.blt b a
def intEq : Int → Int → Bool
  | .ofNat a, .ofNat b => Nat.beq a b
  | .ofNat _, .negSucc _ => false
  | .negSucc _, .ofNat _ => false
  | .negSucc a, .negSucc b => Nat.beq a b
/-- the greatest number of a kind, and 1 -/
def topOf : IntKind → Nat
  | .i8 => 128 | .i16 => 32768 | .i32 => 2147483648 | .i64 => 9223372036854775808
  | .u8 => 256 | .u16 => 65536 | .u32 => 4294967296 | .u64 => 18446744073709551616
def kindNo : IntKind → Nat
  | .i8 => 0 | .i16 => 1 | .i32 => 2 | .i64 => 3 | .u8 => 4 | .u16 => 5 | .u32 => 6 | .u64 => 7
def kindEq (a b : IntKind) : Bool := Nat.beq (kindNo a) (kindNo b)
def wrapF (k : IntKind) (n : Int) : Int :=
  Int.casesOn (motive := fun _ => Int) n (fun m => cond (Nat.blt m (topOf k)) (.ofNat m) (k.wrap (.ofNat m)))
    (fun m => cond (k.signed && Nat.blt m (topOf k)) (.negSucc m) (k.wrap (.negSucc m)))
/-- the bits of a number -/
def bitsOf (k : IntKind) : Int → Nat
  | .ofNat m => Nat.mod m (Nat.pow 2 k.bits)
  | .negSucc m => Nat.sub (Nat.sub (Nat.pow 2 k.bits) 1) (Nat.mod m (Nat.pow 2 k.bits))
def shlF (k : IntKind) (n : Nat) : Int → Int
  | .ofNat m => wrapF k (.ofNat (Nat.mul m (Nat.pow 2 n)))
  | x => k.wrap (x * 2 ^ n)
def shrF (n : Nat) : Int → Int
  | .ofNat m => .ofNat (Nat.div m (Nat.pow 2 n))
  | x => x.fdiv (2 ^ n)
def natOf : Int → Option Nat
  | .ofNat m => some m
  | _ => none
def addF (a b : Int) : Int :=
  Int.casesOn (motive := fun _ => Int) a (fun m => Int.casesOn (motive := fun _ => Int) b (fun n => .ofNat (Nat.add m n)) (fun n => Int.add (.ofNat m) (.negSucc n))) (fun m => Int.add (.negSucc m) b)

def asInt? (x : Value) : Option (IntKind × Int) := match x with | .int k n => some (k, n) | _ => none
/-- two ints of one kind -/
def ints2 {β : Type} (x y : Value) (f : IntKind → Int → Int → Option β) : Option β :=
  match x with
  | .int k a => match y with
    | .int k' b => need (kindEq k k') (f k a b)
    | _ => none
  | _ => none
def evAdd (x y : Value) : Option Value := ints2 x y fun k a b => some (.int k (wrapF k (addF a b)))
def evSub (x y : Value) : Option Value := ints2 x y fun k a b => some (.int k (wrapF k (Int.sub a b)))
def evMul (x y : Value) : Option Value := ints2 x y fun k a b => some (.int k (wrapF k (Int.mul a b)))
def evQuo (x y : Value) : Option Value := ints2 x y fun k a b => cond (intEq b 0) none (some (.int k (wrapF k (a.tdiv b))))
def evRem (x y : Value) : Option Value := ints2 x y fun k a b => cond (intEq b 0) none (some (.int k (a.tmod b)))
def evAnd (x y : Value) : Option Value := ints2 x y fun k a b => some (.int k (wrapF k (.ofNat (Nat.land (bitsOf k a) (bitsOf k b)))))
def evOr (x y : Value) : Option Value := ints2 x y fun k a b => some (.int k (wrapF k (.ofNat (Nat.lor (bitsOf k a) (bitsOf k b)))))
def evXor (x y : Value) : Option Value := ints2 x y fun k a b => some (.int k (wrapF k (.ofNat (Nat.xor (bitsOf k a) (bitsOf k b)))))
def evAndNot (x y : Value) : Option Value := ints2 x y fun k a b => some (.int k (wrapF k (.ofNat (Nat.land (bitsOf k a) (Nat.sub (Nat.sub (Nat.pow 2 k.bits) 1) (bitsOf k b))))))
def evLss (x y : Value) : Option Value := ints2 x y fun _ a b => some (.bool (intLt a b))
def evLeq (x y : Value) : Option Value := ints2 x y fun _ a b => some (.bool (!intLt b a))
def evGtr (x y : Value) : Option Value := ints2 x y fun _ a b => some (.bool (intLt b a))
def evGeq (x y : Value) : Option Value := ints2 x y fun _ a b => some (.bool (!intLt a b))
def evShl (x y : Value) : Option Value :=
  match x with
  | .int k a => match y with
    | .int _ b => withX (natOf b) fun n => some (.int k (shlF k (Nat.min n k.bits) a))
    | _ => none
  | _ => none
def evShr (x y : Value) : Option Value :=
  match x with
  | .int k a => match y with
    | .int _ b => withX (natOf b) fun n => some (.int k (shrF (Nat.min n k.bits) a))
    | _ => none
  | _ => none

/-- are two lists of ints, of one kind each, equal? -/
def eqInts : List Value → List Value → Option Bool
  | [], [] => some true
  | .int k a :: xs, .int k' b :: ys => need (kindEq k k') (withX (eqInts xs ys) fun r => some (intEq a b && r))
  | _, _ => none

/-- what a type's values are held against each other as -/
inductive EqKind where
  | int | bool | slice
  | ints (n : Nat)

def eqKind (P : Program) (t : TypeId) : Option EqKind :=
  withX (tyI P t) fun i =>
    match i.desc with
    | .int _ => some .int
    | .bool => some .bool
    | .slice _ => some .slice
    | .array n e => withX (tyI P e) fun j => withX (intOf j.desc) fun _ => need (Nat.beq j.size 1) (need (!(P.eqGuardType P.depth t)) (some (.ints n)))
    | _ => none

def evEqB (q : EqKind) (x y : Value) : Option Bool :=
  match q with
  | .int => ints2 x y fun _ a b => some (intEq a b)
  | .bool => match x, y with
    | .bool a, .bool b => some (a == b)
    | _, _ => none
  | .slice => match x, y with
    | .slice none _ _, .slice b _ _ => some b.isNone
    | .slice (some _) _ _, .slice none _ _ => some false
    | _, _ => none
  | .ints n => match x, y with
    | .agg a, .agg b => need (Nat.beq a.size n && Nat.beq b.size n) (eqInts a.toList b.toList)
    | _, _ => none

def evEql (q : EqKind) (x y : Value) : Option Value := withX (evEqB q x y) fun r => some (.bool r)
def evNeq (q : EqKind) (x y : Value) : Option Value := withX (evEqB q x y) fun r => some (.bool (!r))

def evBin {β : Type} (P : Program) (op : BinOp) (t : TypeId) (x y : Value) (k : Value → Option β) : Option β :=
  match op with
  | .add => bindV (evAdd x y) k
  | .sub => bindV (evSub x y) k
  | .mul => bindV (evMul x y) k
  | .quo => bindV (evQuo x y) k
  | .rem => bindV (evRem x y) k
  | .and => bindV (evAnd x y) k
  | .or => bindV (evOr x y) k
  | .xor => bindV (evXor x y) k
  | .andNot => bindV (evAndNot x y) k
  | .shl => bindV (evShl x y) k
  | .shr => bindV (evShr x y) k
  | .lss => bindV (evLss x y) k
  | .leq => bindV (evLeq x y) k
  | .gtr => bindV (evGtr x y) k
  | .geq => bindV (evGeq x y) k
  | .eql => withX (eqKind P t) fun q => bindV (evEql q x y) k
  | .neq => withX (eqKind P t) fun q => bindV (evNeq q x y) k

def evNeg (x : Value) : Option Value := match x with | .int k n => some (.int k (wrapF k (Int.sub 0 n))) | _ => none
def evInv (x : Value) : Option Value := match x with | .int k n => some (.int k (wrapF k (.ofNat (Nat.xor (bitsOf k (cond k.signed (-1) k.max)) (bitsOf k n))))) | _ => none
def evNot (x : Value) : Option Value := match x with | .bool b => some (.bool (!b)) | _ => none
def evUn {β : Type} (op : UnOp) (x : Value) (k : Value → Option β) : Option β :=
  match op with
  | .neg => bindV (evNeg x) k
  | .xor => bindV (evInv x) k
  | .not => bindV (evNot x) k
  | .plus => none

def evPick (c a b : Value) : Option Value := match c with | .bool t => some (cond t a b) | _ => none
def evConv (k : IntKind) (x : Value) : Option Value := match x with | .int _ n => some (.int k (wrapF k n)) | _ => none
def evNil (x : Value) : Option Value := match x with | .pointer (some a) => some (.pointer (some a)) | _ => none

/-! Memory. -/
def dropN (l : List Value) : Nat → List Value :=
  List.rec (motive := fun _ => Nat → List Value) (fun _ => []) (fun x xs ih n => Nat.casesOn (motive := fun _ => List Value) n (x :: xs) (fun n => ih n)) l
def takeN (l : List Value) : Nat → List Value :=
  List.rec (motive := fun _ => Nat → List Value) (fun _ => []) (fun x _ ih n => Nat.casesOn (motive := fun _ => List Value) n [] (fun n => x :: ih n)) l
def lenN (l : List Value) : Nat := List.rec (motive := fun _ => Nat) (nat_lit 0) (fun _ _ n => Nat.succ n) l
/-- one list's head written over the other one's -/
def overH (vs : List Value) : List Value → List Value :=
  List.rec (motive := fun _ => List Value → List Value) (fun cs => cs)
    (fun v _ ih cs => List.casesOn (motive := fun _ => List Value) cs [] (fun _ cs => v :: ih cs)) vs
/-- from a place on -/
def over (cs : List Value) : Nat → List Value → List Value :=
  List.rec (motive := fun _ => Nat → List Value → List Value) (fun _ _ => [])
    (fun c cs ih off vs => Nat.casesOn (motive := fun _ => List Value) off (overH vs (c :: cs)) (fun off => c :: ih off vs)) cs
def seg (cs : List Value) (off n : Nat) : List Value := takeN (dropN cs off) n

/-- what lies at a place, of a type -/
def cellAt (agg : Bool) (n size : Nat) (cs : List Value) (off : Nat) : Option Value :=
  cond agg (need (Nat.ble (Nat.add off n) size) (some (.agg ⟨seg cs off n⟩))) (nth cs off)

/-- a block of cells that an address leads to -/
def withCells {β : Type} (H : AH) (i : Nat) (k : Nat → List Value → TypeId → Option β) : Option β :=
  match H.get i with
  | some (.cells s cs e) => k s cs e
  | _ => none

def withPtr {β : Type} (v : Value) (k : Nat → Nat → Option β) : Option β :=
  match v with
  | .pointer (some ⟨i, off, none⟩) => k i off
  | _ => none

def evLoad (H : AH) (agg : Bool) (n : Nat) (v : Value) : Option Value :=
  withPtr v fun i off => withCells H i fun s cs _ => cellAt agg n s cs off

def cellsOf : Value → List Value
  | .agg cs => cs.toList
  | v => [v]

def evStoreL (lo : Nat) (H : AH) (n : Nat) (i off : Nat) (l : List Value) : Option AH :=
  withCells H i fun s cs e =>
    need (Nat.ble lo i) (need (Nat.beq (lenN l) n) (need (Nat.ble (Nat.add off n) s) (need (l.all single)
      (some (H.set i (.cells s (over cs off l) e))))))

def evStore (lo : Nat) (H : AH) (n : Nat) (a x : Value) : Option AH := withPtr a fun i off => evStoreL lo H n i off (cellsOf x)

def newPtr (H : AH) : Value := .pointer (some ⟨H.next, nat_lit 0, none⟩)
def pushBox (H : AH) (elem : TypeId) (v : Value) : AH := H.push (.cells (lenN (cellsOf v)) (cellsOf v) elem)

/-- n times the cells of zero -/
def zeros (z : List Value) (n : Nat) : List Value := Nat.rec (motive := fun _ => List Value) [] (fun _ l => List.append z l) n

/-- parts written over zeros: place, size, value -/
def evFill : List (Nat × Nat × Value) → List Value → Option (List Value)
  | [], cs => some cs
  | (off, size, v) :: rest, cs =>
    need (Nat.beq (lenN (cellsOf v)) size) (need (Nat.ble (Nat.add off size) (lenN cs)) (evFill rest (over cs off (cellsOf v))))

def partsX (P : Program) (E : Env) (place : Nat → Option (Nat × Nat)) : List (Nat × Operand) → Option (List (Nat × Nat × Value))
  | [] => some []
  | (i, x) :: xs => withX (evx P E x) fun v => withX (place i) fun p => withX (partsX P E place xs) fun vs => some ((p.1, p.2, v) :: vs)

def fieldPlaces (P : Program) (fs : List Field) (i : Nat) : Option (Nat × Nat) :=
  withX (nth fs i) fun f => withX (tyI P f.type) fun j => some (f.offset, j.size)

def evAgg (ps : List (Nat × Nat × Value)) (z : List Value) : Option Value := withX (evFill ps z) fun cs => some (.agg ⟨cs⟩)

def opBuild {β : Type} (P : Program) (E : Env) (t : TypeId) (parts : List (Nat × Operand)) (k : Value → Option β) : Option β :=
  withX (tyI P t) fun i => withX (zeroOf i) fun z =>
    match i.desc with
    | .struct fs => need (fs.toList.all fun f => (tyI P f.type).isSome) (withX (partsX P E (fieldPlaces P fs.toList) parts) fun ps => bindV (evAgg ps (cellsOf z)) k)
    | .array _ e => withX (tyI P e) fun j => withX (partsX P E (fun i => some (Nat.mul i j.size, j.size)) parts) fun ps => bindV (evAgg ps (cellsOf z)) k
    | _ => none

def newSlice (H : AH) (len cap : Nat) : Value := .slice (some ⟨H.next, nat_lit 0, none⟩) len cap

def opBuildSlice {β : Type} (P : Program) (E : Env) (H : AH) (t : TypeId) (len : Nat) (parts : List (Nat × Operand)) (k : Value → AH → Option β) : Option β :=
  withX (tyElem P t) fun e => withX (tyI P e) fun i => withX (zeroOf i) fun z =>
    need (Nat.blt len UNK) (need (Nat.ble (Nat.mul len i.size) 16777216) (need (Nat.beq (lenN (cellsOf z)) i.size)
      (withX (partsX P E (fun j => some (Nat.mul j i.size, i.size)) parts) fun ps =>
        bindV (evFill ps (zeros (cellsOf z) len)) fun cs => k (newSlice H len len) (H.push (.cells (Nat.mul len i.size) cs e)))))

def evShift (x : Value) (d : Nat) : Option Value := withPtr x fun i off => some (.pointer (some ⟨i, Nat.add off d, none⟩))

def opFieldAddr {β : Type} (P : Program) (t : TypeId) (x : Value) (f : Nat) (k : Value → Option β) : Option β :=
  withX (tyI P t) fun i => withX (structOf i.desc) fun fs => withX (fieldPlaces P fs f) fun p =>
    cond (Nat.beq p.2 0) none (bindV (evShift x p.1) k)

/-- a part of a composite -/
def evPart (agg : Bool) (n : Nat) (x : Value) (off : Nat) : Option Value :=
  match x with
  | .agg cs => cellAt agg n (lenN cs.toList) cs.toList off
  | _ => none

def opField {β : Type} (P : Program) (t : TypeId) (x : Value) (f : Nat) (k : Value → Option β) : Option β :=
  withX (tyI P t) fun i => withX (structOf i.desc) fun fs => withX (nth fs f) fun fd => withX (tyI P fd.type) fun j =>
    bindV (evPart j.agg j.size x fd.offset) k

def asNat (v : Value) : Option Nat := match v with | .int _ j => natOf j | _ => none

def evIdxArr (len n : Nat) (x ix : Value) : Option Value :=
  withX (asNat ix) fun j => withPtr x fun i off => need (Nat.blt j len) (some (.pointer (some ⟨i, Nat.add off (Nat.mul j n), none⟩)))
def evIdxSlice (n : Nat) (x ix : Value) : Option Value :=
  withX (asNat ix) fun j =>
    match x with
    | .slice (some ⟨i, off, none⟩) len _ => need (Nat.blt j len) (some (.pointer (some ⟨i, Nat.add off (Nat.mul j n), none⟩)))
    | _ => none

def opIndexAddr {β : Type} (P : Program) (t : TypeId) (x ix : Value) (k : Value → Option β) : Option β :=
  withX (tyI P t) fun i =>
    match i.desc with
    | .array len e => withX (tyI P e) fun j => bindV (evIdxArr len j.size x ix) k
    | .slice e => withX (tyI P e) fun j => bindV (evIdxSlice j.size x ix) k
    | _ => none

def evIdxVal (agg : Bool) (len n : Nat) (x ix : Value) : Option Value :=
  withX (asNat ix) fun j => need (Nat.blt j len) (evPart agg n x (Nat.mul j n))
def evIdxStr (x ix : Value) : Option Value :=
  withX (asNat ix) fun j =>
    match x with
    | .string s => withX (nth s.data.toList j) fun b => some (.int .u8 b.toNat)
    | _ => none

def opIndex {β : Type} (P : Program) (t : TypeId) (x ix : Value) (k : Value → Option β) : Option β :=
  withX (tyI P t) fun i =>
    match i.desc with
    | .array len e => withX (tyI P e) fun j => bindV (evIdxVal j.agg len j.size x ix) k
    | .string => bindV (evIdxStr x ix) k
    | _ => none

def roomFor (bytes : Nat) (n : Nat) : Bool := cond (Nat.ble (Nat.mul n bytes) BIG) (Nat.blt n BIG) false

/-- how long, how wide, from two ints -/
def evSizes (bytes : Nat) (len cap : Value) : Option (Nat × Nat) :=
  withX (asNat len) fun l => withX (asNat cap) fun c => need (Nat.ble l c) (need (roomFor bytes c) (some (l, c)))

def opMakeSlice {β : Type} (P : Program) (H : AH) (t : TypeId) (len cap : Value) (k : Value → AH → Option β) : Option β :=
  withX (tyElem P t) fun e => withX (tyI P e) fun i => withX (zeroOf i) fun z =>
    need (Nat.beq (lenN (cellsOf z)) i.size)
      (bindV (evSizes i.bytes len cap) fun p => k (newSlice H p.1 p.2) (H.push (.cells (Nat.mul p.2 i.size) (zeros (cellsOf z) p.2) e)))

/-- an optional bound -/
def boundX (P : Program) (E : Env) : Option Operand → Option (Option Value)
  | none => some none
  | some x => withX (evx P E x) fun v => some (some v)
def bnd (x : Option Value) (d : Nat) : Option Nat := match x with | none => some d | some v => asNat v

/-- what is cut: len, the greatest cap, and how cap is told ('some m': known) -/
def cutBounds (len : Nat) (cap : Nat) (lo hi mx : Option Value) : Option (Nat × Nat × Nat) :=
  withX (bnd lo 0) fun l => withX (bnd hi len) fun h => withX (bnd mx cap) fun m =>
    need (cond mx.isNone true hi.isSome) (need (Nat.ble l h) (need (Nat.ble h m) (need (Nat.ble m cap) (need (Nat.blt m UNK) (some (l, h, m))))))

def evCut (n : Nat) (x : Value) (lo hi mx : Option Value) : Option Value :=
  match x with
  | .slice none 0 0 => withX (cutBounds 0 0 lo hi mx) fun _ => some (.slice none 0 0)
  | .slice (some ⟨i, off, none⟩) len cap =>
    cond (cond (Nat.ble UNK cap) mx.isNone false)
      (withX (bnd lo 0) fun l => withX (bnd hi len) fun h => need (Nat.ble l h) (need (Nat.ble h len) (need (Nat.beq cap (Nat.add UNK n))
        (some (.slice (some ⟨i, Nat.add off (Nat.mul l n), none⟩) (Nat.sub h l) cap)))))
      (withX (cutBounds len (cond (Nat.ble UNK cap) len cap) lo hi mx) fun b =>
        some (.slice (some ⟨i, cond (Nat.beq b.2.2 b.1) off (Nat.add off (Nat.mul b.1 n)), none⟩) (Nat.sub b.2.1 b.1) (Nat.sub b.2.2 b.1)))
  | _ => none

def evCutArr (n len : Nat) (x : Value) (lo hi mx : Option Value) : Option Value :=
  withPtr x fun i off =>
    withX (cutBounds len len lo hi mx) fun b =>
      some (.slice (some ⟨i, cond (Nat.beq b.2.2 b.1) off (Nat.add off (Nat.mul b.1 n)), none⟩) (Nat.sub b.2.1 b.1) (Nat.sub b.2.2 b.1))

def opSlice {β : Type} (P : Program) (E : Env) (t : TypeId) (x : Value) (lo hi mx : Option Operand) (k : Value → Option β) : Option β :=
  withX (boundX P E lo) fun lo => withX (boundX P E hi) fun hi => withX (boundX P E mx) fun mx => withX (tyI P t) fun i =>
    match i.desc with
    | .array len e => withX (tyI P e) fun j => bindV (evCutArr j.size len x lo hi mx) k
    | .slice e => withX (tyI P e) fun j => bindV (evCut j.size x lo hi mx) k
    | _ => none

/-! Maps with ints, or arrays of ints, as keys. -/
def evKeyEq : Value → Value → Option Bool
  | .int k a, .int k' b => need (kindEq k k') (some (intEq a b))
  | .agg a, .agg b => need (Nat.beq a.size b.size) (eqInts a.toList b.toList)
  | _, _ => none

def evFind (k : Value) : List MapEntry → Nat → Option (Option (Nat × Value))
  | [], _ => some none
  | e :: es, i =>
    match evKeyEq k e.key with
    | some true => some (some (i, e.val))
    | some false => evFind k es (Nat.succ i)
    | none => none

/-- a key: an int, or an array of so many ints -/
inductive KeyKind where
  | int
  | ints (n : Nat)

def keyKind (P : Program) (t : TypeId) : Option KeyKind :=
  withX (tyI P t) fun i =>
    match i.desc with
    | .int _ => some .int
    | .array n e => withX (tyI P e) fun j => withX (intOf j.desc) fun _ => need (Nat.beq j.size 1) (some (.ints n))
    | _ => none

def keyOk (q : KeyKind) (k : Value) : Bool :=
  match q, k with
  | .int, .int _ _ => true
  | .ints n, .agg a => Nat.beq a.size n && a.toList.all (fun v => (asInt? v).isSome)
  | _, _ => false

def withMap {β : Type} (H : AH) (i : Nat) (k : List MapEntry → Nat → Option β) : Option β :=
  match H.get i with
  | some (.map es c) => k es c
  | _ => none

def evLookup (H : AH) (q : KeyKind) (z : Value) (x k : Value) (ok : Bool) : Option Value :=
  need (keyOk q k)
    (match x with
     | .map none => some (cond ok (.tuple #[z, .bool false]) z)
     | .map (some i) => withMap H i fun es _ => withX (evFind k es (nat_lit 0)) fun r =>
        match r with
        | some p => some (cond ok (.tuple #[p.2, .bool true]) p.2)
        | none => some (cond ok (.tuple #[z, .bool false]) z)
     | _ => none)

def setAt : List MapEntry → Nat → Value → Value → List MapEntry
  | [], _, _, _ => []
  | e :: es, 0, k, v => { e with key := k, val := v } :: es
  | e :: es, n + 1, k, v => e :: setAt es n k v

def evUpdate (lo : Nat) (H : AH) (q : KeyKind) (x k v : Value) : Option AH :=
  need (keyOk q k)
    (match x with
     | .map (some i) => need (Nat.ble lo i) (withMap H i fun es c => withX (evFind k es (nat_lit 0)) fun r =>
        match r with
        | some p => some (H.set i (.map (setAt es p.1 k v) c))
        | none => some (H.set i (.map (List.append es [{ key := k, val := v, born := c }]) (Nat.succ c))))
     | _ => none)

def opLookup {β : Type} (P : Program) (H : AH) (t : TypeId) (x k : Value) (ok : Bool) (c : Value → Option β) : Option β :=
  withX (tyI P t) fun i => withX (mapOf i.desc) fun p => withX (keyKind P p.1) fun q => withX (tyI P p.2) fun j => withX (zeroOf j) fun z =>
    bindV (evLookup H q z x k ok) c

def opUpdate {β : Type} (P : Program) (lo : Nat) (H : AH) (t : TypeId) (x k v : Value) (c : AH → Option β) : Option β :=
  withX (tyI P t) fun i => withX (mapOf i.desc) fun p => withX (keyKind P p.1) fun q => bindV (evUpdate lo H q x k v) c

/-! Builtins. -/
def evLenS (x : Value) : Option Value := match x with | .slice _ n _ => some (.int .i64 (.ofNat n)) | _ => none
def evLenM (H : AH) (x : Value) : Option Value :=
  match x with
  | .map none => some (.int .i64 0)
  | .map (some i) => withMap H i fun es _ => some (.int .i64 (.ofNat es.length))
  | _ => none
def opLen {β : Type} (P : Program) (H : AH) (t : TypeId) (x : Value) (k : Value → Option β) : Option β :=
  withX (tyI P t) fun i =>
    match i.desc with
    | .slice _ => bindV (evLenS x) k
    | .array n _ => k (.int .i64 (.ofNat n))
    | .map _ _ => bindV (evLenM H x) k
    | _ => none

def evCapS (x : Value) : Option Value := match x with | .slice _ _ n => cond (Nat.ble UNK n) none (some (.int .i64 (.ofNat n))) | _ => none
def opCap {β : Type} (P : Program) (t : TypeId) (x : Value) (k : Value → Option β) : Option β :=
  withX (tyI P t) fun i =>
    match i.desc with
    | .slice _ => bindV (evCapS x) k
    | .array n _ => k (.int .i64 (.ofNat n))
    | _ => none

def evLesser (mx : Bool) (x y : Value) : Option Value :=
  match x with
  | .int k a => match y with
    | .int _ b => some (.int k (cond (cond mx (intLt a b) (intLt b a)) b a))
    | _ => none
  | _ => none
def opMinMax {β : Type} (mx : Bool) (v : Value) (vs : List Value) (k : Value → Option β) : Option β :=
  match vs with
  | [] => k v
  | w :: vs => bindV (evLesser mx v w) fun v => opMinMax mx v vs k

/-- the cells of a slice -/
def rowOf (H : AH) (size : Nat) (x : Value) : Option (List Value) :=
  match x with
  | .slice none 0 0 => some []
  | .slice (some ⟨i, off, none⟩) len _ =>
    cond (Nat.beq len 0) (some [])
      (withCells H i fun s cs _ => need (Nat.ble (Nat.add off (Nat.mul len size)) s) (some (seg cs off (Nat.mul len size))))
  | _ => none

/-- a row that is made anew -/
def pushRow (H : AH) (e : TypeId) (size need : Nat) (l : List Value) : AH := H.push (.cells (Nat.mul need size) l e)

/-- the row may or may not be moved: who had it has it no longer -/
def evMoved (lo : Nat) (H : AH) (e : TypeId) (size i off len n : Nat) (new : List Value) : Option (Value × AH) :=
  withCells H i fun s cs e' =>
    need (Nat.ble lo i) (need (Nat.beq e e') (need (Nat.ble (Nat.add off (Nat.mul len size)) s)
      (some (newSlice H (Nat.add len n) (Nat.add UNK size), pushRow (H.kill i) e size (Nat.add len n) (List.append (seg cs off (Nat.mul len size)) new)))))

/-- there is room -/
def evInPlace (lo : Nat) (H : AH) (size i off len cap n : Nat) (new : List Value) : Option (Value × AH) :=
  withCells H i fun s cs e' =>
    need (Nat.ble lo i) (need (Nat.ble (Nat.add off (Nat.mul (Nat.add len n) size)) s)
      (some (.slice (some ⟨i, off, none⟩) (Nat.add len n) cap, H.set i (.cells s (over cs (Nat.add off (Nat.mul len size)) new) e'))))

def evAppendTo (lo : Nat) (H : AH) (e : TypeId) (size bytes : Nat) (s : Value) (n : Nat) (new : List Value) : Option (Value × AH) :=
  match s with
  | .slice none 0 0 => cond (Nat.beq n 0) (some (.slice none 0 0, H)) (need (roomFor bytes n) (some (newSlice H n (Nat.add UNK size), pushRow H e size n new)))
  | .slice (some ⟨i, off, none⟩) len cap =>
    cond (Nat.beq n 0) (need (Nat.ble len cap) (some (.slice (some ⟨i, off, none⟩) len cap, H)))
      (need (roomFor bytes (Nat.add len n))
        (cond (Nat.ble UNK cap) (need (Nat.beq cap (Nat.add UNK size)) (evMoved lo H e size i off len n new))
          (cond (Nat.ble (Nat.add len n) cap) (evInPlace lo H size i off len cap n new)
            (withX (rowOf H size (.slice (some ⟨i, off, none⟩) len cap)) fun old =>
              some (newSlice H (Nat.add len n) (Nat.add UNK size), pushRow H e size (Nat.add len n) (List.append old new))))))
  | _ => none

/-- append(s, x...) -/
def evAppend (lo : Nat) (H : AH) (e : TypeId) (size bytes : Nat) (s x : Value) : Option (Value × AH) :=
  match x with
  | .slice a n c => withX (rowOf H size (.slice a n c)) fun new => need (new.all single) (evAppendTo lo H e size bytes s n new)
  | _ => none
/-- append(s, make([]E, n)...) where there is no room -/
def evAppendZ (H : AH) (e : TypeId) (size bytes : Nat) (z : List Value) (s x : Value) : Option (Value × AH) :=
  withX (asNat x) fun n => need (Nat.blt 0 n) (need (Nat.blt 0 size)
    (match s with
     | .slice a len cap => need (Nat.blt cap UNK) (need (Nat.blt cap (Nat.add len n)) (need (roomFor bytes (Nat.add len n))
        (withX (rowOf H size (.slice a len cap)) fun old =>
          some (newSlice H (Nat.add len n) (Nat.add UNK size), pushRow H e size (Nat.add len n) (List.append old (zeros z n))))))
     | _ => none))

def opAppend {β : Type} (P : Program) (lo : Nat) (H : AH) (st xt : TypeId) (s x : Value) (k : Value → AH → Option β) : Option β :=
  withX (tyElem P st) fun e => withX (tyI P e) fun i => withX (zeroOf i) fun z => withX (tyI P xt) fun j =>
    need (Nat.beq (lenN (cellsOf z)) i.size)
      (match j.desc with
       | .slice _ => bindVH (evAppend lo H e i.size i.bytes s x) k
       | .int _ => bindVH (evAppendZ H e i.size i.bytes (cellsOf z) s x) k
       | _ => none)

def evClear (lo : Nat) (H : AH) (size : Nat) (z : List Value) (x : Value) : Option AH :=
  match x with
  | .slice none 0 0 => some H
  | .slice (some ⟨i, off, none⟩) n _ =>
    cond (Nat.beq n 0) (some H) (withCells H i fun s cs e' =>
      need (Nat.ble lo i) (need (Nat.ble (Nat.add off (Nat.mul n size)) s) (some (H.set i (.cells s (over cs off (zeros z n)) e')))))
  | _ => none
def opClear {β : Type} (P : Program) (lo : Nat) (H : AH) (t : TypeId) (x : Value) (k : AH → Option β) : Option β :=
  withX (tyElem P t) fun e => withX (tyI P e) fun i => withX (zeroOf i) fun z =>
    need (Nat.beq (lenN (cellsOf z)) i.size) (need ((cellsOf z).all single) (bindV (evClear lo H i.size (cellsOf z) x) k))

def opBuiltin {β : Type} (P : Program) (lo : Nat) (H : AH) (b : Builtin) (ts : List TypeId) (vs : List Value) (k : Value → AH → Option β) : Option β :=
  match b with
  | .append => match ts, vs with
    | [st, xt], [s, x] => opAppend P lo H st xt s x k
    | _, _ => none
  | .len => match ts, vs with
    | [t], [x] => opLen P H t x fun v => k v H
    | _, _ => none
  | .cap => match ts, vs with
    | [t], [x] => opCap P t x fun v => k v H
    | _, _ => none
  | .min => match vs with
    | v :: vs => opMinMax false v vs fun v => k v H
    | _ => none
  | .max => match vs with
    | v :: vs => opMinMax true v vs fun v => k v H
    | _ => none
  | .clear => match ts, vs with
    | [t], [x] => opClear P lo H t x fun H => k (.tuple #[]) H
    | _, _ => none
  | _ => none

/-! Calls, regions, code. -/
abbrev CallF := Nat → FuncId → List Value → AH → Option (Value × AH)

/-- a call of a function's value -/
def callVal {β : Type} (call : CallF) (lo : Nat) (f : Value) (vs : List Value) (H : AH) (k : Value → AH → Option β) : Option β :=
  match f with
  | .func (.func g) first captured => bindVH (call lo g (List.append first.toList (List.append vs captured.toList)) H) k
  | _ => none

/-! Values of interfaces. -/
def notIface : TypeDesc → Bool
  | .interface _ => false
  | _ => true
def ptrDesc : TypeDesc → Bool
  | .pointer _ => true
  | _ => false
/-- the function of a method that is a type's own, by value -/
def evMethod (P : Program) (t : TypeId) (name : String) : Option FuncId :=
  withX (P.info? t) fun i => withX (tyI P t) fun j => need (!ptrDesc j.desc)
    (withX (i.methods.toList.find? (·.name == name)) fun m => need m.path.toList.isEmpty
      (match m.func with
       | some (f, false) => some f
       | _ => none))
/-- a call of an interface's method -/
def callMeth {β : Type} (P : Program) (call : CallF) (lo : Nat) (f : Value) (name : String) (vs : List Value) (H : AH) (k : Value → AH → Option β) : Option β :=
  match f with
  | .iface t v => withX (evMethod P t name) fun g => bindVH (call lo g (v :: vs) H) k
  | _ => none
def evAssert (asserted : TypeId) (z x : Value) (ok : Bool) : Option Value :=
  match x with
  | .nilIface => cond ok (some (.tuple #[z, .bool false])) none
  | .iface t v => cond (Nat.beq t asserted) (some (cond ok (.tuple #[v, .bool true]) v)) (cond ok (some (.tuple #[z, .bool false])) none)
  | _ => none

def evComp (x : Value) (i : Nat) : Option Value := match x with | .tuple vs => nth vs.toList i | _ => none

/-- one operation -/
def evOper {β : Type} (P : Program) (call : CallF) (lo : Nat) (E : Env) (H : AH) (o : Op) (k : Value → AH → Option β) : Option β :=
  match o with
  | .move x => withX (evx P E x) fun v => k v H
  | .assign x => withX (evx P E x) fun v => k v H
  | .pick c a b => withX (evx P E c) fun c => withX (evx P E a) fun a => withX (evx P E b) fun b => bindV (evPick c a b) fun v => k v H
  | .alloc e => withX (tyI P e) fun i => withX (zeroOf i) fun z => k (newPtr H) (pushBox H e z)
  | .box e x => withX (evx P E x) fun v => k (newPtr H) (pushBox H e v)
  | .build t parts => opBuild P E t parts.toList fun v => k v H
  | .buildSlice t len parts => opBuildSlice P E H t len parts.toList k
  | .load t a => withX (evx P E a) fun a => withX (tyI P t) fun i => bindV (evLoad H i.agg i.size a) fun v => k v H
  | .store t a x => withX (evx P E a) fun a => withX (evx P E x) fun x => withX (tyI P t) fun i => bindV (evStore lo H i.size a x) fun H => k undef H
  | .nilCheck x => withX (evx P E x) fun x => bindV (evNil x) fun v => k v H
  | .binOp op t x y _ => withX (evx P E x) fun x => withX (evx P E y) fun y => evBin P op t x y fun v => k v H
  | .unOp op _ x => withX (evx P E x) fun x => evUn op x fun v => k v H
  | .convert s d x => withX (evx P E x) fun x => withX (tyI P s) fun _ => withX (tyI P d) fun i => withX (intOf i.desc) fun q => bindV (evConv q x) fun v => k v H
  | .makeFunc fn first captured => withX (evxs P E first.toList) fun f => withX (evxs P E captured.toList) fun c => k (.func fn ⟨f⟩ ⟨c⟩) H
  | .makeMap t r => match r with
    | none => k (.map (some H.next)) (H.push (.map [] 0))
    | some x => withX (evx P E x) fun x => withX (tyI P t) fun i => withX (mapOf i.desc) fun _ => bindV (asInt? x) fun _ => k (.map (some H.next)) (H.push (.map [] 0))
  | .makeSlice t l c => withX (evx P E l) fun l => withX (evx P E c) fun c => opMakeSlice P H t l c k
  | .slice t x lo hi mx => withX (evx P E x) fun x => opSlice P E t x lo hi mx fun v => k v H
  | .fieldAddr t x f => withX (evx P E x) fun x => opFieldAddr P t x f fun v => k v H
  | .field t x f => withX (evx P E x) fun x => opField P t x f fun v => k v H
  | .indexAddr t x i => withX (evx P E x) fun x => withX (evx P E i) fun i => opIndexAddr P t x i fun v => k v H
  | .index t x i => withX (evx P E x) fun x => withX (evx P E i) fun i => opIndex P t x i fun v => k v H
  | .lookup t x key ok => withX (evx P E x) fun x => withX (evx P E key) fun key => opLookup P H t x key ok fun v => k v H
  | .mapUpdate t m key x => withX (evx P E m) fun m => withX (evx P E key) fun key => withX (evx P E x) fun x => opUpdate P lo H t m key x fun H => k undef H
  | .extract x i => withX (evx P E x) fun x => bindV (evComp x i) fun v => k v H
  | .call c => withX (evxs P E c.args.toList) fun vs =>
    match c.callee with
    | .builtin b => opBuiltin P lo H b c.argTypes.toList vs k
    | .value f => withX (evx P E f) fun f => callVal call lo f vs H k
    | .invoke r name => withX (evx P E r) fun r => callMeth P call lo r name vs H k
  | .makeInterface t x => withX (evx P E x) fun v => withX (tyI P t) fun i => need (notIface i.desc) (k (.iface t v) H)
  | .typeAssert x _ a ok => withX (evx P E x) fun x => withX (tyI P a) fun i => need (notIface i.desc) (withX (zeroOf i) fun z => bindV (evAssert a z x ok) fun v => k v H)
  | _ => none

def bound (n : Nat) (d : Option Tmp) : Bool := match d with | none => true | some d => Nat.blt d n
def putE (E : Env) (d : Option Tmp) (v : Value) : Env := match d with | none => E | some d => (d, v) :: E

def isB (v : Value) (want : Bool) : Bool := match v with | .bool b => b == want | _ => false

/-- an operation that is done where a value is a bool as wanted -/
def guarded {β : Type} (v : Value) (want : Bool) (r : Option (Value × AH)) (H : AH) (k : Value → AH → Option β) : Option β :=
  bindVH (cond (isB v want) r (some (undef, H))) k

def pairVH (v : Value) (H : AH) : Option (Value × AH) := some (v, H)

/-- an operation with its guard -/
def evGuarded {β : Type} (P : Program) (call : CallF) (lo : Nat) (ops : List Oper) (E : Env) (H : AH) (o : Oper) (k : Value → AH → Option β) : Option β :=
  match o.guard with
  | none => evOper P call lo E H o.op k
  | some g => withX (nth ops g.1) fun p => withX p.dst fun d => withX (lookE E d) fun v => guarded v g.2 (evOper P call lo E H o.op pairVH) H k

/-- the operations of a region, in the order of its text -/
def evOps {β : Type} (P : Program) (call : CallF) (lo nt : Nat) (ops : List Oper) : List Oper → Env → AH → (Env → AH → Option β) → Option β
  | [], E, H, k => k E H
  | o :: rest, E, H, k => cond (bound nt o.dst) (evGuarded P call lo ops E H o fun v H => evOps P call lo nt ops rest (putE E o.dst v) H k) none

/-! A region whose order is drawn. -/
/-- which blocks a value names at once -/
def idsOf : Value → List Nat
  | .pointer (some a) => [a.block]
  | .slice (some a) _ _ => [a.block]
  | .map (some i) => [i]
  | _ => []

/-- the operands through which an operation that calls no Go function may look at memory, or write it -/
def handles : Op → List Operand
  | .load _ a => [a]
  | .store _ a _ => [a]
  | .lookup _ x _ _ => [x]
  | .mapUpdate _ m _ _ => [m]
  | .call ⟨.builtin .min, _, _⟩ => []
  | .call ⟨.builtin .max, _, _⟩ => []
  | .call ⟨.builtin .cap, _, _⟩ => []
  | .call ⟨.builtin _, args, _⟩ => args.toList
  | _ => []

inductive Class where
  | none | rd | wr | call

def classOf : Op → Class
  | .load _ _ => .rd
  | .lookup _ _ _ _ => .rd
  | .store _ _ _ => .wr
  | .mapUpdate _ _ _ _ => .wr
  | .call ⟨.builtin .min, _, _⟩ => .none
  | .call ⟨.builtin .max, _, _⟩ => .none
  | .call ⟨.builtin .cap, _, _⟩ => .none
  | .call ⟨.builtin .len, _, _⟩ => .rd
  | .call ⟨.builtin _, _, _⟩ => .wr
  | .call _ => .call
  | _ => .none

def Class.touches : Class → Bool
  | .none => false
  | _ => true
def isCall : Class → Bool
  | .call => true
  | _ => false

/-- what must be done before each operation, as bits -/
def befores : List Oper → List Nat → List Nat
  | [], acc => acc.reverse
  | o :: rest, acc =>
    befores rest ((o.after.toList.foldl (fun s e => cond (Region.binds .any e) (Nat.lor (Nat.lor s (2 ^ e.on)) ((nth acc.reverse e.on).getD 0)) s) 0) :: acc)

/-- the temporaries that an operation names -/
def reads (ops : List Oper) (o : Oper) : List Tmp :=
  (o.op.operands.toList.filterMap fun | .tmp t => some t | _ => none) ++
  (match o.guard with
   | some g => (match nth ops g.1 with | some p => p.dst.toList | none => [])
   | none => [])

/-- is i ordered behind j? -/
def behind (bs : List Nat) (i j : Nat) : Bool := Nat.testBit ((nth bs i).getD 0) j

/-- may two operations come in either order, as far as temporaries go? -/
def tmpsApart (ops : List Oper) (o p : Oper) : Bool :=
  (match o.dst with | none => true | some d => !((reads ops p).contains d) && p.dst != some d) &&
  (match p.dst with | none => true | some d => !((reads ops o).contains d))

/-- may the pair come in either order? some true: if they name other blocks -/
def pairOf : Class → Class → Option Bool
  | .none, _ => some false
  | _, .none => some false
  | .rd, .rd => some false
  | .rd, .call => some false
  | .call, .rd => some false
  | .call, .call => some false
  | .rd, .wr => some true
  | .wr, .rd => some true
  | .wr, .wr => some true
  | .call, .wr => none
  | .wr, .call => none

structure Row where
  /-- a call that may not write what is there -/
  quiet : Bool
  /-- the handles of the operations ahead in the text, in no order against this one, that must name other blocks; and its own ones -/
  apart : List Operand
  own : List Operand

structure Plan where
  ok : Bool
  rows : List Row

def clAt (ops : List Oper) (i : Nat) : Class := match nth ops i with | some o => classOf o.op | none => .none
def freeAt (bs : List Nat) (i j : Nat) : Bool := !(Nat.beq i j) && !(behind bs i j) && !(behind bs j i)

/-- does an operation that touches nothing make a block? -/
def makes : Op → Bool
  | .alloc _ => true
  | .box _ _ => true
  | .buildSlice _ _ _ => true
  | .makeSlice _ _ _ => true
  | .makeMap _ _ => true
  | _ => false
def makesAt (ops : List Oper) (i : Nat) : Bool := match nth ops i with | some o => makes o.op | none => false

/-- is a temporary named? -/
def names (xs : List Operand) (d : Option Tmp) : Bool :=
  match d with
  | none => false
  | some d => xs.any fun | .tmp t => Nat.beq t d | _ => false

def okAt (ops : List Oper) (bs : List Nat) (i : Nat) : Bool :=
  match nth ops i with
  | none => true
  | some o =>
    !names (handles o.op) o.dst && o.after.toList.all (fun e => !Region.binds .any e || Nat.blt e.on i) &&
    (List.range i).all fun j =>
      (match nth ops j with
       | none => true
       | some p => !names (handles p.op) o.dst && (behind bs i j || (tmpsApart ops o p && (pairOf (classOf o.op) (classOf p.op)).isSome)))

def againstAt (ops : List Oper) (bs : List Nat) (i : Nat) : List Nat :=
  (List.range i).filter fun j => freeAt bs i j && (match pairOf (clAt ops i) (clAt ops j) with | some b => b | none => true)

def handlesAt (ops : List Oper) (i : Nat) : List Operand := match nth ops i with | some o => handles o.op | none => []

def rowAt (ops : List Oper) (bs : List Nat) (i : Nat) : Row :=
  ⟨isCall (clAt ops i) && (List.range ops.length).any (fun j => freeAt bs i j && ((clAt ops j).touches || (Nat.blt j i && makesAt ops j))),
   (againstAt ops bs i).flatMap (handlesAt ops),
   cond (againstAt ops bs i).isEmpty [] (handlesAt ops i)⟩

def planOf (ops : List Oper) (bs : List Nat) : Plan :=
  ⟨(List.range ops.length).all (okAt ops bs), (List.range ops.length).map (rowAt ops bs)⟩

/-- the blocks that operands name -/
def idsAll (P : Program) (E : Env) : List Operand → Option (List (List Nat))
  | [] => some []
  | x :: xs => withX (evx P E x) fun v => withX (idsAll P E xs) fun l => some (idsOf v :: l)

def disjoint (a b : List (List Nat)) : Bool := a.all fun x => b.all fun y => x.all fun i => y.all fun j => !(Nat.beq i j)

/-- the operations of a region whose order is drawn, in the order of its text -/
def evOpsD {β : Type} (P : Program) (call : CallF) (lo nt : Nat) (ops : List Oper) : List Oper → List Row → Env → AH → (Env → AH → Option β) → Option β
  | [], _, E, H, k => k E H
  | o :: rest, rows, E, H, k =>
    match rows with
    | [] => none
    | r :: rows =>
      cond (bound nt o.dst)
        (withX (idsAll P E r.apart) fun a => withX (idsAll P E r.own) fun b => need (disjoint a b) (need (cond r.quiet (Nat.ble lo H.next) true)
          (evGuarded P call (cond r.quiet H.next lo) ops E H o fun v H => evOpsD P call lo nt ops rest rows (putE E o.dst v) H k))) none

def evRegion {β : Type} (P : Program) (call : CallF) (lo nt : Nat) (ops : List Oper) (draw : Bool) (E : Env) (H : AH) (k : Env → AH → Option β) : Option β :=
  match draw with
  | true => (match planOf ops (befores ops []) with | ⟨ok, rows⟩ => cond ok (evOpsD P call lo nt ops ops rows E H k) none)
  | false => evOps P call lo nt ops ops E H k

inductive Ex where
  | normal
  | exit (id : Nat)
  | ret

abbrev Ret (σ : Type) := Option (Ex × σ × AH)
abbrev Piece (σ : Type)   := σ → AH → Ret σ

def leafE {σ : Type} (f : σ → AH → (σ → AH → Ret σ) → Ret σ) : Piece σ := fun S H => f S H fun S H => some (.normal, S, H)
def doneE {σ : Type} (e : Ex) : Piece σ := fun S H => some (e, S, H)
def seqE {σ : Type} (f g : Piece σ) : Piece σ := fun S H =>
  Option.rec (motive := fun _ => Ret σ) none (fun p => Ex.casesOn (motive := fun _ => Ret σ) p.1 (g p.2.1 p.2.2) (fun _ => some p) (some p)) (f S H)
def condE {σ : Type} (c : σ → Option Value) (f g : Piece σ) : Piece σ := fun S H =>
  bindV (c S) fun v => match v with
    | .bool t => cond t (f S H) (g S H)
    | _ => none
def blockE {σ : Type} (id : Nat) (f : Piece σ) : Piece σ := fun S H =>
  Option.rec (motive := fun _ => Ret σ) none (fun p => Ex.casesOn (motive := fun _ => Ret σ) p.1 (some p) (fun id' => cond (Nat.beq id' id) (some (.normal, p.2)) (some p)) (some p)) (f S H)
def loopE {σ : Type} (f : Piece σ) (fuel : Nat) : Piece σ :=
  Nat.rec (motive := fun _ => Piece σ) (fun _ _ => none)
    (fun _ ih S H => Option.rec (motive := fun _ => Ret σ) none (fun p => Ex.casesOn (motive := fun _ => Ret σ) p.1 (ih p.2.1 p.2.2) (fun _ => some p) (some p)) (f S H)) fuel

def evCode (P : Program) (call : CallF) (fuel lo nt : Nat) (keep : List Tmp) : Code → Piece (V keep)
  | .skip => doneE .normal
  | .label _ => doneE .normal
  | .ret => doneE .ret
  | .exit id => doneE (.exit id)
  | .region _ ops draw => leafE fun S H k => evRegion P call lo nt ops.toList draw (zipE keep S) H fun E H => k (mkV E keep) H
  | .seq a b => seqE (evCode P call fuel lo nt keep a) (evCode P call fuel lo nt keep b)
  | .cond c a b => condE (fun S => evx P (zipE keep S) c) (evCode P call fuel lo nt keep a) (evCode P call fuel lo nt keep b)
  | .block id c => blockE id (evCode P call fuel lo nt keep c)
  | .loop c => loopE (evCode P call fuel lo nt keep c) fuel
  | .scope c => evCode P call fuel lo nt keep c
  | _ => fun _ _ => none

def evResults {β : Type} (P : Program) (E : Env) (H : AH) : List ResultVar → (List Value → Option β) → Option β
  | [], k => k []
  | .tmp t :: rs, k => withX (lookE E t) fun v => evResults P E H rs fun vs => k (v :: vs)
  | .cell a t :: rs, k => withX (lookE E a) fun a => withX (tyI P t) fun i => bindV (evLoad H i.agg i.size a) fun v => evResults P E H rs fun vs => k (v :: vs)

def oneOf : List Value → Value
  | [v] => v
  | vs => .tuple ⟨vs⟩

def resE {β : Type} (e : Ex) (r : Option β) : Option β := Ex.casesOn (motive := fun _ => Option β) e r (fun _ => none) r

/-- a function's body, and its results -/
def evBody (P : Program) (call : CallF) (fuel lo nt : Nat) (keep : List Tmp) (c : Code) (rs : List ResultVar) (args : List Value) (H : AH) : Option (Value × AH) :=
  bindV (evCode P call fuel lo nt keep c (initV args keep) H) fun p =>
    resE p.1 (evResults P (zipE keep p.2.1) p.2.2 rs fun vs => some (oneOf vs, p.2.2))

/-! What a call leaves: all, or the result alone. -/
inductive Lv where
  | all | pure

def leave (m : Lv) (B : AH) (r : Option (Value × AH)) : Option (Value × AH) :=
  match m with
  | .all => r
  | .pure => bindVH r fun v _ => need (plain v) (some (v, B))

def lowOf (m : Lv) (lo : Nat) (H : AH) : Nat := match m with | .all => lo | .pure => cond (Nat.ble lo H.next) H.next lo

structure Ctx where
  fuel : Nat
  keep : FuncId → List Tmp
  mode : FuncId → Lv

/-- one function -/
def evFn (P : Program) (C : Ctx) (call : CallF) : CallF := fun lo f args H =>
  withX (nth P.funcs.toList f) fun fn => withX fn.body fun c =>
    need (!(fn.name == "runtime.NumGoroutine"))
      (leave (C.mode f) H (evBody P call C.fuel (lowOf (C.mode f) lo H) fn.ntmps (C.keep f) c fn.results.toList args H))

/-- one call: 'd' levels of calls, nothing is written below 'lo' -/
def evCall (P : Program) (C : Ctx) : Nat → CallF
  | 0 => fun _ _ _ _ => none
  | d + 1 => evFn P C (evCall P C d)

/-! The same by a table of functions. -/
abbrev FnF := Nat → List Value → AH → Option (Value × AH)

def tableOf : List (Nat × (CallF → FnF)) → Tr (CallF → FnF) → Tr (CallF → FnF)
  | [], t => t
  | r :: l, t => tableOf l (t.put r.1 (some r.2))

def sCall (P : Program) (C : Ctx) (table : Tr (CallF → FnF)) (d : Nat) : CallF :=
  Nat.rec (motive := fun _ => CallF) (fun _ _ _ _ => none)
    (fun _ ih lo f args H => Option.rec (motive := fun _ => Option (Value × AH)) (evFn P C ih lo f args H) (fun F => F ih lo args H) (table.get f)) d

end
end Go.Ev
