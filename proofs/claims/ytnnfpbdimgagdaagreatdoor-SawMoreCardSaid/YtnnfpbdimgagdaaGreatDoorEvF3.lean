/- Shallow functions, each with the proof that the evaluator is it (printed by wip/ev/gen.lean), part 3.
   Conditions: none. -/
import Derived.Test.YtnnfpbdimgagdaaGreatDoorEvT
namespace Go.Proofs.YtnnfpbdimgagdaaGreatDoor
open Go Go.Ev
set_option maxRecDepth 1000000
set_option linter.unusedVariables false
noncomputable section

/-- (novaculite/saw.plate).heights$2 -/
def C85 (call : CallF) (lo : Nat) : Piece (Value × Value × Value × Value × Value × Value × Value × Value × Value × Value × Value × Value × Unit) :=
  (seqE (leafE fun S H k =>
      bindV (evLoad H false 1 S.2.2.1) fun t10 =>
      bindV (evLoad H false 1 S.2.2.2.1) fun t12 =>
      bindV (evIdxSlice 1 t10 S.1) fun t15 =>
      need (disjoint [idsOf S.2.2.2.1] [idsOf t15]) <|
      bindV (evStore lo H 1 t15 S.2.1) fun H0 =>
      bindV (evIdxSlice 1 t12 S.1) fun t16 =>
      bindV (evStore lo H0 1 t16 (.bool true)) fun H1 =>
      k (S.1, S.2.1, S.2.2.1, S.2.2.2.1, S.2.2.2.2.1, S.2.2.2.2.2.1, S.2.2.2.2.2.2.1, S.2.2.2.2.2.2.2.1, S.2.2.2.2.2.2.2.2.1, S.2.2.2.2.2.2.2.2.2.1, S.2.2.2.2.2.2.2.2.2.2.1, S.2.2.2.2.2.2.2.2.2.2.2.1, ()) H1)
  (seqE (leafE fun S H k =>
      bindV (evShift S.2.2.2.2.1 0) fun t18 =>
      bindV (evLoad H false 1 t18) fun t19 =>
      bindV (evAdd t19 (.int .i64 (.ofNat 1))) fun t20 =>
      bindV (evRem S.1 t20) fun t21 =>
      bindV (evShift S.2.2.2.2.1 0) fun t23 =>
      bindV (evLoad H false 1 t23) fun t24 =>
      bindV (evAdd t24 (.int .i64 (.ofNat 1))) fun t25 =>
      bindV (evQuo S.1 t25) fun t26 =>
      k (S.1, S.2.1, S.2.2.1, S.2.2.2.1, S.2.2.2.2.1, S.2.2.2.2.2.1, t21, t26, S.2.2.2.2.2.2.2.2.1, S.2.2.2.2.2.2.2.2.2.1, S.2.2.2.2.2.2.2.2.2.2.1, S.2.2.2.2.2.2.2.2.2.2.2.1, ()) H)
  (seqE (seqE (leafE fun S H k =>
      bindV (evShift S.2.2.2.2.1 0) fun t28 =>
      bindV (evLoad H false 1 t28) fun t29 =>
      bindV (evLss S.2.2.2.2.2.2.1 t29) fun t30 =>
      k (S.1, S.2.1, S.2.2.1, S.2.2.2.1, S.2.2.2.2.1, S.2.2.2.2.2.1, S.2.2.2.2.2.2.1, S.2.2.2.2.2.2.2.1, t30, S.2.2.2.2.2.2.2.2.2.1, S.2.2.2.2.2.2.2.2.2.2.1, S.2.2.2.2.2.2.2.2.2.2.2.1, ()) H)
  (condE (fun S => some S.2.2.2.2.2.2.2.2.1)
   (leafE fun S H k =>
       bindV (evLoad H false 1 S.2.2.2.2.2.1) fun t31 =>
       bindV (evAdd S.1 (.int .i64 (.ofNat 1))) fun t34 =>
       bindV (evLoad H true 19 S.2.2.2.2.1) fun t37 =>
       need (Nat.ble lo H.next) <|
       bindVH (call H.next 86 [t37, S.1] H) fun t39 H2 =>
       bindV (evAdd S.2.1 t39) fun t40 =>
       callVal call lo t31 [S.1, t34, S.1, (.bool false), t40] H2 fun t41 H3 =>
       k (S.1, S.2.1, S.2.2.1, S.2.2.2.1, S.2.2.2.2.1, S.2.2.2.2.2.1, S.2.2.2.2.2.2.1, S.2.2.2.2.2.2.2.1, S.2.2.2.2.2.2.2.2.1, S.2.2.2.2.2.2.2.2.2.1, S.2.2.2.2.2.2.2.2.2.2.1, S.2.2.2.2.2.2.2.2.2.2.2.1, ()) H3)
   (doneE .normal)))
  (seqE (seqE (leafE fun S H k =>
      bindV (evShift S.2.2.2.2.1 1) fun t43 =>
      bindV (evLoad H false 1 t43) fun t44 =>
      bindV (evLss S.2.2.2.2.2.2.2.1 t44) fun t45 =>
      k (S.1, S.2.1, S.2.2.1, S.2.2.2.1, S.2.2.2.2.1, S.2.2.2.2.2.1, S.2.2.2.2.2.2.1, S.2.2.2.2.2.2.2.1, S.2.2.2.2.2.2.2.2.1, t45, S.2.2.2.2.2.2.2.2.2.2.1, S.2.2.2.2.2.2.2.2.2.2.2.1, ()) H)
  (condE (fun S => some S.2.2.2.2.2.2.2.2.2.1)
   (leafE fun S H k =>
       bindV (evLoad H false 1 S.2.2.2.2.2.1) fun t46 =>
       bindV (evShift S.2.2.2.2.1 0) fun t49 =>
       bindV (evLoad H false 1 t49) fun t50 =>
       bindV (evAdd S.1 t50) fun t51 =>
       bindV (evAdd t51 (.int .i64 (.ofNat 1))) fun t52 =>
       bindV (evLoad H true 19 S.2.2.2.2.1) fun t55 =>
       need (Nat.ble lo H.next) <|
       bindVH (call H.next 86 [t55, S.1] H) fun t57 H4 =>
       bindV (evSub S.2.1 t57) fun t58 =>
       callVal call lo t46 [S.1, t52, S.1, (.bool true), t58] H4 fun t59 H5 =>
       k (S.1, S.2.1, S.2.2.1, S.2.2.2.1, S.2.2.2.2.1, S.2.2.2.2.2.1, S.2.2.2.2.2.2.1, S.2.2.2.2.2.2.2.1, S.2.2.2.2.2.2.2.2.1, S.2.2.2.2.2.2.2.2.2.1, S.2.2.2.2.2.2.2.2.2.2.1, S.2.2.2.2.2.2.2.2.2.2.2.1, ()) H5)
   (doneE .normal)))
  (seqE (seqE (leafE fun S H k =>
      bindV (evGtr S.2.2.2.2.2.2.1 (.int .i64 (.ofNat 0))) fun t61 =>
      k (S.1, S.2.1, S.2.2.1, S.2.2.2.1, S.2.2.2.2.1, S.2.2.2.2.2.1, S.2.2.2.2.2.2.1, S.2.2.2.2.2.2.2.1, S.2.2.2.2.2.2.2.2.1, S.2.2.2.2.2.2.2.2.2.1, t61, S.2.2.2.2.2.2.2.2.2.2.2.1, ()) H)
  (condE (fun S => some S.2.2.2.2.2.2.2.2.2.2.1)
   (leafE fun S H k =>
       bindV (evLoad H false 1 S.2.2.2.2.2.1) fun t62 =>
       bindV (evSub S.1 (.int .i64 (.ofNat 1))) fun t65 =>
       bindV (evSub S.1 (.int .i64 (.ofNat 1))) fun t67 =>
       bindV (evLoad H true 19 S.2.2.2.2.1) fun t69 =>
       bindV (evSub S.1 (.int .i64 (.ofNat 1))) fun t71 =>
       need (Nat.ble lo H.next) <|
       bindVH (call H.next 86 [t69, t71] H) fun t72 H6 =>
       bindV (evSub S.2.1 t72) fun t73 =>
       callVal call lo t62 [S.1, t65, t67, (.bool false), t73] H6 fun t74 H7 =>
       k (S.1, S.2.1, S.2.2.1, S.2.2.2.1, S.2.2.2.2.1, S.2.2.2.2.2.1, S.2.2.2.2.2.2.1, S.2.2.2.2.2.2.2.1, S.2.2.2.2.2.2.2.2.1, S.2.2.2.2.2.2.2.2.2.1, S.2.2.2.2.2.2.2.2.2.2.1, S.2.2.2.2.2.2.2.2.2.2.2.1, ()) H7)
   (doneE .normal)))
  (seqE (leafE fun S H k =>
      bindV (evGtr S.2.2.2.2.2.2.2.1 (.int .i64 (.ofNat 0))) fun t76 =>
      k (S.1, S.2.1, S.2.2.1, S.2.2.2.1, S.2.2.2.2.1, S.2.2.2.2.2.1, S.2.2.2.2.2.2.1, S.2.2.2.2.2.2.2.1, S.2.2.2.2.2.2.2.2.1, S.2.2.2.2.2.2.2.2.2.1, S.2.2.2.2.2.2.2.2.2.2.1, t76, ()) H)
  (condE (fun S => some S.2.2.2.2.2.2.2.2.2.2.2.1)
   (leafE fun S H k =>
       bindV (evLoad H false 1 S.2.2.2.2.2.1) fun t77 =>
       bindV (evShift S.2.2.2.2.1 0) fun t80 =>
       bindV (evLoad H false 1 t80) fun t81 =>
       bindV (evSub S.1 t81) fun t82 =>
       bindV (evSub t82 (.int .i64 (.ofNat 1))) fun t83 =>
       bindV (evShift S.2.2.2.2.1 0) fun t85 =>
       bindV (evLoad H false 1 t85) fun t86 =>
       bindV (evSub S.1 t86) fun t87 =>
       bindV (evSub t87 (.int .i64 (.ofNat 1))) fun t88 =>
       bindV (evLoad H true 19 S.2.2.2.2.1) fun t90 =>
       bindV (evShift S.2.2.2.2.1 0) fun t92 =>
       bindV (evLoad H false 1 t92) fun t93 =>
       bindV (evSub S.1 t93) fun t94 =>
       bindV (evSub t94 (.int .i64 (.ofNat 1))) fun t95 =>
       need (Nat.ble lo H.next) <|
       bindVH (call H.next 86 [t90, t95] H) fun t96 H8 =>
       bindV (evAdd S.2.1 t96) fun t97 =>
       callVal call lo t77 [S.1, t83, t88, (.bool true), t97] H8 fun t98 H9 =>
       k (S.1, S.2.1, S.2.2.1, S.2.2.2.1, S.2.2.2.2.1, S.2.2.2.2.2.1, S.2.2.2.2.2.2.1, S.2.2.2.2.2.2.2.1, S.2.2.2.2.2.2.2.2.1, S.2.2.2.2.2.2.2.2.2.1, S.2.2.2.2.2.2.2.2.2.2.1, S.2.2.2.2.2.2.2.2.2.2.2.1, ()) H9)
   (doneE .normal))))))))

def F85 (call : CallF) (lo : Nat) (args : List Value) (H : AH) : Option (Value × AH) :=
  leave .all H (bindV (C85 call (lowOf .all lo H) (argAt args 0, argAt args 1, argAt args 2, argAt args 3, argAt args 4, argAt args 5, argAt args 8, argAt args 9, argAt args 30, argAt args 45, argAt args 61, argAt args 76, ()) H) fun p => resE p.1 (some (oneOf [], p.2.2)))

theorem F85_eq (call : CallF) (lo : Nat) (args : List Value) (H : AH) : evFn P ctx call lo 85 args H = F85 call lo args H := by kernel_rfl

/-- (novaculite/saw.plate).rise -/
def C86 (call : CallF) (lo : Nat) : Piece (Value × Value × Value × Value × Unit) :=
  (seqE (leafE fun S H k =>
      let t2 := newPtr H
      let H0 := pushBox H 44 S.1
      k (S.1, S.2.1, t2, (.int .i64 (.ofNat 0)), ()) H0)
  (seqE (leafE fun S H k =>
      bindV (evShift S.2.2.1 0) fun t6 =>
      bindV (evLoad H false 1 t6) fun t7 =>
      bindV (evAdd t7 (.int .i64 (.ofNat 1))) fun t8 =>
      bindV (evRem S.2.1 t8) fun t9 =>
      bindV (evShift S.2.2.1 0) fun t11 =>
      bindV (evLoad H false 1 t11) fun t12 =>
      bindV (evAdd t12 (.int .i64 (.ofNat 1))) fun t13 =>
      bindV (evQuo S.2.1 t13) fun t14 =>
      bindV (evAdd t9 t14) fun t15 =>
      bindV (evRem t15 (.int .i64 (.ofNat 2))) fun t16 =>
      bindV (evMul (.int .i64 (.ofNat 2)) t16) fun t17 =>
      bindV (evSub (.int .i64 (.ofNat 1)) t17) fun t18 =>
      k (S.1, S.2.1, S.2.2.1, t18, ()) H)
  (doneE .ret)))

def F86 (call : CallF) (lo : Nat) (args : List Value) (H : AH) : Option (Value × AH) :=
  leave .all H (bindV (C86 call (lowOf .all lo H) (argAt args 0, argAt args 1, argAt args 2, argAt args 4, ()) H) fun p => resE p.1 (some (oneOf [p.2.1.2.2.2.1], p.2.2)))

theorem F86_eq (call : CallF) (lo : Nat) (args : List Value) (H : AH) : evFn P ctx call lo 86 args H = F86 call lo args H := by kernel_rfl

/-- slices.Index[[][2]int,[2]int] -/
def C87 (call : CallF) (lo : Nat) : Piece (Value × Value × Value × Value × Value × Value × Value × Value × Value × Unit) :=
  (seqE (leafE fun S H k =>
      let t3 := newPtr H
      let H0 := pushBox H 77 S.2.1
      k (S.1, S.2.1, t3, (.int .i64 (.ofNat 0)), S.2.2.2.2.1, S.2.2.2.2.2.1, S.2.2.2.2.2.2.1, S.2.2.2.2.2.2.2.1, S.2.2.2.2.2.2.2.2.1, ()) H0)
  (seqE (seqE (leafE fun S H k =>
      bindV (evLenS S.1) fun t7 =>
      k (S.1, S.2.1, S.2.2.1, S.2.2.2.1, S.2.2.2.2.1, t7, (.int .i64 (.ofNat 0)), S.2.2.2.2.2.2.2.1, S.2.2.2.2.2.2.2.2.1, ()) H)
  (blockE 0 (loopE (seqE (leafE fun S H k =>
        bindV (evLss S.2.2.2.2.2.2.1 S.2.2.2.2.2.1) fun t9 =>
        k (S.1, S.2.1, S.2.2.1, S.2.2.2.1, S.2.2.2.2.1, S.2.2.2.2.2.1, S.2.2.2.2.2.2.1, t9, S.2.2.2.2.2.2.2.2.1, ()) H)
    (seqE (condE (fun S => some S.2.2.2.2.2.2.2.1)
     (doneE .normal)
     (doneE (.exit 0)))
    (seqE (blockE 1 (seqE (leafE fun S H k =>
         k (S.1, S.2.1, S.2.2.1, S.2.2.2.1, S.2.2.2.2.2.2.1, S.2.2.2.2.2.1, S.2.2.2.2.2.2.1, S.2.2.2.2.2.2.2.1, S.2.2.2.2.2.2.2.2.1, ()) H)
     (seqE (leafE fun S H k =>
         bindV (evLoad H true 2 S.2.2.1) fun t11 =>
         bindV (evIdxSlice 2 S.1 S.2.2.2.2.1) fun t14 =>
         bindV (evLoad H true 2 t14) fun t15 =>
         bindV (evEql (.ints 2) t11 t15) fun t16 =>
         k (S.1, S.2.1, S.2.2.1, S.2.2.2.1, S.2.2.2.2.1, S.2.2.2.2.2.1, S.2.2.2.2.2.2.1, S.2.2.2.2.2.2.2.1, t16, ()) H)
     (condE (fun S => some S.2.2.2.2.2.2.2.2.1)
      (seqE (leafE fun S H k =>
          k (S.1, S.2.1, S.2.2.1, S.2.2.2.2.1, S.2.2.2.2.1, S.2.2.2.2.2.1, S.2.2.2.2.2.2.1, S.2.2.2.2.2.2.2.1, S.2.2.2.2.2.2.2.2.1, ()) H)
      (doneE .ret))
      (doneE .normal)))))
    (leafE fun S H k =>
        bindV (evAdd S.2.2.2.2.2.2.1 (.int .i64 (.ofNat 1))) fun t18 =>
        k (S.1, S.2.1, S.2.2.1, S.2.2.2.1, S.2.2.2.2.1, S.2.2.2.2.2.1, t18, S.2.2.2.2.2.2.2.1, S.2.2.2.2.2.2.2.2.1, ()) H)))) fuel)))
  (seqE (leafE fun S H k =>
      k (S.1, S.2.1, S.2.2.1, (.int .i64 (.negSucc 0)), S.2.2.2.2.1, S.2.2.2.2.2.1, S.2.2.2.2.2.2.1, S.2.2.2.2.2.2.2.1, S.2.2.2.2.2.2.2.2.1, ()) H)
  (doneE .ret))))

def F87 (call : CallF) (lo : Nat) (args : List Value) (H : AH) : Option (Value × AH) :=
  leave .all H (bindV (C87 call (lowOf .all lo H) (argAt args 0, argAt args 1, argAt args 3, argAt args 4, argAt args 5, argAt args 7, argAt args 8, argAt args 9, argAt args 16, ()) H) fun p => resE p.1 (some (oneOf [p.2.1.2.2.2.1], p.2.2)))

theorem F87_eq (call : CallF) (lo : Nat) (args : List Value) (H : AH) : evFn P ctx call lo 87 args H = F87 call lo args H := by kernel_rfl

/-- slices.Clone[[][2]int,[2]int] -/
def C88 (call : CallF) (lo : Nat) : Piece (Value × Value × Value × Unit) :=
  (seqE (leafE fun S H k =>
      k (S.1, (.slice none 0 0), S.2.2.1, ()) H)
  (seqE (seqE (leafE fun S H k =>
      bindV (evEql .slice S.1 (.slice none 0 0)) fun t4 =>
      k (S.1, S.2.1, t4, ()) H)
  (condE (fun S => some S.2.2.1)
   (seqE (leafE fun S H k =>
       k (S.1, (.slice none 0 0), S.2.2.1, ()) H)
   (doneE .ret))
   (doneE .normal)))
  (seqE (leafE fun S H k =>
      bindV (evFill [] (zeros (cellsOf z77) 0)) fun c0 =>
      let t5 := newSlice H 0 0
      let H1 := H.push (.cells (Nat.mul 0 2) c0 77)
      bindVH (evAppend lo H1 77 2 16 t5 S.1) fun t7 H2 =>
      k (S.1, t7, S.2.2.1, ()) H2)
  (doneE .ret))))

def F88 (call : CallF) (lo : Nat) (args : List Value) (H : AH) : Option (Value × AH) :=
  leave .all H (bindV (C88 call (lowOf .all lo H) (argAt args 0, argAt args 2, argAt args 4, ()) H) fun p => resE p.1 (some (oneOf [p.2.1.2.1], p.2.2)))

theorem F88_eq (call : CallF) (lo : Nat) (args : List Value) (H : AH) : evFn P ctx call lo 88 args H = F88 call lo args H := by kernel_rfl

/-- slices.SortFunc[[][2]int,[2]int] -/
def C89 (call : CallF) (lo : Nat) : Piece (Value × Value × Value × Unit) :=
  (seqE (leafE fun S H k =>
      bindV (evLenS S.1) fun t6 =>
      k (S.1, S.2.1, t6, ()) H)
  (leafE fun S H k =>
      bindV (evConv .u64 S.2.2.1) fun t10 =>
      bindVH (call lo 39 [t10] H) fun t11 H0 =>
      bindVH (call lo 104 [S.1, (.int .i64 (.ofNat 0)), S.2.2.1, t11, S.2.1] H0) fun t13 H1 =>
      k (S.1, S.2.1, S.2.2.1, ()) H1))

def F89 (call : CallF) (lo : Nat) (args : List Value) (H : AH) : Option (Value × AH) :=
  leave .all H (bindV (C89 call (lowOf .all lo H) (argAt args 0, argAt args 1, argAt args 4, ()) H) fun p => resE p.1 (some (oneOf [], p.2.2)))

theorem F89_eq (call : CallF) (lo : Nat) (args : List Value) (H : AH) : evFn P ctx call lo 89 args H = F89 call lo args H := by kernel_rfl

/-- (novaculite/saw.plate).turned$1 -/
def C90 (call : CallF) (lo : Nat) : Piece (Value × Value × Value × Value × Value × Unit) :=
  (seqE (leafE fun S H k =>
      let t2 := newPtr H
      let H0 := pushBox H 77 S.1
      let t3 := newPtr H0
      let H1 := pushBox H0 77 S.2.1
      k (S.1, S.2.1, t2, t3, (.int .i64 (.ofNat 0)), ()) H1)
  (seqE (leafE fun S H k =>
      bindV (evCutArr 1 2 S.2.2.1 none none none) fun t5 =>
      bindV (evCutArr 1 2 S.2.2.2.1 none none none) fun t6 =>
      bindVH (call lo 79 [t5, t6] H) fun t7 H2 =>
      k (S.1, S.2.1, S.2.2.1, S.2.2.2.1, t7, ()) H2)
  (doneE .ret)))

def F90 (call : CallF) (lo : Nat) (args : List Value) (H : AH) : Option (Value × AH) :=
  leave .all H (bindV (C90 call (lowOf .all lo H) (argAt args 0, argAt args 1, argAt args 2, argAt args 3, argAt args 4, ()) H) fun p => resE p.1 (some (oneOf [p.2.1.2.2.2.2.1], p.2.2)))

theorem F90_eq (call : CallF) (lo : Nat) (args : List Value) (H : AH) : evFn P ctx call lo 90 args H = F90 call lo args H := by kernel_rfl

/-- math/bits.OnesCount -/
def C91 (call : CallF) (lo : Nat) : Piece (Value × Value × Unit) :=
  (seqE (leafE fun S H k =>
      k (S.1, (.int .i64 (.ofNat 0)), ()) H)
  (seqE (condE (fun S => some (.bool false))
   (seqE (leafE fun S H k =>
       bindV (evConv .u32 S.1) fun t4 =>
       bindVH (call lo 105 [t4] H) fun t5 H0 =>
       k (S.1, t5, ()) H0)
   (doneE .ret))
   (doneE .normal))
  (seqE (leafE fun S H k =>
      bindVH (call lo 106 [S.1] H) fun t7 H1 =>
      k (S.1, t7, ()) H1)
  (doneE .ret))))

def F91 (call : CallF) (lo : Nat) (args : List Value) (H : AH) : Option (Value × AH) :=
  leave .all H (bindV (C91 call (lowOf .all lo H) (argAt args 0, argAt args 2, ()) H) fun p => resE p.1 (some (oneOf [p.2.1.2.1], p.2.2)))

theorem F91_eq (call : CallF) (lo : Nat) (args : List Value) (H : AH) : evFn P ctx call lo 91 args H = F91 call lo args H := by kernel_rfl

/-- (novaculite/saw.plate).read -/
def C92 (call : CallF) (lo : Nat) : Piece (Value × Value × Value × Value × Value × Value × Value × Value × Value × Value × Value × Value × Value × Value × Value × Unit) :=
  (seqE (leafE fun S H k =>
      let t2 := newPtr H
      let H0 := pushBox H 44 S.1
      k (S.1, S.2.1, t2, (.slice none 0 0), S.2.2.2.2.1, S.2.2.2.2.2.1, S.2.2.2.2.2.2.1, S.2.2.2.2.2.2.2.1, S.2.2.2.2.2.2.2.2.1, S.2.2.2.2.2.2.2.2.2.1, S.2.2.2.2.2.2.2.2.2.2.1, S.2.2.2.2.2.2.2.2.2.2.2.1, S.2.2.2.2.2.2.2.2.2.2.2.2.1, S.2.2.2.2.2.2.2.2.2.2.2.2.2.1, S.2.2.2.2.2.2.2.2.2.2.2.2.2.2.1, ()) H0)
  (seqE (leafE fun S H k =>
      k (S.1, S.2.1, S.2.2.1, S.2.2.2.1, (.slice none 0 0), S.2.2.2.2.2.1, S.2.2.2.2.2.2.1, S.2.2.2.2.2.2.2.1, S.2.2.2.2.2.2.2.2.1, S.2.2.2.2.2.2.2.2.2.1, S.2.2.2.2.2.2.2.2.2.2.1, S.2.2.2.2.2.2.2.2.2.2.2.1, S.2.2.2.2.2.2.2.2.2.2.2.2.1, S.2.2.2.2.2.2.2.2.2.2.2.2.2.1, S.2.2.2.2.2.2.2.2.2.2.2.2.2.2.1, ()) H)
  (seqE (seqE (leafE fun S H k =>
      bindV (evShift S.2.2.1 2) fun t11 =>
      bindV (evLoad H false 1 t11) fun t12 =>
      bindVH (call lo 41 [t12] H) fun t13 H1 =>
      bindV (evLenS t13) fun t14 =>
      k (S.1, S.2.1, S.2.2.1, S.2.2.2.1, S.2.2.2.2.1, S.2.2.2.2.2.1, S.2.2.2.2.2.2.1, S.2.2.2.2.2.2.2.1, S.2.2.2.2.2.2.2.2.1, t13, t14, (.int .i64 (.ofNat 0)), S.2.2.2.2.2.2.2.2.2.2.2.2.1, S.2.2.2.2.2.2.2.2.2.2.2.2.2.1, S.2.2.2.2.2.2.2.2.2.2.2.2.2.2.1, ()) H1)
  (blockE 0 (loopE (seqE (leafE fun S H k =>
        bindV (evLss S.2.2.2.2.2.2.2.2.2.2.2.1 S.2.2.2.2.2.2.2.2.2.2.1) fun t16 =>
        k (S.1, S.2.1, S.2.2.1, S.2.2.2.1, S.2.2.2.2.1, S.2.2.2.2.2.1, S.2.2.2.2.2.2.1, S.2.2.2.2.2.2.2.1, S.2.2.2.2.2.2.2.2.1, S.2.2.2.2.2.2.2.2.2.1, S.2.2.2.2.2.2.2.2.2.2.1, S.2.2.2.2.2.2.2.2.2.2.2.1, t16, S.2.2.2.2.2.2.2.2.2.2.2.2.2.1, S.2.2.2.2.2.2.2.2.2.2.2.2.2.2.1, ()) H)
    (seqE (condE (fun S => some S.2.2.2.2.2.2.2.2.2.2.2.2.1)
     (doneE .normal)
     (doneE (.exit 0)))
    (seqE (blockE 1 (seqE (leafE fun S H k =>
         bindV (evIdxSlice 1 S.2.2.2.2.2.2.2.2.2.1 S.2.2.2.2.2.2.2.2.2.2.2.1) fun t17 =>
         bindV (evLoad H false 1 t17) fun t18 =>
         k (S.1, S.2.1, S.2.2.1, S.2.2.2.1, S.2.2.2.2.1, t18, S.2.2.2.2.2.2.1, S.2.2.2.2.2.2.2.1, S.2.2.2.2.2.2.2.2.1, S.2.2.2.2.2.2.2.2.2.1, S.2.2.2.2.2.2.2.2.2.2.1, S.2.2.2.2.2.2.2.2.2.2.2.1, S.2.2.2.2.2.2.2.2.2.2.2.2.1, S.2.2.2.2.2.2.2.2.2.2.2.2.2.1, S.2.2.2.2.2.2.2.2.2.2.2.2.2.2.1, ()) H)
     (seqE (leafE fun S H k =>
         bindV (evShift S.2.2.1 0) fun t20 =>
         bindV (evLoad H false 1 t20) fun t21 =>
         bindV (evQuo S.2.2.2.2.2.1 t21) fun t22 =>
         bindV (evAdd t22 (.int .i64 (.ofNat 1))) fun t23 =>
         bindV (evShift S.2.2.1 0) fun t24 =>
         bindV (evLoad H false 1 t24) fun t25 =>
         bindV (evAdd t25 (.int .i64 (.ofNat 1))) fun t26 =>
         bindV (evMul t23 t26) fun t27 =>
         bindV (evShift S.2.2.1 0) fun t29 =>
         bindV (evLoad H false 1 t29) fun t30 =>
         bindV (evRem S.2.2.2.2.2.1 t30) fun t31 =>
         bindV (evAdd t27 t31) fun t32 =>
         bindV (evAdd t32 (.int .i64 (.ofNat 1))) fun t33 =>
         k (S.1, S.2.1, S.2.2.1, S.2.2.2.1, S.2.2.2.2.1, S.2.2.2.2.2.1, t33, S.2.2.2.2.2.2.2.1, S.2.2.2.2.2.2.2.2.1, S.2.2.2.2.2.2.2.2.2.1, S.2.2.2.2.2.2.2.2.2.2.1, S.2.2.2.2.2.2.2.2.2.2.2.1, S.2.2.2.2.2.2.2.2.2.2.2.2.1, S.2.2.2.2.2.2.2.2.2.2.2.2.2.1, S.2.2.2.2.2.2.2.2.2.2.2.2.2.2.1, ()) H)
     (seqE (leafE fun S H k =>
         bindV (evIdxSlice 1 S.2.1 S.2.2.2.2.2.2.1) fun t36 =>
         bindV (evLoad H false 1 t36) fun t37 =>
         bindV (evShift S.2.2.1 0) fun t40 =>
         bindV (evLoad H false 1 t40) fun t41 =>
         bindV (evSub S.2.2.2.2.2.2.1 t41) fun t42 =>
         bindV (evSub t42 (.int .i64 (.ofNat 1))) fun t43 =>
         bindV (evIdxSlice 1 S.2.1 t43) fun t44 =>
         bindV (evLoad H false 1 t44) fun t45 =>
         bindV (evSub t37 t45) fun t46 =>
         bindV (evIdxSlice 1 S.2.1 S.2.2.2.2.2.2.1) fun t49 =>
         bindV (evLoad H false 1 t49) fun t50 =>
         bindV (evSub S.2.2.2.2.2.2.1 (.int .i64 (.ofNat 1))) fun t53 =>
         bindV (evIdxSlice 1 S.2.1 t53) fun t54 =>
         bindV (evLoad H false 1 t54) fun t55 =>
         bindV (evSub t50 t55) fun t56 =>
         k (S.1, S.2.1, S.2.2.1, S.2.2.2.1, S.2.2.2.2.1, S.2.2.2.2.2.1, S.2.2.2.2.2.2.1, t46, t56, S.2.2.2.2.2.2.2.2.2.1, S.2.2.2.2.2.2.2.2.2.2.1, S.2.2.2.2.2.2.2.2.2.2.2.1, S.2.2.2.2.2.2.2.2.2.2.2.2.1, S.2.2.2.2.2.2.2.2.2.2.2.2.2.1, S.2.2.2.2.2.2.2.2.2.2.2.2.2.2.1, ()) H)
     (seqE (seqE (leafE fun S H k =>
         bindV (evShift S.2.2.1 3) fun t58 =>
         bindV (evIdxArr 16 1 t58 S.2.2.2.2.2.1) fun t59 =>
         bindV (evLoad H false 1 t59) fun t60 =>
         bindV (evAdd S.2.2.2.2.2.1 (.int .i64 (.ofNat 1))) fun t62 =>
         bindV (evShr t60 t62) fun t63 =>
         bindV (evAnd t63 (.int .u64 (.ofNat 1))) fun t64 =>
         bindV (evEql .int t64 (.int .u64 (.ofNat 1))) fun t65 =>
         guarded t65 true ( pairVH S.2.2.2.2.2.1 H) H fun t67 H2 =>
         guarded t65 true (bindV (evShift S.2.2.1 0) fun t1000000 => pairVH t1000000 H2) H2 fun t68 H3 =>
         guarded t65 true (bindV (evLoad H3 false 1 t68) fun t1000000 => pairVH t1000000 H3) H3 fun t69 H4 =>
         guarded t65 true (bindV (evRem t67 t69) fun t1000000 => pairVH t1000000 H4) H4 fun t70 H5 =>
         guarded t65 true (bindV (evShift S.2.2.1 0) fun t1000000 => pairVH t1000000 H5) H5 fun t71 H6 =>
         guarded t65 true (bindV (evLoad H6 false 1 t71) fun t1000000 => pairVH t1000000 H6) H6 fun t72 H7 =>
         guarded t65 true (bindV (evSub t72 (.int .i64 (.ofNat 1))) fun t1000000 => pairVH t1000000 H7) H7 fun t73 H8 =>
         guarded t65 true (bindV (evLss t70 t73) fun t1000000 => pairVH t1000000 H8) H8 fun t74 H9 =>
         bindV (evPick t65 t74 (.bool false)) fun t75 =>
         guarded t75 true ( pairVH S.2.2.2.2.2.2.2.1 H9) H9 fun t77 H10 =>
         guarded t75 true ( pairVH S.2.2.2.2.2.2.2.1 H10) H10 fun t78 H11 =>
         guarded t75 true (bindV (evMul t77 t78) fun t1000000 => pairVH t1000000 H11) H11 fun t79 H12 =>
         guarded t75 true (bindV (evGtr t79 (.int .i64 (.ofNat 1))) fun t1000000 => pairVH t1000000 H12) H12 fun t80 H13 =>
         bindV (evPick t75 t80 (.bool false)) fun t81 =>
         k (S.1, S.2.1, S.2.2.1, S.2.2.2.1, S.2.2.2.2.1, S.2.2.2.2.2.1, S.2.2.2.2.2.2.1, S.2.2.2.2.2.2.2.1, S.2.2.2.2.2.2.2.2.1, S.2.2.2.2.2.2.2.2.2.1, S.2.2.2.2.2.2.2.2.2.2.1, S.2.2.2.2.2.2.2.2.2.2.2.1, S.2.2.2.2.2.2.2.2.2.2.2.2.1, t81, S.2.2.2.2.2.2.2.2.2.2.2.2.2.2.1, ()) H13)
     (condE (fun S => some S.2.2.2.2.2.2.2.2.2.2.2.2.2.1)
      (leafE fun S H k =>
          bindV (evAdd S.2.2.2.2.2.1 (.int .i64 (.ofNat 1))) fun t85 =>
          bindV (evAgg [(0, 1, S.2.2.2.2.2.1), (1, 1, t85)] (cellsOf z77)) fun t86 =>
          bindV (evFill [(0, 2, t86)] (zeros (cellsOf z77) 1)) fun c14 =>
          let t87 := newSlice H 1 1
          let H15 := H.push (.cells (Nat.mul 1 2) c14 77)
          bindVH (evAppend lo H15 77 2 16 S.2.2.2.2.1 t87) fun t88 H16 =>
          k (S.1, S.2.1, S.2.2.1, S.2.2.2.1, t88, S.2.2.2.2.2.1, S.2.2.2.2.2.2.1, S.2.2.2.2.2.2.2.1, S.2.2.2.2.2.2.2.2.1, S.2.2.2.2.2.2.2.2.2.1, S.2.2.2.2.2.2.2.2.2.2.1, S.2.2.2.2.2.2.2.2.2.2.2.1, S.2.2.2.2.2.2.2.2.2.2.2.2.1, S.2.2.2.2.2.2.2.2.2.2.2.2.2.1, S.2.2.2.2.2.2.2.2.2.2.2.2.2.2.1, ()) H16)
      (doneE .normal)))
     (seqE (leafE fun S H k =>
         bindV (evShift S.2.2.1 3) fun t90 =>
         bindV (evIdxArr 16 1 t90 S.2.2.2.2.2.1) fun t91 =>
         bindV (evLoad H false 1 t91) fun t92 =>
         bindV (evShift S.2.2.1 0) fun t94 =>
         bindV (evLoad H false 1 t94) fun t95 =>
         bindV (evAdd S.2.2.2.2.2.1 t95) fun t96 =>
         bindV (evShr t92 t96) fun t97 =>
         bindV (evAnd t97 (.int .u64 (.ofNat 1))) fun t98 =>
         bindV (evEql .int t98 (.int .u64 (.ofNat 1))) fun t99 =>
         guarded t99 true ( pairVH S.2.2.2.2.2.2.2.2.1 H) H fun t101 H17 =>
         guarded t99 true ( pairVH S.2.2.2.2.2.2.2.2.1 H17) H17 fun t102 H18 =>
         guarded t99 true (bindV (evMul t101 t102) fun t1000000 => pairVH t1000000 H18) H18 fun t103 H19 =>
         guarded t99 true (bindV (evGtr t103 (.int .i64 (.ofNat 1))) fun t1000000 => pairVH t1000000 H19) H19 fun t104 H20 =>
         bindV (evPick t99 t104 (.bool false)) fun t105 =>
         k (S.1, S.2.1, S.2.2.1, S.2.2.2.1, S.2.2.2.2.1, S.2.2.2.2.2.1, S.2.2.2.2.2.2.1, S.2.2.2.2.2.2.2.1, S.2.2.2.2.2.2.2.2.1, S.2.2.2.2.2.2.2.2.2.1, S.2.2.2.2.2.2.2.2.2.2.1, S.2.2.2.2.2.2.2.2.2.2.2.1, S.2.2.2.2.2.2.2.2.2.2.2.2.1, S.2.2.2.2.2.2.2.2.2.2.2.2.2.1, t105, ()) H20)
     (condE (fun S => some S.2.2.2.2.2.2.2.2.2.2.2.2.2.2.1)
      (leafE fun S H k =>
          bindV (evShift S.2.2.1 0) fun t109 =>
          bindV (evLoad H false 1 t109) fun t110 =>
          bindV (evAdd S.2.2.2.2.2.1 t110) fun t111 =>
          bindV (evAgg [(0, 1, S.2.2.2.2.2.1), (1, 1, t111)] (cellsOf z77)) fun t112 =>
          bindV (evFill [(0, 2, t112)] (zeros (cellsOf z77) 1)) fun c21 =>
          let t113 := newSlice H 1 1
          let H22 := H.push (.cells (Nat.mul 1 2) c21 77)
          bindVH (evAppend lo H22 77 2 16 S.2.2.2.2.1 t113) fun t114 H23 =>
          k (S.1, S.2.1, S.2.2.1, S.2.2.2.1, t114, S.2.2.2.2.2.1, S.2.2.2.2.2.2.1, S.2.2.2.2.2.2.2.1, S.2.2.2.2.2.2.2.2.1, S.2.2.2.2.2.2.2.2.2.1, S.2.2.2.2.2.2.2.2.2.2.1, S.2.2.2.2.2.2.2.2.2.2.2.1, S.2.2.2.2.2.2.2.2.2.2.2.2.1, S.2.2.2.2.2.2.2.2.2.2.2.2.2.1, S.2.2.2.2.2.2.2.2.2.2.2.2.2.2.1, ()) H23)
      (doneE .normal))))))))
    (leafE fun S H k =>
        bindV (evAdd S.2.2.2.2.2.2.2.2.2.2.2.1 (.int .i64 (.ofNat 1))) fun t115 =>
        k (S.1, S.2.1, S.2.2.1, S.2.2.2.1, S.2.2.2.2.1, S.2.2.2.2.2.1, S.2.2.2.2.2.2.1, S.2.2.2.2.2.2.2.1, S.2.2.2.2.2.2.2.2.1, S.2.2.2.2.2.2.2.2.2.1, S.2.2.2.2.2.2.2.2.2.2.1, t115, S.2.2.2.2.2.2.2.2.2.2.2.2.1, S.2.2.2.2.2.2.2.2.2.2.2.2.2.1, S.2.2.2.2.2.2.2.2.2.2.2.2.2.2.1, ()) H)))) fuel)))
  (seqE (leafE fun S H k =>
      k (S.1, S.2.1, S.2.2.1, S.2.2.2.2.1, S.2.2.2.2.1, S.2.2.2.2.2.1, S.2.2.2.2.2.2.1, S.2.2.2.2.2.2.2.1, S.2.2.2.2.2.2.2.2.1, S.2.2.2.2.2.2.2.2.2.1, S.2.2.2.2.2.2.2.2.2.2.1, S.2.2.2.2.2.2.2.2.2.2.2.1, S.2.2.2.2.2.2.2.2.2.2.2.2.1, S.2.2.2.2.2.2.2.2.2.2.2.2.2.1, S.2.2.2.2.2.2.2.2.2.2.2.2.2.2.1, ()) H)
  (doneE .ret)))))

def F92 (call : CallF) (lo : Nat) (args : List Value) (H : AH) : Option (Value × AH) :=
  leave .all H (bindV (C92 call (lowOf .all lo H) (argAt args 0, argAt args 1, argAt args 2, argAt args 4, argAt args 5, argAt args 7, argAt args 8, argAt args 9, argAt args 10, argAt args 13, argAt args 14, argAt args 15, argAt args 16, argAt args 81, argAt args 105, ()) H) fun p => resE p.1 (some (oneOf [p.2.1.2.2.2.1], p.2.2)))

theorem F92_eq (call : CallF) (lo : Nat) (args : List Value) (H : AH) : evFn P ctx call lo 92 args H = F92 call lo args H := by kernel_rfl

/-- slices.siftDownOrdered[int] -/
def C93 (call : CallF) (lo : Nat) : Piece (Value × Value × Value × Value × Value × Value × Value × Value × Value × Unit) :=
  (seqE (leafE fun S H k =>
      k (S.1, S.2.1, S.2.2.1, S.2.2.2.1, S.2.1, S.2.2.2.2.2.1, S.2.2.2.2.2.2.1, S.2.2.2.2.2.2.2.1, S.2.2.2.2.2.2.2.2.1, ()) H)
  (blockE 0 (loopE (blockE 1 (seqE (leafE fun S H k =>
         bindV (evMul (.int .i64 (.ofNat 2)) S.2.2.2.2.1) fun t12 =>
         bindV (evAdd t12 (.int .i64 (.ofNat 1))) fun t13 =>
         k (S.1, S.2.1, S.2.2.1, S.2.2.2.1, S.2.2.2.2.1, t13, S.2.2.2.2.2.2.1, S.2.2.2.2.2.2.2.1, S.2.2.2.2.2.2.2.2.1, ()) H)
     (seqE (seqE (leafE fun S H k =>
         bindV (evGeq S.2.2.2.2.2.1 S.2.2.1) fun t16 =>
         k (S.1, S.2.1, S.2.2.1, S.2.2.2.1, S.2.2.2.2.1, S.2.2.2.2.2.1, t16, S.2.2.2.2.2.2.2.1, S.2.2.2.2.2.2.2.2.1, ()) H)
     (condE (fun S => some S.2.2.2.2.2.2.1)
      (doneE (.exit 0))
      (doneE .normal)))
     (seqE (seqE (leafE fun S H k =>
         bindV (evAdd S.2.2.2.2.2.1 (.int .i64 (.ofNat 1))) fun t18 =>
         bindV (evLss t18 S.2.2.1) fun t20 =>
         guarded t20 true ( pairVH S.1 H) H fun t22 H0 =>
         guarded t20 true ( pairVH S.2.2.2.1 H0) H0 fun t23 H1 =>
         guarded t20 true ( pairVH S.2.2.2.2.2.1 H1) H1 fun t24 H2 =>
         guarded t20 true (bindV (evAdd t23 t24) fun t1000000 => pairVH t1000000 H2) H2 fun t25 H3 =>
         guarded t20 true (bindV (evIdxSlice 1 t22 t25) fun t1000000 => pairVH t1000000 H3) H3 fun t26 H4 =>
         guarded t20 true (bindV (evLoad H4 false 1 t26) fun t1000000 => pairVH t1000000 H4) H4 fun t27 H5 =>
         guarded t20 true ( pairVH S.1 H5) H5 fun t28 H6 =>
         guarded t20 true ( pairVH S.2.2.2.1 H6) H6 fun t29 H7 =>
         guarded t20 true ( pairVH S.2.2.2.2.2.1 H7) H7 fun t30 H8 =>
         guarded t20 true (bindV (evAdd t29 t30) fun t1000000 => pairVH t1000000 H8) H8 fun t31 H9 =>
         guarded t20 true (bindV (evAdd t31 (.int .i64 (.ofNat 1))) fun t1000000 => pairVH t1000000 H9) H9 fun t32 H10 =>
         guarded t20 true (bindV (evIdxSlice 1 t28 t32) fun t1000000 => pairVH t1000000 H10) H10 fun t33 H11 =>
         guarded t20 true (bindV (evLoad H11 false 1 t33) fun t1000000 => pairVH t1000000 H11) H11 fun t34 H12 =>
         guarded t20 true (bindVH (call lo 68 [t27, t34] H12) fun t1000000 H13 => pairVH t1000000 H13) H12 fun t35 H14 =>
         bindV (evPick t20 t35 (.bool false)) fun t36 =>
         k (S.1, S.2.1, S.2.2.1, S.2.2.2.1, S.2.2.2.2.1, S.2.2.2.2.2.1, S.2.2.2.2.2.2.1, t36, S.2.2.2.2.2.2.2.2.1, ()) H14)
     (condE (fun S => some S.2.2.2.2.2.2.2.1)
      (leafE fun S H k =>
          bindV (evAdd S.2.2.2.2.2.1 (.int .i64 (.ofNat 1))) fun t38 =>
          k (S.1, S.2.1, S.2.2.1, S.2.2.2.1, S.2.2.2.2.1, t38, S.2.2.2.2.2.2.1, S.2.2.2.2.2.2.2.1, S.2.2.2.2.2.2.2.2.1, ()) H)
      (doneE .normal)))
     (seqE (seqE (leafE fun S H k =>
         bindV (evAdd S.2.2.2.1 S.2.2.2.2.1) fun t42 =>
         bindV (evIdxSlice 1 S.1 t42) fun t43 =>
         bindV (evLoad H false 1 t43) fun t44 =>
         bindV (evAdd S.2.2.2.1 S.2.2.2.2.2.1) fun t48 =>
         bindV (evIdxSlice 1 S.1 t48) fun t49 =>
         bindV (evLoad H false 1 t49) fun t50 =>
         bindVH (call lo 68 [t44, t50] H) fun t51 H15 =>
         bindV (evNot t51) fun t52 =>
         k (S.1, S.2.1, S.2.2.1, S.2.2.2.1, S.2.2.2.2.1, S.2.2.2.2.2.1, S.2.2.2.2.2.2.1, S.2.2.2.2.2.2.2.1, t52, ()) H15)
     (condE (fun S => some S.2.2.2.2.2.2.2.2.1)
      (doneE .ret)
      (doneE .normal)))
     (seqE (leafE fun S H k =>
         bindV (evAdd S.2.2.2.1 S.2.2.2.2.1) fun t56 =>
         bindV (evAdd S.2.2.2.1 S.2.2.2.2.2.1) fun t60 =>
         bindV (evAdd S.2.2.2.1 S.2.2.2.2.2.1) fun t64 =>
         bindV (evIdxSlice 1 S.1 t64) fun t65 =>
         bindV (evLoad H false 1 t65) fun t66 =>
         bindV (evAdd S.2.2.2.1 S.2.2.2.2.1) fun t70 =>
         bindV (evIdxSlice 1 S.1 t70) fun t71 =>
         bindV (evLoad H false 1 t71) fun t72 =>
         bindV (evIdxSlice 1 S.1 t56) fun t73 =>
         bindV (evStore lo H 1 t73 t66) fun H16 =>
         bindV (evIdxSlice 1 S.1 t60) fun t74 =>
         bindV (evStore lo H16 1 t74 t72) fun H17 =>
         k (S.1, S.2.1, S.2.2.1, S.2.2.2.1, S.2.2.2.2.1, S.2.2.2.2.2.1, S.2.2.2.2.2.2.1, S.2.2.2.2.2.2.2.1, S.2.2.2.2.2.2.2.2.1, ()) H17)
     (leafE fun S H k =>
         k (S.1, S.2.1, S.2.2.1, S.2.2.2.1, S.2.2.2.2.2.1, S.2.2.2.2.2.1, S.2.2.2.2.2.2.1, S.2.2.2.2.2.2.2.1, S.2.2.2.2.2.2.2.2.1, ()) H))))))) fuel)))

def F93 (call : CallF) (lo : Nat) (args : List Value) (H : AH) : Option (Value × AH) :=
  leave .all H (bindV (C93 call (lowOf .all lo H) (argAt args 0, argAt args 1, argAt args 2, argAt args 3, argAt args 8, argAt args 9, argAt args 16, argAt args 36, argAt args 52, ()) H) fun p => resE p.1 (some (oneOf [], p.2.2)))

theorem F93_eq (call : CallF) (lo : Nat) (args : List Value) (H : AH) : evFn P ctx call lo 93 args H = F93 call lo args H := by kernel_rfl

/-- slices.nextPowerOfTwo -/
def C94 (call : CallF) (lo : Nat) : Piece (Value × Value × Unit) :=
  (seqE (leafE fun S H k =>
      k (S.1, (.int .u64 (.ofNat 0)), ()) H)
  (seqE (leafE fun S H k =>
      bindV (evConv .u64 S.1) fun t4 =>
      bindVH (call lo 39 [t4] H) fun t5 H0 =>
      bindV (evShl (.int .u64 (.ofNat 1)) t5) fun t6 =>
      k (S.1, t6, ()) H0)
  (doneE .ret)))

def F94 (call : CallF) (lo : Nat) (args : List Value) (H : AH) : Option (Value × AH) :=
  leave .all H (bindV (C94 call (lowOf .all lo H) (argAt args 0, argAt args 2, ()) H) fun p => resE p.1 (some (oneOf [p.2.1.2.1], p.2.2)))

theorem F94_eq (call : CallF) (lo : Nat) (args : List Value) (H : AH) : evFn P ctx call lo 94 args H = F94 call lo args H := by kernel_rfl

/-- (*slices.xorshift).Next -/
def C95 (call : CallF) (lo : Nat) : Piece (Value × Value × Unit) :=
  (seqE (leafE fun S H k =>
      k (S.1, (.int .u64 (.ofNat 0)), ()) H)
  (seqE (leafE fun S H k =>
      bindV (evNil S.1) fun t4 =>
      bindV (evLoad H false 1 t4) fun t5 =>
      bindV (evNil S.1) fun t7 =>
      bindV (evLoad H false 1 t7) fun t8 =>
      bindV (evShl t8 (.int .u64 (.ofNat 13))) fun t9 =>
      bindV (evXor t5 t9) fun t10 =>
      bindV (evNil S.1) fun t11 =>
      bindV (evStore lo H 1 t11 t10) fun H0 =>
      k (S.1, S.2.1, ()) H0)
  (seqE (leafE fun S H k =>
      bindV (evNil S.1) fun t13 =>
      bindV (evLoad H false 1 t13) fun t14 =>
      bindV (evNil S.1) fun t16 =>
      bindV (evLoad H false 1 t16) fun t17 =>
      bindV (evShr t17 (.int .u64 (.ofNat 7))) fun t18 =>
      bindV (evXor t14 t18) fun t19 =>
      bindV (evNil S.1) fun t20 =>
      bindV (evStore lo H 1 t20 t19) fun H1 =>
      k (S.1, S.2.1, ()) H1)
  (seqE (leafE fun S H k =>
      bindV (evNil S.1) fun t22 =>
      bindV (evLoad H false 1 t22) fun t23 =>
      bindV (evNil S.1) fun t25 =>
      bindV (evLoad H false 1 t25) fun t26 =>
      bindV (evShl t26 (.int .u64 (.ofNat 17))) fun t27 =>
      bindV (evXor t23 t27) fun t28 =>
      bindV (evNil S.1) fun t29 =>
      bindV (evStore lo H 1 t29 t28) fun H2 =>
      k (S.1, S.2.1, ()) H2)
  (seqE (leafE fun S H k =>
      bindV (evNil S.1) fun t31 =>
      bindV (evLoad H false 1 t31) fun t32 =>
      k (S.1, t32, ()) H)
  (doneE .ret))))))

def F95 (call : CallF) (lo : Nat) (args : List Value) (H : AH) : Option (Value × AH) :=
  leave .all H (bindV (C95 call (lowOf .all lo H) (argAt args 0, argAt args 2, ()) H) fun p => resE p.1 (some (oneOf [p.2.1.2.1], p.2.2)))

theorem F95_eq (call : CallF) (lo : Nat) (args : List Value) (H : AH) : evFn P ctx call lo 95 args H = F95 call lo args H := by kernel_rfl

/-- slices.medianAdjacentOrdered[int] -/
def C96 (call : CallF) (lo : Nat) : Piece (Value × Value × Value × Value × Unit) :=
  (seqE (leafE fun S H k =>
      k (S.1, S.2.1, S.2.2.1, (.int .i64 (.ofNat 0)), ()) H)
  (seqE (leafE fun S H k =>
      bindV (evSub S.2.1 (.int .i64 (.ofNat 1))) fun t9 =>
      bindV (evAdd S.2.1 (.int .i64 (.ofNat 1))) fun t12 =>
      bindVH (call lo 97 [S.1, t9, S.2.1, t12, S.2.2.1] H) fun t14 H0 =>
      k (S.1, S.2.1, S.2.2.1, t14, ()) H0)
  (doneE .ret)))

def F96 (call : CallF) (lo : Nat) (args : List Value) (H : AH) : Option (Value × AH) :=
  leave .all H (bindV (C96 call (lowOf .all lo H) (argAt args 0, argAt args 1, argAt args 2, argAt args 6, ()) H) fun p => resE p.1 (some (oneOf [p.2.1.2.2.2.1], p.2.2)))

theorem F96_eq (call : CallF) (lo : Nat) (args : List Value) (H : AH) : evFn P ctx call lo 96 args H = F96 call lo args H := by kernel_rfl

/-- slices.medianOrdered[int] -/
def C97 (call : CallF) (lo : Nat) : Piece (Value × Value × Value × Value × Value × Value × Unit) :=
  (seqE (leafE fun S H k =>
      k (S.1, S.2.1, S.2.2.1, S.2.2.2.1, S.2.2.2.2.1, (.int .i64 (.ofNat 0)), ()) H)
  (seqE (leafE fun S H k =>
      bindVH (call lo 107 [S.1, S.2.1, S.2.2.1, S.2.2.2.2.1] H) fun t16 H0 =>
      bindV (evComp t16 0) fun t17 =>
      bindV (evComp t16 1) fun t18 =>
      k (S.1, t17, t18, S.2.2.2.1, S.2.2.2.2.1, S.2.2.2.2.2.1, ()) H0)
  (seqE (leafE fun S H k =>
      bindVH (call lo 107 [S.1, S.2.2.1, S.2.2.2.1, S.2.2.2.2.1] H) fun t24 H1 =>
      bindV (evComp t24 0) fun t25 =>
      bindV (evComp t24 1) fun t26 =>
      k (S.1, S.2.1, t25, t26, S.2.2.2.2.1, S.2.2.2.2.2.1, ()) H1)
  (seqE (leafE fun S H k =>
      bindVH (call lo 107 [S.1, S.2.1, S.2.2.1, S.2.2.2.2.1] H) fun t32 H2 =>
      bindV (evComp t32 0) fun t33 =>
      bindV (evComp t32 1) fun t34 =>
      k (S.1, t33, t34, S.2.2.2.1, S.2.2.2.2.1, S.2.2.2.2.2.1, ()) H2)
  (seqE (leafE fun S H k =>
      k (S.1, S.2.1, S.2.2.1, S.2.2.2.1, S.2.2.2.2.1, S.2.2.1, ()) H)
  (doneE .ret))))))

def F97 (call : CallF) (lo : Nat) (args : List Value) (H : AH) : Option (Value × AH) :=
  leave .all H (bindV (C97 call (lowOf .all lo H) (argAt args 0, argAt args 1, argAt args 2, argAt args 3, argAt args 4, argAt args 10, ()) H) fun p => resE p.1 (some (oneOf [p.2.1.2.2.2.2.2.1], p.2.2)))

theorem F97_eq (call : CallF) (lo : Nat) (args : List Value) (H : AH) : evFn P ctx call lo 97 args H = F97 call lo args H := by kernel_rfl

/-- cmp.isNaN[int] -/
def C98 (call : CallF) (lo : Nat) : Piece (Value × Value × Unit) :=
  (seqE (leafE fun S H k =>
      k (S.1, (.bool false), ()) H)
  (seqE (leafE fun S H k =>
      bindV (evNeq .int S.1 S.1) fun t5 =>
      k (S.1, t5, ()) H)
  (doneE .ret)))

def F98 (call : CallF) (lo : Nat) (args : List Value) (H : AH) : Option (Value × AH) :=
  leave .all H (bindV (C98 call (lowOf .all lo H) (argAt args 0, argAt args 2, ()) H) fun p => resE p.1 (some (oneOf [p.2.1.2.1], p.2.2)))

theorem F98_eq (call : CallF) (lo : Nat) (args : List Value) (H : AH) : evFn P ctx call lo 98 args H = F98 call lo args H := by kernel_rfl

/-- math/bits.TrailingZeros32 -/
def C99 (call : CallF) (lo : Nat) : Piece (Value × Value × Value × Unit) :=
  (seqE (leafE fun S H k =>
      k (S.1, (.int .i64 (.ofNat 0)), S.2.2.1, ()) H)
  (seqE (seqE (leafE fun S H k =>
      bindV (evEql .int S.1 (.int .u32 (.ofNat 0))) fun t4 =>
      k (S.1, S.2.1, t4, ()) H)
  (condE (fun S => some S.2.2.1)
   (seqE (leafE fun S H k =>
       k (S.1, (.int .i64 (.ofNat 32)), S.2.2.1, ()) H)
   (doneE .ret))
   (doneE .normal)))
  (seqE (leafE fun S H k =>
      bindV (evNeg S.1) fun t7 =>
      bindV (evAnd S.1 t7) fun t8 =>
      bindV (evMul t8 (.int .u32 (.ofNat 125613361))) fun t9 =>
      bindV (evShr t9 (.int .u64 (.ofNat 27))) fun t10 =>
      bindV (evIdxArr 32 1 (.pointer (some ⟨0, 0, none⟩)) t10) fun t11 =>
      bindV (evLoad H false 1 t11) fun t12 =>
      bindV (evConv .i64 t12) fun t13 =>
      k (S.1, t13, S.2.2.1, ()) H)
  (doneE .ret))))

def F99 (call : CallF) (lo : Nat) (args : List Value) (H : AH) : Option (Value × AH) :=
  leave .all H (bindV (C99 call (lowOf .all lo H) (argAt args 0, argAt args 2, argAt args 4, ()) H) fun p => resE p.1 (some (oneOf [p.2.1.2.1], p.2.2)))

theorem F99_eq (call : CallF) (lo : Nat) (args : List Value) (H : AH) : evFn P ctx call lo 99 args H = F99 call lo args H := by kernel_rfl

/-- math/bits.TrailingZeros64 -/
def C100 (call : CallF) (lo : Nat) : Piece (Value × Value × Value × Unit) :=
  (seqE (leafE fun S H k =>
      k (S.1, (.int .i64 (.ofNat 0)), S.2.2.1, ()) H)
  (seqE (seqE (leafE fun S H k =>
      bindV (evEql .int S.1 (.int .u64 (.ofNat 0))) fun t4 =>
      k (S.1, S.2.1, t4, ()) H)
  (condE (fun S => some S.2.2.1)
   (seqE (leafE fun S H k =>
       k (S.1, (.int .i64 (.ofNat 64)), S.2.2.1, ()) H)
   (doneE .ret))
   (doneE .normal)))
  (seqE (leafE fun S H k =>
      bindV (evNeg S.1) fun t7 =>
      bindV (evAnd S.1 t7) fun t8 =>
      bindV (evMul t8 (.int .u64 (.ofNat 285870213051353865))) fun t9 =>
      bindV (evShr t9 (.int .u64 (.ofNat 58))) fun t10 =>
      bindV (evIdxArr 64 1 (.pointer (some ⟨1, 0, none⟩)) t10) fun t11 =>
      bindV (evLoad H false 1 t11) fun t12 =>
      bindV (evConv .i64 t12) fun t13 =>
      k (S.1, t13, S.2.2.1, ()) H)
  (doneE .ret))))

def F100 (call : CallF) (lo : Nat) (args : List Value) (H : AH) : Option (Value × AH) :=
  leave .all H (bindV (C100 call (lowOf .all lo H) (argAt args 0, argAt args 2, argAt args 4, ()) H) fun p => resE p.1 (some (oneOf [p.2.1.2.1], p.2.2)))

theorem F100_eq (call : CallF) (lo : Nat) (args : List Value) (H : AH) : evFn P ctx call lo 100 args H = F100 call lo args H := by kernel_rfl

/-- cmp.Compare[int] -/
def C101 (call : CallF) (lo : Nat) : Piece (Value × Value × Value × Value × Value × Value × Value × Value × Value × Value × Unit) :=
  (seqE (leafE fun S H k =>
      k (S.1, S.2.1, (.int .i64 (.ofNat 0)), S.2.2.2.1, S.2.2.2.2.1, S.2.2.2.2.2.1, S.2.2.2.2.2.2.1, S.2.2.2.2.2.2.2.1, S.2.2.2.2.2.2.2.2.1, S.2.2.2.2.2.2.2.2.2.1, ()) H)
  (seqE (leafE fun S H k =>
      bindVH (call lo 98 [S.1] H) fun t8 H0 =>
      k (S.1, S.2.1, S.2.2.1, t8, S.2.2.2.2.1, S.2.2.2.2.2.1, S.2.2.2.2.2.2.1, S.2.2.2.2.2.2.2.1, S.2.2.2.2.2.2.2.2.1, S.2.2.2.2.2.2.2.2.2.1, ()) H0)
  (seqE (leafE fun S H k =>
      bindVH (call lo 98 [S.2.1] H) fun t10 H1 =>
      k (S.1, S.2.1, S.2.2.1, S.2.2.2.1, t10, S.2.2.2.2.2.1, S.2.2.2.2.2.2.1, S.2.2.2.2.2.2.2.1, S.2.2.2.2.2.2.2.2.1, S.2.2.2.2.2.2.2.2.2.1, ()) H1)
  (seqE (seqE (leafE fun S H k =>
      k (S.1, S.2.1, S.2.2.1, S.2.2.2.1, S.2.2.2.2.1, S.2.2.2.1, S.2.2.2.2.2.2.1, S.2.2.2.2.2.2.2.1, S.2.2.2.2.2.2.2.2.1, S.2.2.2.2.2.2.2.2.2.1, ()) H)
  (condE (fun S => some S.2.2.2.2.2.1)
   (seqE (seqE (leafE fun S H k =>
       k (S.1, S.2.1, S.2.2.1, S.2.2.2.1, S.2.2.2.2.1, S.2.2.2.2.2.1, S.2.2.2.2.1, S.2.2.2.2.2.2.2.1, S.2.2.2.2.2.2.2.2.1, S.2.2.2.2.2.2.2.2.2.1, ()) H)
   (condE (fun S => some S.2.2.2.2.2.2.1)
    (seqE (leafE fun S H k =>
        k (S.1, S.2.1, (.int .i64 (.ofNat 0)), S.2.2.2.1, S.2.2.2.2.1, S.2.2.2.2.2.1, S.2.2.2.2.2.2.1, S.2.2.2.2.2.2.2.1, S.2.2.2.2.2.2.2.2.1, S.2.2.2.2.2.2.2.2.2.1, ()) H)
    (doneE .ret))
    (doneE .normal)))
   (seqE (leafE fun S H k =>
       k (S.1, S.2.1, (.int .i64 (.negSucc 0)), S.2.2.2.1, S.2.2.2.2.1, S.2.2.2.2.2.1, S.2.2.2.2.2.2.1, S.2.2.2.2.2.2.2.1, S.2.2.2.2.2.2.2.2.1, S.2.2.2.2.2.2.2.2.2.1, ()) H)
   (doneE .ret)))
   (doneE .normal)))
  (seqE (seqE (leafE fun S H k =>
      k (S.1, S.2.1, S.2.2.1, S.2.2.2.1, S.2.2.2.2.1, S.2.2.2.2.2.1, S.2.2.2.2.2.2.1, S.2.2.2.2.1, S.2.2.2.2.2.2.2.2.1, S.2.2.2.2.2.2.2.2.2.1, ()) H)
  (condE (fun S => some S.2.2.2.2.2.2.2.1)
   (seqE (leafE fun S H k =>
       k (S.1, S.2.1, (.int .i64 (.ofNat 1)), S.2.2.2.1, S.2.2.2.2.1, S.2.2.2.2.2.1, S.2.2.2.2.2.2.1, S.2.2.2.2.2.2.2.1, S.2.2.2.2.2.2.2.2.1, S.2.2.2.2.2.2.2.2.2.1, ()) H)
   (doneE .ret))
   (doneE .normal)))
  (seqE (seqE (leafE fun S H k =>
      bindV (evLss S.1 S.2.1) fun t16 =>
      k (S.1, S.2.1, S.2.2.1, S.2.2.2.1, S.2.2.2.2.1, S.2.2.2.2.2.1, S.2.2.2.2.2.2.1, S.2.2.2.2.2.2.2.1, t16, S.2.2.2.2.2.2.2.2.2.1, ()) H)
  (condE (fun S => some S.2.2.2.2.2.2.2.2.1)
   (seqE (leafE fun S H k =>
       k (S.1, S.2.1, (.int .i64 (.negSucc 0)), S.2.2.2.1, S.2.2.2.2.1, S.2.2.2.2.2.1, S.2.2.2.2.2.2.1, S.2.2.2.2.2.2.2.1, S.2.2.2.2.2.2.2.2.1, S.2.2.2.2.2.2.2.2.2.1, ()) H)
   (doneE .ret))
   (doneE .normal)))
  (seqE (seqE (leafE fun S H k =>
      bindV (evGtr S.1 S.2.1) fun t19 =>
      k (S.1, S.2.1, S.2.2.1, S.2.2.2.1, S.2.2.2.2.1, S.2.2.2.2.2.1, S.2.2.2.2.2.2.1, S.2.2.2.2.2.2.2.1, S.2.2.2.2.2.2.2.2.1, t19, ()) H)
  (condE (fun S => some S.2.2.2.2.2.2.2.2.2.1)
   (seqE (leafE fun S H k =>
       k (S.1, S.2.1, (.int .i64 (.ofNat 1)), S.2.2.2.1, S.2.2.2.2.1, S.2.2.2.2.2.1, S.2.2.2.2.2.2.1, S.2.2.2.2.2.2.2.1, S.2.2.2.2.2.2.2.2.1, S.2.2.2.2.2.2.2.2.2.1, ()) H)
   (doneE .ret))
   (doneE .normal)))
  (seqE (leafE fun S H k =>
      k (S.1, S.2.1, (.int .i64 (.ofNat 0)), S.2.2.2.1, S.2.2.2.2.1, S.2.2.2.2.2.1, S.2.2.2.2.2.2.1, S.2.2.2.2.2.2.2.1, S.2.2.2.2.2.2.2.2.1, S.2.2.2.2.2.2.2.2.2.1, ()) H)
  (doneE .ret)))))))))

def F101 (call : CallF) (lo : Nat) (args : List Value) (H : AH) : Option (Value × AH) :=
  leave .all H (bindV (C101 call (lowOf .all lo H) (argAt args 0, argAt args 1, argAt args 4, argAt args 5, argAt args 6, argAt args 11, argAt args 12, argAt args 13, argAt args 16, argAt args 19, ()) H) fun p => resE p.1 (some (oneOf [p.2.1.2.2.1], p.2.2)))

theorem F101_eq (call : CallF) (lo : Nat) (args : List Value) (H : AH) : evFn P ctx call lo 101 args H = F101 call lo args H := by kernel_rfl

/-- slices.IndexFunc[[]uint,uint] -/
def C102 (call : CallF) (lo : Nat) : Piece (Value × Value × Value × Value × Value × Value × Value × Value × Unit) :=
  (seqE (leafE fun S H k =>
      k (S.1, S.2.1, (.int .i64 (.ofNat 0)), S.2.2.2.1, S.2.2.2.2.1, S.2.2.2.2.2.1, S.2.2.2.2.2.2.1, S.2.2.2.2.2.2.2.1, ()) H)
  (seqE (seqE (leafE fun S H k =>
      bindV (evLenS S.1) fun t7 =>
      k (S.1, S.2.1, S.2.2.1, S.2.2.2.1, t7, (.int .i64 (.ofNat 0)), S.2.2.2.2.2.2.1, S.2.2.2.2.2.2.2.1, ()) H)
  (blockE 0 (loopE (seqE (leafE fun S H k =>
        bindV (evLss S.2.2.2.2.2.1 S.2.2.2.2.1) fun t9 =>
        k (S.1, S.2.1, S.2.2.1, S.2.2.2.1, S.2.2.2.2.1, S.2.2.2.2.2.1, t9, S.2.2.2.2.2.2.2.1, ()) H)
    (seqE (condE (fun S => some S.2.2.2.2.2.2.1)
     (doneE .normal)
     (doneE (.exit 0)))
    (seqE (blockE 1 (seqE (leafE fun S H k =>
         k (S.1, S.2.1, S.2.2.1, S.2.2.2.2.2.1, S.2.2.2.2.1, S.2.2.2.2.2.1, S.2.2.2.2.2.2.1, S.2.2.2.2.2.2.2.1, ()) H)
     (seqE (leafE fun S H k =>
         bindV (evIdxSlice 1 S.1 S.2.2.2.1) fun t14 =>
         bindV (evLoad H false 1 t14) fun t15 =>
         callVal call lo S.2.1 [t15] H fun t16 H0 =>
         k (S.1, S.2.1, S.2.2.1, S.2.2.2.1, S.2.2.2.2.1, S.2.2.2.2.2.1, S.2.2.2.2.2.2.1, t16, ()) H0)
     (condE (fun S => some S.2.2.2.2.2.2.2.1)
      (seqE (leafE fun S H k =>
          k (S.1, S.2.1, S.2.2.2.1, S.2.2.2.1, S.2.2.2.2.1, S.2.2.2.2.2.1, S.2.2.2.2.2.2.1, S.2.2.2.2.2.2.2.1, ()) H)
      (doneE .ret))
      (doneE .normal)))))
    (leafE fun S H k =>
        bindV (evAdd S.2.2.2.2.2.1 (.int .i64 (.ofNat 1))) fun t18 =>
        k (S.1, S.2.1, S.2.2.1, S.2.2.2.1, S.2.2.2.2.1, t18, S.2.2.2.2.2.2.1, S.2.2.2.2.2.2.2.1, ()) H)))) fuel)))
  (seqE (leafE fun S H k =>
      k (S.1, S.2.1, (.int .i64 (.negSucc 0)), S.2.2.2.1, S.2.2.2.2.1, S.2.2.2.2.2.1, S.2.2.2.2.2.2.1, S.2.2.2.2.2.2.2.1, ()) H)
  (doneE .ret))))

def F102 (call : CallF) (lo : Nat) (args : List Value) (H : AH) : Option (Value × AH) :=
  leave .all H (bindV (C102 call (lowOf .all lo H) (argAt args 0, argAt args 1, argAt args 4, argAt args 5, argAt args 7, argAt args 8, argAt args 9, argAt args 16, ()) H) fun p => resE p.1 (some (oneOf [p.2.1.2.2.1], p.2.2)))

theorem F102_eq (call : CallF) (lo : Nat) (args : List Value) (H : AH) : evFn P ctx call lo 102 args H = F102 call lo args H := by kernel_rfl

/-- (novaculite/saw.plate).side$1 -/
def C103 (call : CallF) (lo : Nat) : Piece (Value × Value × Value × Value × Value × Unit) :=
  (seqE (leafE fun S H k =>
      k (S.1, S.2.1, S.2.2.1, (.int .i64 (.ofNat 0)), S.2.2.2.2.1, ()) H)
  (seqE (seqE (leafE fun S H k =>
      bindV (evLesser false S.1 S.2.1) fun c0 =>
      bindV (evLss c0 (.int .i64 (.ofNat 0))) fun t9 =>
      guarded t9 false ( pairVH S.1 H) H fun t11 H1 =>
      guarded t9 false (bindV (evShift S.2.2.1 0) fun t1000000 => pairVH t1000000 H1) H1 fun t12 H2 =>
      guarded t9 false (bindV (evLoad H2 false 1 t12) fun t1000000 => pairVH t1000000 H2) H2 fun t13 H3 =>
      guarded t9 false (bindV (evGeq t11 t13) fun t1000000 => pairVH t1000000 H3) H3 fun t14 H4 =>
      bindV (evPick t9 (.bool true) t14) fun t15 =>
      guarded t15 false ( pairVH S.2.1 H4) H4 fun t17 H5 =>
      guarded t15 false (bindV (evShift S.2.2.1 1) fun t1000000 => pairVH t1000000 H5) H5 fun t18 H6 =>
      guarded t15 false (bindV (evLoad H6 false 1 t18) fun t1000000 => pairVH t1000000 H6) H6 fun t19 H7 =>
      guarded t15 false (bindV (evGeq t17 t19) fun t1000000 => pairVH t1000000 H7) H7 fun t20 H8 =>
      bindV (evPick t15 (.bool true) t20) fun t21 =>
      guarded t21 false (bindV (evShift S.2.2.1 2) fun t1000000 => pairVH t1000000 H8) H8 fun t23 H9 =>
      guarded t21 false (bindV (evLoad H9 false 1 t23) fun t1000000 => pairVH t1000000 H9) H9 fun t24 H10 =>
      guarded t21 false ( pairVH S.2.1 H10) H10 fun t25 H11 =>
      guarded t21 false (bindV (evShift S.2.2.1 0) fun t1000000 => pairVH t1000000 H11) H11 fun t26 H12 =>
      guarded t21 false (bindV (evLoad H12 false 1 t26) fun t1000000 => pairVH t1000000 H12) H12 fun t27 H13 =>
      guarded t21 false (bindV (evMul t25 t27) fun t1000000 => pairVH t1000000 H13) H13 fun t28 H14 =>
      guarded t21 false ( pairVH S.1 H14) H14 fun t29 H15 =>
      guarded t21 false (bindV (evAdd t28 t29) fun t1000000 => pairVH t1000000 H15) H15 fun t30 H16 =>
      guarded t21 false (bindV (evShr t24 t30) fun t1000000 => pairVH t1000000 H16) H16 fun t31 H17 =>
      guarded t21 false (bindV (evAnd t31 (.int .u64 (.ofNat 1))) fun t1000000 => pairVH t1000000 H17) H17 fun t32 H18 =>
      guarded t21 false (bindV (evEql .int t32 (.int .u64 (.ofNat 0))) fun t1000000 => pairVH t1000000 H18) H18 fun t33 H19 =>
      bindV (evPick t21 (.bool true) t33) fun t34 =>
      k (S.1, S.2.1, S.2.2.1, S.2.2.2.1, t34, ()) H19)
  (condE (fun S => some S.2.2.2.2.1)
   (seqE (leafE fun S H k =>
       k (S.1, S.2.1, S.2.2.1, (.int .i64 (.negSucc 0)), S.2.2.2.2.1, ()) H)
   (doneE .ret))
   (doneE .normal)))
  (seqE (leafE fun S H k =>
      bindV (evShift S.2.2.1 0) fun t36 =>
      bindV (evLoad H false 1 t36) fun t37 =>
      bindV (evMul S.2.1 t37) fun t38 =>
      bindV (evAdd t38 S.1) fun t40 =>
      k (S.1, S.2.1, S.2.2.1, t40, S.2.2.2.2.1, ()) H)
  (doneE .ret))))

def F103 (call : CallF) (lo : Nat) (args : List Value) (H : AH) : Option (Value × AH) :=
  leave .all H (bindV (C103 call (lowOf .all lo H) (argAt args 0, argAt args 1, argAt args 2, argAt args 5, argAt args 34, ()) H) fun p => resE p.1 (some (oneOf [p.2.1.2.2.2.1], p.2.2)))

theorem F103_eq (call : CallF) (lo : Nat) (args : List Value) (H : AH) : evFn P ctx call lo 103 args H = F103 call lo args H := by kernel_rfl

/-- slices.pdqsortCmpFunc[[2]int] -/
def C104 (call : CallF) (lo : Nat) : Piece (Value × Value × Value × Value × Value × Value × Value × Value × Value × Value × Value × Value × Value × Value × Value × Value × Value × Value × Value × Value × Value × Value × Value × Value × Unit) :=
  (seqE (leafE fun S H k =>
      k (S.1, S.2.1, S.2.2.1, S.2.2.2.1, S.2.2.2.2.1, (.bool true), S.2.2.2.2.2.2.1, S.2.2.2.2.2.2.2.1, S.2.2.2.2.2.2.2.2.1, S.2.2.2.2.2.2.2.2.2.1, S.2.2.2.2.2.2.2.2.2.2.1, S.2.2.2.2.2.2.2.2.2.2.2.1, S.2.2.2.2.2.2.2.2.2.2.2.2.1, S.2.2.2.2.2.2.2.2.2.2.2.2.2.1, S.2.2.2.2.2.2.2.2.2.2.2.2.2.2.1, S.2.2.2.2.2.2.2.2.2.2.2.2.2.2.2.1, S.2.2.2.2.2.2.2.2.2.2.2.2.2.2.2.2.1, S.2.2.2.2.2.2.2.2.2.2.2.2.2.2.2.2.2.1, S.2.2.2.2.2.2.2.2.2.2.2.2.2.2.2.2.2.2.1, S.2.2.2.2.2.2.2.2.2.2.2.2.2.2.2.2.2.2.2.1, S.2.2.2.2.2.2.2.2.2.2.2.2.2.2.2.2.2.2.2.2.1, S.2.2.2.2.2.2.2.2.2.2.2.2.2.2.2.2.2.2.2.2.2.1, S.2.2.2.2.2.2.2.2.2.2.2.2.2.2.2.2.2.2.2.2.2.2.1, S.2.2.2.2.2.2.2.2.2.2.2.2.2.2.2.2.2.2.2.2.2.2.2.1, ()) H)
  (seqE (leafE fun S H k =>
      k (S.1, S.2.1, S.2.2.1, S.2.2.2.1, S.2.2.2.2.1, S.2.2.2.2.2.1, (.bool true), S.2.2.2.2.2.2.2.1, S.2.2.2.2.2.2.2.2.1, S.2.2.2.2.2.2.2.2.2.1, S.2.2.2.2.2.2.2.2.2.2.1, S.2.2.2.2.2.2.2.2.2.2.2.1, S.2.2.2.2.2.2.2.2.2.2.2.2.1, S.2.2.2.2.2.2.2.2.2.2.2.2.2.1, S.2.2.2.2.2.2.2.2.2.2.2.2.2.2.1, S.2.2.2.2.2.2.2.2.2.2.2.2.2.2.2.1, S.2.2.2.2.2.2.2.2.2.2.2.2.2.2.2.2.1, S.2.2.2.2.2.2.2.2.2.2.2.2.2.2.2.2.2.1, S.2.2.2.2.2.2.2.2.2.2.2.2.2.2.2.2.2.2.1, S.2.2.2.2.2.2.2.2.2.2.2.2.2.2.2.2.2.2.2.1, S.2.2.2.2.2.2.2.2.2.2.2.2.2.2.2.2.2.2.2.2.1, S.2.2.2.2.2.2.2.2.2.2.2.2.2.2.2.2.2.2.2.2.2.1, S.2.2.2.2.2.2.2.2.2.2.2.2.2.2.2.2.2.2.2.2.2.2.1, S.2.2.2.2.2.2.2.2.2.2.2.2.2.2.2.2.2.2.2.2.2.2.2.1, ()) H)
  (blockE 0 (loopE (blockE 1 (seqE (leafE fun S H k =>
         bindV (evSub S.2.2.1 S.2.1) fun t23 =>
         k (S.1, S.2.1, S.2.2.1, S.2.2.2.1, S.2.2.2.2.1, S.2.2.2.2.2.1, S.2.2.2.2.2.2.1, t23, S.2.2.2.2.2.2.2.2.1, S.2.2.2.2.2.2.2.2.2.1, S.2.2.2.2.2.2.2.2.2.2.1, S.2.2.2.2.2.2.2.2.2.2.2.1, S.2.2.2.2.2.2.2.2.2.2.2.2.1, S.2.2.2.2.2.2.2.2.2.2.2.2.2.1, S.2.2.2.2.2.2.2.2.2.2.2.2.2.2.1, S.2.2.2.2.2.2.2.2.2.2.2.2.2.2.2.1, S.2.2.2.2.2.2.2.2.2.2.2.2.2.2.2.2.1, S.2.2.2.2.2.2.2.2.2.2.2.2.2.2.2.2.2.1, S.2.2.2.2.2.2.2.2.2.2.2.2.2.2.2.2.2.2.1, S.2.2.2.2.2.2.2.2.2.2.2.2.2.2.2.2.2.2.2.1, S.2.2.2.2.2.2.2.2.2.2.2.2.2.2.2.2.2.2.2.2.1, S.2.2.2.2.2.2.2.2.2.2.2.2.2.2.2.2.2.2.2.2.2.1, S.2.2.2.2.2.2.2.2.2.2.2.2.2.2.2.2.2.2.2.2.2.2.1, S.2.2.2.2.2.2.2.2.2.2.2.2.2.2.2.2.2.2.2.2.2.2.2.1, ()) H)
     (seqE (seqE (leafE fun S H k =>
         bindV (evLeq S.2.2.2.2.2.2.2.1 (.int .i64 (.ofNat 12))) fun t25 =>
         k (S.1, S.2.1, S.2.2.1, S.2.2.2.1, S.2.2.2.2.1, S.2.2.2.2.2.1, S.2.2.2.2.2.2.1, S.2.2.2.2.2.2.2.1, S.2.2.2.2.2.2.2.2.1, S.2.2.2.2.2.2.2.2.2.1, S.2.2.2.2.2.2.2.2.2.2.1, S.2.2.2.2.2.2.2.2.2.2.2.1, S.2.2.2.2.2.2.2.2.2.2.2.2.1, S.2.2.2.2.2.2.2.2.2.2.2.2.2.1, S.2.2.2.2.2.2.2.2.2.2.2.2.2.2.1, S.2.2.2.2.2.2.2.2.2.2.2.2.2.2.2.1, t25, S.2.2.2.2.2.2.2.2.2.2.2.2.2.2.2.2.2.1, S.2.2.2.2.2.2.2.2.2.2.2.2.2.2.2.2.2.2.1, S.2.2.2.2.2.2.2.2.2.2.2.2.2.2.2.2.2.2.2.1, S.2.2.2.2.2.2.2.2.2.2.2.2.2.2.2.2.2.2.2.2.1, S.2.2.2.2.2.2.2.2.2.2.2.2.2.2.2.2.2.2.2.2.2.1, S.2.2.2.2.2.2.2.2.2.2.2.2.2.2.2.2.2.2.2.2.2.2.1, S.2.2.2.2.2.2.2.2.2.2.2.2.2.2.2.2.2.2.2.2.2.2.2.1, ()) H)
     (condE (fun S => some S.2.2.2.2.2.2.2.2.2.2.2.2.2.2.2.2.1)
      (seqE (leafE fun S H k =>
          bindVH (call lo 108 [S.1, S.2.1, S.2.2.1, S.2.2.2.2.1] H) fun t30 H0 =>
          k (S.1, S.2.1, S.2.2.1, S.2.2.2.1, S.2.2.2.2.1, S.2.2.2.2.2.1, S.2.2.2.2.2.2.1, S.2.2.2.2.2.2.2.1, S.2.2.2.2.2.2.2.2.1, S.2.2.2.2.2.2.2.2.2.1, S.2.2.2.2.2.2.2.2.2.2.1, S.2.2.2.2.2.2.2.2.2.2.2.1, S.2.2.2.2.2.2.2.2.2.2.2.2.1, S.2.2.2.2.2.2.2.2.2.2.2.2.2.1, S.2.2.2.2.2.2.2.2.2.2.2.2.2.2.1, S.2.2.2.2.2.2.2.2.2.2.2.2.2.2.2.1, S.2.2.2.2.2.2.2.2.2.2.2.2.2.2.2.2.1, S.2.2.2.2.2.2.2.2.2.2.2.2.2.2.2.2.2.1, S.2.2.2.2.2.2.2.2.2.2.2.2.2.2.2.2.2.2.1, S.2.2.2.2.2.2.2.2.2.2.2.2.2.2.2.2.2.2.2.1, S.2.2.2.2.2.2.2.2.2.2.2.2.2.2.2.2.2.2.2.2.1, S.2.2.2.2.2.2.2.2.2.2.2.2.2.2.2.2.2.2.2.2.2.1, S.2.2.2.2.2.2.2.2.2.2.2.2.2.2.2.2.2.2.2.2.2.2.1, S.2.2.2.2.2.2.2.2.2.2.2.2.2.2.2.2.2.2.2.2.2.2.2.1, ()) H0)
      (doneE .ret))
      (doneE .normal)))
     (seqE (seqE (leafE fun S H k =>
         bindV (evEql .int S.2.2.2.1 (.int .i64 (.ofNat 0))) fun t32 =>
         k (S.1, S.2.1, S.2.2.1, S.2.2.2.1, S.2.2.2.2.1, S.2.2.2.2.2.1, S.2.2.2.2.2.2.1, S.2.2.2.2.2.2.2.1, S.2.2.2.2.2.2.2.2.1, S.2.2.2.2.2.2.2.2.2.1, S.2.2.2.2.2.2.2.2.2.2.1, S.2.2.2.2.2.2.2.2.2.2.2.1, S.2.2.2.2.2.2.2.2.2.2.2.2.1, S.2.2.2.2.2.2.2.2.2.2.2.2.2.1, S.2.2.2.2.2.2.2.2.2.2.2.2.2.2.1, S.2.2.2.2.2.2.2.2.2.2.2.2.2.2.2.1, S.2.2.2.2.2.2.2.2.2.2.2.2.2.2.2.2.1, t32, S.2.2.2.2.2.2.2.2.2.2.2.2.2.2.2.2.2.2.1, S.2.2.2.2.2.2.2.2.2.2.2.2.2.2.2.2.2.2.2.1, S.2.2.2.2.2.2.2.2.2.2.2.2.2.2.2.2.2.2.2.2.1, S.2.2.2.2.2.2.2.2.2.2.2.2.2.2.2.2.2.2.2.2.2.1, S.2.2.2.2.2.2.2.2.2.2.2.2.2.2.2.2.2.2.2.2.2.2.1, S.2.2.2.2.2.2.2.2.2.2.2.2.2.2.2.2.2.2.2.2.2.2.2.1, ()) H)
     (condE (fun S => some S.2.2.2.2.2.2.2.2.2.2.2.2.2.2.2.2.2.1)
      (seqE (leafE fun S H k =>
          bindVH (call lo 109 [S.1, S.2.1, S.2.2.1, S.2.2.2.2.1] H) fun t37 H1 =>
          k (S.1, S.2.1, S.2.2.1, S.2.2.2.1, S.2.2.2.2.1, S.2.2.2.2.2.1, S.2.2.2.2.2.2.1, S.2.2.2.2.2.2.2.1, S.2.2.2.2.2.2.2.2.1, S.2.2.2.2.2.2.2.2.2.1, S.2.2.2.2.2.2.2.2.2.2.1, S.2.2.2.2.2.2.2.2.2.2.2.1, S.2.2.2.2.2.2.2.2.2.2.2.2.1, S.2.2.2.2.2.2.2.2.2.2.2.2.2.1, S.2.2.2.2.2.2.2.2.2.2.2.2.2.2.1, S.2.2.2.2.2.2.2.2.2.2.2.2.2.2.2.1, S.2.2.2.2.2.2.2.2.2.2.2.2.2.2.2.2.1, S.2.2.2.2.2.2.2.2.2.2.2.2.2.2.2.2.2.1, S.2.2.2.2.2.2.2.2.2.2.2.2.2.2.2.2.2.2.1, S.2.2.2.2.2.2.2.2.2.2.2.2.2.2.2.2.2.2.2.1, S.2.2.2.2.2.2.2.2.2.2.2.2.2.2.2.2.2.2.2.2.1, S.2.2.2.2.2.2.2.2.2.2.2.2.2.2.2.2.2.2.2.2.2.1, S.2.2.2.2.2.2.2.2.2.2.2.2.2.2.2.2.2.2.2.2.2.2.1, S.2.2.2.2.2.2.2.2.2.2.2.2.2.2.2.2.2.2.2.2.2.2.2.1, ()) H1)
      (doneE .ret))
      (doneE .normal)))
     (seqE (seqE (leafE fun S H k =>
         bindV (evNot S.2.2.2.2.2.1) fun t39 =>
         k (S.1, S.2.1, S.2.2.1, S.2.2.2.1, S.2.2.2.2.1, S.2.2.2.2.2.1, S.2.2.2.2.2.2.1, S.2.2.2.2.2.2.2.1, S.2.2.2.2.2.2.2.2.1, S.2.2.2.2.2.2.2.2.2.1, S.2.2.2.2.2.2.2.2.2.2.1, S.2.2.2.2.2.2.2.2.2.2.2.1, S.2.2.2.2.2.2.2.2.2.2.2.2.1, S.2.2.2.2.2.2.2.2.2.2.2.2.2.1, S.2.2.2.2.2.2.2.2.2.2.2.2.2.2.1, S.2.2.2.2.2.2.2.2.2.2.2.2.2.2.2.1, S.2.2.2.2.2.2.2.2.2.2.2.2.2.2.2.2.1, S.2.2.2.2.2.2.2.2.2.2.2.2.2.2.2.2.2.1, t39, S.2.2.2.2.2.2.2.2.2.2.2.2.2.2.2.2.2.2.2.1, S.2.2.2.2.2.2.2.2.2.2.2.2.2.2.2.2.2.2.2.2.1, S.2.2.2.2.2.2.2.2.2.2.2.2.2.2.2.2.2.2.2.2.2.1, S.2.2.2.2.2.2.2.2.2.2.2.2.2.2.2.2.2.2.2.2.2.2.1, S.2.2.2.2.2.2.2.2.2.2.2.2.2.2.2.2.2.2.2.2.2.2.2.1, ()) H)
     (condE (fun S => some S.2.2.2.2.2.2.2.2.2.2.2.2.2.2.2.2.2.2.1)
      (seqE (leafE fun S H k =>
          bindVH (call lo 110 [S.1, S.2.1, S.2.2.1, S.2.2.2.2.1] H) fun t44 H2 =>
          k (S.1, S.2.1, S.2.2.1, S.2.2.2.1, S.2.2.2.2.1, S.2.2.2.2.2.1, S.2.2.2.2.2.2.1, S.2.2.2.2.2.2.2.1, S.2.2.2.2.2.2.2.2.1, S.2.2.2.2.2.2.2.2.2.1, S.2.2.2.2.2.2.2.2.2.2.1, S.2.2.2.2.2.2.2.2.2.2.2.1, S.2.2.2.2.2.2.2.2.2.2.2.2.1, S.2.2.2.2.2.2.2.2.2.2.2.2.2.1, S.2.2.2.2.2.2.2.2.2.2.2.2.2.2.1, S.2.2.2.2.2.2.2.2.2.2.2.2.2.2.2.1, S.2.2.2.2.2.2.2.2.2.2.2.2.2.2.2.2.1, S.2.2.2.2.2.2.2.2.2.2.2.2.2.2.2.2.2.1, S.2.2.2.2.2.2.2.2.2.2.2.2.2.2.2.2.2.2.1, S.2.2.2.2.2.2.2.2.2.2.2.2.2.2.2.2.2.2.2.1, S.2.2.2.2.2.2.2.2.2.2.2.2.2.2.2.2.2.2.2.2.1, S.2.2.2.2.2.2.2.2.2.2.2.2.2.2.2.2.2.2.2.2.2.1, S.2.2.2.2.2.2.2.2.2.2.2.2.2.2.2.2.2.2.2.2.2.2.1, S.2.2.2.2.2.2.2.2.2.2.2.2.2.2.2.2.2.2.2.2.2.2.2.1, ()) H2)
      (leafE fun S H k =>
          bindV (evSub S.2.2.2.1 (.int .i64 (.ofNat 1))) fun t46 =>
          k (S.1, S.2.1, S.2.2.1, t46, S.2.2.2.2.1, S.2.2.2.2.2.1, S.2.2.2.2.2.2.1, S.2.2.2.2.2.2.2.1, S.2.2.2.2.2.2.2.2.1, S.2.2.2.2.2.2.2.2.2.1, S.2.2.2.2.2.2.2.2.2.2.1, S.2.2.2.2.2.2.2.2.2.2.2.1, S.2.2.2.2.2.2.2.2.2.2.2.2.1, S.2.2.2.2.2.2.2.2.2.2.2.2.2.1, S.2.2.2.2.2.2.2.2.2.2.2.2.2.2.1, S.2.2.2.2.2.2.2.2.2.2.2.2.2.2.2.1, S.2.2.2.2.2.2.2.2.2.2.2.2.2.2.2.2.1, S.2.2.2.2.2.2.2.2.2.2.2.2.2.2.2.2.2.1, S.2.2.2.2.2.2.2.2.2.2.2.2.2.2.2.2.2.2.1, S.2.2.2.2.2.2.2.2.2.2.2.2.2.2.2.2.2.2.2.1, S.2.2.2.2.2.2.2.2.2.2.2.2.2.2.2.2.2.2.2.2.1, S.2.2.2.2.2.2.2.2.2.2.2.2.2.2.2.2.2.2.2.2.2.1, S.2.2.2.2.2.2.2.2.2.2.2.2.2.2.2.2.2.2.2.2.2.2.1, S.2.2.2.2.2.2.2.2.2.2.2.2.2.2.2.2.2.2.2.2.2.2.2.1, ()) H))
      (doneE .normal)))
     (seqE (leafE fun S H k =>
         bindVH (call lo 111 [S.1, S.2.1, S.2.2.1, S.2.2.2.2.1] H) fun t52 H3 =>
         bindV (evComp t52 0) fun t53 =>
         bindV (evComp t52 1) fun t54 =>
         k (S.1, S.2.1, S.2.2.1, S.2.2.2.1, S.2.2.2.2.1, S.2.2.2.2.2.1, S.2.2.2.2.2.2.1, S.2.2.2.2.2.2.2.1, t53, t54, S.2.2.2.2.2.2.2.2.2.2.1, S.2.2.2.2.2.2.2.2.2.2.2.1, S.2.2.2.2.2.2.2.2.2.2.2.2.1, S.2.2.2.2.2.2.2.2.2.2.2.2.2.1, S.2.2.2.2.2.2.2.2.2.2.2.2.2.2.1, S.2.2.2.2.2.2.2.2.2.2.2.2.2.2.2.1, S.2.2.2.2.2.2.2.2.2.2.2.2.2.2.2.2.1, S.2.2.2.2.2.2.2.2.2.2.2.2.2.2.2.2.2.1, S.2.2.2.2.2.2.2.2.2.2.2.2.2.2.2.2.2.2.1, S.2.2.2.2.2.2.2.2.2.2.2.2.2.2.2.2.2.2.2.1, S.2.2.2.2.2.2.2.2.2.2.2.2.2.2.2.2.2.2.2.2.1, S.2.2.2.2.2.2.2.2.2.2.2.2.2.2.2.2.2.2.2.2.2.1, S.2.2.2.2.2.2.2.2.2.2.2.2.2.2.2.2.2.2.2.2.2.2.1, S.2.2.2.2.2.2.2.2.2.2.2.2.2.2.2.2.2.2.2.2.2.2.2.1, ()) H3)
     (seqE (seqE (leafE fun S H k =>
         bindV (evEql .int S.2.2.2.2.2.2.2.2.2.1 (.int .i64 (.ofNat 2))) fun t56 =>
         k (S.1, S.2.1, S.2.2.1, S.2.2.2.1, S.2.2.2.2.1, S.2.2.2.2.2.1, S.2.2.2.2.2.2.1, S.2.2.2.2.2.2.2.1, S.2.2.2.2.2.2.2.2.1, S.2.2.2.2.2.2.2.2.2.1, S.2.2.2.2.2.2.2.2.2.2.1, S.2.2.2.2.2.2.2.2.2.2.2.1, S.2.2.2.2.2.2.2.2.2.2.2.2.1, S.2.2.2.2.2.2.2.2.2.2.2.2.2.1, S.2.2.2.2.2.2.2.2.2.2.2.2.2.2.1, S.2.2.2.2.2.2.2.2.2.2.2.2.2.2.2.1, S.2.2.2.2.2.2.2.2.2.2.2.2.2.2.2.2.1, S.2.2.2.2.2.2.2.2.2.2.2.2.2.2.2.2.2.1, S.2.2.2.2.2.2.2.2.2.2.2.2.2.2.2.2.2.2.1, t56, S.2.2.2.2.2.2.2.2.2.2.2.2.2.2.2.2.2.2.2.2.1, S.2.2.2.2.2.2.2.2.2.2.2.2.2.2.2.2.2.2.2.2.2.1, S.2.2.2.2.2.2.2.2.2.2.2.2.2.2.2.2.2.2.2.2.2.2.1, S.2.2.2.2.2.2.2.2.2.2.2.2.2.2.2.2.2.2.2.2.2.2.2.1, ()) H)
     (condE (fun S => some S.2.2.2.2.2.2.2.2.2.2.2.2.2.2.2.2.2.2.2.1)
      (seqE (leafE fun S H k =>
          bindVH (call lo 112 [S.1, S.2.1, S.2.2.1, S.2.2.2.2.1] H) fun t61 H4 =>
          k (S.1, S.2.1, S.2.2.1, S.2.2.2.1, S.2.2.2.2.1, S.2.2.2.2.2.1, S.2.2.2.2.2.2.1, S.2.2.2.2.2.2.2.1, S.2.2.2.2.2.2.2.2.1, S.2.2.2.2.2.2.2.2.2.1, S.2.2.2.2.2.2.2.2.2.2.1, S.2.2.2.2.2.2.2.2.2.2.2.1, S.2.2.2.2.2.2.2.2.2.2.2.2.1, S.2.2.2.2.2.2.2.2.2.2.2.2.2.1, S.2.2.2.2.2.2.2.2.2.2.2.2.2.2.1, S.2.2.2.2.2.2.2.2.2.2.2.2.2.2.2.1, S.2.2.2.2.2.2.2.2.2.2.2.2.2.2.2.2.1, S.2.2.2.2.2.2.2.2.2.2.2.2.2.2.2.2.2.1, S.2.2.2.2.2.2.2.2.2.2.2.2.2.2.2.2.2.2.1, S.2.2.2.2.2.2.2.2.2.2.2.2.2.2.2.2.2.2.2.1, S.2.2.2.2.2.2.2.2.2.2.2.2.2.2.2.2.2.2.2.2.1, S.2.2.2.2.2.2.2.2.2.2.2.2.2.2.2.2.2.2.2.2.2.1, S.2.2.2.2.2.2.2.2.2.2.2.2.2.2.2.2.2.2.2.2.2.2.1, S.2.2.2.2.2.2.2.2.2.2.2.2.2.2.2.2.2.2.2.2.2.2.2.1, ()) H4)
      (seqE (leafE fun S H k =>
          bindV (evSub S.2.2.1 (.int .i64 (.ofNat 1))) fun t63 =>
          bindV (evSub S.2.2.2.2.2.2.2.2.1 S.2.1) fun t66 =>
          bindV (evSub t63 t66) fun t67 =>
          k (S.1, S.2.1, S.2.2.1, S.2.2.2.1, S.2.2.2.2.1, S.2.2.2.2.2.1, S.2.2.2.2.2.2.1, S.2.2.2.2.2.2.2.1, t67, S.2.2.2.2.2.2.2.2.2.1, S.2.2.2.2.2.2.2.2.2.2.1, S.2.2.2.2.2.2.2.2.2.2.2.1, S.2.2.2.2.2.2.2.2.2.2.2.2.1, S.2.2.2.2.2.2.2.2.2.2.2.2.2.1, S.2.2.2.2.2.2.2.2.2.2.2.2.2.2.1, S.2.2.2.2.2.2.2.2.2.2.2.2.2.2.2.1, S.2.2.2.2.2.2.2.2.2.2.2.2.2.2.2.2.1, S.2.2.2.2.2.2.2.2.2.2.2.2.2.2.2.2.2.1, S.2.2.2.2.2.2.2.2.2.2.2.2.2.2.2.2.2.2.1, S.2.2.2.2.2.2.2.2.2.2.2.2.2.2.2.2.2.2.2.1, S.2.2.2.2.2.2.2.2.2.2.2.2.2.2.2.2.2.2.2.2.1, S.2.2.2.2.2.2.2.2.2.2.2.2.2.2.2.2.2.2.2.2.2.1, S.2.2.2.2.2.2.2.2.2.2.2.2.2.2.2.2.2.2.2.2.2.2.1, S.2.2.2.2.2.2.2.2.2.2.2.2.2.2.2.2.2.2.2.2.2.2.2.1, ()) H)
      (leafE fun S H k =>
          k (S.1, S.2.1, S.2.2.1, S.2.2.2.1, S.2.2.2.2.1, S.2.2.2.2.2.1, S.2.2.2.2.2.2.1, S.2.2.2.2.2.2.2.1, S.2.2.2.2.2.2.2.2.1, (.int .i64 (.ofNat 1)), S.2.2.2.2.2.2.2.2.2.2.1, S.2.2.2.2.2.2.2.2.2.2.2.1, S.2.2.2.2.2.2.2.2.2.2.2.2.1, S.2.2.2.2.2.2.2.2.2.2.2.2.2.1, S.2.2.2.2.2.2.2.2.2.2.2.2.2.2.1, S.2.2.2.2.2.2.2.2.2.2.2.2.2.2.2.1, S.2.2.2.2.2.2.2.2.2.2.2.2.2.2.2.2.1, S.2.2.2.2.2.2.2.2.2.2.2.2.2.2.2.2.2.1, S.2.2.2.2.2.2.2.2.2.2.2.2.2.2.2.2.2.2.1, S.2.2.2.2.2.2.2.2.2.2.2.2.2.2.2.2.2.2.2.1, S.2.2.2.2.2.2.2.2.2.2.2.2.2.2.2.2.2.2.2.2.1, S.2.2.2.2.2.2.2.2.2.2.2.2.2.2.2.2.2.2.2.2.2.1, S.2.2.2.2.2.2.2.2.2.2.2.2.2.2.2.2.2.2.2.2.2.2.1, S.2.2.2.2.2.2.2.2.2.2.2.2.2.2.2.2.2.2.2.2.2.2.2.1, ()) H)))
      (doneE .normal)))
     (seqE (seqE (leafE fun S H k =>
         guarded S.2.2.2.2.2.1 true ( pairVH S.2.2.2.2.2.2.1 H) H fun t70 H5 =>
         bindV (evPick S.2.2.2.2.2.1 t70 (.bool false)) fun t71 =>
         guarded t71 true ( pairVH S.2.2.2.2.2.2.2.2.2.1 H5) H5 fun t73 H6 =>
         guarded t71 true (bindV (evEql .int t73 (.int .i64 (.ofNat 1))) fun t1000000 => pairVH t1000000 H6) H6 fun t74 H7 =>
         bindV (evPick t71 t74 (.bool false)) fun t75 =>
         k (S.1, S.2.1, S.2.2.1, S.2.2.2.1, S.2.2.2.2.1, S.2.2.2.2.2.1, S.2.2.2.2.2.2.1, S.2.2.2.2.2.2.2.1, S.2.2.2.2.2.2.2.2.1, S.2.2.2.2.2.2.2.2.2.1, S.2.2.2.2.2.2.2.2.2.2.1, S.2.2.2.2.2.2.2.2.2.2.2.1, S.2.2.2.2.2.2.2.2.2.2.2.2.1, S.2.2.2.2.2.2.2.2.2.2.2.2.2.1, S.2.2.2.2.2.2.2.2.2.2.2.2.2.2.1, S.2.2.2.2.2.2.2.2.2.2.2.2.2.2.2.1, S.2.2.2.2.2.2.2.2.2.2.2.2.2.2.2.2.1, S.2.2.2.2.2.2.2.2.2.2.2.2.2.2.2.2.2.1, S.2.2.2.2.2.2.2.2.2.2.2.2.2.2.2.2.2.2.1, S.2.2.2.2.2.2.2.2.2.2.2.2.2.2.2.2.2.2.2.1, t75, S.2.2.2.2.2.2.2.2.2.2.2.2.2.2.2.2.2.2.2.2.2.1, S.2.2.2.2.2.2.2.2.2.2.2.2.2.2.2.2.2.2.2.2.2.2.1, S.2.2.2.2.2.2.2.2.2.2.2.2.2.2.2.2.2.2.2.2.2.2.2.1, ()) H7)
     (condE (fun S => some S.2.2.2.2.2.2.2.2.2.2.2.2.2.2.2.2.2.2.2.2.1)
      (seqE (leafE fun S H k =>
          bindVH (call lo 113 [S.1, S.2.1, S.2.2.1, S.2.2.2.2.1] H) fun t80 H8 =>
          k (S.1, S.2.1, S.2.2.1, S.2.2.2.1, S.2.2.2.2.1, S.2.2.2.2.2.1, S.2.2.2.2.2.2.1, S.2.2.2.2.2.2.2.1, S.2.2.2.2.2.2.2.2.1, S.2.2.2.2.2.2.2.2.2.1, S.2.2.2.2.2.2.2.2.2.2.1, S.2.2.2.2.2.2.2.2.2.2.2.1, S.2.2.2.2.2.2.2.2.2.2.2.2.1, S.2.2.2.2.2.2.2.2.2.2.2.2.2.1, S.2.2.2.2.2.2.2.2.2.2.2.2.2.2.1, S.2.2.2.2.2.2.2.2.2.2.2.2.2.2.2.1, S.2.2.2.2.2.2.2.2.2.2.2.2.2.2.2.2.1, S.2.2.2.2.2.2.2.2.2.2.2.2.2.2.2.2.2.1, S.2.2.2.2.2.2.2.2.2.2.2.2.2.2.2.2.2.2.1, S.2.2.2.2.2.2.2.2.2.2.2.2.2.2.2.2.2.2.2.1, S.2.2.2.2.2.2.2.2.2.2.2.2.2.2.2.2.2.2.2.2.1, t80, S.2.2.2.2.2.2.2.2.2.2.2.2.2.2.2.2.2.2.2.2.2.2.1, S.2.2.2.2.2.2.2.2.2.2.2.2.2.2.2.2.2.2.2.2.2.2.2.1, ()) H8)
      (condE (fun S => some S.2.2.2.2.2.2.2.2.2.2.2.2.2.2.2.2.2.2.2.2.2.1)
       (doneE .ret)
       (doneE .normal)))
      (doneE .normal)))
     (seqE (seqE (leafE fun S H k =>
         bindV (evGtr S.2.1 (.int .i64 (.ofNat 0))) fun t82 =>
         guarded t82 true ( pairVH S.2.2.2.2.1 H) H fun t84 H9 =>
         guarded t82 true ( pairVH S.1 H9) H9 fun t85 H10 =>
         guarded t82 true ( pairVH S.2.1 H10) H10 fun t86 H11 =>
         guarded t82 true (bindV (evSub t86 (.int .i64 (.ofNat 1))) fun t1000000 => pairVH t1000000 H11) H11 fun t87 H12 =>
         guarded t82 true (bindV (evIdxSlice 2 t85 t87) fun t1000000 => pairVH t1000000 H12) H12 fun t88 H13 =>
         guarded t82 true (bindV (evLoad H13 true 2 t88) fun t1000000 => pairVH t1000000 H13) H13 fun t89 H14 =>
         guarded t82 true ( pairVH S.1 H14) H14 fun t90 H15 =>
         guarded t82 true ( pairVH S.2.2.2.2.2.2.2.2.1 H15) H15 fun t91 H16 =>
         guarded t82 true (bindV (evIdxSlice 2 t90 t91) fun t1000000 => pairVH t1000000 H16) H16 fun t92 H17 =>
         guarded t82 true (bindV (evLoad H17 true 2 t92) fun t1000000 => pairVH t1000000 H17) H17 fun t93 H18 =>
         guarded t82 true (callVal call lo t84 [t89, t93] H18 fun t1000000 H19 => pairVH t1000000 H19) H18 fun t94 H20 =>
         guarded t82 true (bindV (evLss t94 (.int .i64 (.ofNat 0))) fun t1000000 => pairVH t1000000 H20) H20 fun t95 H21 =>
         guarded t82 true (bindV (evNot t95) fun t1000000 => pairVH t1000000 H21) H21 fun t96 H22 =>
         bindV (evPick t82 t96 (.bool false)) fun t97 =>
         k (S.1, S.2.1, S.2.2.1, S.2.2.2.1, S.2.2.2.2.1, S.2.2.2.2.2.1, S.2.2.2.2.2.2.1, S.2.2.2.2.2.2.2.1, S.2.2.2.2.2.2.2.2.1, S.2.2.2.2.2.2.2.2.2.1, S.2.2.2.2.2.2.2.2.2.2.1, S.2.2.2.2.2.2.2.2.2.2.2.1, S.2.2.2.2.2.2.2.2.2.2.2.2.1, S.2.2.2.2.2.2.2.2.2.2.2.2.2.1, S.2.2.2.2.2.2.2.2.2.2.2.2.2.2.1, S.2.2.2.2.2.2.2.2.2.2.2.2.2.2.2.1, S.2.2.2.2.2.2.2.2.2.2.2.2.2.2.2.2.1, S.2.2.2.2.2.2.2.2.2.2.2.2.2.2.2.2.2.1, S.2.2.2.2.2.2.2.2.2.2.2.2.2.2.2.2.2.2.1, S.2.2.2.2.2.2.2.2.2.2.2.2.2.2.2.2.2.2.2.1, S.2.2.2.2.2.2.2.2.2.2.2.2.2.2.2.2.2.2.2.2.1, S.2.2.2.2.2.2.2.2.2.2.2.2.2.2.2.2.2.2.2.2.2.1, t97, S.2.2.2.2.2.2.2.2.2.2.2.2.2.2.2.2.2.2.2.2.2.2.2.1, ()) H22)
     (condE (fun S => some S.2.2.2.2.2.2.2.2.2.2.2.2.2.2.2.2.2.2.2.2.2.2.1)
      (seqE (leafE fun S H k =>
          bindVH (call lo 114 [S.1, S.2.1, S.2.2.1, S.2.2.2.2.2.2.2.2.1, S.2.2.2.2.1] H) fun t103 H23 =>
          k (S.1, S.2.1, S.2.2.1, S.2.2.2.1, S.2.2.2.2.1, S.2.2.2.2.2.1, S.2.2.2.2.2.2.1, S.2.2.2.2.2.2.2.1, S.2.2.2.2.2.2.2.2.1, S.2.2.2.2.2.2.2.2.2.1, t103, S.2.2.2.2.2.2.2.2.2.2.2.1, S.2.2.2.2.2.2.2.2.2.2.2.2.1, S.2.2.2.2.2.2.2.2.2.2.2.2.2.1, S.2.2.2.2.2.2.2.2.2.2.2.2.2.2.1, S.2.2.2.2.2.2.2.2.2.2.2.2.2.2.2.1, S.2.2.2.2.2.2.2.2.2.2.2.2.2.2.2.2.1, S.2.2.2.2.2.2.2.2.2.2.2.2.2.2.2.2.2.1, S.2.2.2.2.2.2.2.2.2.2.2.2.2.2.2.2.2.2.1, S.2.2.2.2.2.2.2.2.2.2.2.2.2.2.2.2.2.2.2.1, S.2.2.2.2.2.2.2.2.2.2.2.2.2.2.2.2.2.2.2.2.1, S.2.2.2.2.2.2.2.2.2.2.2.2.2.2.2.2.2.2.2.2.2.1, S.2.2.2.2.2.2.2.2.2.2.2.2.2.2.2.2.2.2.2.2.2.2.1, S.2.2.2.2.2.2.2.2.2.2.2.2.2.2.2.2.2.2.2.2.2.2.2.1, ()) H23)
      (seqE (leafE fun S H k =>
          k (S.1, S.2.2.2.2.2.2.2.2.2.2.1, S.2.2.1, S.2.2.2.1, S.2.2.2.2.1, S.2.2.2.2.2.1, S.2.2.2.2.2.2.1, S.2.2.2.2.2.2.2.1, S.2.2.2.2.2.2.2.2.1, S.2.2.2.2.2.2.2.2.2.1, S.2.2.2.2.2.2.2.2.2.2.1, S.2.2.2.2.2.2.2.2.2.2.2.1, S.2.2.2.2.2.2.2.2.2.2.2.2.1, S.2.2.2.2.2.2.2.2.2.2.2.2.2.1, S.2.2.2.2.2.2.2.2.2.2.2.2.2.2.1, S.2.2.2.2.2.2.2.2.2.2.2.2.2.2.2.1, S.2.2.2.2.2.2.2.2.2.2.2.2.2.2.2.2.1, S.2.2.2.2.2.2.2.2.2.2.2.2.2.2.2.2.2.1, S.2.2.2.2.2.2.2.2.2.2.2.2.2.2.2.2.2.2.1, S.2.2.2.2.2.2.2.2.2.2.2.2.2.2.2.2.2.2.2.1, S.2.2.2.2.2.2.2.2.2.2.2.2.2.2.2.2.2.2.2.2.1, S.2.2.2.2.2.2.2.2.2.2.2.2.2.2.2.2.2.2.2.2.2.1, S.2.2.2.2.2.2.2.2.2.2.2.2.2.2.2.2.2.2.2.2.2.2.1, S.2.2.2.2.2.2.2.2.2.2.2.2.2.2.2.2.2.2.2.2.2.2.2.1, ()) H)
      (doneE (.exit 1))))
      (doneE .normal)))
     (seqE (leafE fun S H k =>
         bindVH (call lo 115 [S.1, S.2.1, S.2.2.1, S.2.2.2.2.2.2.2.2.1, S.2.2.2.2.1] H) fun t111 H24 =>
         bindV (evComp t111 0) fun t112 =>
         bindV (evComp t111 1) fun t113 =>
         k (S.1, S.2.1, S.2.2.1, S.2.2.2.1, S.2.2.2.2.1, S.2.2.2.2.2.1, S.2.2.2.2.2.2.1, S.2.2.2.2.2.2.2.1, S.2.2.2.2.2.2.2.2.1, S.2.2.2.2.2.2.2.2.2.1, S.2.2.2.2.2.2.2.2.2.2.1, t112, t113, S.2.2.2.2.2.2.2.2.2.2.2.2.2.1, S.2.2.2.2.2.2.2.2.2.2.2.2.2.2.1, S.2.2.2.2.2.2.2.2.2.2.2.2.2.2.2.1, S.2.2.2.2.2.2.2.2.2.2.2.2.2.2.2.2.1, S.2.2.2.2.2.2.2.2.2.2.2.2.2.2.2.2.2.1, S.2.2.2.2.2.2.2.2.2.2.2.2.2.2.2.2.2.2.1, S.2.2.2.2.2.2.2.2.2.2.2.2.2.2.2.2.2.2.2.1, S.2.2.2.2.2.2.2.2.2.2.2.2.2.2.2.2.2.2.2.2.1, S.2.2.2.2.2.2.2.2.2.2.2.2.2.2.2.2.2.2.2.2.2.1, S.2.2.2.2.2.2.2.2.2.2.2.2.2.2.2.2.2.2.2.2.2.2.1, S.2.2.2.2.2.2.2.2.2.2.2.2.2.2.2.2.2.2.2.2.2.2.2.1, ()) H24)
     (seqE (leafE fun S H k =>
         k (S.1, S.2.1, S.2.2.1, S.2.2.2.1, S.2.2.2.2.1, S.2.2.2.2.2.1, S.2.2.2.2.2.2.2.2.2.2.2.2.1, S.2.2.2.2.2.2.2.1, S.2.2.2.2.2.2.2.2.1, S.2.2.2.2.2.2.2.2.2.1, S.2.2.2.2.2.2.2.2.2.2.1, S.2.2.2.2.2.2.2.2.2.2.2.1, S.2.2.2.2.2.2.2.2.2.2.2.2.1, S.2.2.2.2.2.2.2.2.2.2.2.2.2.1, S.2.2.2.2.2.2.2.2.2.2.2.2.2.2.1, S.2.2.2.2.2.2.2.2.2.2.2.2.2.2.2.1, S.2.2.2.2.2.2.2.2.2.2.2.2.2.2.2.2.1, S.2.2.2.2.2.2.2.2.2.2.2.2.2.2.2.2.2.1, S.2.2.2.2.2.2.2.2.2.2.2.2.2.2.2.2.2.2.1, S.2.2.2.2.2.2.2.2.2.2.2.2.2.2.2.2.2.2.2.1, S.2.2.2.2.2.2.2.2.2.2.2.2.2.2.2.2.2.2.2.2.1, S.2.2.2.2.2.2.2.2.2.2.2.2.2.2.2.2.2.2.2.2.2.1, S.2.2.2.2.2.2.2.2.2.2.2.2.2.2.2.2.2.2.2.2.2.2.1, S.2.2.2.2.2.2.2.2.2.2.2.2.2.2.2.2.2.2.2.2.2.2.2.1, ()) H)
     (seqE (leafE fun S H k =>
         bindV (evSub S.2.2.2.2.2.2.2.2.2.2.2.1 S.2.1) fun t117 =>
         bindV (evSub S.2.2.1 S.2.2.2.2.2.2.2.2.2.2.2.1) fun t120 =>
         k (S.1, S.2.1, S.2.2.1, S.2.2.2.1, S.2.2.2.2.1, S.2.2.2.2.2.1, S.2.2.2.2.2.2.1, S.2.2.2.2.2.2.2.1, S.2.2.2.2.2.2.2.2.1, S.2.2.2.2.2.2.2.2.2.1, S.2.2.2.2.2.2.2.2.2.2.1, S.2.2.2.2.2.2.2.2.2.2.2.1, S.2.2.2.2.2.2.2.2.2.2.2.2.1, t117, t120, S.2.2.2.2.2.2.2.2.2.2.2.2.2.2.2.1, S.2.2.2.2.2.2.2.2.2.2.2.2.2.2.2.2.1, S.2.2.2.2.2.2.2.2.2.2.2.2.2.2.2.2.2.1, S.2.2.2.2.2.2.2.2.2.2.2.2.2.2.2.2.2.2.1, S.2.2.2.2.2.2.2.2.2.2.2.2.2.2.2.2.2.2.2.1, S.2.2.2.2.2.2.2.2.2.2.2.2.2.2.2.2.2.2.2.2.1, S.2.2.2.2.2.2.2.2.2.2.2.2.2.2.2.2.2.2.2.2.2.1, S.2.2.2.2.2.2.2.2.2.2.2.2.2.2.2.2.2.2.2.2.2.2.1, S.2.2.2.2.2.2.2.2.2.2.2.2.2.2.2.2.2.2.2.2.2.2.2.1, ()) H)
     (seqE (leafE fun S H k =>
         bindV (evQuo S.2.2.2.2.2.2.2.1 (.int .i64 (.ofNat 8))) fun t122 =>
         k (S.1, S.2.1, S.2.2.1, S.2.2.2.1, S.2.2.2.2.1, S.2.2.2.2.2.1, S.2.2.2.2.2.2.1, S.2.2.2.2.2.2.2.1, S.2.2.2.2.2.2.2.2.1, S.2.2.2.2.2.2.2.2.2.1, S.2.2.2.2.2.2.2.2.2.2.1, S.2.2.2.2.2.2.2.2.2.2.2.1, S.2.2.2.2.2.2.2.2.2.2.2.2.1, S.2.2.2.2.2.2.2.2.2.2.2.2.2.1, S.2.2.2.2.2.2.2.2.2.2.2.2.2.2.1, t122, S.2.2.2.2.2.2.2.2.2.2.2.2.2.2.2.2.1, S.2.2.2.2.2.2.2.2.2.2.2.2.2.2.2.2.2.1, S.2.2.2.2.2.2.2.2.2.2.2.2.2.2.2.2.2.2.1, S.2.2.2.2.2.2.2.2.2.2.2.2.2.2.2.2.2.2.2.1, S.2.2.2.2.2.2.2.2.2.2.2.2.2.2.2.2.2.2.2.2.1, S.2.2.2.2.2.2.2.2.2.2.2.2.2.2.2.2.2.2.2.2.2.1, S.2.2.2.2.2.2.2.2.2.2.2.2.2.2.2.2.2.2.2.2.2.2.1, S.2.2.2.2.2.2.2.2.2.2.2.2.2.2.2.2.2.2.2.2.2.2.2.1, ()) H)
     (seqE (leafE fun S H k =>
         bindV (evLss S.2.2.2.2.2.2.2.2.2.2.2.2.2.1 S.2.2.2.2.2.2.2.2.2.2.2.2.2.2.1) fun t125 =>
         k (S.1, S.2.1, S.2.2.1, S.2.2.2.1, S.2.2.2.2.1, S.2.2.2.2.2.1, S.2.2.2.2.2.2.1, S.2.2.2.2.2.2.2.1, S.2.2.2.2.2.2.2.2.1, S.2.2.2.2.2.2.2.2.2.1, S.2.2.2.2.2.2.2.2.2.2.1, S.2.2.2.2.2.2.2.2.2.2.2.1, S.2.2.2.2.2.2.2.2.2.2.2.2.1, S.2.2.2.2.2.2.2.2.2.2.2.2.2.1, S.2.2.2.2.2.2.2.2.2.2.2.2.2.2.1, S.2.2.2.2.2.2.2.2.2.2.2.2.2.2.2.1, S.2.2.2.2.2.2.2.2.2.2.2.2.2.2.2.2.1, S.2.2.2.2.2.2.2.2.2.2.2.2.2.2.2.2.2.1, S.2.2.2.2.2.2.2.2.2.2.2.2.2.2.2.2.2.2.1, S.2.2.2.2.2.2.2.2.2.2.2.2.2.2.2.2.2.2.2.1, S.2.2.2.2.2.2.2.2.2.2.2.2.2.2.2.2.2.2.2.2.1, S.2.2.2.2.2.2.2.2.2.2.2.2.2.2.2.2.2.2.2.2.2.1, S.2.2.2.2.2.2.2.2.2.2.2.2.2.2.2.2.2.2.2.2.2.2.1, t125, ()) H)
     (condE (fun S => some S.2.2.2.2.2.2.2.2.2.2.2.2.2.2.2.2.2.2.2.2.2.2.2.1)
      (seqE (leafE fun S H k =>
          bindV (evGeq S.2.2.2.2.2.2.2.2.2.2.2.2.2.1 S.2.2.2.2.2.2.2.2.2.2.2.2.2.2.2.1) fun t128 =>
          k (S.1, S.2.1, S.2.2.1, S.2.2.2.1, S.2.2.2.2.1, t128, S.2.2.2.2.2.2.1, S.2.2.2.2.2.2.2.1, S.2.2.2.2.2.2.2.2.1, S.2.2.2.2.2.2.2.2.2.1, S.2.2.2.2.2.2.2.2.2.2.1, S.2.2.2.2.2.2.2.2.2.2.2.1, S.2.2.2.2.2.2.2.2.2.2.2.2.1, S.2.2.2.2.2.2.2.2.2.2.2.2.2.1, S.2.2.2.2.2.2.2.2.2.2.2.2.2.2.1, S.2.2.2.2.2.2.2.2.2.2.2.2.2.2.2.1, S.2.2.2.2.2.2.2.2.2.2.2.2.2.2.2.2.1, S.2.2.2.2.2.2.2.2.2.2.2.2.2.2.2.2.2.1, S.2.2.2.2.2.2.2.2.2.2.2.2.2.2.2.2.2.2.1, S.2.2.2.2.2.2.2.2.2.2.2.2.2.2.2.2.2.2.2.1, S.2.2.2.2.2.2.2.2.2.2.2.2.2.2.2.2.2.2.2.2.1, S.2.2.2.2.2.2.2.2.2.2.2.2.2.2.2.2.2.2.2.2.2.1, S.2.2.2.2.2.2.2.2.2.2.2.2.2.2.2.2.2.2.2.2.2.2.1, S.2.2.2.2.2.2.2.2.2.2.2.2.2.2.2.2.2.2.2.2.2.2.2.1, ()) H)
      (seqE (leafE fun S H k =>
          bindVH (call lo 104 [S.1, S.2.1, S.2.2.2.2.2.2.2.2.2.2.2.1, S.2.2.2.1, S.2.2.2.2.1] H) fun t134 H25 =>
          k (S.1, S.2.1, S.2.2.1, S.2.2.2.1, S.2.2.2.2.1, S.2.2.2.2.2.1, S.2.2.2.2.2.2.1, S.2.2.2.2.2.2.2.1, S.2.2.2.2.2.2.2.2.1, S.2.2.2.2.2.2.2.2.2.1, S.2.2.2.2.2.2.2.2.2.2.1, S.2.2.2.2.2.2.2.2.2.2.2.1, S.2.2.2.2.2.2.2.2.2.2.2.2.1, S.2.2.2.2.2.2.2.2.2.2.2.2.2.1, S.2.2.2.2.2.2.2.2.2.2.2.2.2.2.1, S.2.2.2.2.2.2.2.2.2.2.2.2.2.2.2.1, S.2.2.2.2.2.2.2.2.2.2.2.2.2.2.2.2.1, S.2.2.2.2.2.2.2.2.2.2.2.2.2.2.2.2.2.1, S.2.2.2.2.2.2.2.2.2.2.2.2.2.2.2.2.2.2.1, S.2.2.2.2.2.2.2.2.2.2.2.2.2.2.2.2.2.2.2.1, S.2.2.2.2.2.2.2.2.2.2.2.2.2.2.2.2.2.2.2.2.1, S.2.2.2.2.2.2.2.2.2.2.2.2.2.2.2.2.2.2.2.2.2.1, S.2.2.2.2.2.2.2.2.2.2.2.2.2.2.2.2.2.2.2.2.2.2.1, S.2.2.2.2.2.2.2.2.2.2.2.2.2.2.2.2.2.2.2.2.2.2.2.1, ()) H25)
      (leafE fun S H k =>
          bindV (evAdd S.2.2.2.2.2.2.2.2.2.2.2.1 (.int .i64 (.ofNat 1))) fun t136 =>
          k (S.1, t136, S.2.2.1, S.2.2.2.1, S.2.2.2.2.1, S.2.2.2.2.2.1, S.2.2.2.2.2.2.1, S.2.2.2.2.2.2.2.1, S.2.2.2.2.2.2.2.2.1, S.2.2.2.2.2.2.2.2.2.1, S.2.2.2.2.2.2.2.2.2.2.1, S.2.2.2.2.2.2.2.2.2.2.2.1, S.2.2.2.2.2.2.2.2.2.2.2.2.1, S.2.2.2.2.2.2.2.2.2.2.2.2.2.1, S.2.2.2.2.2.2.2.2.2.2.2.2.2.2.1, S.2.2.2.2.2.2.2.2.2.2.2.2.2.2.2.1, S.2.2.2.2.2.2.2.2.2.2.2.2.2.2.2.2.1, S.2.2.2.2.2.2.2.2.2.2.2.2.2.2.2.2.2.1, S.2.2.2.2.2.2.2.2.2.2.2.2.2.2.2.2.2.2.1, S.2.2.2.2.2.2.2.2.2.2.2.2.2.2.2.2.2.2.2.1, S.2.2.2.2.2.2.2.2.2.2.2.2.2.2.2.2.2.2.2.2.1, S.2.2.2.2.2.2.2.2.2.2.2.2.2.2.2.2.2.2.2.2.2.1, S.2.2.2.2.2.2.2.2.2.2.2.2.2.2.2.2.2.2.2.2.2.2.1, S.2.2.2.2.2.2.2.2.2.2.2.2.2.2.2.2.2.2.2.2.2.2.2.1, ()) H)))
      (seqE (leafE fun S H k =>
          bindV (evGeq S.2.2.2.2.2.2.2.2.2.2.2.2.2.2.1 S.2.2.2.2.2.2.2.2.2.2.2.2.2.2.2.1) fun t139 =>
          k (S.1, S.2.1, S.2.2.1, S.2.2.2.1, S.2.2.2.2.1, t139, S.2.2.2.2.2.2.1, S.2.2.2.2.2.2.2.1, S.2.2.2.2.2.2.2.2.1, S.2.2.2.2.2.2.2.2.2.1, S.2.2.2.2.2.2.2.2.2.2.1, S.2.2.2.2.2.2.2.2.2.2.2.1, S.2.2.2.2.2.2.2.2.2.2.2.2.1, S.2.2.2.2.2.2.2.2.2.2.2.2.2.1, S.2.2.2.2.2.2.2.2.2.2.2.2.2.2.1, S.2.2.2.2.2.2.2.2.2.2.2.2.2.2.2.1, S.2.2.2.2.2.2.2.2.2.2.2.2.2.2.2.2.1, S.2.2.2.2.2.2.2.2.2.2.2.2.2.2.2.2.2.1, S.2.2.2.2.2.2.2.2.2.2.2.2.2.2.2.2.2.2.1, S.2.2.2.2.2.2.2.2.2.2.2.2.2.2.2.2.2.2.2.1, S.2.2.2.2.2.2.2.2.2.2.2.2.2.2.2.2.2.2.2.2.1, S.2.2.2.2.2.2.2.2.2.2.2.2.2.2.2.2.2.2.2.2.2.1, S.2.2.2.2.2.2.2.2.2.2.2.2.2.2.2.2.2.2.2.2.2.2.1, S.2.2.2.2.2.2.2.2.2.2.2.2.2.2.2.2.2.2.2.2.2.2.2.1, ()) H)
      (seqE (leafE fun S H k =>
          bindV (evAdd S.2.2.2.2.2.2.2.2.2.2.2.1 (.int .i64 (.ofNat 1))) fun t142 =>
          bindVH (call lo 104 [S.1, t142, S.2.2.1, S.2.2.2.1, S.2.2.2.2.1] H) fun t146 H26 =>
          k (S.1, S.2.1, S.2.2.1, S.2.2.2.1, S.2.2.2.2.1, S.2.2.2.2.2.1, S.2.2.2.2.2.2.1, S.2.2.2.2.2.2.2.1, S.2.2.2.2.2.2.2.2.1, S.2.2.2.2.2.2.2.2.2.1, S.2.2.2.2.2.2.2.2.2.2.1, S.2.2.2.2.2.2.2.2.2.2.2.1, S.2.2.2.2.2.2.2.2.2.2.2.2.1, S.2.2.2.2.2.2.2.2.2.2.2.2.2.1, S.2.2.2.2.2.2.2.2.2.2.2.2.2.2.1, S.2.2.2.2.2.2.2.2.2.2.2.2.2.2.2.1, S.2.2.2.2.2.2.2.2.2.2.2.2.2.2.2.2.1, S.2.2.2.2.2.2.2.2.2.2.2.2.2.2.2.2.2.1, S.2.2.2.2.2.2.2.2.2.2.2.2.2.2.2.2.2.2.1, S.2.2.2.2.2.2.2.2.2.2.2.2.2.2.2.2.2.2.2.1, S.2.2.2.2.2.2.2.2.2.2.2.2.2.2.2.2.2.2.2.2.1, S.2.2.2.2.2.2.2.2.2.2.2.2.2.2.2.2.2.2.2.2.2.1, S.2.2.2.2.2.2.2.2.2.2.2.2.2.2.2.2.2.2.2.2.2.2.1, S.2.2.2.2.2.2.2.2.2.2.2.2.2.2.2.2.2.2.2.2.2.2.2.1, ()) H26)
      (leafE fun S H k =>
          k (S.1, S.2.1, S.2.2.2.2.2.2.2.2.2.2.2.1, S.2.2.2.1, S.2.2.2.2.1, S.2.2.2.2.2.1, S.2.2.2.2.2.2.1, S.2.2.2.2.2.2.2.1, S.2.2.2.2.2.2.2.2.1, S.2.2.2.2.2.2.2.2.2.1, S.2.2.2.2.2.2.2.2.2.2.1, S.2.2.2.2.2.2.2.2.2.2.2.1, S.2.2.2.2.2.2.2.2.2.2.2.2.1, S.2.2.2.2.2.2.2.2.2.2.2.2.2.1, S.2.2.2.2.2.2.2.2.2.2.2.2.2.2.1, S.2.2.2.2.2.2.2.2.2.2.2.2.2.2.2.1, S.2.2.2.2.2.2.2.2.2.2.2.2.2.2.2.2.1, S.2.2.2.2.2.2.2.2.2.2.2.2.2.2.2.2.2.1, S.2.2.2.2.2.2.2.2.2.2.2.2.2.2.2.2.2.2.1, S.2.2.2.2.2.2.2.2.2.2.2.2.2.2.2.2.2.2.2.1, S.2.2.2.2.2.2.2.2.2.2.2.2.2.2.2.2.2.2.2.2.1, S.2.2.2.2.2.2.2.2.2.2.2.2.2.2.2.2.2.2.2.2.2.1, S.2.2.2.2.2.2.2.2.2.2.2.2.2.2.2.2.2.2.2.2.2.2.1, S.2.2.2.2.2.2.2.2.2.2.2.2.2.2.2.2.2.2.2.2.2.2.2.1, ()) H)))))))))))))))))) fuel))))

def F104 (call : CallF) (lo : Nat) (args : List Value) (H : AH) : Option (Value × AH) :=
  leave .all H (bindV (C104 call (lowOf .all lo H) (argAt args 0, argAt args 1, argAt args 2, argAt args 3, argAt args 4, argAt args 10, argAt args 11, argAt args 12, argAt args 13, argAt args 14, argAt args 15, argAt args 16, argAt args 17, argAt args 18, argAt args 19, argAt args 20, argAt args 25, argAt args 32, argAt args 39, argAt args 56, argAt args 75, argAt args 80, argAt args 97, argAt args 125, ()) H) fun p => resE p.1 (some (oneOf [], p.2.2)))

theorem F104_eq (call : CallF) (lo : Nat) (args : List Value) (H : AH) : evFn P ctx call lo 104 args H = F104 call lo args H := by kernel_rfl

/-- math/bits.OnesCount32 -/
def C105 (call : CallF) (lo : Nat) : Piece (Value × Value × Unit) :=
  (seqE (leafE fun S H k =>
      k (S.1, (.int .i64 (.ofNat 0)), ()) H)
  (seqE (leafE fun S H k =>
      bindV (evShr S.1 (.int .u64 (.ofNat 24))) fun t4 =>
      bindV (evIdxStr str1 t4) fun t5 =>
      bindV (evShr S.1 (.int .u64 (.ofNat 16))) fun t7 =>
      bindV (evAnd t7 (.int .u32 (.ofNat 255))) fun t8 =>
      bindV (evIdxStr str1 t8) fun t9 =>
      bindV (evAdd t5 t9) fun t10 =>
      bindV (evShr S.1 (.int .u64 (.ofNat 8))) fun t12 =>
      bindV (evAnd t12 (.int .u32 (.ofNat 255))) fun t13 =>
      bindV (evIdxStr str1 t13) fun t14 =>
      bindV (evAdd t10 t14) fun t15 =>
      bindV (evAnd S.1 (.int .u32 (.ofNat 255))) fun t17 =>
      bindV (evIdxStr str1 t17) fun t18 =>
      bindV (evAdd t15 t18) fun t19 =>
      bindV (evConv .i64 t19) fun t20 =>
      k (S.1, t20, ()) H)
  (doneE .ret)))

def F105 (call : CallF) (lo : Nat) (args : List Value) (H : AH) : Option (Value × AH) :=
  leave .all H (bindV (C105 call (lowOf .all lo H) (argAt args 0, argAt args 2, ()) H) fun p => resE p.1 (some (oneOf [p.2.1.2.1], p.2.2)))

theorem F105_eq (call : CallF) (lo : Nat) (args : List Value) (H : AH) : evFn P ctx call lo 105 args H = F105 call lo args H := by kernel_rfl

/-- math/bits.OnesCount64 -/
def C106 (call : CallF) (lo : Nat) : Piece (Value × Value × Unit) :=
  (seqE (leafE fun S H k =>
      k (S.1, (.int .i64 (.ofNat 0)), ()) H)
  (seqE (leafE fun S H k =>
      bindV (evShr S.1 (.int .u64 (.ofNat 1))) fun t4 =>
      bindV (evAnd t4 (.int .u64 (.ofNat 6148914691236517205))) fun t5 =>
      bindV (evAnd S.1 (.int .u64 (.ofNat 6148914691236517205))) fun t7 =>
      bindV (evAdd t5 t7) fun t8 =>
      k (t8, S.2.1, ()) H)
  (seqE (leafE fun S H k =>
      bindV (evShr S.1 (.int .u64 (.ofNat 2))) fun t10 =>
      bindV (evAnd t10 (.int .u64 (.ofNat 3689348814741910323))) fun t11 =>
      bindV (evAnd S.1 (.int .u64 (.ofNat 3689348814741910323))) fun t13 =>
      bindV (evAdd t11 t13) fun t14 =>
      k (t14, S.2.1, ()) H)
  (seqE (leafE fun S H k =>
      bindV (evShr S.1 (.int .u64 (.ofNat 4))) fun t16 =>
      bindV (evAdd t16 S.1) fun t18 =>
      bindV (evAnd t18 (.int .u64 (.ofNat 1085102592571150095))) fun t19 =>
      k (t19, S.2.1, ()) H)
  (seqE (leafE fun S H k =>
      bindV (evShr S.1 (.int .u64 (.ofNat 8))) fun t22 =>
      bindV (evAdd S.1 t22) fun t23 =>
      k (t23, S.2.1, ()) H)
  (seqE (leafE fun S H k =>
      bindV (evShr S.1 (.int .u64 (.ofNat 16))) fun t26 =>
      bindV (evAdd S.1 t26) fun t27 =>
      k (t27, S.2.1, ()) H)
  (seqE (leafE fun S H k =>
      bindV (evShr S.1 (.int .u64 (.ofNat 32))) fun t30 =>
      bindV (evAdd S.1 t30) fun t31 =>
      k (t31, S.2.1, ()) H)
  (seqE (leafE fun S H k =>
      bindV (evConv .i64 S.1) fun t33 =>
      bindV (evAnd t33 (.int .i64 (.ofNat 127))) fun t34 =>
      k (S.1, t34, ()) H)
  (doneE .ret)))))))))

def F106 (call : CallF) (lo : Nat) (args : List Value) (H : AH) : Option (Value × AH) :=
  leave .all H (bindV (C106 call (lowOf .all lo H) (argAt args 0, argAt args 2, ()) H) fun p => resE p.1 (some (oneOf [p.2.1.2.1], p.2.2)))

theorem F106_eq (call : CallF) (lo : Nat) (args : List Value) (H : AH) : evFn P ctx call lo 106 args H = F106 call lo args H := by kernel_rfl

/-- slices.order2Ordered[int] -/
def C107 (call : CallF) (lo : Nat) : Piece (Value × Value × Value × Value × Value × Value × Value × Unit) :=
  (seqE (leafE fun S H k =>
      k (S.1, S.2.1, S.2.2.1, S.2.2.2.1, (.int .i64 (.ofNat 0)), (.int .i64 (.ofNat 0)), S.2.2.2.2.2.2.1, ()) H)
  (seqE (seqE (leafE fun S H k =>
      bindV (evIdxSlice 1 S.1 S.2.2.1) fun t12 =>
      bindV (evLoad H false 1 t12) fun t13 =>
      bindV (evIdxSlice 1 S.1 S.2.1) fun t16 =>
      bindV (evLoad H false 1 t16) fun t17 =>
      bindVH (call lo 68 [t13, t17] H) fun t18 H0 =>
      k (S.1, S.2.1, S.2.2.1, S.2.2.2.1, S.2.2.2.2.1, S.2.2.2.2.2.1, t18, ()) H0)
  (condE (fun S => some S.2.2.2.2.2.2.1)
   (seqE (leafE fun S H k =>
       bindV (evNil S.2.2.2.1) fun t20 =>
       bindV (evLoad H false 1 t20) fun t21 =>
       bindV (evAdd t21 (.int .i64 (.ofNat 1))) fun t22 =>
       bindV (evNil S.2.2.2.1) fun t23 =>
       bindV (evStore lo H 1 t23 t22) fun H1 =>
       k (S.1, S.2.1, S.2.2.1, S.2.2.2.1, S.2.2.2.2.1, S.2.2.2.2.2.1, S.2.2.2.2.2.2.1, ()) H1)
   (seqE (leafE fun S H k =>
       k (S.1, S.2.1, S.2.2.1, S.2.2.2.1, S.2.2.1, S.2.1, S.2.2.2.2.2.2.1, ()) H)
   (doneE .ret)))
   (doneE .normal)))
  (seqE (leafE fun S H k =>
      k (S.1, S.2.1, S.2.2.1, S.2.2.2.1, S.2.1, S.2.2.1, S.2.2.2.2.2.2.1, ()) H)
  (doneE .ret))))

def F107 (call : CallF) (lo : Nat) (args : List Value) (H : AH) : Option (Value × AH) :=
  leave .all H (bindV (C107 call (lowOf .all lo H) (argAt args 0, argAt args 1, argAt args 2, argAt args 3, argAt args 8, argAt args 9, argAt args 18, ()) H) fun p => resE p.1 (some (oneOf [p.2.1.2.2.2.2.1, p.2.1.2.2.2.2.2.1], p.2.2)))

theorem F107_eq (call : CallF) (lo : Nat) (args : List Value) (H : AH) : evFn P ctx call lo 107 args H = F107 call lo args H := by kernel_rfl

/-- slices.insertionSortCmpFunc[[2]int] -/
def C108 (call : CallF) (lo : Nat) : Piece (Value × Value × Value × Value × Value × Value × Value × Value × Unit) :=
  (seqE (leafE fun S H k =>
      bindV (evAdd S.2.1 (.int .i64 (.ofNat 1))) fun t11 =>
      k (S.1, S.2.1, S.2.2.1, S.2.2.2.1, t11, S.2.2.2.2.2.1, S.2.2.2.2.2.2.1, S.2.2.2.2.2.2.2.1, ()) H)
  (blockE 0 (loopE (seqE (seqE (leafE fun S H k =>
        bindV (evLss S.2.2.2.2.1 S.2.2.1) fun t14 =>
        k (S.1, S.2.1, S.2.2.1, S.2.2.2.1, S.2.2.2.2.1, S.2.2.2.2.2.1, t14, S.2.2.2.2.2.2.2.1, ()) H)
    (condE (fun S => some S.2.2.2.2.2.2.1)
     (doneE .normal)
     (doneE (.exit 0))))
    (seqE (blockE 1 (seqE (leafE fun S H k =>
         k (S.1, S.2.1, S.2.2.1, S.2.2.2.1, S.2.2.2.2.1, S.2.2.2.2.1, S.2.2.2.2.2.2.1, S.2.2.2.2.2.2.2.1, ()) H)
     (blockE 2 (loopE (seqE (seqE (leafE fun S H k =>
           bindV (evGtr S.2.2.2.2.2.1 S.2.1) fun t20 =>
           guarded t20 true ( pairVH S.2.2.2.1 H) H fun t22 H0 =>
           guarded t20 true ( pairVH S.1 H0) H0 fun t23 H1 =>
           guarded t20 true ( pairVH S.2.2.2.2.2.1 H1) H1 fun t24 H2 =>
           guarded t20 true (bindV (evIdxSlice 2 t23 t24) fun t1000000 => pairVH t1000000 H2) H2 fun t25 H3 =>
           guarded t20 true (bindV (evLoad H3 true 2 t25) fun t1000000 => pairVH t1000000 H3) H3 fun t26 H4 =>
           guarded t20 true ( pairVH S.1 H4) H4 fun t27 H5 =>
           guarded t20 true ( pairVH S.2.2.2.2.2.1 H5) H5 fun t28 H6 =>
           guarded t20 true (bindV (evSub t28 (.int .i64 (.ofNat 1))) fun t1000000 => pairVH t1000000 H6) H6 fun t29 H7 =>
           guarded t20 true (bindV (evIdxSlice 2 t27 t29) fun t1000000 => pairVH t1000000 H7) H7 fun t30 H8 =>
           guarded t20 true (bindV (evLoad H8 true 2 t30) fun t1000000 => pairVH t1000000 H8) H8 fun t31 H9 =>
           guarded t20 true (callVal call lo t22 [t26, t31] H9 fun t1000000 H10 => pairVH t1000000 H10) H9 fun t32 H11 =>
           guarded t20 true (bindV (evLss t32 (.int .i64 (.ofNat 0))) fun t1000000 => pairVH t1000000 H11) H11 fun t33 H12 =>
           bindV (evPick t20 t33 (.bool false)) fun t34 =>
           k (S.1, S.2.1, S.2.2.1, S.2.2.2.1, S.2.2.2.2.1, S.2.2.2.2.2.1, S.2.2.2.2.2.2.1, t34, ()) H12)
       (condE (fun S => some S.2.2.2.2.2.2.2.1)
        (doneE .normal)
        (doneE (.exit 2))))
       (seqE (blockE 3 (leafE fun S H k =>
            bindV (evSub S.2.2.2.2.2.1 (.int .i64 (.ofNat 1))) fun t41 =>
            bindV (evSub S.2.2.2.2.2.1 (.int .i64 (.ofNat 1))) fun t44 =>
            bindV (evIdxSlice 2 S.1 t44) fun t45 =>
            bindV (evLoad H true 2 t45) fun t46 =>
            bindV (evIdxSlice 2 S.1 S.2.2.2.2.2.1) fun t49 =>
            bindV (evLoad H true 2 t49) fun t50 =>
            bindV (evIdxSlice 2 S.1 S.2.2.2.2.2.1) fun t51 =>
            bindV (evStore lo H 2 t51 t46) fun H13 =>
            bindV (evIdxSlice 2 S.1 t41) fun t52 =>
            bindV (evStore lo H13 2 t52 t50) fun H14 =>
            k (S.1, S.2.1, S.2.2.1, S.2.2.2.1, S.2.2.2.2.1, S.2.2.2.2.2.1, S.2.2.2.2.2.2.1, S.2.2.2.2.2.2.2.1, ()) H14))
       (leafE fun S H k =>
           bindV (evSub S.2.2.2.2.2.1 (.int .i64 (.ofNat 1))) fun t36 =>
           k (S.1, S.2.1, S.2.2.1, S.2.2.2.1, S.2.2.2.2.1, t36, S.2.2.2.2.2.2.1, S.2.2.2.2.2.2.2.1, ()) H))) fuel))))
    (leafE fun S H k =>
        bindV (evAdd S.2.2.2.2.1 (.int .i64 (.ofNat 1))) fun t16 =>
        k (S.1, S.2.1, S.2.2.1, S.2.2.2.1, t16, S.2.2.2.2.2.1, S.2.2.2.2.2.2.1, S.2.2.2.2.2.2.2.1, ()) H))) fuel)))

def F108 (call : CallF) (lo : Nat) (args : List Value) (H : AH) : Option (Value × AH) :=
  leave .all H (bindV (C108 call (lowOf .all lo H) (argAt args 0, argAt args 1, argAt args 2, argAt args 3, argAt args 8, argAt args 9, argAt args 14, argAt args 34, ()) H) fun p => resE p.1 (some (oneOf [], p.2.2)))

theorem F108_eq (call : CallF) (lo : Nat) (args : List Value) (H : AH) : evFn P ctx call lo 108 args H = F108 call lo args H := by kernel_rfl

/-- slices.heapSortCmpFunc[[2]int] -/
def C109 (call : CallF) (lo : Nat) : Piece (Value × Value × Value × Value × Value × Value × Value × Value × Value × Value × Value × Unit) :=
  (seqE (leafE fun S H k =>
      k (S.1, S.2.1, S.2.2.1, S.2.2.2.1, S.2.1, S.2.2.2.2.2.1, S.2.2.2.2.2.2.1, S.2.2.2.2.2.2.2.1, S.2.2.2.2.2.2.2.2.1, S.2.2.2.2.2.2.2.2.2.1, S.2.2.2.2.2.2.2.2.2.2.1, ()) H)
  (seqE (leafE fun S H k =>
      k (S.1, S.2.1, S.2.2.1, S.2.2.2.1, S.2.2.2.2.1, (.int .i64 (.ofNat 0)), S.2.2.2.2.2.2.1, S.2.2.2.2.2.2.2.1, S.2.2.2.2.2.2.2.2.1, S.2.2.2.2.2.2.2.2.2.1, S.2.2.2.2.2.2.2.2.2.2.1, ()) H)
  (seqE (leafE fun S H k =>
      bindV (evSub S.2.2.1 S.2.1) fun t16 =>
      k (S.1, S.2.1, S.2.2.1, S.2.2.2.1, S.2.2.2.2.1, S.2.2.2.2.2.1, t16, S.2.2.2.2.2.2.2.1, S.2.2.2.2.2.2.2.2.1, S.2.2.2.2.2.2.2.2.2.1, S.2.2.2.2.2.2.2.2.2.2.1, ()) H)
  (seqE (seqE (leafE fun S H k =>
      bindV (evSub S.2.2.2.2.2.2.1 (.int .i64 (.ofNat 1))) fun t18 =>
      bindV (evQuo t18 (.int .i64 (.ofNat 2))) fun t19 =>
      k (S.1, S.2.1, S.2.2.1, S.2.2.2.1, S.2.2.2.2.1, S.2.2.2.2.2.1, S.2.2.2.2.2.2.1, t19, S.2.2.2.2.2.2.2.2.1, S.2.2.2.2.2.2.2.2.2.1, S.2.2.2.2.2.2.2.2.2.2.1, ()) H)
  (blockE 0 (loopE (seqE (seqE (leafE fun S H k =>
        bindV (evGeq S.2.2.2.2.2.2.2.1 (.int .i64 (.ofNat 0))) fun t21 =>
        k (S.1, S.2.1, S.2.2.1, S.2.2.2.1, S.2.2.2.2.1, S.2.2.2.2.2.1, S.2.2.2.2.2.2.1, S.2.2.2.2.2.2.2.1, S.2.2.2.2.2.2.2.2.1, t21, S.2.2.2.2.2.2.2.2.2.2.1, ()) H)
    (condE (fun S => some S.2.2.2.2.2.2.2.2.2.1)
     (doneE .normal)
     (doneE (.exit 0))))
    (seqE (blockE 1 (leafE fun S H k =>
         bindVH (call lo 116 [S.1, S.2.2.2.2.2.2.2.1, S.2.2.2.2.2.2.1, S.2.2.2.2.1, S.2.2.2.1] H) fun t29 H0 =>
         k (S.1, S.2.1, S.2.2.1, S.2.2.2.1, S.2.2.2.2.1, S.2.2.2.2.2.1, S.2.2.2.2.2.2.1, S.2.2.2.2.2.2.2.1, S.2.2.2.2.2.2.2.2.1, S.2.2.2.2.2.2.2.2.2.1, S.2.2.2.2.2.2.2.2.2.2.1, ()) H0))
    (leafE fun S H k =>
        bindV (evSub S.2.2.2.2.2.2.2.1 (.int .i64 (.ofNat 1))) fun t23 =>
        k (S.1, S.2.1, S.2.2.1, S.2.2.2.1, S.2.2.2.2.1, S.2.2.2.2.2.1, S.2.2.2.2.2.2.1, t23, S.2.2.2.2.2.2.2.2.1, S.2.2.2.2.2.2.2.2.2.1, S.2.2.2.2.2.2.2.2.2.2.1, ()) H))) fuel)))
  (seqE (leafE fun S H k =>
      bindV (evSub S.2.2.2.2.2.2.1 (.int .i64 (.ofNat 1))) fun t31 =>
      k (S.1, S.2.1, S.2.2.1, S.2.2.2.1, S.2.2.2.2.1, S.2.2.2.2.2.1, S.2.2.2.2.2.2.1, S.2.2.2.2.2.2.2.1, t31, S.2.2.2.2.2.2.2.2.2.1, S.2.2.2.2.2.2.2.2.2.2.1, ()) H)
  (blockE 2 (loopE (seqE (seqE (leafE fun S H k =>
        bindV (evGeq S.2.2.2.2.2.2.2.2.1 (.int .i64 (.ofNat 0))) fun t33 =>
        k (S.1, S.2.1, S.2.2.1, S.2.2.2.1, S.2.2.2.2.1, S.2.2.2.2.2.1, S.2.2.2.2.2.2.1, S.2.2.2.2.2.2.2.1, S.2.2.2.2.2.2.2.2.1, S.2.2.2.2.2.2.2.2.2.1, t33, ()) H)
    (condE (fun S => some S.2.2.2.2.2.2.2.2.2.2.1)
     (doneE .normal)
     (doneE (.exit 2))))
    (seqE (blockE 3 (seqE (leafE fun S H k =>
         bindV (evAdd S.2.2.2.2.1 S.2.2.2.2.2.2.2.2.1) fun t41 =>
         bindV (evAdd S.2.2.2.2.1 S.2.2.2.2.2.2.2.2.1) fun t45 =>
         bindV (evIdxSlice 2 S.1 t45) fun t46 =>
         bindV (evLoad H true 2 t46) fun t47 =>
         bindV (evIdxSlice 2 S.1 S.2.2.2.2.1) fun t50 =>
         bindV (evLoad H true 2 t50) fun t51 =>
         bindV (evIdxSlice 2 S.1 S.2.2.2.2.1) fun t52 =>
         bindV (evStore lo H 2 t52 t47) fun H1 =>
         bindV (evIdxSlice 2 S.1 t41) fun t53 =>
         bindV (evStore lo H1 2 t53 t51) fun H2 =>
         k (S.1, S.2.1, S.2.2.1, S.2.2.2.1, S.2.2.2.2.1, S.2.2.2.2.2.1, S.2.2.2.2.2.2.1, S.2.2.2.2.2.2.2.1, S.2.2.2.2.2.2.2.2.1, S.2.2.2.2.2.2.2.2.2.1, S.2.2.2.2.2.2.2.2.2.2.1, ()) H2)
     (leafE fun S H k =>
         bindVH (call lo 116 [S.1, S.2.2.2.2.2.1, S.2.2.2.2.2.2.2.2.1, S.2.2.2.2.1, S.2.2.2.1] H) fun t59 H3 =>
         k (S.1, S.2.1, S.2.2.1, S.2.2.2.1, S.2.2.2.2.1, S.2.2.2.2.2.1, S.2.2.2.2.2.2.1, S.2.2.2.2.2.2.2.1, S.2.2.2.2.2.2.2.2.1, S.2.2.2.2.2.2.2.2.2.1, S.2.2.2.2.2.2.2.2.2.2.1, ()) H3)))
    (leafE fun S H k =>
        bindV (evSub S.2.2.2.2.2.2.2.2.1 (.int .i64 (.ofNat 1))) fun t35 =>
        k (S.1, S.2.1, S.2.2.1, S.2.2.2.1, S.2.2.2.2.1, S.2.2.2.2.2.1, S.2.2.2.2.2.2.1, S.2.2.2.2.2.2.2.1, t35, S.2.2.2.2.2.2.2.2.2.1, S.2.2.2.2.2.2.2.2.2.2.1, ()) H))) fuel)))))))

def F109 (call : CallF) (lo : Nat) (args : List Value) (H : AH) : Option (Value × AH) :=
  leave .all H (bindV (C109 call (lowOf .all lo H) (argAt args 0, argAt args 1, argAt args 2, argAt args 3, argAt args 8, argAt args 9, argAt args 10, argAt args 11, argAt args 12, argAt args 21, argAt args 33, ()) H) fun p => resE p.1 (some (oneOf [], p.2.2)))

theorem F109_eq (call : CallF) (lo : Nat) (args : List Value) (H : AH) : evFn P ctx call lo 109 args H = F109 call lo args H := by kernel_rfl

/-- slices.breakPatternsCmpFunc[[2]int] -/
def C110 (call : CallF) (lo : Nat) : Piece (Value × Value × Value × Value × Value × Value × Value × Value × Value × Value × Value × Unit) :=
  (seqE (leafE fun S H k =>
      bindV (evSub S.2.2.1 S.2.1) fun t15 =>
      k (S.1, S.2.1, S.2.2.1, t15, S.2.2.2.2.1, S.2.2.2.2.2.1, S.2.2.2.2.2.2.1, S.2.2.2.2.2.2.2.1, S.2.2.2.2.2.2.2.2.1, S.2.2.2.2.2.2.2.2.2.1, S.2.2.2.2.2.2.2.2.2.2.1, ()) H)
  (seqE (leafE fun S H k =>
      bindV (evGeq S.2.2.2.1 (.int .i64 (.ofNat 8))) fun t17 =>
      k (S.1, S.2.1, S.2.2.1, S.2.2.2.1, S.2.2.2.2.1, S.2.2.2.2.2.1, S.2.2.2.2.2.2.1, S.2.2.2.2.2.2.2.1, t17, S.2.2.2.2.2.2.2.2.2.1, S.2.2.2.2.2.2.2.2.2.2.1, ()) H)
  (condE (fun S => some S.2.2.2.2.2.2.2.2.1)
   (seqE (leafE fun S H k =>
       bindV (evConv .u64 S.2.2.2.1) fun t19 =>
       let t9 := newPtr H
       let H0 := pushBox H 127 (.int .u64 (.ofNat 0))
       bindV (evStore lo H0 1 t9 t19) fun H1 =>
       k (S.1, S.2.1, S.2.2.1, S.2.2.2.1, t9, S.2.2.2.2.2.1, S.2.2.2.2.2.2.1, S.2.2.2.2.2.2.2.1, S.2.2.2.2.2.2.2.2.1, S.2.2.2.2.2.2.2.2.2.1, S.2.2.2.2.2.2.2.2.2.2.1, ()) H1)
   (seqE (leafE fun S H k =>
       bindVH (call lo 94 [S.2.2.2.1] H) fun t21 H2 =>
       k (S.1, S.2.1, S.2.2.1, S.2.2.2.1, S.2.2.2.2.1, t21, S.2.2.2.2.2.2.1, S.2.2.2.2.2.2.2.1, S.2.2.2.2.2.2.2.2.1, S.2.2.2.2.2.2.2.2.2.1, S.2.2.2.2.2.2.2.2.2.2.1, ()) H2)
   (seqE (leafE fun S H k =>
       bindV (evQuo S.2.2.2.1 (.int .i64 (.ofNat 4))) fun t24 =>
       bindV (evMul t24 (.int .i64 (.ofNat 2))) fun t25 =>
       bindV (evAdd S.2.1 t25) fun t26 =>
       bindV (evSub t26 (.int .i64 (.ofNat 1))) fun t27 =>
       k (S.1, S.2.1, S.2.2.1, S.2.2.2.1, S.2.2.2.2.1, S.2.2.2.2.2.1, t27, S.2.2.2.2.2.2.2.1, S.2.2.2.2.2.2.2.2.1, S.2.2.2.2.2.2.2.2.2.1, S.2.2.2.2.2.2.2.2.2.2.1, ()) H)
   (blockE 0 (loopE (seqE (seqE (leafE fun S H k =>
         bindV (evQuo S.2.2.2.1 (.int .i64 (.ofNat 4))) fun t31 =>
         bindV (evMul t31 (.int .i64 (.ofNat 2))) fun t32 =>
         bindV (evAdd S.2.1 t32) fun t33 =>
         bindV (evAdd t33 (.int .i64 (.ofNat 1))) fun t34 =>
         bindV (evLeq S.2.2.2.2.2.2.1 t34) fun t35 =>
         k (S.1, S.2.1, S.2.2.1, S.2.2.2.1, S.2.2.2.2.1, S.2.2.2.2.2.1, S.2.2.2.2.2.2.1, S.2.2.2.2.2.2.2.1, S.2.2.2.2.2.2.2.2.1, t35, S.2.2.2.2.2.2.2.2.2.2.1, ()) H)
     (condE (fun S => some S.2.2.2.2.2.2.2.2.2.1)
      (doneE .normal)
      (doneE (.exit 0))))
     (seqE (blockE 1 (seqE (leafE fun S H k =>
          bindVH (call lo 95 [S.2.2.2.2.1] H) fun t38 H3 =>
          bindV (evSub S.2.2.2.2.2.1 (.int .u64 (.ofNat 1))) fun t40 =>
          bindV (evAnd t38 t40) fun t41 =>
          bindV (evConv .i64 t41) fun t42 =>
          k (S.1, S.2.1, S.2.2.1, S.2.2.2.1, S.2.2.2.2.1, S.2.2.2.2.2.1, S.2.2.2.2.2.2.1, t42, S.2.2.2.2.2.2.2.2.1, S.2.2.2.2.2.2.2.2.2.1, S.2.2.2.2.2.2.2.2.2.2.1, ()) H3)
      (seqE (seqE (leafE fun S H k =>
          bindV (evGeq S.2.2.2.2.2.2.2.1 S.2.2.2.1) fun t45 =>
          k (S.1, S.2.1, S.2.2.1, S.2.2.2.1, S.2.2.2.2.1, S.2.2.2.2.2.1, S.2.2.2.2.2.2.1, S.2.2.2.2.2.2.2.1, S.2.2.2.2.2.2.2.2.1, S.2.2.2.2.2.2.2.2.2.1, t45, ()) H)
      (condE (fun S => some S.2.2.2.2.2.2.2.2.2.2.1)
       (leafE fun S H k =>
           bindV (evSub S.2.2.2.2.2.2.2.1 S.2.2.2.1) fun t48 =>
           k (S.1, S.2.1, S.2.2.1, S.2.2.2.1, S.2.2.2.2.1, S.2.2.2.2.2.1, S.2.2.2.2.2.2.1, t48, S.2.2.2.2.2.2.2.2.1, S.2.2.2.2.2.2.2.2.2.1, S.2.2.2.2.2.2.2.2.2.2.1, ()) H)
       (doneE .normal)))
      (leafE fun S H k =>
          bindV (evAdd S.2.1 S.2.2.2.2.2.2.2.1) fun t54 =>
          bindV (evAdd S.2.1 S.2.2.2.2.2.2.2.1) fun t58 =>
          bindV (evIdxSlice 2 S.1 t58) fun t59 =>
          bindV (evLoad H true 2 t59) fun t60 =>
          bindV (evIdxSlice 2 S.1 S.2.2.2.2.2.2.1) fun t63 =>
          bindV (evLoad H true 2 t63) fun t64 =>
          bindV (evIdxSlice 2 S.1 S.2.2.2.2.2.2.1) fun t65 =>
          bindV (evStore lo H 2 t65 t60) fun H4 =>
          bindV (evIdxSlice 2 S.1 t54) fun t66 =>
          bindV (evStore lo H4 2 t66 t64) fun H5 =>
          k (S.1, S.2.1, S.2.2.1, S.2.2.2.1, S.2.2.2.2.1, S.2.2.2.2.2.1, S.2.2.2.2.2.2.1, S.2.2.2.2.2.2.2.1, S.2.2.2.2.2.2.2.2.1, S.2.2.2.2.2.2.2.2.2.1, S.2.2.2.2.2.2.2.2.2.2.1, ()) H5))))
     (leafE fun S H k =>
         bindV (evAdd S.2.2.2.2.2.2.1 (.int .i64 (.ofNat 1))) fun t37 =>
         k (S.1, S.2.1, S.2.2.1, S.2.2.2.1, S.2.2.2.2.1, S.2.2.2.2.2.1, t37, S.2.2.2.2.2.2.2.1, S.2.2.2.2.2.2.2.2.1, S.2.2.2.2.2.2.2.2.2.1, S.2.2.2.2.2.2.2.2.2.2.1, ()) H))) fuel)))))
   (doneE .normal))))

def F110 (call : CallF) (lo : Nat) (args : List Value) (H : AH) : Option (Value × AH) :=
  leave .all H (bindV (C110 call (lowOf .all lo H) (argAt args 0, argAt args 1, argAt args 2, argAt args 8, argAt args 9, argAt args 10, argAt args 11, argAt args 12, argAt args 17, argAt args 35, argAt args 45, ()) H) fun p => resE p.1 (some (oneOf [], p.2.2)))

theorem F110_eq (call : CallF) (lo : Nat) (args : List Value) (H : AH) : evFn P ctx call lo 110 args H = F110 call lo args H := by kernel_rfl

/-- slices.choosePivotCmpFunc[[2]int] -/
def C111 (call : CallF) (lo : Nat) : Piece (Value × Value × Value × Value × Value × Value × Value × Value × Value × Value × Value × Value × Value × Value × Value × Value × Unit) :=
  (seqE (leafE fun S H k =>
      k (S.1, S.2.1, S.2.2.1, S.2.2.2.1, (.int .i64 (.ofNat 0)), (.int .i64 (.ofNat 0)), S.2.2.2.2.2.2.1, S.2.2.2.2.2.2.2.1, S.2.2.2.2.2.2.2.2.1, S.2.2.2.2.2.2.2.2.2.1, S.2.2.2.2.2.2.2.2.2.2.1, S.2.2.2.2.2.2.2.2.2.2.2.1, S.2.2.2.2.2.2.2.2.2.2.2.2.1, S.2.2.2.2.2.2.2.2.2.2.2.2.2.1, S.2.2.2.2.2.2.2.2.2.2.2.2.2.2.1, S.2.2.2.2.2.2.2.2.2.2.2.2.2.2.2.1, ()) H)
  (seqE (leafE fun S H k =>
      bindV (evSub S.2.2.1 S.2.1) fun t17 =>
      k (S.1, S.2.1, S.2.2.1, S.2.2.2.1, S.2.2.2.2.1, S.2.2.2.2.2.1, t17, S.2.2.2.2.2.2.2.1, S.2.2.2.2.2.2.2.2.1, S.2.2.2.2.2.2.2.2.2.1, S.2.2.2.2.2.2.2.2.2.2.1, S.2.2.2.2.2.2.2.2.2.2.2.1, S.2.2.2.2.2.2.2.2.2.2.2.2.1, S.2.2.2.2.2.2.2.2.2.2.2.2.2.1, S.2.2.2.2.2.2.2.2.2.2.2.2.2.2.1, S.2.2.2.2.2.2.2.2.2.2.2.2.2.2.2.1, ()) H)
  (seqE (leafE fun S H k =>
      let t11 := newPtr H
      let H0 := pushBox H 3 (.int .i64 (.ofNat 0))
      k (S.1, S.2.1, S.2.2.1, S.2.2.2.1, S.2.2.2.2.1, S.2.2.2.2.2.1, S.2.2.2.2.2.2.1, t11, S.2.2.2.2.2.2.2.2.1, S.2.2.2.2.2.2.2.2.2.1, S.2.2.2.2.2.2.2.2.2.2.1, S.2.2.2.2.2.2.2.2.2.2.2.1, S.2.2.2.2.2.2.2.2.2.2.2.2.1, S.2.2.2.2.2.2.2.2.2.2.2.2.2.1, S.2.2.2.2.2.2.2.2.2.2.2.2.2.2.1, S.2.2.2.2.2.2.2.2.2.2.2.2.2.2.2.1, ()) H0)
  (seqE (leafE fun S H k =>
      bindV (evQuo S.2.2.2.2.2.2.1 (.int .i64 (.ofNat 4))) fun t20 =>
      bindV (evMul t20 (.int .i64 (.ofNat 1))) fun t21 =>
      bindV (evAdd S.2.1 t21) fun t22 =>
      k (S.1, S.2.1, S.2.2.1, S.2.2.2.1, S.2.2.2.2.1, S.2.2.2.2.2.1, S.2.2.2.2.2.2.1, S.2.2.2.2.2.2.2.1, t22, S.2.2.2.2.2.2.2.2.2.1, S.2.2.2.2.2.2.2.2.2.2.1, S.2.2.2.2.2.2.2.2.2.2.2.1, S.2.2.2.2.2.2.2.2.2.2.2.2.1, S.2.2.2.2.2.2.2.2.2.2.2.2.2.1, S.2.2.2.2.2.2.2.2.2.2.2.2.2.2.1, S.2.2.2.2.2.2.2.2.2.2.2.2.2.2.2.1, ()) H)
  (seqE (leafE fun S H k =>
      bindV (evQuo S.2.2.2.2.2.2.1 (.int .i64 (.ofNat 4))) fun t25 =>
      bindV (evMul t25 (.int .i64 (.ofNat 2))) fun t26 =>
      bindV (evAdd S.2.1 t26) fun t27 =>
      k (S.1, S.2.1, S.2.2.1, S.2.2.2.1, S.2.2.2.2.1, S.2.2.2.2.2.1, S.2.2.2.2.2.2.1, S.2.2.2.2.2.2.2.1, S.2.2.2.2.2.2.2.2.1, t27, S.2.2.2.2.2.2.2.2.2.2.1, S.2.2.2.2.2.2.2.2.2.2.2.1, S.2.2.2.2.2.2.2.2.2.2.2.2.1, S.2.2.2.2.2.2.2.2.2.2.2.2.2.1, S.2.2.2.2.2.2.2.2.2.2.2.2.2.2.1, S.2.2.2.2.2.2.2.2.2.2.2.2.2.2.2.1, ()) H)
  (seqE (leafE fun S H k =>
      bindV (evQuo S.2.2.2.2.2.2.1 (.int .i64 (.ofNat 4))) fun t30 =>
      bindV (evMul t30 (.int .i64 (.ofNat 3))) fun t31 =>
      bindV (evAdd S.2.1 t31) fun t32 =>
      k (S.1, S.2.1, S.2.2.1, S.2.2.2.1, S.2.2.2.2.1, S.2.2.2.2.2.1, S.2.2.2.2.2.2.1, S.2.2.2.2.2.2.2.1, S.2.2.2.2.2.2.2.2.1, S.2.2.2.2.2.2.2.2.2.1, t32, S.2.2.2.2.2.2.2.2.2.2.2.1, S.2.2.2.2.2.2.2.2.2.2.2.2.1, S.2.2.2.2.2.2.2.2.2.2.2.2.2.1, S.2.2.2.2.2.2.2.2.2.2.2.2.2.2.1, S.2.2.2.2.2.2.2.2.2.2.2.2.2.2.2.1, ()) H)
  (seqE (seqE (leafE fun S H k =>
      bindV (evGeq S.2.2.2.2.2.2.1 (.int .i64 (.ofNat 8))) fun t34 =>
      k (S.1, S.2.1, S.2.2.1, S.2.2.2.1, S.2.2.2.2.1, S.2.2.2.2.2.1, S.2.2.2.2.2.2.1, S.2.2.2.2.2.2.2.1, S.2.2.2.2.2.2.2.2.1, S.2.2.2.2.2.2.2.2.2.1, S.2.2.2.2.2.2.2.2.2.2.1, t34, S.2.2.2.2.2.2.2.2.2.2.2.2.1, S.2.2.2.2.2.2.2.2.2.2.2.2.2.1, S.2.2.2.2.2.2.2.2.2.2.2.2.2.2.1, S.2.2.2.2.2.2.2.2.2.2.2.2.2.2.2.1, ()) H)
  (condE (fun S => some S.2.2.2.2.2.2.2.2.2.2.2.1)
   (seqE (seqE (leafE fun S H k =>
       bindV (evGeq S.2.2.2.2.2.2.1 (.int .i64 (.ofNat 50))) fun t36 =>
       k (S.1, S.2.1, S.2.2.1, S.2.2.2.1, S.2.2.2.2.1, S.2.2.2.2.2.1, S.2.2.2.2.2.2.1, S.2.2.2.2.2.2.2.1, S.2.2.2.2.2.2.2.2.1, S.2.2.2.2.2.2.2.2.2.1, S.2.2.2.2.2.2.2.2.2.2.1, S.2.2.2.2.2.2.2.2.2.2.2.1, t36, S.2.2.2.2.2.2.2.2.2.2.2.2.2.1, S.2.2.2.2.2.2.2.2.2.2.2.2.2.2.1, S.2.2.2.2.2.2.2.2.2.2.2.2.2.2.2.1, ()) H)
   (condE (fun S => some S.2.2.2.2.2.2.2.2.2.2.2.2.1)
    (seqE (leafE fun S H k =>
        bindVH (call lo 117 [S.1, S.2.2.2.2.2.2.2.2.1, S.2.2.2.2.2.2.2.1, S.2.2.2.1] H) fun t40 H1 =>
        k (S.1, S.2.1, S.2.2.1, S.2.2.2.1, S.2.2.2.2.1, S.2.2.2.2.2.1, S.2.2.2.2.2.2.1, S.2.2.2.2.2.2.2.1, t40, S.2.2.2.2.2.2.2.2.2.1, S.2.2.2.2.2.2.2.2.2.2.1, S.2.2.2.2.2.2.2.2.2.2.2.1, S.2.2.2.2.2.2.2.2.2.2.2.2.1, S.2.2.2.2.2.2.2.2.2.2.2.2.2.1, S.2.2.2.2.2.2.2.2.2.2.2.2.2.2.1, S.2.2.2.2.2.2.2.2.2.2.2.2.2.2.2.1, ()) H1)
    (seqE (leafE fun S H k =>
        bindVH (call lo 117 [S.1, S.2.2.2.2.2.2.2.2.2.1, S.2.2.2.2.2.2.2.1, S.2.2.2.1] H) fun t44 H2 =>
        k (S.1, S.2.1, S.2.2.1, S.2.2.2.1, S.2.2.2.2.1, S.2.2.2.2.2.1, S.2.2.2.2.2.2.1, S.2.2.2.2.2.2.2.1, S.2.2.2.2.2.2.2.2.1, t44, S.2.2.2.2.2.2.2.2.2.2.1, S.2.2.2.2.2.2.2.2.2.2.2.1, S.2.2.2.2.2.2.2.2.2.2.2.2.1, S.2.2.2.2.2.2.2.2.2.2.2.2.2.1, S.2.2.2.2.2.2.2.2.2.2.2.2.2.2.1, S.2.2.2.2.2.2.2.2.2.2.2.2.2.2.2.1, ()) H2)
    (leafE fun S H k =>
        bindVH (call lo 117 [S.1, S.2.2.2.2.2.2.2.2.2.2.1, S.2.2.2.2.2.2.2.1, S.2.2.2.1] H) fun t48 H3 =>
        k (S.1, S.2.1, S.2.2.1, S.2.2.2.1, S.2.2.2.2.1, S.2.2.2.2.2.1, S.2.2.2.2.2.2.1, S.2.2.2.2.2.2.2.1, S.2.2.2.2.2.2.2.2.1, S.2.2.2.2.2.2.2.2.2.1, t48, S.2.2.2.2.2.2.2.2.2.2.2.1, S.2.2.2.2.2.2.2.2.2.2.2.2.1, S.2.2.2.2.2.2.2.2.2.2.2.2.2.1, S.2.2.2.2.2.2.2.2.2.2.2.2.2.2.1, S.2.2.2.2.2.2.2.2.2.2.2.2.2.2.2.1, ()) H3)))
    (doneE .normal)))
   (leafE fun S H k =>
       bindVH (call lo 118 [S.1, S.2.2.2.2.2.2.2.2.1, S.2.2.2.2.2.2.2.2.2.1, S.2.2.2.2.2.2.2.2.2.2.1, S.2.2.2.2.2.2.2.1, S.2.2.2.1] H) fun t54 H4 =>
       k (S.1, S.2.1, S.2.2.1, S.2.2.2.1, S.2.2.2.2.1, S.2.2.2.2.2.1, S.2.2.2.2.2.2.1, S.2.2.2.2.2.2.2.1, S.2.2.2.2.2.2.2.2.1, t54, S.2.2.2.2.2.2.2.2.2.2.1, S.2.2.2.2.2.2.2.2.2.2.2.1, S.2.2.2.2.2.2.2.2.2.2.2.2.1, S.2.2.2.2.2.2.2.2.2.2.2.2.2.1, S.2.2.2.2.2.2.2.2.2.2.2.2.2.2.1, S.2.2.2.2.2.2.2.2.2.2.2.2.2.2.2.1, ()) H4))
   (doneE .normal)))
  (seqE (leafE fun S H k =>
      bindV (evLoad H false 1 S.2.2.2.2.2.2.2.1) fun t55 =>
      k (S.1, S.2.1, S.2.2.1, S.2.2.2.1, S.2.2.2.2.1, S.2.2.2.2.2.1, S.2.2.2.2.2.2.1, S.2.2.2.2.2.2.2.1, S.2.2.2.2.2.2.2.2.1, S.2.2.2.2.2.2.2.2.2.1, S.2.2.2.2.2.2.2.2.2.2.1, S.2.2.2.2.2.2.2.2.2.2.2.1, S.2.2.2.2.2.2.2.2.2.2.2.2.1, t55, S.2.2.2.2.2.2.2.2.2.2.2.2.2.2.1, S.2.2.2.2.2.2.2.2.2.2.2.2.2.2.2.1, ()) H)
  (blockE 0 (seqE (leafE fun S H k =>
       bindV (evEql .int S.2.2.2.2.2.2.2.2.2.2.2.2.2.1 (.int .i64 (.ofNat 0))) fun t58 =>
       k (S.1, S.2.1, S.2.2.1, S.2.2.2.1, S.2.2.2.2.1, S.2.2.2.2.2.1, S.2.2.2.2.2.2.1, S.2.2.2.2.2.2.2.1, S.2.2.2.2.2.2.2.2.1, S.2.2.2.2.2.2.2.2.2.1, S.2.2.2.2.2.2.2.2.2.2.1, S.2.2.2.2.2.2.2.2.2.2.2.1, S.2.2.2.2.2.2.2.2.2.2.2.2.1, S.2.2.2.2.2.2.2.2.2.2.2.2.2.1, t58, S.2.2.2.2.2.2.2.2.2.2.2.2.2.2.2.1, ()) H)
   (condE (fun S => some S.2.2.2.2.2.2.2.2.2.2.2.2.2.2.1)
    (seqE (leafE fun S H k =>
        k (S.1, S.2.1, S.2.2.1, S.2.2.2.1, S.2.2.2.2.2.2.2.2.2.1, (.int .i64 (.ofNat 1)), S.2.2.2.2.2.2.1, S.2.2.2.2.2.2.2.1, S.2.2.2.2.2.2.2.2.1, S.2.2.2.2.2.2.2.2.2.1, S.2.2.2.2.2.2.2.2.2.2.1, S.2.2.2.2.2.2.2.2.2.2.2.1, S.2.2.2.2.2.2.2.2.2.2.2.2.1, S.2.2.2.2.2.2.2.2.2.2.2.2.2.1, S.2.2.2.2.2.2.2.2.2.2.2.2.2.2.1, S.2.2.2.2.2.2.2.2.2.2.2.2.2.2.2.1, ()) H)
    (doneE .ret))
    (seqE (leafE fun S H k =>
        bindV (evEql .int S.2.2.2.2.2.2.2.2.2.2.2.2.2.1 (.int .i64 (.ofNat 12))) fun t61 =>
        k (S.1, S.2.1, S.2.2.1, S.2.2.2.1, S.2.2.2.2.1, S.2.2.2.2.2.1, S.2.2.2.2.2.2.1, S.2.2.2.2.2.2.2.1, S.2.2.2.2.2.2.2.2.1, S.2.2.2.2.2.2.2.2.2.1, S.2.2.2.2.2.2.2.2.2.2.1, S.2.2.2.2.2.2.2.2.2.2.2.1, S.2.2.2.2.2.2.2.2.2.2.2.2.1, S.2.2.2.2.2.2.2.2.2.2.2.2.2.1, S.2.2.2.2.2.2.2.2.2.2.2.2.2.2.1, t61, ()) H)
    (condE (fun S => some S.2.2.2.2.2.2.2.2.2.2.2.2.2.2.2.1)
     (seqE (leafE fun S H k =>
         k (S.1, S.2.1, S.2.2.1, S.2.2.2.1, S.2.2.2.2.2.2.2.2.2.1, (.int .i64 (.ofNat 2)), S.2.2.2.2.2.2.1, S.2.2.2.2.2.2.2.1, S.2.2.2.2.2.2.2.2.1, S.2.2.2.2.2.2.2.2.2.1, S.2.2.2.2.2.2.2.2.2.2.1, S.2.2.2.2.2.2.2.2.2.2.2.1, S.2.2.2.2.2.2.2.2.2.2.2.2.1, S.2.2.2.2.2.2.2.2.2.2.2.2.2.1, S.2.2.2.2.2.2.2.2.2.2.2.2.2.2.1, S.2.2.2.2.2.2.2.2.2.2.2.2.2.2.2.1, ()) H)
     (doneE .ret))
     (seqE (leafE fun S H k =>
         k (S.1, S.2.1, S.2.2.1, S.2.2.2.1, S.2.2.2.2.2.2.2.2.2.1, (.int .i64 (.ofNat 0)), S.2.2.2.2.2.2.1, S.2.2.2.2.2.2.2.1, S.2.2.2.2.2.2.2.2.1, S.2.2.2.2.2.2.2.2.2.1, S.2.2.2.2.2.2.2.2.2.2.1, S.2.2.2.2.2.2.2.2.2.2.2.1, S.2.2.2.2.2.2.2.2.2.2.2.2.1, S.2.2.2.2.2.2.2.2.2.2.2.2.2.1, S.2.2.2.2.2.2.2.2.2.2.2.2.2.2.1, S.2.2.2.2.2.2.2.2.2.2.2.2.2.2.2.1, ()) H)
     (doneE .ret)))))))))))))))

def F111 (call : CallF) (lo : Nat) (args : List Value) (H : AH) : Option (Value × AH) :=
  leave .all H (bindV (C111 call (lowOf .all lo H) (argAt args 0, argAt args 1, argAt args 2, argAt args 3, argAt args 8, argAt args 9, argAt args 10, argAt args 11, argAt args 12, argAt args 13, argAt args 14, argAt args 34, argAt args 36, argAt args 55, argAt args 57, argAt args 60, ()) H) fun p => resE p.1 (some (oneOf [p.2.1.2.2.2.2.1, p.2.1.2.2.2.2.2.1], p.2.2)))

theorem F111_eq (call : CallF) (lo : Nat) (args : List Value) (H : AH) : evFn P ctx call lo 111 args H = F111 call lo args H := by kernel_rfl

/-- slices.reverseRangeCmpFunc[[2]int] -/
def C112 (call : CallF) (lo : Nat) : Piece (Value × Value × Value × Value × Value × Value × Unit) :=
  (seqE (leafE fun S H k =>
      k (S.1, S.2.1, S.2.2.1, S.2.1, S.2.2.2.2.1, S.2.2.2.2.2.1, ()) H)
  (seqE (leafE fun S H k =>
      bindV (evSub S.2.2.1 (.int .i64 (.ofNat 1))) fun t12 =>
      k (S.1, S.2.1, S.2.2.1, S.2.2.2.1, t12, S.2.2.2.2.2.1, ()) H)
  (blockE 0 (loopE (seqE (seqE (leafE fun S H k =>
        bindV (evLss S.2.2.2.1 S.2.2.2.2.1) fun t15 =>
        k (S.1, S.2.1, S.2.2.1, S.2.2.2.1, S.2.2.2.2.1, t15, ()) H)
    (condE (fun S => some S.2.2.2.2.2.1)
     (doneE .normal)
     (doneE (.exit 0))))
    (blockE 1 (seqE (leafE fun S H k =>
         bindV (evIdxSlice 2 S.1 S.2.2.2.2.1) fun t22 =>
         bindV (evLoad H true 2 t22) fun t23 =>
         bindV (evIdxSlice 2 S.1 S.2.2.2.1) fun t26 =>
         bindV (evLoad H true 2 t26) fun t27 =>
         bindV (evIdxSlice 2 S.1 S.2.2.2.1) fun t28 =>
         bindV (evStore lo H 2 t28 t23) fun H0 =>
         bindV (evIdxSlice 2 S.1 S.2.2.2.2.1) fun t29 =>
         bindV (evStore lo H0 2 t29 t27) fun H1 =>
         k (S.1, S.2.1, S.2.2.1, S.2.2.2.1, S.2.2.2.2.1, S.2.2.2.2.2.1, ()) H1)
     (seqE (leafE fun S H k =>
         bindV (evAdd S.2.2.2.1 (.int .i64 (.ofNat 1))) fun t31 =>
         k (S.1, S.2.1, S.2.2.1, t31, S.2.2.2.2.1, S.2.2.2.2.2.1, ()) H)
     (leafE fun S H k =>
         bindV (evSub S.2.2.2.2.1 (.int .i64 (.ofNat 1))) fun t33 =>
         k (S.1, S.2.1, S.2.2.1, S.2.2.2.1, t33, S.2.2.2.2.2.1, ()) H))))) fuel))))

def F112 (call : CallF) (lo : Nat) (args : List Value) (H : AH) : Option (Value × AH) :=
  leave .all H (bindV (C112 call (lowOf .all lo H) (argAt args 0, argAt args 1, argAt args 2, argAt args 8, argAt args 9, argAt args 15, ()) H) fun p => resE p.1 (some (oneOf [], p.2.2)))

theorem F112_eq (call : CallF) (lo : Nat) (args : List Value) (H : AH) : evFn P ctx call lo 112 args H = F112 call lo args H := by kernel_rfl

/-- slices.partialInsertionSortCmpFunc[[2]int] -/
def C113 (call : CallF) (lo : Nat) : Piece (Value × Value × Value × Value × Value × Value × Value × Value × Value × Value × Value × Value × Value × Value × Value × Value × Value × Value × Value × Unit) :=
  (seqE (leafE fun S H k =>
      k (S.1, S.2.1, S.2.2.1, S.2.2.2.1, (.bool false), S.2.2.2.2.2.1, S.2.2.2.2.2.2.1, S.2.2.2.2.2.2.2.1, S.2.2.2.2.2.2.2.2.1, S.2.2.2.2.2.2.2.2.2.1, S.2.2.2.2.2.2.2.2.2.2.1, S.2.2.2.2.2.2.2.2.2.2.2.1, S.2.2.2.2.2.2.2.2.2.2.2.2.1, S.2.2.2.2.2.2.2.2.2.2.2.2.2.1, S.2.2.2.2.2.2.2.2.2.2.2.2.2.2.1, S.2.2.2.2.2.2.2.2.2.2.2.2.2.2.2.1, S.2.2.2.2.2.2.2.2.2.2.2.2.2.2.2.2.1, S.2.2.2.2.2.2.2.2.2.2.2.2.2.2.2.2.2.1, S.2.2.2.2.2.2.2.2.2.2.2.2.2.2.2.2.2.2.1, ()) H)
  (seqE (leafE fun S H k =>
      bindV (evAdd S.2.1 (.int .i64 (.ofNat 1))) fun t14 =>
      k (S.1, S.2.1, S.2.2.1, S.2.2.2.1, S.2.2.2.2.1, t14, S.2.2.2.2.2.2.1, S.2.2.2.2.2.2.2.1, S.2.2.2.2.2.2.2.2.1, S.2.2.2.2.2.2.2.2.2.1, S.2.2.2.2.2.2.2.2.2.2.1, S.2.2.2.2.2.2.2.2.2.2.2.1, S.2.2.2.2.2.2.2.2.2.2.2.2.1, S.2.2.2.2.2.2.2.2.2.2.2.2.2.1, S.2.2.2.2.2.2.2.2.2.2.2.2.2.2.1, S.2.2.2.2.2.2.2.2.2.2.2.2.2.2.2.1, S.2.2.2.2.2.2.2.2.2.2.2.2.2.2.2.2.1, S.2.2.2.2.2.2.2.2.2.2.2.2.2.2.2.2.2.1, S.2.2.2.2.2.2.2.2.2.2.2.2.2.2.2.2.2.2.1, ()) H)
  (seqE (seqE (leafE fun S H k =>
      k (S.1, S.2.1, S.2.2.1, S.2.2.2.1, S.2.2.2.2.1, S.2.2.2.2.2.1, (.int .i64 (.ofNat 0)), S.2.2.2.2.2.2.2.1, S.2.2.2.2.2.2.2.2.1, S.2.2.2.2.2.2.2.2.2.1, S.2.2.2.2.2.2.2.2.2.2.1, S.2.2.2.2.2.2.2.2.2.2.2.1, S.2.2.2.2.2.2.2.2.2.2.2.2.1, S.2.2.2.2.2.2.2.2.2.2.2.2.2.1, S.2.2.2.2.2.2.2.2.2.2.2.2.2.2.1, S.2.2.2.2.2.2.2.2.2.2.2.2.2.2.2.1, S.2.2.2.2.2.2.2.2.2.2.2.2.2.2.2.2.1, S.2.2.2.2.2.2.2.2.2.2.2.2.2.2.2.2.2.1, S.2.2.2.2.2.2.2.2.2.2.2.2.2.2.2.2.2.2.1, ()) H)
  (blockE 0 (loopE (seqE (seqE (leafE fun S H k =>
        bindV (evLss S.2.2.2.2.2.2.1 (.int .i64 (.ofNat 5))) fun t16 =>
        k (S.1, S.2.1, S.2.2.1, S.2.2.2.1, S.2.2.2.2.1, S.2.2.2.2.2.1, S.2.2.2.2.2.2.1, S.2.2.2.2.2.2.2.1, S.2.2.2.2.2.2.2.2.1, t16, S.2.2.2.2.2.2.2.2.2.2.1, S.2.2.2.2.2.2.2.2.2.2.2.1, S.2.2.2.2.2.2.2.2.2.2.2.2.1, S.2.2.2.2.2.2.2.2.2.2.2.2.2.1, S.2.2.2.2.2.2.2.2.2.2.2.2.2.2.1, S.2.2.2.2.2.2.2.2.2.2.2.2.2.2.2.1, S.2.2.2.2.2.2.2.2.2.2.2.2.2.2.2.2.1, S.2.2.2.2.2.2.2.2.2.2.2.2.2.2.2.2.2.1, S.2.2.2.2.2.2.2.2.2.2.2.2.2.2.2.2.2.2.1, ()) H)
    (condE (fun S => some S.2.2.2.2.2.2.2.2.2.1)
     (doneE .normal)
     (doneE (.exit 0))))
    (seqE (blockE 1 (seqE (blockE 2 (loopE (seqE (seqE (leafE fun S H k =>
           bindV (evLss S.2.2.2.2.2.1 S.2.2.1) fun t21 =>
           guarded t21 true ( pairVH S.2.2.2.1 H) H fun t23 H0 =>
           guarded t21 true ( pairVH S.1 H0) H0 fun t24 H1 =>
           guarded t21 true ( pairVH S.2.2.2.2.2.1 H1) H1 fun t25 H2 =>
           guarded t21 true (bindV (evIdxSlice 2 t24 t25) fun t1000000 => pairVH t1000000 H2) H2 fun t26 H3 =>
           guarded t21 true (bindV (evLoad H3 true 2 t26) fun t1000000 => pairVH t1000000 H3) H3 fun t27 H4 =>
           guarded t21 true ( pairVH S.1 H4) H4 fun t28 H5 =>
           guarded t21 true ( pairVH S.2.2.2.2.2.1 H5) H5 fun t29 H6 =>
           guarded t21 true (bindV (evSub t29 (.int .i64 (.ofNat 1))) fun t1000000 => pairVH t1000000 H6) H6 fun t30 H7 =>
           guarded t21 true (bindV (evIdxSlice 2 t28 t30) fun t1000000 => pairVH t1000000 H7) H7 fun t31 H8 =>
           guarded t21 true (bindV (evLoad H8 true 2 t31) fun t1000000 => pairVH t1000000 H8) H8 fun t32 H9 =>
           guarded t21 true (callVal call lo t23 [t27, t32] H9 fun t1000000 H10 => pairVH t1000000 H10) H9 fun t33 H11 =>
           guarded t21 true (bindV (evLss t33 (.int .i64 (.ofNat 0))) fun t1000000 => pairVH t1000000 H11) H11 fun t34 H12 =>
           guarded t21 true (bindV (evNot t34) fun t1000000 => pairVH t1000000 H12) H12 fun t35 H13 =>
           bindV (evPick t21 t35 (.bool false)) fun t36 =>
           k (S.1, S.2.1, S.2.2.1, S.2.2.2.1, S.2.2.2.2.1, S.2.2.2.2.2.1, S.2.2.2.2.2.2.1, S.2.2.2.2.2.2.2.1, S.2.2.2.2.2.2.2.2.1, S.2.2.2.2.2.2.2.2.2.1, t36, S.2.2.2.2.2.2.2.2.2.2.2.1, S.2.2.2.2.2.2.2.2.2.2.2.2.1, S.2.2.2.2.2.2.2.2.2.2.2.2.2.1, S.2.2.2.2.2.2.2.2.2.2.2.2.2.2.1, S.2.2.2.2.2.2.2.2.2.2.2.2.2.2.2.1, S.2.2.2.2.2.2.2.2.2.2.2.2.2.2.2.2.1, S.2.2.2.2.2.2.2.2.2.2.2.2.2.2.2.2.2.1, S.2.2.2.2.2.2.2.2.2.2.2.2.2.2.2.2.2.2.1, ()) H13)
       (condE (fun S => some S.2.2.2.2.2.2.2.2.2.2.1)
        (doneE .normal)
        (doneE (.exit 2))))
       (blockE 3 (leafE fun S H k =>
            bindV (evAdd S.2.2.2.2.2.1 (.int .i64 (.ofNat 1))) fun t38 =>
            k (S.1, S.2.1, S.2.2.1, S.2.2.2.1, S.2.2.2.2.1, t38, S.2.2.2.2.2.2.1, S.2.2.2.2.2.2.2.1, S.2.2.2.2.2.2.2.2.1, S.2.2.2.2.2.2.2.2.2.1, S.2.2.2.2.2.2.2.2.2.2.1, S.2.2.2.2.2.2.2.2.2.2.2.1, S.2.2.2.2.2.2.2.2.2.2.2.2.1, S.2.2.2.2.2.2.2.2.2.2.2.2.2.1, S.2.2.2.2.2.2.2.2.2.2.2.2.2.2.1, S.2.2.2.2.2.2.2.2.2.2.2.2.2.2.2.1, S.2.2.2.2.2.2.2.2.2.2.2.2.2.2.2.2.1, S.2.2.2.2.2.2.2.2.2.2.2.2.2.2.2.2.2.1, S.2.2.2.2.2.2.2.2.2.2.2.2.2.2.2.2.2.2.1, ()) H))) fuel))
     (seqE (seqE (leafE fun S H k =>
         bindV (evEql .int S.2.2.2.2.2.1 S.2.2.1) fun t41 =>
         k (S.1, S.2.1, S.2.2.1, S.2.2.2.1, S.2.2.2.2.1, S.2.2.2.2.2.1, S.2.2.2.2.2.2.1, S.2.2.2.2.2.2.2.1, S.2.2.2.2.2.2.2.2.1, S.2.2.2.2.2.2.2.2.2.1, S.2.2.2.2.2.2.2.2.2.2.1, t41, S.2.2.2.2.2.2.2.2.2.2.2.2.1, S.2.2.2.2.2.2.2.2.2.2.2.2.2.1, S.2.2.2.2.2.2.2.2.2.2.2.2.2.2.1, S.2.2.2.2.2.2.2.2.2.2.2.2.2.2.2.1, S.2.2.2.2.2.2.2.2.2.2.2.2.2.2.2.2.1, S.2.2.2.2.2.2.2.2.2.2.2.2.2.2.2.2.2.1, S.2.2.2.2.2.2.2.2.2.2.2.2.2.2.2.2.2.2.1, ()) H)
     (condE (fun S => some S.2.2.2.2.2.2.2.2.2.2.2.1)
      (seqE (leafE fun S H k =>
          k (S.1, S.2.1, S.2.2.1, S.2.2.2.1, (.bool true), S.2.2.2.2.2.1, S.2.2.2.2.2.2.1, S.2.2.2.2.2.2.2.1, S.2.2.2.2.2.2.2.2.1, S.2.2.2.2.2.2.2.2.2.1, S.2.2.2.2.2.2.2.2.2.2.1, S.2.2.2.2.2.2.2.2.2.2.2.1, S.2.2.2.2.2.2.2.2.2.2.2.2.1, S.2.2.2.2.2.2.2.2.2.2.2.2.2.1, S.2.2.2.2.2.2.2.2.2.2.2.2.2.2.1, S.2.2.2.2.2.2.2.2.2.2.2.2.2.2.2.1, S.2.2.2.2.2.2.2.2.2.2.2.2.2.2.2.2.1, S.2.2.2.2.2.2.2.2.2.2.2.2.2.2.2.2.2.1, S.2.2.2.2.2.2.2.2.2.2.2.2.2.2.2.2.2.2.1, ()) H)
      (doneE .ret))
      (doneE .normal)))
     (seqE (seqE (leafE fun S H k =>
         bindV (evSub S.2.2.1 S.2.1) fun t44 =>
         bindV (evLss t44 (.int .i64 (.ofNat 50))) fun t45 =>
         k (S.1, S.2.1, S.2.2.1, S.2.2.2.1, S.2.2.2.2.1, S.2.2.2.2.2.1, S.2.2.2.2.2.2.1, S.2.2.2.2.2.2.2.1, S.2.2.2.2.2.2.2.2.1, S.2.2.2.2.2.2.2.2.2.1, S.2.2.2.2.2.2.2.2.2.2.1, S.2.2.2.2.2.2.2.2.2.2.2.1, t45, S.2.2.2.2.2.2.2.2.2.2.2.2.2.1, S.2.2.2.2.2.2.2.2.2.2.2.2.2.2.1, S.2.2.2.2.2.2.2.2.2.2.2.2.2.2.2.1, S.2.2.2.2.2.2.2.2.2.2.2.2.2.2.2.2.1, S.2.2.2.2.2.2.2.2.2.2.2.2.2.2.2.2.2.1, S.2.2.2.2.2.2.2.2.2.2.2.2.2.2.2.2.2.2.1, ()) H)
     (condE (fun S => some S.2.2.2.2.2.2.2.2.2.2.2.2.1)
      (seqE (leafE fun S H k =>
          k (S.1, S.2.1, S.2.2.1, S.2.2.2.1, (.bool false), S.2.2.2.2.2.1, S.2.2.2.2.2.2.1, S.2.2.2.2.2.2.2.1, S.2.2.2.2.2.2.2.2.1, S.2.2.2.2.2.2.2.2.2.1, S.2.2.2.2.2.2.2.2.2.2.1, S.2.2.2.2.2.2.2.2.2.2.2.1, S.2.2.2.2.2.2.2.2.2.2.2.2.1, S.2.2.2.2.2.2.2.2.2.2.2.2.2.1, S.2.2.2.2.2.2.2.2.2.2.2.2.2.2.1, S.2.2.2.2.2.2.2.2.2.2.2.2.2.2.2.1, S.2.2.2.2.2.2.2.2.2.2.2.2.2.2.2.2.1, S.2.2.2.2.2.2.2.2.2.2.2.2.2.2.2.2.2.1, S.2.2.2.2.2.2.2.2.2.2.2.2.2.2.2.2.2.2.1, ()) H)
      (doneE .ret))
      (doneE .normal)))
     (seqE (leafE fun S H k =>
         bindV (evSub S.2.2.2.2.2.1 (.int .i64 (.ofNat 1))) fun t50 =>
         bindV (evSub S.2.2.2.2.2.1 (.int .i64 (.ofNat 1))) fun t53 =>
         bindV (evIdxSlice 2 S.1 t53) fun t54 =>
         bindV (evLoad H true 2 t54) fun t55 =>
         bindV (evIdxSlice 2 S.1 S.2.2.2.2.2.1) fun t58 =>
         bindV (evLoad H true 2 t58) fun t59 =>
         bindV (evIdxSlice 2 S.1 S.2.2.2.2.2.1) fun t60 =>
         bindV (evStore lo H 2 t60 t55) fun H14 =>
         bindV (evIdxSlice 2 S.1 t50) fun t61 =>
         bindV (evStore lo H14 2 t61 t59) fun H15 =>
         k (S.1, S.2.1, S.2.2.1, S.2.2.2.1, S.2.2.2.2.1, S.2.2.2.2.2.1, S.2.2.2.2.2.2.1, S.2.2.2.2.2.2.2.1, S.2.2.2.2.2.2.2.2.1, S.2.2.2.2.2.2.2.2.2.1, S.2.2.2.2.2.2.2.2.2.2.1, S.2.2.2.2.2.2.2.2.2.2.2.1, S.2.2.2.2.2.2.2.2.2.2.2.2.1, S.2.2.2.2.2.2.2.2.2.2.2.2.2.1, S.2.2.2.2.2.2.2.2.2.2.2.2.2.2.1, S.2.2.2.2.2.2.2.2.2.2.2.2.2.2.2.1, S.2.2.2.2.2.2.2.2.2.2.2.2.2.2.2.2.1, S.2.2.2.2.2.2.2.2.2.2.2.2.2.2.2.2.2.1, S.2.2.2.2.2.2.2.2.2.2.2.2.2.2.2.2.2.2.1, ()) H15)
     (seqE (seqE (leafE fun S H k =>
         bindV (evSub S.2.2.2.2.2.1 S.2.1) fun t64 =>
         bindV (evGeq t64 (.int .i64 (.ofNat 2))) fun t65 =>
         k (S.1, S.2.1, S.2.2.1, S.2.2.2.1, S.2.2.2.2.1, S.2.2.2.2.2.1, S.2.2.2.2.2.2.1, S.2.2.2.2.2.2.2.1, S.2.2.2.2.2.2.2.2.1, S.2.2.2.2.2.2.2.2.2.1, S.2.2.2.2.2.2.2.2.2.2.1, S.2.2.2.2.2.2.2.2.2.2.2.1, S.2.2.2.2.2.2.2.2.2.2.2.2.1, t65, S.2.2.2.2.2.2.2.2.2.2.2.2.2.2.1, S.2.2.2.2.2.2.2.2.2.2.2.2.2.2.2.1, S.2.2.2.2.2.2.2.2.2.2.2.2.2.2.2.2.1, S.2.2.2.2.2.2.2.2.2.2.2.2.2.2.2.2.2.1, S.2.2.2.2.2.2.2.2.2.2.2.2.2.2.2.2.2.2.1, ()) H)
     (condE (fun S => some S.2.2.2.2.2.2.2.2.2.2.2.2.2.1)
      (seqE (leafE fun S H k =>
          bindV (evSub S.2.2.2.2.2.1 (.int .i64 (.ofNat 1))) fun t67 =>
          k (S.1, S.2.1, S.2.2.1, S.2.2.2.1, S.2.2.2.2.1, S.2.2.2.2.2.1, S.2.2.2.2.2.2.1, t67, S.2.2.2.2.2.2.2.2.1, S.2.2.2.2.2.2.2.2.2.1, S.2.2.2.2.2.2.2.2.2.2.1, S.2.2.2.2.2.2.2.2.2.2.2.1, S.2.2.2.2.2.2.2.2.2.2.2.2.1, S.2.2.2.2.2.2.2.2.2.2.2.2.2.1, S.2.2.2.2.2.2.2.2.2.2.2.2.2.2.1, S.2.2.2.2.2.2.2.2.2.2.2.2.2.2.2.1, S.2.2.2.2.2.2.2.2.2.2.2.2.2.2.2.2.1, S.2.2.2.2.2.2.2.2.2.2.2.2.2.2.2.2.2.1, S.2.2.2.2.2.2.2.2.2.2.2.2.2.2.2.2.2.2.1, ()) H)
      (blockE 4 (loopE (seqE (seqE (leafE fun S H k =>
            bindV (evGeq S.2.2.2.2.2.2.2.1 (.int .i64 (.ofNat 1))) fun t69 =>
            k (S.1, S.2.1, S.2.2.1, S.2.2.2.1, S.2.2.2.2.1, S.2.2.2.2.2.1, S.2.2.2.2.2.2.1, S.2.2.2.2.2.2.2.1, S.2.2.2.2.2.2.2.2.1, S.2.2.2.2.2.2.2.2.2.1, S.2.2.2.2.2.2.2.2.2.2.1, S.2.2.2.2.2.2.2.2.2.2.2.1, S.2.2.2.2.2.2.2.2.2.2.2.2.1, S.2.2.2.2.2.2.2.2.2.2.2.2.2.1, t69, S.2.2.2.2.2.2.2.2.2.2.2.2.2.2.2.1, S.2.2.2.2.2.2.2.2.2.2.2.2.2.2.2.2.1, S.2.2.2.2.2.2.2.2.2.2.2.2.2.2.2.2.2.1, S.2.2.2.2.2.2.2.2.2.2.2.2.2.2.2.2.2.2.1, ()) H)
        (condE (fun S => some S.2.2.2.2.2.2.2.2.2.2.2.2.2.2.1)
         (doneE .normal)
         (doneE (.exit 4))))
        (seqE (blockE 5 (seqE (seqE (leafE fun S H k =>
             bindV (evIdxSlice 2 S.1 S.2.2.2.2.2.2.2.1) fun t75 =>
             bindV (evLoad H true 2 t75) fun t76 =>
             bindV (evSub S.2.2.2.2.2.2.2.1 (.int .i64 (.ofNat 1))) fun t79 =>
             bindV (evIdxSlice 2 S.1 t79) fun t80 =>
             bindV (evLoad H true 2 t80) fun t81 =>
             callVal call lo S.2.2.2.1 [t76, t81] H fun t82 H16 =>
             bindV (evLss t82 (.int .i64 (.ofNat 0))) fun t83 =>
             bindV (evNot t83) fun t84 =>
             k (S.1, S.2.1, S.2.2.1, S.2.2.2.1, S.2.2.2.2.1, S.2.2.2.2.2.1, S.2.2.2.2.2.2.1, S.2.2.2.2.2.2.2.1, S.2.2.2.2.2.2.2.2.1, S.2.2.2.2.2.2.2.2.2.1, S.2.2.2.2.2.2.2.2.2.2.1, S.2.2.2.2.2.2.2.2.2.2.2.1, S.2.2.2.2.2.2.2.2.2.2.2.2.1, S.2.2.2.2.2.2.2.2.2.2.2.2.2.1, S.2.2.2.2.2.2.2.2.2.2.2.2.2.2.1, t84, S.2.2.2.2.2.2.2.2.2.2.2.2.2.2.2.2.1, S.2.2.2.2.2.2.2.2.2.2.2.2.2.2.2.2.2.1, S.2.2.2.2.2.2.2.2.2.2.2.2.2.2.2.2.2.2.1, ()) H16)
         (condE (fun S => some S.2.2.2.2.2.2.2.2.2.2.2.2.2.2.2.1)
          (doneE (.exit 4))
          (doneE .normal)))
         (leafE fun S H k =>
             bindV (evSub S.2.2.2.2.2.2.2.1 (.int .i64 (.ofNat 1))) fun t89 =>
             bindV (evSub S.2.2.2.2.2.2.2.1 (.int .i64 (.ofNat 1))) fun t92 =>
             bindV (evIdxSlice 2 S.1 t92) fun t93 =>
             bindV (evLoad H true 2 t93) fun t94 =>
             bindV (evIdxSlice 2 S.1 S.2.2.2.2.2.2.2.1) fun t97 =>
             bindV (evLoad H true 2 t97) fun t98 =>
             bindV (evIdxSlice 2 S.1 S.2.2.2.2.2.2.2.1) fun t99 =>
             bindV (evStore lo H 2 t99 t94) fun H17 =>
             bindV (evIdxSlice 2 S.1 t89) fun t100 =>
             bindV (evStore lo H17 2 t100 t98) fun H18 =>
             k (S.1, S.2.1, S.2.2.1, S.2.2.2.1, S.2.2.2.2.1, S.2.2.2.2.2.1, S.2.2.2.2.2.2.1, S.2.2.2.2.2.2.2.1, S.2.2.2.2.2.2.2.2.1, S.2.2.2.2.2.2.2.2.2.1, S.2.2.2.2.2.2.2.2.2.2.1, S.2.2.2.2.2.2.2.2.2.2.2.1, S.2.2.2.2.2.2.2.2.2.2.2.2.1, S.2.2.2.2.2.2.2.2.2.2.2.2.2.1, S.2.2.2.2.2.2.2.2.2.2.2.2.2.2.1, S.2.2.2.2.2.2.2.2.2.2.2.2.2.2.2.1, S.2.2.2.2.2.2.2.2.2.2.2.2.2.2.2.2.1, S.2.2.2.2.2.2.2.2.2.2.2.2.2.2.2.2.2.1, S.2.2.2.2.2.2.2.2.2.2.2.2.2.2.2.2.2.2.1, ()) H18)))
        (leafE fun S H k =>
            bindV (evSub S.2.2.2.2.2.2.2.1 (.int .i64 (.ofNat 1))) fun t71 =>
            k (S.1, S.2.1, S.2.2.1, S.2.2.2.1, S.2.2.2.2.1, S.2.2.2.2.2.1, S.2.2.2.2.2.2.1, t71, S.2.2.2.2.2.2.2.2.1, S.2.2.2.2.2.2.2.2.2.1, S.2.2.2.2.2.2.2.2.2.2.1, S.2.2.2.2.2.2.2.2.2.2.2.1, S.2.2.2.2.2.2.2.2.2.2.2.2.1, S.2.2.2.2.2.2.2.2.2.2.2.2.2.1, S.2.2.2.2.2.2.2.2.2.2.2.2.2.2.1, S.2.2.2.2.2.2.2.2.2.2.2.2.2.2.2.1, S.2.2.2.2.2.2.2.2.2.2.2.2.2.2.2.2.1, S.2.2.2.2.2.2.2.2.2.2.2.2.2.2.2.2.2.1, S.2.2.2.2.2.2.2.2.2.2.2.2.2.2.2.2.2.2.1, ()) H))) fuel)))
      (doneE .normal)))
     (seqE (leafE fun S H k =>
         bindV (evSub S.2.2.1 S.2.2.2.2.2.1) fun t103 =>
         bindV (evGeq t103 (.int .i64 (.ofNat 2))) fun t104 =>
         k (S.1, S.2.1, S.2.2.1, S.2.2.2.1, S.2.2.2.2.1, S.2.2.2.2.2.1, S.2.2.2.2.2.2.1, S.2.2.2.2.2.2.2.1, S.2.2.2.2.2.2.2.2.1, S.2.2.2.2.2.2.2.2.2.1, S.2.2.2.2.2.2.2.2.2.2.1, S.2.2.2.2.2.2.2.2.2.2.2.1, S.2.2.2.2.2.2.2.2.2.2.2.2.1, S.2.2.2.2.2.2.2.2.2.2.2.2.2.1, S.2.2.2.2.2.2.2.2.2.2.2.2.2.2.1, S.2.2.2.2.2.2.2.2.2.2.2.2.2.2.2.1, t104, S.2.2.2.2.2.2.2.2.2.2.2.2.2.2.2.2.2.1, S.2.2.2.2.2.2.2.2.2.2.2.2.2.2.2.2.2.2.1, ()) H)
     (condE (fun S => some S.2.2.2.2.2.2.2.2.2.2.2.2.2.2.2.2.1)
      (seqE (leafE fun S H k =>
          bindV (evAdd S.2.2.2.2.2.1 (.int .i64 (.ofNat 1))) fun t106 =>
          k (S.1, S.2.1, S.2.2.1, S.2.2.2.1, S.2.2.2.2.1, S.2.2.2.2.2.1, S.2.2.2.2.2.2.1, S.2.2.2.2.2.2.2.1, t106, S.2.2.2.2.2.2.2.2.2.1, S.2.2.2.2.2.2.2.2.2.2.1, S.2.2.2.2.2.2.2.2.2.2.2.1, S.2.2.2.2.2.2.2.2.2.2.2.2.1, S.2.2.2.2.2.2.2.2.2.2.2.2.2.1, S.2.2.2.2.2.2.2.2.2.2.2.2.2.2.1, S.2.2.2.2.2.2.2.2.2.2.2.2.2.2.2.1, S.2.2.2.2.2.2.2.2.2.2.2.2.2.2.2.2.1, S.2.2.2.2.2.2.2.2.2.2.2.2.2.2.2.2.2.1, S.2.2.2.2.2.2.2.2.2.2.2.2.2.2.2.2.2.2.1, ()) H)
      (blockE 6 (loopE (seqE (seqE (leafE fun S H k =>
            bindV (evLss S.2.2.2.2.2.2.2.2.1 S.2.2.1) fun t109 =>
            k (S.1, S.2.1, S.2.2.1, S.2.2.2.1, S.2.2.2.2.1, S.2.2.2.2.2.1, S.2.2.2.2.2.2.1, S.2.2.2.2.2.2.2.1, S.2.2.2.2.2.2.2.2.1, S.2.2.2.2.2.2.2.2.2.1, S.2.2.2.2.2.2.2.2.2.2.1, S.2.2.2.2.2.2.2.2.2.2.2.1, S.2.2.2.2.2.2.2.2.2.2.2.2.1, S.2.2.2.2.2.2.2.2.2.2.2.2.2.1, S.2.2.2.2.2.2.2.2.2.2.2.2.2.2.1, S.2.2.2.2.2.2.2.2.2.2.2.2.2.2.2.1, S.2.2.2.2.2.2.2.2.2.2.2.2.2.2.2.2.1, t109, S.2.2.2.2.2.2.2.2.2.2.2.2.2.2.2.2.2.2.1, ()) H)
        (condE (fun S => some S.2.2.2.2.2.2.2.2.2.2.2.2.2.2.2.2.2.1)
         (doneE .normal)
         (doneE (.exit 6))))
        (seqE (blockE 7 (seqE (seqE (leafE fun S H k =>
             bindV (evIdxSlice 2 S.1 S.2.2.2.2.2.2.2.2.1) fun t115 =>
             bindV (evLoad H true 2 t115) fun t116 =>
             bindV (evSub S.2.2.2.2.2.2.2.2.1 (.int .i64 (.ofNat 1))) fun t119 =>
             bindV (evIdxSlice 2 S.1 t119) fun t120 =>
             bindV (evLoad H true 2 t120) fun t121 =>
             callVal call lo S.2.2.2.1 [t116, t121] H fun t122 H19 =>
             bindV (evLss t122 (.int .i64 (.ofNat 0))) fun t123 =>
             bindV (evNot t123) fun t124 =>
             k (S.1, S.2.1, S.2.2.1, S.2.2.2.1, S.2.2.2.2.1, S.2.2.2.2.2.1, S.2.2.2.2.2.2.1, S.2.2.2.2.2.2.2.1, S.2.2.2.2.2.2.2.2.1, S.2.2.2.2.2.2.2.2.2.1, S.2.2.2.2.2.2.2.2.2.2.1, S.2.2.2.2.2.2.2.2.2.2.2.1, S.2.2.2.2.2.2.2.2.2.2.2.2.1, S.2.2.2.2.2.2.2.2.2.2.2.2.2.1, S.2.2.2.2.2.2.2.2.2.2.2.2.2.2.1, S.2.2.2.2.2.2.2.2.2.2.2.2.2.2.2.1, S.2.2.2.2.2.2.2.2.2.2.2.2.2.2.2.2.1, S.2.2.2.2.2.2.2.2.2.2.2.2.2.2.2.2.2.1, t124, ()) H19)
         (condE (fun S => some S.2.2.2.2.2.2.2.2.2.2.2.2.2.2.2.2.2.2.1)
          (doneE (.exit 6))
          (doneE .normal)))
         (leafE fun S H k =>
             bindV (evSub S.2.2.2.2.2.2.2.2.1 (.int .i64 (.ofNat 1))) fun t129 =>
             bindV (evSub S.2.2.2.2.2.2.2.2.1 (.int .i64 (.ofNat 1))) fun t132 =>
             bindV (evIdxSlice 2 S.1 t132) fun t133 =>
             bindV (evLoad H true 2 t133) fun t134 =>
             bindV (evIdxSlice 2 S.1 S.2.2.2.2.2.2.2.2.1) fun t137 =>
             bindV (evLoad H true 2 t137) fun t138 =>
             bindV (evIdxSlice 2 S.1 S.2.2.2.2.2.2.2.2.1) fun t139 =>
             bindV (evStore lo H 2 t139 t134) fun H20 =>
             bindV (evIdxSlice 2 S.1 t129) fun t140 =>
             bindV (evStore lo H20 2 t140 t138) fun H21 =>
             k (S.1, S.2.1, S.2.2.1, S.2.2.2.1, S.2.2.2.2.1, S.2.2.2.2.2.1, S.2.2.2.2.2.2.1, S.2.2.2.2.2.2.2.1, S.2.2.2.2.2.2.2.2.1, S.2.2.2.2.2.2.2.2.2.1, S.2.2.2.2.2.2.2.2.2.2.1, S.2.2.2.2.2.2.2.2.2.2.2.1, S.2.2.2.2.2.2.2.2.2.2.2.2.1, S.2.2.2.2.2.2.2.2.2.2.2.2.2.1, S.2.2.2.2.2.2.2.2.2.2.2.2.2.2.1, S.2.2.2.2.2.2.2.2.2.2.2.2.2.2.2.1, S.2.2.2.2.2.2.2.2.2.2.2.2.2.2.2.2.1, S.2.2.2.2.2.2.2.2.2.2.2.2.2.2.2.2.2.1, S.2.2.2.2.2.2.2.2.2.2.2.2.2.2.2.2.2.2.1, ()) H21)))
        (leafE fun S H k =>
            bindV (evAdd S.2.2.2.2.2.2.2.2.1 (.int .i64 (.ofNat 1))) fun t111 =>
            k (S.1, S.2.1, S.2.2.1, S.2.2.2.1, S.2.2.2.2.1, S.2.2.2.2.2.1, S.2.2.2.2.2.2.1, S.2.2.2.2.2.2.2.1, t111, S.2.2.2.2.2.2.2.2.2.1, S.2.2.2.2.2.2.2.2.2.2.1, S.2.2.2.2.2.2.2.2.2.2.2.1, S.2.2.2.2.2.2.2.2.2.2.2.2.1, S.2.2.2.2.2.2.2.2.2.2.2.2.2.1, S.2.2.2.2.2.2.2.2.2.2.2.2.2.2.1, S.2.2.2.2.2.2.2.2.2.2.2.2.2.2.2.1, S.2.2.2.2.2.2.2.2.2.2.2.2.2.2.2.2.1, S.2.2.2.2.2.2.2.2.2.2.2.2.2.2.2.2.2.1, S.2.2.2.2.2.2.2.2.2.2.2.2.2.2.2.2.2.2.1, ()) H))) fuel)))
      (doneE .normal)))))))))
    (leafE fun S H k =>
        bindV (evAdd S.2.2.2.2.2.2.1 (.int .i64 (.ofNat 1))) fun t18 =>
        k (S.1, S.2.1, S.2.2.1, S.2.2.2.1, S.2.2.2.2.1, S.2.2.2.2.2.1, t18, S.2.2.2.2.2.2.2.1, S.2.2.2.2.2.2.2.2.1, S.2.2.2.2.2.2.2.2.2.1, S.2.2.2.2.2.2.2.2.2.2.1, S.2.2.2.2.2.2.2.2.2.2.2.1, S.2.2.2.2.2.2.2.2.2.2.2.2.1, S.2.2.2.2.2.2.2.2.2.2.2.2.2.1, S.2.2.2.2.2.2.2.2.2.2.2.2.2.2.1, S.2.2.2.2.2.2.2.2.2.2.2.2.2.2.2.1, S.2.2.2.2.2.2.2.2.2.2.2.2.2.2.2.2.1, S.2.2.2.2.2.2.2.2.2.2.2.2.2.2.2.2.2.1, S.2.2.2.2.2.2.2.2.2.2.2.2.2.2.2.2.2.2.1, ()) H))) fuel)))
  (seqE (leafE fun S H k =>
      k (S.1, S.2.1, S.2.2.1, S.2.2.2.1, (.bool false), S.2.2.2.2.2.1, S.2.2.2.2.2.2.1, S.2.2.2.2.2.2.2.1, S.2.2.2.2.2.2.2.2.1, S.2.2.2.2.2.2.2.2.2.1, S.2.2.2.2.2.2.2.2.2.2.1, S.2.2.2.2.2.2.2.2.2.2.2.1, S.2.2.2.2.2.2.2.2.2.2.2.2.1, S.2.2.2.2.2.2.2.2.2.2.2.2.2.1, S.2.2.2.2.2.2.2.2.2.2.2.2.2.2.1, S.2.2.2.2.2.2.2.2.2.2.2.2.2.2.2.1, S.2.2.2.2.2.2.2.2.2.2.2.2.2.2.2.2.1, S.2.2.2.2.2.2.2.2.2.2.2.2.2.2.2.2.2.1, S.2.2.2.2.2.2.2.2.2.2.2.2.2.2.2.2.2.2.1, ()) H)
  (doneE .ret)))))

def F113 (call : CallF) (lo : Nat) (args : List Value) (H : AH) : Option (Value × AH) :=
  leave .all H (bindV (C113 call (lowOf .all lo H) (argAt args 0, argAt args 1, argAt args 2, argAt args 3, argAt args 8, argAt args 9, argAt args 10, argAt args 11, argAt args 12, argAt args 16, argAt args 36, argAt args 41, argAt args 45, argAt args 65, argAt args 69, argAt args 84, argAt args 104, argAt args 109, argAt args 124, ()) H) fun p => resE p.1 (some (oneOf [p.2.1.2.2.2.2.1], p.2.2)))

theorem F113_eq (call : CallF) (lo : Nat) (args : List Value) (H : AH) : evFn P ctx call lo 113 args H = F113 call lo args H := by kernel_rfl

/-- slices.partitionEqualCmpFunc[[2]int] -/
def C114 (call : CallF) (lo : Nat) : Piece (Value × Value × Value × Value × Value × Value × Value × Value × Value × Value × Value × Unit) :=
  (seqE (leafE fun S H k =>
      k (S.1, S.2.1, S.2.2.1, S.2.2.2.1, S.2.2.2.2.1, (.int .i64 (.ofNat 0)), S.2.2.2.2.2.2.1, S.2.2.2.2.2.2.2.1, S.2.2.2.2.2.2.2.2.1, S.2.2.2.2.2.2.2.2.2.1, S.2.2.2.2.2.2.2.2.2.2.1, ()) H)
  (seqE (leafE fun S H k =>
      bindV (evIdxSlice 2 S.1 S.2.2.2.1) fun t19 =>
      bindV (evLoad H true 2 t19) fun t20 =>
      bindV (evIdxSlice 2 S.1 S.2.1) fun t23 =>
      bindV (evLoad H true 2 t23) fun t24 =>
      bindV (evIdxSlice 2 S.1 S.2.1) fun t25 =>
      bindV (evStore lo H 2 t25 t20) fun H0 =>
      bindV (evIdxSlice 2 S.1 S.2.2.2.1) fun t26 =>
      bindV (evStore lo H0 2 t26 t24) fun H1 =>
      k (S.1, S.2.1, S.2.2.1, S.2.2.2.1, S.2.2.2.2.1, S.2.2.2.2.2.1, S.2.2.2.2.2.2.1, S.2.2.2.2.2.2.2.1, S.2.2.2.2.2.2.2.2.1, S.2.2.2.2.2.2.2.2.2.1, S.2.2.2.2.2.2.2.2.2.2.1, ()) H1)
  (seqE (leafE fun S H k =>
      bindV (evAdd S.2.1 (.int .i64 (.ofNat 1))) fun t28 =>
      bindV (evSub S.2.2.1 (.int .i64 (.ofNat 1))) fun t30 =>
      k (S.1, S.2.1, S.2.2.1, S.2.2.2.1, S.2.2.2.2.1, S.2.2.2.2.2.1, t28, t30, S.2.2.2.2.2.2.2.2.1, S.2.2.2.2.2.2.2.2.2.1, S.2.2.2.2.2.2.2.2.2.2.1, ()) H)
  (seqE (blockE 0 (loopE (blockE 1 (seqE (blockE 2 (loopE (seqE (seqE (leafE fun S H k =>
           bindV (evLeq S.2.2.2.2.2.2.1 S.2.2.2.2.2.2.2.1) fun t33 =>
           guarded t33 true ( pairVH S.2.2.2.2.1 H) H fun t35 H2 =>
           guarded t33 true ( pairVH S.1 H2) H2 fun t36 H3 =>
           guarded t33 true ( pairVH S.2.1 H3) H3 fun t37 H4 =>
           guarded t33 true (bindV (evIdxSlice 2 t36 t37) fun t1000000 => pairVH t1000000 H4) H4 fun t38 H5 =>
           guarded t33 true (bindV (evLoad H5 true 2 t38) fun t1000000 => pairVH t1000000 H5) H5 fun t39 H6 =>
           guarded t33 true ( pairVH S.1 H6) H6 fun t40 H7 =>
           guarded t33 true ( pairVH S.2.2.2.2.2.2.1 H7) H7 fun t41 H8 =>
           guarded t33 true (bindV (evIdxSlice 2 t40 t41) fun t1000000 => pairVH t1000000 H8) H8 fun t42 H9 =>
           guarded t33 true (bindV (evLoad H9 true 2 t42) fun t1000000 => pairVH t1000000 H9) H9 fun t43 H10 =>
           guarded t33 true (callVal call lo t35 [t39, t43] H10 fun t1000000 H11 => pairVH t1000000 H11) H10 fun t44 H12 =>
           guarded t33 true (bindV (evLss t44 (.int .i64 (.ofNat 0))) fun t1000000 => pairVH t1000000 H12) H12 fun t45 H13 =>
           guarded t33 true (bindV (evNot t45) fun t1000000 => pairVH t1000000 H13) H13 fun t46 H14 =>
           bindV (evPick t33 t46 (.bool false)) fun t47 =>
           k (S.1, S.2.1, S.2.2.1, S.2.2.2.1, S.2.2.2.2.1, S.2.2.2.2.2.1, S.2.2.2.2.2.2.1, S.2.2.2.2.2.2.2.1, t47, S.2.2.2.2.2.2.2.2.2.1, S.2.2.2.2.2.2.2.2.2.2.1, ()) H14)
       (condE (fun S => some S.2.2.2.2.2.2.2.2.1)
        (doneE .normal)
        (doneE (.exit 2))))
       (blockE 3 (leafE fun S H k =>
            bindV (evAdd S.2.2.2.2.2.2.1 (.int .i64 (.ofNat 1))) fun t49 =>
            k (S.1, S.2.1, S.2.2.1, S.2.2.2.1, S.2.2.2.2.1, S.2.2.2.2.2.1, t49, S.2.2.2.2.2.2.2.1, S.2.2.2.2.2.2.2.2.1, S.2.2.2.2.2.2.2.2.2.1, S.2.2.2.2.2.2.2.2.2.2.1, ()) H))) fuel))
     (seqE (blockE 4 (loopE (seqE (seqE (leafE fun S H k =>
           bindV (evLeq S.2.2.2.2.2.2.1 S.2.2.2.2.2.2.2.1) fun t52 =>
           guarded t52 true ( pairVH S.2.2.2.2.1 H) H fun t54 H15 =>
           guarded t52 true ( pairVH S.1 H15) H15 fun t55 H16 =>
           guarded t52 true ( pairVH S.2.1 H16) H16 fun t56 H17 =>
           guarded t52 true (bindV (evIdxSlice 2 t55 t56) fun t1000000 => pairVH t1000000 H17) H17 fun t57 H18 =>
           guarded t52 true (bindV (evLoad H18 true 2 t57) fun t1000000 => pairVH t1000000 H18) H18 fun t58 H19 =>
           guarded t52 true ( pairVH S.1 H19) H19 fun t59 H20 =>
           guarded t52 true ( pairVH S.2.2.2.2.2.2.2.1 H20) H20 fun t60 H21 =>
           guarded t52 true (bindV (evIdxSlice 2 t59 t60) fun t1000000 => pairVH t1000000 H21) H21 fun t61 H22 =>
           guarded t52 true (bindV (evLoad H22 true 2 t61) fun t1000000 => pairVH t1000000 H22) H22 fun t62 H23 =>
           guarded t52 true (callVal call lo t54 [t58, t62] H23 fun t1000000 H24 => pairVH t1000000 H24) H23 fun t63 H25 =>
           guarded t52 true (bindV (evLss t63 (.int .i64 (.ofNat 0))) fun t1000000 => pairVH t1000000 H25) H25 fun t64 H26 =>
           bindV (evPick t52 t64 (.bool false)) fun t65 =>
           k (S.1, S.2.1, S.2.2.1, S.2.2.2.1, S.2.2.2.2.1, S.2.2.2.2.2.1, S.2.2.2.2.2.2.1, S.2.2.2.2.2.2.2.1, S.2.2.2.2.2.2.2.2.1, t65, S.2.2.2.2.2.2.2.2.2.2.1, ()) H26)
       (condE (fun S => some S.2.2.2.2.2.2.2.2.2.1)
        (doneE .normal)
        (doneE (.exit 4))))
       (blockE 5 (leafE fun S H k =>
            bindV (evSub S.2.2.2.2.2.2.2.1 (.int .i64 (.ofNat 1))) fun t67 =>
            k (S.1, S.2.1, S.2.2.1, S.2.2.2.1, S.2.2.2.2.1, S.2.2.2.2.2.1, S.2.2.2.2.2.2.1, t67, S.2.2.2.2.2.2.2.2.1, S.2.2.2.2.2.2.2.2.2.1, S.2.2.2.2.2.2.2.2.2.2.1, ()) H))) fuel))
     (seqE (seqE (leafE fun S H k =>
         bindV (evGtr S.2.2.2.2.2.2.1 S.2.2.2.2.2.2.2.1) fun t70 =>
         k (S.1, S.2.1, S.2.2.1, S.2.2.2.1, S.2.2.2.2.1, S.2.2.2.2.2.1, S.2.2.2.2.2.2.1, S.2.2.2.2.2.2.2.1, S.2.2.2.2.2.2.2.2.1, S.2.2.2.2.2.2.2.2.2.1, t70, ()) H)
     (condE (fun S => some S.2.2.2.2.2.2.2.2.2.2.1)
      (doneE (.exit 0))
      (doneE .normal)))
     (seqE (leafE fun S H k =>
         bindV (evIdxSlice 2 S.1 S.2.2.2.2.2.2.2.1) fun t77 =>
         bindV (evLoad H true 2 t77) fun t78 =>
         bindV (evIdxSlice 2 S.1 S.2.2.2.2.2.2.1) fun t81 =>
         bindV (evLoad H true 2 t81) fun t82 =>
         bindV (evIdxSlice 2 S.1 S.2.2.2.2.2.2.1) fun t83 =>
         bindV (evStore lo H 2 t83 t78) fun H27 =>
         bindV (evIdxSlice 2 S.1 S.2.2.2.2.2.2.2.1) fun t84 =>
         bindV (evStore lo H27 2 t84 t82) fun H28 =>
         k (S.1, S.2.1, S.2.2.1, S.2.2.2.1, S.2.2.2.2.1, S.2.2.2.2.2.1, S.2.2.2.2.2.2.1, S.2.2.2.2.2.2.2.1, S.2.2.2.2.2.2.2.2.1, S.2.2.2.2.2.2.2.2.2.1, S.2.2.2.2.2.2.2.2.2.2.1, ()) H28)
     (seqE (leafE fun S H k =>
         bindV (evAdd S.2.2.2.2.2.2.1 (.int .i64 (.ofNat 1))) fun t86 =>
         k (S.1, S.2.1, S.2.2.1, S.2.2.2.1, S.2.2.2.2.1, S.2.2.2.2.2.1, t86, S.2.2.2.2.2.2.2.1, S.2.2.2.2.2.2.2.2.1, S.2.2.2.2.2.2.2.2.2.1, S.2.2.2.2.2.2.2.2.2.2.1, ()) H)
     (leafE fun S H k =>
         bindV (evSub S.2.2.2.2.2.2.2.1 (.int .i64 (.ofNat 1))) fun t88 =>
         k (S.1, S.2.1, S.2.2.1, S.2.2.2.1, S.2.2.2.2.1, S.2.2.2.2.2.1, S.2.2.2.2.2.2.1, t88, S.2.2.2.2.2.2.2.2.1, S.2.2.2.2.2.2.2.2.2.1, S.2.2.2.2.2.2.2.2.2.2.1, ()) H))))))) fuel))
  (seqE (leafE fun S H k =>
      k (S.1, S.2.1, S.2.2.1, S.2.2.2.1, S.2.2.2.2.1, S.2.2.2.2.2.2.1, S.2.2.2.2.2.2.1, S.2.2.2.2.2.2.2.1, S.2.2.2.2.2.2.2.2.1, S.2.2.2.2.2.2.2.2.2.1, S.2.2.2.2.2.2.2.2.2.2.1, ()) H)
  (doneE .ret))))))

def F114 (call : CallF) (lo : Nat) (args : List Value) (H : AH) : Option (Value × AH) :=
  leave .all H (bindV (C114 call (lowOf .all lo H) (argAt args 0, argAt args 1, argAt args 2, argAt args 3, argAt args 4, argAt args 10, argAt args 11, argAt args 12, argAt args 47, argAt args 65, argAt args 70, ()) H) fun p => resE p.1 (some (oneOf [p.2.1.2.2.2.2.2.1], p.2.2)))

theorem F114_eq (call : CallF) (lo : Nat) (args : List Value) (H : AH) : evFn P ctx call lo 114 args H = F114 call lo args H := by kernel_rfl

/-- slices.partitionCmpFunc[[2]int] -/
def C115 (call : CallF) (lo : Nat) : Piece (Value × Value × Value × Value × Value × Value × Value × Value × Value × Value × Value × Value × Value × Value × Value × Unit) :=
  (seqE (leafE fun S H k =>
      k (S.1, S.2.1, S.2.2.1, S.2.2.2.1, S.2.2.2.2.1, (.int .i64 (.ofNat 0)), (.bool false), S.2.2.2.2.2.2.2.1, S.2.2.2.2.2.2.2.2.1, S.2.2.2.2.2.2.2.2.2.1, S.2.2.2.2.2.2.2.2.2.2.1, S.2.2.2.2.2.2.2.2.2.2.2.1, S.2.2.2.2.2.2.2.2.2.2.2.2.1, S.2.2.2.2.2.2.2.2.2.2.2.2.2.1, S.2.2.2.2.2.2.2.2.2.2.2.2.2.2.1, ()) H)
  (seqE (leafE fun S H k =>
      bindV (evIdxSlice 2 S.1 S.2.2.2.1) fun t20 =>
      bindV (evLoad H true 2 t20) fun t21 =>
      bindV (evIdxSlice 2 S.1 S.2.1) fun t24 =>
      bindV (evLoad H true 2 t24) fun t25 =>
      bindV (evIdxSlice 2 S.1 S.2.1) fun t26 =>
      bindV (evStore lo H 2 t26 t21) fun H0 =>
      bindV (evIdxSlice 2 S.1 S.2.2.2.1) fun t27 =>
      bindV (evStore lo H0 2 t27 t25) fun H1 =>
      k (S.1, S.2.1, S.2.2.1, S.2.2.2.1, S.2.2.2.2.1, S.2.2.2.2.2.1, S.2.2.2.2.2.2.1, S.2.2.2.2.2.2.2.1, S.2.2.2.2.2.2.2.2.1, S.2.2.2.2.2.2.2.2.2.1, S.2.2.2.2.2.2.2.2.2.2.1, S.2.2.2.2.2.2.2.2.2.2.2.1, S.2.2.2.2.2.2.2.2.2.2.2.2.1, S.2.2.2.2.2.2.2.2.2.2.2.2.2.1, S.2.2.2.2.2.2.2.2.2.2.2.2.2.2.1, ()) H1)
  (seqE (leafE fun S H k =>
      bindV (evAdd S.2.1 (.int .i64 (.ofNat 1))) fun t29 =>
      bindV (evSub S.2.2.1 (.int .i64 (.ofNat 1))) fun t31 =>
      k (S.1, S.2.1, S.2.2.1, S.2.2.2.1, S.2.2.2.2.1, S.2.2.2.2.2.1, S.2.2.2.2.2.2.1, t29, t31, S.2.2.2.2.2.2.2.2.2.1, S.2.2.2.2.2.2.2.2.2.2.1, S.2.2.2.2.2.2.2.2.2.2.2.1, S.2.2.2.2.2.2.2.2.2.2.2.2.1, S.2.2.2.2.2.2.2.2.2.2.2.2.2.1, S.2.2.2.2.2.2.2.2.2.2.2.2.2.2.1, ()) H)
  (seqE (blockE 0 (loopE (seqE (seqE (leafE fun S H k =>
        bindV (evLeq S.2.2.2.2.2.2.2.1 S.2.2.2.2.2.2.2.2.1) fun t34 =>
        guarded t34 true ( pairVH S.2.2.2.2.1 H) H fun t36 H2 =>
        guarded t34 true ( pairVH S.1 H2) H2 fun t37 H3 =>
        guarded t34 true ( pairVH S.2.2.2.2.2.2.2.1 H3) H3 fun t38 H4 =>
        guarded t34 true (bindV (evIdxSlice 2 t37 t38) fun t1000000 => pairVH t1000000 H4) H4 fun t39 H5 =>
        guarded t34 true (bindV (evLoad H5 true 2 t39) fun t1000000 => pairVH t1000000 H5) H5 fun t40 H6 =>
        guarded t34 true ( pairVH S.1 H6) H6 fun t41 H7 =>
        guarded t34 true ( pairVH S.2.1 H7) H7 fun t42 H8 =>
        guarded t34 true (bindV (evIdxSlice 2 t41 t42) fun t1000000 => pairVH t1000000 H8) H8 fun t43 H9 =>
        guarded t34 true (bindV (evLoad H9 true 2 t43) fun t1000000 => pairVH t1000000 H9) H9 fun t44 H10 =>
        guarded t34 true (callVal call lo t36 [t40, t44] H10 fun t1000000 H11 => pairVH t1000000 H11) H10 fun t45 H12 =>
        guarded t34 true (bindV (evLss t45 (.int .i64 (.ofNat 0))) fun t1000000 => pairVH t1000000 H12) H12 fun t46 H13 =>
        bindV (evPick t34 t46 (.bool false)) fun t47 =>
        k (S.1, S.2.1, S.2.2.1, S.2.2.2.1, S.2.2.2.2.1, S.2.2.2.2.2.1, S.2.2.2.2.2.2.1, S.2.2.2.2.2.2.2.1, S.2.2.2.2.2.2.2.2.1, t47, S.2.2.2.2.2.2.2.2.2.2.1, S.2.2.2.2.2.2.2.2.2.2.2.1, S.2.2.2.2.2.2.2.2.2.2.2.2.1, S.2.2.2.2.2.2.2.2.2.2.2.2.2.1, S.2.2.2.2.2.2.2.2.2.2.2.2.2.2.1, ()) H13)
    (condE (fun S => some S.2.2.2.2.2.2.2.2.2.1)
     (doneE .normal)
     (doneE (.exit 0))))
    (blockE 1 (leafE fun S H k =>
         bindV (evAdd S.2.2.2.2.2.2.2.1 (.int .i64 (.ofNat 1))) fun t49 =>
         k (S.1, S.2.1, S.2.2.1, S.2.2.2.1, S.2.2.2.2.1, S.2.2.2.2.2.1, S.2.2.2.2.2.2.1, t49, S.2.2.2.2.2.2.2.2.1, S.2.2.2.2.2.2.2.2.2.1, S.2.2.2.2.2.2.2.2.2.2.1, S.2.2.2.2.2.2.2.2.2.2.2.1, S.2.2.2.2.2.2.2.2.2.2.2.2.1, S.2.2.2.2.2.2.2.2.2.2.2.2.2.1, S.2.2.2.2.2.2.2.2.2.2.2.2.2.2.1, ()) H))) fuel))
  (seqE (blockE 2 (loopE (seqE (seqE (leafE fun S H k =>
        bindV (evLeq S.2.2.2.2.2.2.2.1 S.2.2.2.2.2.2.2.2.1) fun t52 =>
        guarded t52 true ( pairVH S.2.2.2.2.1 H) H fun t54 H14 =>
        guarded t52 true ( pairVH S.1 H14) H14 fun t55 H15 =>
        guarded t52 true ( pairVH S.2.2.2.2.2.2.2.2.1 H15) H15 fun t56 H16 =>
        guarded t52 true (bindV (evIdxSlice 2 t55 t56) fun t1000000 => pairVH t1000000 H16) H16 fun t57 H17 =>
        guarded t52 true (bindV (evLoad H17 true 2 t57) fun t1000000 => pairVH t1000000 H17) H17 fun t58 H18 =>
        guarded t52 true ( pairVH S.1 H18) H18 fun t59 H19 =>
        guarded t52 true ( pairVH S.2.1 H19) H19 fun t60 H20 =>
        guarded t52 true (bindV (evIdxSlice 2 t59 t60) fun t1000000 => pairVH t1000000 H20) H20 fun t61 H21 =>
        guarded t52 true (bindV (evLoad H21 true 2 t61) fun t1000000 => pairVH t1000000 H21) H21 fun t62 H22 =>
        guarded t52 true (callVal call lo t54 [t58, t62] H22 fun t1000000 H23 => pairVH t1000000 H23) H22 fun t63 H24 =>
        guarded t52 true (bindV (evLss t63 (.int .i64 (.ofNat 0))) fun t1000000 => pairVH t1000000 H24) H24 fun t64 H25 =>
        guarded t52 true (bindV (evNot t64) fun t1000000 => pairVH t1000000 H25) H25 fun t65 H26 =>
        bindV (evPick t52 t65 (.bool false)) fun t66 =>
        k (S.1, S.2.1, S.2.2.1, S.2.2.2.1, S.2.2.2.2.1, S.2.2.2.2.2.1, S.2.2.2.2.2.2.1, S.2.2.2.2.2.2.2.1, S.2.2.2.2.2.2.2.2.1, S.2.2.2.2.2.2.2.2.2.1, t66, S.2.2.2.2.2.2.2.2.2.2.2.1, S.2.2.2.2.2.2.2.2.2.2.2.2.1, S.2.2.2.2.2.2.2.2.2.2.2.2.2.1, S.2.2.2.2.2.2.2.2.2.2.2.2.2.2.1, ()) H26)
    (condE (fun S => some S.2.2.2.2.2.2.2.2.2.2.1)
     (doneE .normal)
     (doneE (.exit 2))))
    (blockE 3 (leafE fun S H k =>
         bindV (evSub S.2.2.2.2.2.2.2.2.1 (.int .i64 (.ofNat 1))) fun t68 =>
         k (S.1, S.2.1, S.2.2.1, S.2.2.2.1, S.2.2.2.2.1, S.2.2.2.2.2.1, S.2.2.2.2.2.2.1, S.2.2.2.2.2.2.2.1, t68, S.2.2.2.2.2.2.2.2.2.1, S.2.2.2.2.2.2.2.2.2.2.1, S.2.2.2.2.2.2.2.2.2.2.2.1, S.2.2.2.2.2.2.2.2.2.2.2.2.1, S.2.2.2.2.2.2.2.2.2.2.2.2.2.1, S.2.2.2.2.2.2.2.2.2.2.2.2.2.2.1, ()) H))) fuel))
  (seqE (seqE (leafE fun S H k =>
      bindV (evGtr S.2.2.2.2.2.2.2.1 S.2.2.2.2.2.2.2.2.1) fun t71 =>
      k (S.1, S.2.1, S.2.2.1, S.2.2.2.1, S.2.2.2.2.1, S.2.2.2.2.2.1, S.2.2.2.2.2.2.1, S.2.2.2.2.2.2.2.1, S.2.2.2.2.2.2.2.2.1, S.2.2.2.2.2.2.2.2.2.1, S.2.2.2.2.2.2.2.2.2.2.1, t71, S.2.2.2.2.2.2.2.2.2.2.2.2.1, S.2.2.2.2.2.2.2.2.2.2.2.2.2.1, S.2.2.2.2.2.2.2.2.2.2.2.2.2.2.1, ()) H)
  (condE (fun S => some S.2.2.2.2.2.2.2.2.2.2.2.1)
   (seqE (leafE fun S H k =>
       bindV (evIdxSlice 2 S.1 S.2.1) fun t78 =>
       bindV (evLoad H true 2 t78) fun t79 =>
       bindV (evIdxSlice 2 S.1 S.2.2.2.2.2.2.2.2.1) fun t82 =>
       bindV (evLoad H true 2 t82) fun t83 =>
       bindV (evIdxSlice 2 S.1 S.2.2.2.2.2.2.2.2.1) fun t84 =>
       bindV (evStore lo H 2 t84 t79) fun H27 =>
       bindV (evIdxSlice 2 S.1 S.2.1) fun t85 =>
       bindV (evStore lo H27 2 t85 t83) fun H28 =>
       k (S.1, S.2.1, S.2.2.1, S.2.2.2.1, S.2.2.2.2.1, S.2.2.2.2.2.1, S.2.2.2.2.2.2.1, S.2.2.2.2.2.2.2.1, S.2.2.2.2.2.2.2.2.1, S.2.2.2.2.2.2.2.2.2.1, S.2.2.2.2.2.2.2.2.2.2.1, S.2.2.2.2.2.2.2.2.2.2.2.1, S.2.2.2.2.2.2.2.2.2.2.2.2.1, S.2.2.2.2.2.2.2.2.2.2.2.2.2.1, S.2.2.2.2.2.2.2.2.2.2.2.2.2.2.1, ()) H28)
   (seqE (leafE fun S H k =>
       k (S.1, S.2.1, S.2.2.1, S.2.2.2.1, S.2.2.2.2.1, S.2.2.2.2.2.2.2.2.1, (.bool true), S.2.2.2.2.2.2.2.1, S.2.2.2.2.2.2.2.2.1, S.2.2.2.2.2.2.2.2.2.1, S.2.2.2.2.2.2.2.2.2.2.1, S.2.2.2.2.2.2.2.2.2.2.2.1, S.2.2.2.2.2.2.2.2.2.2.2.2.1, S.2.2.2.2.2.2.2.2.2.2.2.2.2.1, S.2.2.2.2.2.2.2.2.2.2.2.2.2.2.1, ()) H)
   (doneE .ret)))
   (doneE .normal)))
  (seqE (leafE fun S H k =>
      bindV (evIdxSlice 2 S.1 S.2.2.2.2.2.2.2.2.1) fun t93 =>
      bindV (evLoad H true 2 t93) fun t94 =>
      bindV (evIdxSlice 2 S.1 S.2.2.2.2.2.2.2.1) fun t97 =>
      bindV (evLoad H true 2 t97) fun t98 =>
      bindV (evIdxSlice 2 S.1 S.2.2.2.2.2.2.2.1) fun t99 =>
      bindV (evStore lo H 2 t99 t94) fun H29 =>
      bindV (evIdxSlice 2 S.1 S.2.2.2.2.2.2.2.2.1) fun t100 =>
      bindV (evStore lo H29 2 t100 t98) fun H30 =>
      k (S.1, S.2.1, S.2.2.1, S.2.2.2.1, S.2.2.2.2.1, S.2.2.2.2.2.1, S.2.2.2.2.2.2.1, S.2.2.2.2.2.2.2.1, S.2.2.2.2.2.2.2.2.1, S.2.2.2.2.2.2.2.2.2.1, S.2.2.2.2.2.2.2.2.2.2.1, S.2.2.2.2.2.2.2.2.2.2.2.1, S.2.2.2.2.2.2.2.2.2.2.2.2.1, S.2.2.2.2.2.2.2.2.2.2.2.2.2.1, S.2.2.2.2.2.2.2.2.2.2.2.2.2.2.1, ()) H30)
  (seqE (leafE fun S H k =>
      bindV (evAdd S.2.2.2.2.2.2.2.1 (.int .i64 (.ofNat 1))) fun t102 =>
      k (S.1, S.2.1, S.2.2.1, S.2.2.2.1, S.2.2.2.2.1, S.2.2.2.2.2.1, S.2.2.2.2.2.2.1, t102, S.2.2.2.2.2.2.2.2.1, S.2.2.2.2.2.2.2.2.2.1, S.2.2.2.2.2.2.2.2.2.2.1, S.2.2.2.2.2.2.2.2.2.2.2.1, S.2.2.2.2.2.2.2.2.2.2.2.2.1, S.2.2.2.2.2.2.2.2.2.2.2.2.2.1, S.2.2.2.2.2.2.2.2.2.2.2.2.2.2.1, ()) H)
  (seqE (leafE fun S H k =>
      bindV (evSub S.2.2.2.2.2.2.2.2.1 (.int .i64 (.ofNat 1))) fun t104 =>
      k (S.1, S.2.1, S.2.2.1, S.2.2.2.1, S.2.2.2.2.1, S.2.2.2.2.2.1, S.2.2.2.2.2.2.1, S.2.2.2.2.2.2.2.1, t104, S.2.2.2.2.2.2.2.2.2.1, S.2.2.2.2.2.2.2.2.2.2.1, S.2.2.2.2.2.2.2.2.2.2.2.1, S.2.2.2.2.2.2.2.2.2.2.2.2.1, S.2.2.2.2.2.2.2.2.2.2.2.2.2.1, S.2.2.2.2.2.2.2.2.2.2.2.2.2.2.1, ()) H)
  (seqE (blockE 4 (loopE (blockE 5 (seqE (blockE 6 (loopE (seqE (seqE (leafE fun S H k =>
           bindV (evLeq S.2.2.2.2.2.2.2.1 S.2.2.2.2.2.2.2.2.1) fun t107 =>
           guarded t107 true ( pairVH S.2.2.2.2.1 H) H fun t109 H31 =>
           guarded t107 true ( pairVH S.1 H31) H31 fun t110 H32 =>
           guarded t107 true ( pairVH S.2.2.2.2.2.2.2.1 H32) H32 fun t111 H33 =>
           guarded t107 true (bindV (evIdxSlice 2 t110 t111) fun t1000000 => pairVH t1000000 H33) H33 fun t112 H34 =>
           guarded t107 true (bindV (evLoad H34 true 2 t112) fun t1000000 => pairVH t1000000 H34) H34 fun t113 H35 =>
           guarded t107 true ( pairVH S.1 H35) H35 fun t114 H36 =>
           guarded t107 true ( pairVH S.2.1 H36) H36 fun t115 H37 =>
           guarded t107 true (bindV (evIdxSlice 2 t114 t115) fun t1000000 => pairVH t1000000 H37) H37 fun t116 H38 =>
           guarded t107 true (bindV (evLoad H38 true 2 t116) fun t1000000 => pairVH t1000000 H38) H38 fun t117 H39 =>
           guarded t107 true (callVal call lo t109 [t113, t117] H39 fun t1000000 H40 => pairVH t1000000 H40) H39 fun t118 H41 =>
           guarded t107 true (bindV (evLss t118 (.int .i64 (.ofNat 0))) fun t1000000 => pairVH t1000000 H41) H41 fun t119 H42 =>
           bindV (evPick t107 t119 (.bool false)) fun t120 =>
           k (S.1, S.2.1, S.2.2.1, S.2.2.2.1, S.2.2.2.2.1, S.2.2.2.2.2.1, S.2.2.2.2.2.2.1, S.2.2.2.2.2.2.2.1, S.2.2.2.2.2.2.2.2.1, S.2.2.2.2.2.2.2.2.2.1, S.2.2.2.2.2.2.2.2.2.2.1, S.2.2.2.2.2.2.2.2.2.2.2.1, t120, S.2.2.2.2.2.2.2.2.2.2.2.2.2.1, S.2.2.2.2.2.2.2.2.2.2.2.2.2.2.1, ()) H42)
       (condE (fun S => some S.2.2.2.2.2.2.2.2.2.2.2.2.1)
        (doneE .normal)
        (doneE (.exit 6))))
       (blockE 7 (leafE fun S H k =>
            bindV (evAdd S.2.2.2.2.2.2.2.1 (.int .i64 (.ofNat 1))) fun t122 =>
            k (S.1, S.2.1, S.2.2.1, S.2.2.2.1, S.2.2.2.2.1, S.2.2.2.2.2.1, S.2.2.2.2.2.2.1, t122, S.2.2.2.2.2.2.2.2.1, S.2.2.2.2.2.2.2.2.2.1, S.2.2.2.2.2.2.2.2.2.2.1, S.2.2.2.2.2.2.2.2.2.2.2.1, S.2.2.2.2.2.2.2.2.2.2.2.2.1, S.2.2.2.2.2.2.2.2.2.2.2.2.2.1, S.2.2.2.2.2.2.2.2.2.2.2.2.2.2.1, ()) H))) fuel))
     (seqE (blockE 8 (loopE (seqE (seqE (leafE fun S H k =>
           bindV (evLeq S.2.2.2.2.2.2.2.1 S.2.2.2.2.2.2.2.2.1) fun t125 =>
           guarded t125 true ( pairVH S.2.2.2.2.1 H) H fun t127 H43 =>
           guarded t125 true ( pairVH S.1 H43) H43 fun t128 H44 =>
           guarded t125 true ( pairVH S.2.2.2.2.2.2.2.2.1 H44) H44 fun t129 H45 =>
           guarded t125 true (bindV (evIdxSlice 2 t128 t129) fun t1000000 => pairVH t1000000 H45) H45 fun t130 H46 =>
           guarded t125 true (bindV (evLoad H46 true 2 t130) fun t1000000 => pairVH t1000000 H46) H46 fun t131 H47 =>
           guarded t125 true ( pairVH S.1 H47) H47 fun t132 H48 =>
           guarded t125 true ( pairVH S.2.1 H48) H48 fun t133 H49 =>
           guarded t125 true (bindV (evIdxSlice 2 t132 t133) fun t1000000 => pairVH t1000000 H49) H49 fun t134 H50 =>
           guarded t125 true (bindV (evLoad H50 true 2 t134) fun t1000000 => pairVH t1000000 H50) H50 fun t135 H51 =>
           guarded t125 true (callVal call lo t127 [t131, t135] H51 fun t1000000 H52 => pairVH t1000000 H52) H51 fun t136 H53 =>
           guarded t125 true (bindV (evLss t136 (.int .i64 (.ofNat 0))) fun t1000000 => pairVH t1000000 H53) H53 fun t137 H54 =>
           guarded t125 true (bindV (evNot t137) fun t1000000 => pairVH t1000000 H54) H54 fun t138 H55 =>
           bindV (evPick t125 t138 (.bool false)) fun t139 =>
           k (S.1, S.2.1, S.2.2.1, S.2.2.2.1, S.2.2.2.2.1, S.2.2.2.2.2.1, S.2.2.2.2.2.2.1, S.2.2.2.2.2.2.2.1, S.2.2.2.2.2.2.2.2.1, S.2.2.2.2.2.2.2.2.2.1, S.2.2.2.2.2.2.2.2.2.2.1, S.2.2.2.2.2.2.2.2.2.2.2.1, S.2.2.2.2.2.2.2.2.2.2.2.2.1, t139, S.2.2.2.2.2.2.2.2.2.2.2.2.2.2.1, ()) H55)
       (condE (fun S => some S.2.2.2.2.2.2.2.2.2.2.2.2.2.1)
        (doneE .normal)
        (doneE (.exit 8))))
       (blockE 9 (leafE fun S H k =>
            bindV (evSub S.2.2.2.2.2.2.2.2.1 (.int .i64 (.ofNat 1))) fun t141 =>
            k (S.1, S.2.1, S.2.2.1, S.2.2.2.1, S.2.2.2.2.1, S.2.2.2.2.2.1, S.2.2.2.2.2.2.1, S.2.2.2.2.2.2.2.1, t141, S.2.2.2.2.2.2.2.2.2.1, S.2.2.2.2.2.2.2.2.2.2.1, S.2.2.2.2.2.2.2.2.2.2.2.1, S.2.2.2.2.2.2.2.2.2.2.2.2.1, S.2.2.2.2.2.2.2.2.2.2.2.2.2.1, S.2.2.2.2.2.2.2.2.2.2.2.2.2.2.1, ()) H))) fuel))
     (seqE (seqE (leafE fun S H k =>
         bindV (evGtr S.2.2.2.2.2.2.2.1 S.2.2.2.2.2.2.2.2.1) fun t144 =>
         k (S.1, S.2.1, S.2.2.1, S.2.2.2.1, S.2.2.2.2.1, S.2.2.2.2.2.1, S.2.2.2.2.2.2.1, S.2.2.2.2.2.2.2.1, S.2.2.2.2.2.2.2.2.1, S.2.2.2.2.2.2.2.2.2.1, S.2.2.2.2.2.2.2.2.2.2.1, S.2.2.2.2.2.2.2.2.2.2.2.1, S.2.2.2.2.2.2.2.2.2.2.2.2.1, S.2.2.2.2.2.2.2.2.2.2.2.2.2.1, t144, ()) H)
     (condE (fun S => some S.2.2.2.2.2.2.2.2.2.2.2.2.2.2.1)
      (doneE (.exit 4))
      (doneE .normal)))
     (seqE (leafE fun S H k =>
         bindV (evIdxSlice 2 S.1 S.2.2.2.2.2.2.2.2.1) fun t151 =>
         bindV (evLoad H true 2 t151) fun t152 =>
         bindV (evIdxSlice 2 S.1 S.2.2.2.2.2.2.2.1) fun t155 =>
         bindV (evLoad H true 2 t155) fun t156 =>
         bindV (evIdxSlice 2 S.1 S.2.2.2.2.2.2.2.1) fun t157 =>
         bindV (evStore lo H 2 t157 t152) fun H56 =>
         bindV (evIdxSlice 2 S.1 S.2.2.2.2.2.2.2.2.1) fun t158 =>
         bindV (evStore lo H56 2 t158 t156) fun H57 =>
         k (S.1, S.2.1, S.2.2.1, S.2.2.2.1, S.2.2.2.2.1, S.2.2.2.2.2.1, S.2.2.2.2.2.2.1, S.2.2.2.2.2.2.2.1, S.2.2.2.2.2.2.2.2.1, S.2.2.2.2.2.2.2.2.2.1, S.2.2.2.2.2.2.2.2.2.2.1, S.2.2.2.2.2.2.2.2.2.2.2.1, S.2.2.2.2.2.2.2.2.2.2.2.2.1, S.2.2.2.2.2.2.2.2.2.2.2.2.2.1, S.2.2.2.2.2.2.2.2.2.2.2.2.2.2.1, ()) H57)
     (seqE (leafE fun S H k =>
         bindV (evAdd S.2.2.2.2.2.2.2.1 (.int .i64 (.ofNat 1))) fun t160 =>
         k (S.1, S.2.1, S.2.2.1, S.2.2.2.1, S.2.2.2.2.1, S.2.2.2.2.2.1, S.2.2.2.2.2.2.1, t160, S.2.2.2.2.2.2.2.2.1, S.2.2.2.2.2.2.2.2.2.1, S.2.2.2.2.2.2.2.2.2.2.1, S.2.2.2.2.2.2.2.2.2.2.2.1, S.2.2.2.2.2.2.2.2.2.2.2.2.1, S.2.2.2.2.2.2.2.2.2.2.2.2.2.1, S.2.2.2.2.2.2.2.2.2.2.2.2.2.2.1, ()) H)
     (leafE fun S H k =>
         bindV (evSub S.2.2.2.2.2.2.2.2.1 (.int .i64 (.ofNat 1))) fun t162 =>
         k (S.1, S.2.1, S.2.2.1, S.2.2.2.1, S.2.2.2.2.1, S.2.2.2.2.2.1, S.2.2.2.2.2.2.1, S.2.2.2.2.2.2.2.1, t162, S.2.2.2.2.2.2.2.2.2.1, S.2.2.2.2.2.2.2.2.2.2.1, S.2.2.2.2.2.2.2.2.2.2.2.1, S.2.2.2.2.2.2.2.2.2.2.2.2.1, S.2.2.2.2.2.2.2.2.2.2.2.2.2.1, S.2.2.2.2.2.2.2.2.2.2.2.2.2.2.1, ()) H))))))) fuel))
  (seqE (leafE fun S H k =>
      bindV (evIdxSlice 2 S.1 S.2.1) fun t169 =>
      bindV (evLoad H true 2 t169) fun t170 =>
      bindV (evIdxSlice 2 S.1 S.2.2.2.2.2.2.2.2.1) fun t173 =>
      bindV (evLoad H true 2 t173) fun t174 =>
      bindV (evIdxSlice 2 S.1 S.2.2.2.2.2.2.2.2.1) fun t175 =>
      bindV (evStore lo H 2 t175 t170) fun H58 =>
      bindV (evIdxSlice 2 S.1 S.2.1) fun t176 =>
      bindV (evStore lo H58 2 t176 t174) fun H59 =>
      k (S.1, S.2.1, S.2.2.1, S.2.2.2.1, S.2.2.2.2.1, S.2.2.2.2.2.1, S.2.2.2.2.2.2.1, S.2.2.2.2.2.2.2.1, S.2.2.2.2.2.2.2.2.1, S.2.2.2.2.2.2.2.2.2.1, S.2.2.2.2.2.2.2.2.2.2.1, S.2.2.2.2.2.2.2.2.2.2.2.1, S.2.2.2.2.2.2.2.2.2.2.2.2.1, S.2.2.2.2.2.2.2.2.2.2.2.2.2.1, S.2.2.2.2.2.2.2.2.2.2.2.2.2.2.1, ()) H59)
  (seqE (leafE fun S H k =>
      k (S.1, S.2.1, S.2.2.1, S.2.2.2.1, S.2.2.2.2.1, S.2.2.2.2.2.2.2.2.1, (.bool false), S.2.2.2.2.2.2.2.1, S.2.2.2.2.2.2.2.2.1, S.2.2.2.2.2.2.2.2.2.1, S.2.2.2.2.2.2.2.2.2.2.1, S.2.2.2.2.2.2.2.2.2.2.2.1, S.2.2.2.2.2.2.2.2.2.2.2.2.1, S.2.2.2.2.2.2.2.2.2.2.2.2.2.1, S.2.2.2.2.2.2.2.2.2.2.2.2.2.2.1, ()) H)
  (doneE .ret)))))))))))))

def F115 (call : CallF) (lo : Nat) (args : List Value) (H : AH) : Option (Value × AH) :=
  leave .all H (bindV (C115 call (lowOf .all lo H) (argAt args 0, argAt args 1, argAt args 2, argAt args 3, argAt args 4, argAt args 10, argAt args 11, argAt args 12, argAt args 13, argAt args 47, argAt args 66, argAt args 71, argAt args 120, argAt args 139, argAt args 144, ()) H) fun p => resE p.1 (some (oneOf [p.2.1.2.2.2.2.2.1, p.2.1.2.2.2.2.2.2.1], p.2.2)))

theorem F115_eq (call : CallF) (lo : Nat) (args : List Value) (H : AH) : evFn P ctx call lo 115 args H = F115 call lo args H := by kernel_rfl


end
end Go.Proofs.YtnnfpbdimgagdaaGreatDoor
