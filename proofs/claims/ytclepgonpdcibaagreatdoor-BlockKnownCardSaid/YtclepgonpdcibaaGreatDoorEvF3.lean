/- Shallow functions, each with the proof that the evaluator is it (printed by wip/ev/gen.lean), part 3.
   Conditions: none. -/
import Derived.Test.YtclepgonpdcibaaGreatDoorEvT
namespace Go.Proofs.YtclepgonpdcibaaGreatDoor
open Go Go.Ev
set_option maxRecDepth 1000000
set_option linter.unusedVariables false
noncomputable section

/-- (novaculite/saw.plate).most$1 -/
def C80 (call : CallF) (lo : Nat) : Piece (Value × Value × Value × Value × Value × Value × Value × Value × Value × Value × Value × Value × Value × Value × Unit) :=
  (seqE (leafE fun S H k =>
      k (S.1, S.2.1, S.2.2.1, S.2.2.2.1, S.2.2.2.2.1, S.2.2.2.2.2.1, (.bool false), S.2.2.2.2.2.2.2.1, S.2.2.2.2.2.2.2.2.1, S.2.2.2.2.2.2.2.2.2.1, S.2.2.2.2.2.2.2.2.2.2.1, S.2.2.2.2.2.2.2.2.2.2.2.1, S.2.2.2.2.2.2.2.2.2.2.2.2.1, S.2.2.2.2.2.2.2.2.2.2.2.2.2.1, ()) H)
  (seqE (doneE .normal)
  (seqE (seqE (leafE fun S H k =>
      bindV (evShift S.2.1 3) fun t11 =>
      bindV (evIdxArr 16 1 t11 S.1) fun t12 =>
      bindV (evLoad H false 1 t12) fun t13 =>
      bindV (evLoad H false 1 S.2.2.1) fun t14 =>
      bindV (evAnd t13 t14) fun t15 =>
      bindVH (call lo 68 [t15] H) fun t16 H0 =>
      bindV (evLenS t16) fun t17 =>
      k (S.1, S.2.1, S.2.2.1, S.2.2.2.1, S.2.2.2.2.1, S.2.2.2.2.2.1, S.2.2.2.2.2.2.1, S.2.2.2.2.2.2.2.1, t16, t17, (.int .i64 (.ofNat 0)), S.2.2.2.2.2.2.2.2.2.2.2.1, S.2.2.2.2.2.2.2.2.2.2.2.2.1, S.2.2.2.2.2.2.2.2.2.2.2.2.2.1, ()) H0)
  (blockE 0 (loopE (seqE (leafE fun S H k =>
        bindV (evLss S.2.2.2.2.2.2.2.2.2.2.1 S.2.2.2.2.2.2.2.2.2.1) fun t19 =>
        k (S.1, S.2.1, S.2.2.1, S.2.2.2.1, S.2.2.2.2.1, S.2.2.2.2.2.1, S.2.2.2.2.2.2.1, S.2.2.2.2.2.2.2.1, S.2.2.2.2.2.2.2.2.1, S.2.2.2.2.2.2.2.2.2.1, S.2.2.2.2.2.2.2.2.2.2.1, t19, S.2.2.2.2.2.2.2.2.2.2.2.2.1, S.2.2.2.2.2.2.2.2.2.2.2.2.2.1, ()) H)
    (seqE (condE (fun S => some S.2.2.2.2.2.2.2.2.2.2.2.1)
     (doneE .normal)
     (doneE (.exit 0)))
    (seqE (blockE 1 (seqE (leafE fun S H k =>
         bindV (evIdxSlice 1 S.2.2.2.2.2.2.2.2.1 S.2.2.2.2.2.2.2.2.2.2.1) fun t20 =>
         bindV (evLoad H false 1 t20) fun t21 =>
         k (S.1, S.2.1, S.2.2.1, S.2.2.2.1, S.2.2.2.2.1, S.2.2.2.2.2.1, S.2.2.2.2.2.2.1, t21, S.2.2.2.2.2.2.2.2.1, S.2.2.2.2.2.2.2.2.2.1, S.2.2.2.2.2.2.2.2.2.2.1, S.2.2.2.2.2.2.2.2.2.2.2.1, S.2.2.2.2.2.2.2.2.2.2.2.2.1, S.2.2.2.2.2.2.2.2.2.2.2.2.2.1, ()) H)
     (seqE (seqE (leafE fun S H k =>
         bindV (evLoad H false 1 S.2.2.2.1) fun t22 =>
         bindV (evShr t22 S.2.2.2.2.2.2.2.1) fun t24 =>
         bindV (evAnd t24 (.int .u64 (.ofNat 1))) fun t25 =>
         bindV (evEql .int t25 (.int .u64 (.ofNat 1))) fun t26 =>
         k (S.1, S.2.1, S.2.2.1, S.2.2.2.1, S.2.2.2.2.1, S.2.2.2.2.2.1, S.2.2.2.2.2.2.1, S.2.2.2.2.2.2.2.1, S.2.2.2.2.2.2.2.2.1, S.2.2.2.2.2.2.2.2.2.1, S.2.2.2.2.2.2.2.2.2.2.1, S.2.2.2.2.2.2.2.2.2.2.2.1, t26, S.2.2.2.2.2.2.2.2.2.2.2.2.2.1, ()) H)
     (condE (fun S => some S.2.2.2.2.2.2.2.2.2.2.2.2.1)
      (doneE (.exit 1))
      (doneE .normal)))
     (seqE (leafE fun S H k =>
         bindV (evLoad H false 1 S.2.2.2.1) fun t27 =>
         bindV (evShl (.int .u64 (.ofNat 1)) S.2.2.2.2.2.2.2.1) fun t29 =>
         bindV (evOr t27 t29) fun t30 =>
         bindV (evStore lo H 1 S.2.2.2.1 t30) fun H1 =>
         k (S.1, S.2.1, S.2.2.1, S.2.2.2.1, S.2.2.2.2.1, S.2.2.2.2.2.1, S.2.2.2.2.2.2.1, S.2.2.2.2.2.2.2.1, S.2.2.2.2.2.2.2.2.1, S.2.2.2.2.2.2.2.2.2.1, S.2.2.2.2.2.2.2.2.2.2.1, S.2.2.2.2.2.2.2.2.2.2.2.1, S.2.2.2.2.2.2.2.2.2.2.2.2.1, S.2.2.2.2.2.2.2.2.2.2.2.2.2.1, ()) H1)
     (seqE (leafE fun S H k =>
         bindV (evIdxArr 16 1 S.2.2.2.2.1 S.2.2.2.2.2.2.2.1) fun t32 =>
         bindV (evLoad H false 1 t32) fun t33 =>
         bindV (evLss t33 (.int .i64 (.ofNat 0))) fun t34 =>
         guarded t34 false (bindV (evLoad H false 1 S.2.2.2.2.2.1) fun t1000000 => pairVH t1000000 H) H fun t36 H2 =>
         guarded t34 false ( pairVH S.2.2.2.2.2.2.2.1 H2) H2 fun t37 H3 =>
         guarded t34 false (bindV (evIdxArr 16 1 S.2.2.2.2.1 t37) fun t1000000 => pairVH t1000000 H3) H3 fun t38 H4 =>
         guarded t34 false (bindV (evLoad H4 false 1 t38) fun t1000000 => pairVH t1000000 H4) H4 fun t39 H5 =>
         guarded t34 false (callVal call lo t36 [t39] H5 fun t1000000 H6 => pairVH t1000000 H6) H5 fun t40 H7 =>
         bindV (evPick t34 (.bool true) t40) fun t41 =>
         k (S.1, S.2.1, S.2.2.1, S.2.2.2.1, S.2.2.2.2.1, S.2.2.2.2.2.1, S.2.2.2.2.2.2.1, S.2.2.2.2.2.2.2.1, S.2.2.2.2.2.2.2.2.1, S.2.2.2.2.2.2.2.2.2.1, S.2.2.2.2.2.2.2.2.2.2.1, S.2.2.2.2.2.2.2.2.2.2.2.1, S.2.2.2.2.2.2.2.2.2.2.2.2.1, t41, ()) H7)
     (condE (fun S => some S.2.2.2.2.2.2.2.2.2.2.2.2.2.1)
      (seqE (leafE fun S H k =>
          bindV (evIdxArr 16 1 S.2.2.2.2.1 S.2.2.2.2.2.2.2.1) fun t44 =>
          bindV (evStore lo H 1 t44 S.1) fun H8 =>
          k (S.1, S.2.1, S.2.2.1, S.2.2.2.1, S.2.2.2.2.1, S.2.2.2.2.2.1, S.2.2.2.2.2.2.1, S.2.2.2.2.2.2.2.1, S.2.2.2.2.2.2.2.2.1, S.2.2.2.2.2.2.2.2.2.1, S.2.2.2.2.2.2.2.2.2.2.1, S.2.2.2.2.2.2.2.2.2.2.2.1, S.2.2.2.2.2.2.2.2.2.2.2.2.1, S.2.2.2.2.2.2.2.2.2.2.2.2.2.1, ()) H8)
      (seqE (leafE fun S H k =>
          k (S.1, S.2.1, S.2.2.1, S.2.2.2.1, S.2.2.2.2.1, S.2.2.2.2.2.1, (.bool true), S.2.2.2.2.2.2.2.1, S.2.2.2.2.2.2.2.2.1, S.2.2.2.2.2.2.2.2.2.1, S.2.2.2.2.2.2.2.2.2.2.1, S.2.2.2.2.2.2.2.2.2.2.2.1, S.2.2.2.2.2.2.2.2.2.2.2.2.1, S.2.2.2.2.2.2.2.2.2.2.2.2.2.1, ()) H)
      (doneE .ret)))
      (doneE .normal)))))))
    (leafE fun S H k =>
        bindV (evAdd S.2.2.2.2.2.2.2.2.2.2.1 (.int .i64 (.ofNat 1))) fun t45 =>
        k (S.1, S.2.1, S.2.2.1, S.2.2.2.1, S.2.2.2.2.1, S.2.2.2.2.2.1, S.2.2.2.2.2.2.1, S.2.2.2.2.2.2.2.1, S.2.2.2.2.2.2.2.2.1, S.2.2.2.2.2.2.2.2.2.1, t45, S.2.2.2.2.2.2.2.2.2.2.2.1, S.2.2.2.2.2.2.2.2.2.2.2.2.1, S.2.2.2.2.2.2.2.2.2.2.2.2.2.1, ()) H)))) fuel)))
  (seqE (leafE fun S H k =>
      k (S.1, S.2.1, S.2.2.1, S.2.2.2.1, S.2.2.2.2.1, S.2.2.2.2.2.1, (.bool false), S.2.2.2.2.2.2.2.1, S.2.2.2.2.2.2.2.2.1, S.2.2.2.2.2.2.2.2.2.1, S.2.2.2.2.2.2.2.2.2.2.1, S.2.2.2.2.2.2.2.2.2.2.2.1, S.2.2.2.2.2.2.2.2.2.2.2.2.1, S.2.2.2.2.2.2.2.2.2.2.2.2.2.1, ()) H)
  (doneE .ret)))))

def F80 (call : CallF) (lo : Nat) (args : List Value) (H : AH) : Option (Value × AH) :=
  leave .all H (bindV (C80 call (lowOf .all lo H) (argAt args 0, argAt args 1, argAt args 2, argAt args 3, argAt args 4, argAt args 5, argAt args 7, argAt args 9, argAt args 16, argAt args 17, argAt args 18, argAt args 19, argAt args 26, argAt args 41, ()) H) fun p => resE p.1 (some (oneOf [p.2.1.2.2.2.2.2.2.1], p.2.2)))

theorem F80_eq (call : CallF) (lo : Nat) (args : List Value) (H : AH) : evFn P ctx call lo 80 args H = F80 call lo args H := by kernel_rfl

/-- (novaculite/saw.plate).light -/
def C81 (call : CallF) (lo : Nat) : Piece (Value × Value × Value × Value × Unit) :=
  (seqE (leafE fun S H k =>
      let t2 := newPtr H
      let H0 := pushBox H 106 S.1
      k (S.1, S.2.1, t2, (.bool false), ()) H0)
  (seqE (leafE fun S H k =>
      bindV (evShift S.2.2.1 0) fun t6 =>
      bindV (evLoad H false 1 t6) fun t7 =>
      bindV (evRem S.2.1 t7) fun t8 =>
      bindV (evShift S.2.2.1 0) fun t10 =>
      bindV (evLoad H false 1 t10) fun t11 =>
      bindV (evQuo S.2.1 t11) fun t12 =>
      bindV (evAdd t8 t12) fun t13 =>
      bindV (evRem t13 (.int .i64 (.ofNat 2))) fun t14 =>
      bindV (evEql .int t14 (.int .i64 (.ofNat 1))) fun t15 =>
      k (S.1, S.2.1, S.2.2.1, t15, ()) H)
  (doneE .ret)))

def F81 (call : CallF) (lo : Nat) (args : List Value) (H : AH) : Option (Value × AH) :=
  leave .all H (bindV (C81 call (lowOf .all lo H) (argAt args 0, argAt args 1, argAt args 2, argAt args 4, ()) H) fun p => resE p.1 (some (oneOf [p.2.1.2.2.2.1], p.2.2)))

theorem F81_eq (call : CallF) (lo : Nat) (args : List Value) (H : AH) : evFn P ctx call lo 81 args H = F81 call lo args H := by kernel_rfl

/-- slices.DeleteFunc[[]int,int] -/
def C82 (call : CallF) (lo : Nat) : Piece (Value × Value × Value × Value × Value × Value × Value × Value × Value × Unit) :=
  (seqE (leafE fun S H k =>
      k (S.1, S.2.1, (.slice none 0 0), S.2.2.2.1, S.2.2.2.2.1, S.2.2.2.2.2.1, S.2.2.2.2.2.2.1, S.2.2.2.2.2.2.2.1, S.2.2.2.2.2.2.2.2.1, ()) H)
  (seqE (leafE fun S H k =>
      bindVH (call lo 100 [S.1, S.2.1] H) fun t10 H0 =>
      k (S.1, S.2.1, S.2.2.1, t10, S.2.2.2.2.1, S.2.2.2.2.2.1, S.2.2.2.2.2.2.1, S.2.2.2.2.2.2.2.1, S.2.2.2.2.2.2.2.2.1, ()) H0)
  (seqE (seqE (leafE fun S H k =>
      bindV (evEql .int S.2.2.2.1 (.int .i64 (.negSucc 0))) fun t12 =>
      k (S.1, S.2.1, S.2.2.1, S.2.2.2.1, S.2.2.2.2.1, S.2.2.2.2.2.1, t12, S.2.2.2.2.2.2.2.1, S.2.2.2.2.2.2.2.2.1, ()) H)
  (condE (fun S => some S.2.2.2.2.2.2.1)
   (seqE (leafE fun S H k =>
       k (S.1, S.2.1, S.1, S.2.2.2.1, S.2.2.2.2.1, S.2.2.2.2.2.1, S.2.2.2.2.2.2.1, S.2.2.2.2.2.2.2.1, S.2.2.2.2.2.2.2.2.1, ()) H)
   (doneE .ret))
   (doneE .normal)))
  (seqE (seqE (leafE fun S H k =>
      bindV (evAdd S.2.2.2.1 (.int .i64 (.ofNat 1))) fun t15 =>
      k (S.1, S.2.1, S.2.2.1, S.2.2.2.1, t15, S.2.2.2.2.2.1, S.2.2.2.2.2.2.1, S.2.2.2.2.2.2.2.1, S.2.2.2.2.2.2.2.2.1, ()) H)
  (blockE 0 (loopE (seqE (seqE (leafE fun S H k =>
        bindV (evLenS S.1) fun t18 =>
        bindV (evLss S.2.2.2.2.1 t18) fun t19 =>
        k (S.1, S.2.1, S.2.2.1, S.2.2.2.1, S.2.2.2.2.1, S.2.2.2.2.2.1, S.2.2.2.2.2.2.1, t19, S.2.2.2.2.2.2.2.2.1, ()) H)
    (condE (fun S => some S.2.2.2.2.2.2.2.1)
     (doneE .normal)
     (doneE (.exit 0))))
    (seqE (blockE 1 (seqE (leafE fun S H k =>
         bindV (evIdxSlice 1 S.1 S.2.2.2.2.1) fun t24 =>
         bindV (evLoad H false 1 t24) fun t25 =>
         k (S.1, S.2.1, S.2.2.1, S.2.2.2.1, S.2.2.2.2.1, t25, S.2.2.2.2.2.2.1, S.2.2.2.2.2.2.2.1, S.2.2.2.2.2.2.2.2.1, ()) H)
     (seqE (leafE fun S H k =>
         callVal call lo S.2.1 [S.2.2.2.2.2.1] H fun t28 H1 =>
         bindV (evNot t28) fun t29 =>
         k (S.1, S.2.1, S.2.2.1, S.2.2.2.1, S.2.2.2.2.1, S.2.2.2.2.2.1, S.2.2.2.2.2.2.1, S.2.2.2.2.2.2.2.1, t29, ()) H1)
     (condE (fun S => some S.2.2.2.2.2.2.2.2.1)
      (seqE (leafE fun S H k =>
          bindV (evIdxSlice 1 S.1 S.2.2.2.1) fun t33 =>
          bindV (evStore lo H 1 t33 S.2.2.2.2.2.1) fun H2 =>
          k (S.1, S.2.1, S.2.2.1, S.2.2.2.1, S.2.2.2.2.1, S.2.2.2.2.2.1, S.2.2.2.2.2.2.1, S.2.2.2.2.2.2.2.1, S.2.2.2.2.2.2.2.2.1, ()) H2)
      (leafE fun S H k =>
          bindV (evAdd S.2.2.2.1 (.int .i64 (.ofNat 1))) fun t35 =>
          k (S.1, S.2.1, S.2.2.1, t35, S.2.2.2.2.1, S.2.2.2.2.2.1, S.2.2.2.2.2.2.1, S.2.2.2.2.2.2.2.1, S.2.2.2.2.2.2.2.2.1, ()) H))
      (doneE .normal)))))
    (leafE fun S H k =>
        bindV (evAdd S.2.2.2.2.1 (.int .i64 (.ofNat 1))) fun t21 =>
        k (S.1, S.2.1, S.2.2.1, S.2.2.2.1, t21, S.2.2.2.2.2.1, S.2.2.2.2.2.2.1, S.2.2.2.2.2.2.2.1, S.2.2.2.2.2.2.2.2.1, ()) H))) fuel)))
  (seqE (leafE fun S H k =>
      bindV (evCut 1 S.1 (some S.2.2.2.1) none none) fun t38 =>
      bindV (evClear lo H 1 (cellsOf (.int .i64 (.ofNat 0))) t38) fun H3 =>
      k (S.1, S.2.1, S.2.2.1, S.2.2.2.1, S.2.2.2.2.1, S.2.2.2.2.2.1, S.2.2.2.2.2.2.1, S.2.2.2.2.2.2.2.1, S.2.2.2.2.2.2.2.2.1, ()) H3)
  (seqE (leafE fun S H k =>
      bindV (evCut 1 S.1 none (some S.2.2.2.1) none) fun t41 =>
      k (S.1, S.2.1, t41, S.2.2.2.1, S.2.2.2.2.1, S.2.2.2.2.2.1, S.2.2.2.2.2.2.1, S.2.2.2.2.2.2.2.1, S.2.2.2.2.2.2.2.2.1, ()) H)
  (doneE .ret)))))))

def F82 (call : CallF) (lo : Nat) (args : List Value) (H : AH) : Option (Value × AH) :=
  leave .all H (bindV (C82 call (lowOf .all lo H) (argAt args 0, argAt args 1, argAt args 4, argAt args 5, argAt args 6, argAt args 7, argAt args 12, argAt args 19, argAt args 29, ()) H) fun p => resE p.1 (some (oneOf [p.2.1.2.2.1], p.2.2)))

theorem F82_eq (call : CallF) (lo : Nat) (args : List Value) (H : AH) : evFn P ctx call lo 82 args H = F82 call lo args H := by kernel_rfl

/-- slices.Clone[[]int,int] -/
def C83 (call : CallF) (lo : Nat) : Piece (Value × Value × Value × Unit) :=
  (seqE (leafE fun S H k =>
      k (S.1, (.slice none 0 0), S.2.2.1, ()) H)
  (seqE (seqE (leafE fun S H k =>
      bindV (evEql .slice S.1 (.slice none 0 0)) fun t4 =>
      k (S.1, S.2.1, t4, ()) H)
  (condE (fun S => some S.2.2.1)
   (seqE (leafE fun S H k =>
       k (S.1, (.slice none 0 0), S.2.2.1, ()) H)
   (doneE .ret))
   (doneE .normal)))
  (seqE (leafE fun S H k =>
      bindV (evFill [] (zeros (cellsOf (.int .i64 (.ofNat 0))) 0)) fun c0 =>
      let t5 := newSlice H 0 0
      let H1 := H.push (.cells (Nat.mul 0 1) c0 3)
      bindVH (evAppend lo H1 3 1 8 t5 S.1) fun t7 H2 =>
      k (S.1, t7, S.2.2.1, ()) H2)
  (doneE .ret))))

def F83 (call : CallF) (lo : Nat) (args : List Value) (H : AH) : Option (Value × AH) :=
  leave .all H (bindV (C83 call (lowOf .all lo H) (argAt args 0, argAt args 2, argAt args 4, ()) H) fun p => resE p.1 (some (oneOf [p.2.1.2.1], p.2.2)))

theorem F83_eq (call : CallF) (lo : Nat) (args : List Value) (H : AH) : evFn P ctx call lo 83 args H = F83 call lo args H := by kernel_rfl

/-- (novaculite/block.survey).answers$1 -/
def C84 (call : CallF) (lo : Nat) : Piece (Value × Value × Value × Value × Value × Unit) :=
  (seqE (leafE fun S H k =>
      k (S.1, S.2.1, S.2.2.1, S.2.2.2.1, (.bool false), ()) H)
  (seqE (leafE fun S H k =>
      bindV (evShift S.2.1 0) fun t6 =>
      bindV (evLoad H false 1 t6) fun t7 =>
      bindV (evShift S.2.2.1 0) fun t9 =>
      bindV (evShift t9 0) fun t10 =>
      bindV (evLoad H false 1 t10) fun t11 =>
      bindV (evRem S.1 t11) fun t12 =>
      bindV (evMul t7 t12) fun t13 =>
      bindV (evShift S.2.1 1) fun t14 =>
      bindV (evLoad H false 1 t14) fun t15 =>
      bindV (evShift S.2.2.1 0) fun t17 =>
      bindV (evShift t17 0) fun t18 =>
      bindV (evLoad H false 1 t18) fun t19 =>
      bindV (evQuo S.1 t19) fun t20 =>
      bindV (evMul t15 t20) fun t21 =>
      bindV (evAdd t13 t21) fun t22 =>
      bindV (evShift S.2.1 2) fun t23 =>
      bindV (evLoad H false 1 t23) fun t24 =>
      bindV (evLeq t22 t24) fun t25 =>
      bindV (evLoad H false 1 S.2.2.2.1) fun t26 =>
      bindV (evNeq .bool t25 t26) fun t27 =>
      k (S.1, S.2.1, S.2.2.1, S.2.2.2.1, t27, ()) H)
  (doneE .ret)))

def F84 (call : CallF) (lo : Nat) (args : List Value) (H : AH) : Option (Value × AH) :=
  leave .all H (bindV (C84 call (lowOf .all lo H) (argAt args 0, argAt args 1, argAt args 2, argAt args 3, argAt args 5, ()) H) fun p => resE p.1 (some (oneOf [p.2.1.2.2.2.2.1], p.2.2)))

theorem F84_eq (call : CallF) (lo : Nat) (args : List Value) (H : AH) : evFn P ctx call lo 84 args H = F84 call lo args H := by kernel_rfl

/-- slices.Grow[[]novaculite/seam.Gallery,novaculite/seam.Gallery] -/
def C85 (call : CallF) (lo : Nat) : Piece (Value × Value × Value × Value × Value × Unit) :=
  (seqE (leafE fun S H k =>
      k (S.1, S.2.1, (.slice none 0 0), S.2.2.2.1, S.2.2.2.2.1, ()) H)
  (seqE (seqE (leafE fun S H k =>
      bindV (evLss S.2.1 (.int .i64 (.ofNat 0))) fun t6 =>
      k (S.1, S.2.1, S.2.2.1, t6, S.2.2.2.2.1, ()) H)
  (condE (fun S => some S.2.2.2.1)
   (leafE fun S H k =>
       bindV ((none : Option Value)) fun _ =>
       k (S.1, S.2.1, S.2.2.1, S.2.2.2.1, S.2.2.2.2.1, ()) H)
   (doneE .normal)))
  (seqE (seqE (leafE fun S H k =>
      bindV (evCapS S.1) fun t10 =>
      bindV (evLenS S.1) fun t12 =>
      bindV (evSub t10 t12) fun t13 =>
      bindV (evSub S.2.1 t13) fun t14 =>
      k (S.1, t14, S.2.2.1, S.2.2.2.1, S.2.2.2.2.1, ()) H)
  (seqE (leafE fun S H k =>
      bindV (evGtr S.2.1 (.int .i64 (.ofNat 0))) fun t16 =>
      k (S.1, S.2.1, S.2.2.1, S.2.2.2.1, t16, ()) H)
  (condE (fun S => some S.2.2.2.2.1)
   (leafE fun S H k =>
       bindV (evCapS S.1) fun t19 =>
       bindV (evCut 3 S.1 none (some t19) none) fun t20 =>
       bindVH (evAppendZ H 42 3 24 (cellsOf z42) t20 S.2.1) fun t22 H0 =>
       bindV (evLenS S.1) fun t24 =>
       bindV (evCut 3 t22 none (some t24) none) fun t25 =>
       k (t25, S.2.1, S.2.2.1, S.2.2.2.1, S.2.2.2.2.1, ()) H0)
   (doneE .normal))))
  (seqE (leafE fun S H k =>
      k (S.1, S.2.1, S.1, S.2.2.2.1, S.2.2.2.2.1, ()) H)
  (doneE .ret)))))

def F85 (call : CallF) (lo : Nat) (args : List Value) (H : AH) : Option (Value × AH) :=
  leave .all H (bindV (C85 call (lowOf .all lo H) (argAt args 0, argAt args 1, argAt args 4, argAt args 6, argAt args 16, ()) H) fun p => resE p.1 (some (oneOf [p.2.1.2.2.1], p.2.2)))

theorem F85_eq (call : CallF) (lo : Nat) (args : List Value) (H : AH) : evFn P ctx call lo 85 args H = F85 call lo args H := by kernel_rfl

/-- math/bits.TrailingZeros32 -/
def C86 (call : CallF) (lo : Nat) : Piece (Value × Value × Value × Unit) :=
  (seqE (leafE fun S H k =>
      k (S.1, (.int .i64 (.ofNat 0)), S.2.2.1, ()) H)
  (seqE (seqE (leafE fun S H k =>
      bindV (evEql .int S.1 (.int .u32 (.ofNat 0))) fun t4 =>
      k (S.1, S.2.1, t4, ()) H)
  (condE (fun S => some S.2.2.1)
   (seqE (leafE fun S H k =>
       k (S.1, (.int .i64 (.ofNat 32)), S.2.2.1, ()) H)
   (doneE .ret))
   (doneE .normal)))
  (seqE (leafE fun S H k =>
      bindV (evNeg S.1) fun t7 =>
      bindV (evAnd S.1 t7) fun t8 =>
      bindV (evMul t8 (.int .u32 (.ofNat 125613361))) fun t9 =>
      bindV (evShr t9 (.int .u64 (.ofNat 27))) fun t10 =>
      bindV (evIdxArr 32 1 (.pointer (some ⟨0, 0, none⟩)) t10) fun t11 =>
      bindV (evLoad H false 1 t11) fun t12 =>
      bindV (evConv .i64 t12) fun t13 =>
      k (S.1, t13, S.2.2.1, ()) H)
  (doneE .ret))))

def F86 (call : CallF) (lo : Nat) (args : List Value) (H : AH) : Option (Value × AH) :=
  leave .all H (bindV (C86 call (lowOf .all lo H) (argAt args 0, argAt args 2, argAt args 4, ()) H) fun p => resE p.1 (some (oneOf [p.2.1.2.1], p.2.2)))

theorem F86_eq (call : CallF) (lo : Nat) (args : List Value) (H : AH) : evFn P ctx call lo 86 args H = F86 call lo args H := by kernel_rfl

/-- math/bits.TrailingZeros64 -/
def C87 (call : CallF) (lo : Nat) : Piece (Value × Value × Value × Unit) :=
  (seqE (leafE fun S H k =>
      k (S.1, (.int .i64 (.ofNat 0)), S.2.2.1, ()) H)
  (seqE (seqE (leafE fun S H k =>
      bindV (evEql .int S.1 (.int .u64 (.ofNat 0))) fun t4 =>
      k (S.1, S.2.1, t4, ()) H)
  (condE (fun S => some S.2.2.1)
   (seqE (leafE fun S H k =>
       k (S.1, (.int .i64 (.ofNat 64)), S.2.2.1, ()) H)
   (doneE .ret))
   (doneE .normal)))
  (seqE (leafE fun S H k =>
      bindV (evNeg S.1) fun t7 =>
      bindV (evAnd S.1 t7) fun t8 =>
      bindV (evMul t8 (.int .u64 (.ofNat 285870213051353865))) fun t9 =>
      bindV (evShr t9 (.int .u64 (.ofNat 58))) fun t10 =>
      bindV (evIdxArr 64 1 (.pointer (some ⟨1, 0, none⟩)) t10) fun t11 =>
      bindV (evLoad H false 1 t11) fun t12 =>
      bindV (evConv .i64 t12) fun t13 =>
      k (S.1, t13, S.2.2.1, ()) H)
  (doneE .ret))))

def F87 (call : CallF) (lo : Nat) (args : List Value) (H : AH) : Option (Value × AH) :=
  leave .pure H (bindV (C87 call (lowOf .pure lo H) (argAt args 0, argAt args 2, argAt args 4, ()) H) fun p => resE p.1 (some (oneOf [p.2.1.2.1], p.2.2)))

theorem F87_eq (call : CallF) (lo : Nat) (args : List Value) (H : AH) : evFn P ctx call lo 87 args H = F87 call lo args H := by kernel_rfl

/-- slices.insertionSortOrdered[int] -/
def C88 (call : CallF) (lo : Nat) : Piece (Value × Value × Value × Value × Value × Value × Value × Unit) :=
  (seqE (leafE fun S H k =>
      bindV (evAdd S.2.1 (.int .i64 (.ofNat 1))) fun t9 =>
      k (S.1, S.2.1, S.2.2.1, t9, S.2.2.2.2.1, S.2.2.2.2.2.1, S.2.2.2.2.2.2.1, ()) H)
  (blockE 0 (loopE (seqE (seqE (leafE fun S H k =>
        bindV (evLss S.2.2.2.1 S.2.2.1) fun t12 =>
        k (S.1, S.2.1, S.2.2.1, S.2.2.2.1, S.2.2.2.2.1, t12, S.2.2.2.2.2.2.1, ()) H)
    (condE (fun S => some S.2.2.2.2.2.1)
     (doneE .normal)
     (doneE (.exit 0))))
    (seqE (blockE 1 (seqE (leafE fun S H k =>
         k (S.1, S.2.1, S.2.2.1, S.2.2.2.1, S.2.2.2.1, S.2.2.2.2.2.1, S.2.2.2.2.2.2.1, ()) H)
     (blockE 2 (loopE (seqE (seqE (leafE fun S H k =>
           bindV (evGtr S.2.2.2.2.1 S.2.1) fun t18 =>
           guarded t18 true ( pairVH S.1 H) H fun t20 H0 =>
           guarded t18 true ( pairVH S.2.2.2.2.1 H0) H0 fun t21 H1 =>
           guarded t18 true (bindV (evIdxSlice 1 t20 t21) fun t1000000 => pairVH t1000000 H1) H1 fun t22 H2 =>
           guarded t18 true (bindV (evLoad H2 false 1 t22) fun t1000000 => pairVH t1000000 H2) H2 fun t23 H3 =>
           guarded t18 true ( pairVH S.1 H3) H3 fun t24 H4 =>
           guarded t18 true ( pairVH S.2.2.2.2.1 H4) H4 fun t25 H5 =>
           guarded t18 true (bindV (evSub t25 (.int .i64 (.ofNat 1))) fun t1000000 => pairVH t1000000 H5) H5 fun t26 H6 =>
           guarded t18 true (bindV (evIdxSlice 1 t24 t26) fun t1000000 => pairVH t1000000 H6) H6 fun t27 H7 =>
           guarded t18 true (bindV (evLoad H7 false 1 t27) fun t1000000 => pairVH t1000000 H7) H7 fun t28 H8 =>
           guarded t18 true (bindVH (call lo 94 [t23, t28] H8) fun t1000000 H9 => pairVH t1000000 H9) H8 fun t29 H10 =>
           bindV (evPick t18 t29 (.bool false)) fun t30 =>
           k (S.1, S.2.1, S.2.2.1, S.2.2.2.1, S.2.2.2.2.1, S.2.2.2.2.2.1, t30, ()) H10)
       (condE (fun S => some S.2.2.2.2.2.2.1)
        (doneE .normal)
        (doneE (.exit 2))))
       (seqE (blockE 3 (leafE fun S H k =>
            bindV (evSub S.2.2.2.2.1 (.int .i64 (.ofNat 1))) fun t37 =>
            bindV (evSub S.2.2.2.2.1 (.int .i64 (.ofNat 1))) fun t40 =>
            bindV (evIdxSlice 1 S.1 t40) fun t41 =>
            bindV (evLoad H false 1 t41) fun t42 =>
            bindV (evIdxSlice 1 S.1 S.2.2.2.2.1) fun t45 =>
            bindV (evLoad H false 1 t45) fun t46 =>
            bindV (evIdxSlice 1 S.1 S.2.2.2.2.1) fun t47 =>
            bindV (evStore lo H 1 t47 t42) fun H11 =>
            bindV (evIdxSlice 1 S.1 t37) fun t48 =>
            bindV (evStore lo H11 1 t48 t46) fun H12 =>
            k (S.1, S.2.1, S.2.2.1, S.2.2.2.1, S.2.2.2.2.1, S.2.2.2.2.2.1, S.2.2.2.2.2.2.1, ()) H12))
       (leafE fun S H k =>
           bindV (evSub S.2.2.2.2.1 (.int .i64 (.ofNat 1))) fun t32 =>
           k (S.1, S.2.1, S.2.2.1, S.2.2.2.1, t32, S.2.2.2.2.2.1, S.2.2.2.2.2.2.1, ()) H))) fuel))))
    (leafE fun S H k =>
        bindV (evAdd S.2.2.2.1 (.int .i64 (.ofNat 1))) fun t14 =>
        k (S.1, S.2.1, S.2.2.1, t14, S.2.2.2.2.1, S.2.2.2.2.2.1, S.2.2.2.2.2.2.1, ()) H))) fuel)))

def F88 (call : CallF) (lo : Nat) (args : List Value) (H : AH) : Option (Value × AH) :=
  leave .all H (bindV (C88 call (lowOf .all lo H) (argAt args 0, argAt args 1, argAt args 2, argAt args 6, argAt args 7, argAt args 12, argAt args 30, ()) H) fun p => resE p.1 (some (oneOf [], p.2.2)))

theorem F88_eq (call : CallF) (lo : Nat) (args : List Value) (H : AH) : evFn P ctx call lo 88 args H = F88 call lo args H := by kernel_rfl

/-- slices.heapSortOrdered[int] -/
def C89 (call : CallF) (lo : Nat) : Piece (Value × Value × Value × Value × Value × Value × Value × Value × Value × Value × Unit) :=
  (seqE (leafE fun S H k =>
      k (S.1, S.2.1, S.2.2.1, S.2.1, S.2.2.2.2.1, S.2.2.2.2.2.1, S.2.2.2.2.2.2.1, S.2.2.2.2.2.2.2.1, S.2.2.2.2.2.2.2.2.1, S.2.2.2.2.2.2.2.2.2.1, ()) H)
  (seqE (leafE fun S H k =>
      k (S.1, S.2.1, S.2.2.1, S.2.2.2.1, (.int .i64 (.ofNat 0)), S.2.2.2.2.2.1, S.2.2.2.2.2.2.1, S.2.2.2.2.2.2.2.1, S.2.2.2.2.2.2.2.2.1, S.2.2.2.2.2.2.2.2.2.1, ()) H)
  (seqE (leafE fun S H k =>
      bindV (evSub S.2.2.1 S.2.1) fun t14 =>
      k (S.1, S.2.1, S.2.2.1, S.2.2.2.1, S.2.2.2.2.1, t14, S.2.2.2.2.2.2.1, S.2.2.2.2.2.2.2.1, S.2.2.2.2.2.2.2.2.1, S.2.2.2.2.2.2.2.2.2.1, ()) H)
  (seqE (seqE (leafE fun S H k =>
      bindV (evSub S.2.2.2.2.2.1 (.int .i64 (.ofNat 1))) fun t16 =>
      bindV (evQuo t16 (.int .i64 (.ofNat 2))) fun t17 =>
      k (S.1, S.2.1, S.2.2.1, S.2.2.2.1, S.2.2.2.2.1, S.2.2.2.2.2.1, t17, S.2.2.2.2.2.2.2.1, S.2.2.2.2.2.2.2.2.1, S.2.2.2.2.2.2.2.2.2.1, ()) H)
  (blockE 0 (loopE (seqE (seqE (leafE fun S H k =>
        bindV (evGeq S.2.2.2.2.2.2.1 (.int .i64 (.ofNat 0))) fun t19 =>
        k (S.1, S.2.1, S.2.2.1, S.2.2.2.1, S.2.2.2.2.1, S.2.2.2.2.2.1, S.2.2.2.2.2.2.1, S.2.2.2.2.2.2.2.1, t19, S.2.2.2.2.2.2.2.2.2.1, ()) H)
    (condE (fun S => some S.2.2.2.2.2.2.2.2.1)
     (doneE .normal)
     (doneE (.exit 0))))
    (seqE (blockE 1 (leafE fun S H k =>
         bindVH (call lo 101 [S.1, S.2.2.2.2.2.2.1, S.2.2.2.2.2.1, S.2.2.2.1] H) fun t26 H0 =>
         k (S.1, S.2.1, S.2.2.1, S.2.2.2.1, S.2.2.2.2.1, S.2.2.2.2.2.1, S.2.2.2.2.2.2.1, S.2.2.2.2.2.2.2.1, S.2.2.2.2.2.2.2.2.1, S.2.2.2.2.2.2.2.2.2.1, ()) H0))
    (leafE fun S H k =>
        bindV (evSub S.2.2.2.2.2.2.1 (.int .i64 (.ofNat 1))) fun t21 =>
        k (S.1, S.2.1, S.2.2.1, S.2.2.2.1, S.2.2.2.2.1, S.2.2.2.2.2.1, t21, S.2.2.2.2.2.2.2.1, S.2.2.2.2.2.2.2.2.1, S.2.2.2.2.2.2.2.2.2.1, ()) H))) fuel)))
  (seqE (leafE fun S H k =>
      bindV (evSub S.2.2.2.2.2.1 (.int .i64 (.ofNat 1))) fun t28 =>
      k (S.1, S.2.1, S.2.2.1, S.2.2.2.1, S.2.2.2.2.1, S.2.2.2.2.2.1, S.2.2.2.2.2.2.1, t28, S.2.2.2.2.2.2.2.2.1, S.2.2.2.2.2.2.2.2.2.1, ()) H)
  (blockE 2 (loopE (seqE (seqE (leafE fun S H k =>
        bindV (evGeq S.2.2.2.2.2.2.2.1 (.int .i64 (.ofNat 0))) fun t30 =>
        k (S.1, S.2.1, S.2.2.1, S.2.2.2.1, S.2.2.2.2.1, S.2.2.2.2.2.1, S.2.2.2.2.2.2.1, S.2.2.2.2.2.2.2.1, S.2.2.2.2.2.2.2.2.1, t30, ()) H)
    (condE (fun S => some S.2.2.2.2.2.2.2.2.2.1)
     (doneE .normal)
     (doneE (.exit 2))))
    (seqE (blockE 3 (seqE (leafE fun S H k =>
         bindV (evAdd S.2.2.2.1 S.2.2.2.2.2.2.2.1) fun t38 =>
         bindV (evAdd S.2.2.2.1 S.2.2.2.2.2.2.2.1) fun t42 =>
         bindV (evIdxSlice 1 S.1 t42) fun t43 =>
         bindV (evLoad H false 1 t43) fun t44 =>
         bindV (evIdxSlice 1 S.1 S.2.2.2.1) fun t47 =>
         bindV (evLoad H false 1 t47) fun t48 =>
         bindV (evIdxSlice 1 S.1 S.2.2.2.1) fun t49 =>
         bindV (evStore lo H 1 t49 t44) fun H1 =>
         bindV (evIdxSlice 1 S.1 t38) fun t50 =>
         bindV (evStore lo H1 1 t50 t48) fun H2 =>
         k (S.1, S.2.1, S.2.2.1, S.2.2.2.1, S.2.2.2.2.1, S.2.2.2.2.2.1, S.2.2.2.2.2.2.1, S.2.2.2.2.2.2.2.1, S.2.2.2.2.2.2.2.2.1, S.2.2.2.2.2.2.2.2.2.1, ()) H2)
     (leafE fun S H k =>
         bindVH (call lo 101 [S.1, S.2.2.2.2.1, S.2.2.2.2.2.2.2.1, S.2.2.2.1] H) fun t55 H3 =>
         k (S.1, S.2.1, S.2.2.1, S.2.2.2.1, S.2.2.2.2.1, S.2.2.2.2.2.1, S.2.2.2.2.2.2.1, S.2.2.2.2.2.2.2.1, S.2.2.2.2.2.2.2.2.1, S.2.2.2.2.2.2.2.2.2.1, ()) H3)))
    (leafE fun S H k =>
        bindV (evSub S.2.2.2.2.2.2.2.1 (.int .i64 (.ofNat 1))) fun t32 =>
        k (S.1, S.2.1, S.2.2.1, S.2.2.2.1, S.2.2.2.2.1, S.2.2.2.2.2.1, S.2.2.2.2.2.2.1, t32, S.2.2.2.2.2.2.2.2.1, S.2.2.2.2.2.2.2.2.2.1, ()) H))) fuel)))))))

def F89 (call : CallF) (lo : Nat) (args : List Value) (H : AH) : Option (Value × AH) :=
  leave .all H (bindV (C89 call (lowOf .all lo H) (argAt args 0, argAt args 1, argAt args 2, argAt args 6, argAt args 7, argAt args 8, argAt args 9, argAt args 10, argAt args 19, argAt args 30, ()) H) fun p => resE p.1 (some (oneOf [], p.2.2)))

theorem F89_eq (call : CallF) (lo : Nat) (args : List Value) (H : AH) : evFn P ctx call lo 89 args H = F89 call lo args H := by kernel_rfl

/-- slices.breakPatternsOrdered[int] -/
def C90 (call : CallF) (lo : Nat) : Piece (Value × Value × Value × Value × Value × Value × Value × Value × Value × Value × Value × Unit) :=
  (seqE (leafE fun S H k =>
      bindV (evSub S.2.2.1 S.2.1) fun t13 =>
      k (S.1, S.2.1, S.2.2.1, t13, S.2.2.2.2.1, S.2.2.2.2.2.1, S.2.2.2.2.2.2.1, S.2.2.2.2.2.2.2.1, S.2.2.2.2.2.2.2.2.1, S.2.2.2.2.2.2.2.2.2.1, S.2.2.2.2.2.2.2.2.2.2.1, ()) H)
  (seqE (leafE fun S H k =>
      bindV (evGeq S.2.2.2.1 (.int .i64 (.ofNat 8))) fun t15 =>
      k (S.1, S.2.1, S.2.2.1, S.2.2.2.1, S.2.2.2.2.1, S.2.2.2.2.2.1, S.2.2.2.2.2.2.1, S.2.2.2.2.2.2.2.1, t15, S.2.2.2.2.2.2.2.2.2.1, S.2.2.2.2.2.2.2.2.2.2.1, ()) H)
  (condE (fun S => some S.2.2.2.2.2.2.2.2.1)
   (seqE (leafE fun S H k =>
       bindV (evConv .u64 S.2.2.2.1) fun t17 =>
       let t7 := newPtr H
       let H0 := pushBox H 148 (.int .u64 (.ofNat 0))
       bindV (evStore lo H0 1 t7 t17) fun H1 =>
       k (S.1, S.2.1, S.2.2.1, S.2.2.2.1, t7, S.2.2.2.2.2.1, S.2.2.2.2.2.2.1, S.2.2.2.2.2.2.2.1, S.2.2.2.2.2.2.2.2.1, S.2.2.2.2.2.2.2.2.2.1, S.2.2.2.2.2.2.2.2.2.2.1, ()) H1)
   (seqE (leafE fun S H k =>
       bindVH (call lo 102 [S.2.2.2.1] H) fun t19 H2 =>
       k (S.1, S.2.1, S.2.2.1, S.2.2.2.1, S.2.2.2.2.1, t19, S.2.2.2.2.2.2.1, S.2.2.2.2.2.2.2.1, S.2.2.2.2.2.2.2.2.1, S.2.2.2.2.2.2.2.2.2.1, S.2.2.2.2.2.2.2.2.2.2.1, ()) H2)
   (seqE (leafE fun S H k =>
       bindV (evQuo S.2.2.2.1 (.int .i64 (.ofNat 4))) fun t22 =>
       bindV (evMul t22 (.int .i64 (.ofNat 2))) fun t23 =>
       bindV (evAdd S.2.1 t23) fun t24 =>
       bindV (evSub t24 (.int .i64 (.ofNat 1))) fun t25 =>
       k (S.1, S.2.1, S.2.2.1, S.2.2.2.1, S.2.2.2.2.1, S.2.2.2.2.2.1, t25, S.2.2.2.2.2.2.2.1, S.2.2.2.2.2.2.2.2.1, S.2.2.2.2.2.2.2.2.2.1, S.2.2.2.2.2.2.2.2.2.2.1, ()) H)
   (blockE 0 (loopE (seqE (seqE (leafE fun S H k =>
         bindV (evQuo S.2.2.2.1 (.int .i64 (.ofNat 4))) fun t29 =>
         bindV (evMul t29 (.int .i64 (.ofNat 2))) fun t30 =>
         bindV (evAdd S.2.1 t30) fun t31 =>
         bindV (evAdd t31 (.int .i64 (.ofNat 1))) fun t32 =>
         bindV (evLeq S.2.2.2.2.2.2.1 t32) fun t33 =>
         k (S.1, S.2.1, S.2.2.1, S.2.2.2.1, S.2.2.2.2.1, S.2.2.2.2.2.1, S.2.2.2.2.2.2.1, S.2.2.2.2.2.2.2.1, S.2.2.2.2.2.2.2.2.1, t33, S.2.2.2.2.2.2.2.2.2.2.1, ()) H)
     (condE (fun S => some S.2.2.2.2.2.2.2.2.2.1)
      (doneE .normal)
      (doneE (.exit 0))))
     (seqE (blockE 1 (seqE (leafE fun S H k =>
          bindVH (call lo 103 [S.2.2.2.2.1] H) fun t36 H3 =>
          bindV (evSub S.2.2.2.2.2.1 (.int .u64 (.ofNat 1))) fun t38 =>
          bindV (evAnd t36 t38) fun t39 =>
          bindV (evConv .i64 t39) fun t40 =>
          k (S.1, S.2.1, S.2.2.1, S.2.2.2.1, S.2.2.2.2.1, S.2.2.2.2.2.1, S.2.2.2.2.2.2.1, t40, S.2.2.2.2.2.2.2.2.1, S.2.2.2.2.2.2.2.2.2.1, S.2.2.2.2.2.2.2.2.2.2.1, ()) H3)
      (seqE (seqE (leafE fun S H k =>
          bindV (evGeq S.2.2.2.2.2.2.2.1 S.2.2.2.1) fun t43 =>
          k (S.1, S.2.1, S.2.2.1, S.2.2.2.1, S.2.2.2.2.1, S.2.2.2.2.2.1, S.2.2.2.2.2.2.1, S.2.2.2.2.2.2.2.1, S.2.2.2.2.2.2.2.2.1, S.2.2.2.2.2.2.2.2.2.1, t43, ()) H)
      (condE (fun S => some S.2.2.2.2.2.2.2.2.2.2.1)
       (leafE fun S H k =>
           bindV (evSub S.2.2.2.2.2.2.2.1 S.2.2.2.1) fun t46 =>
           k (S.1, S.2.1, S.2.2.1, S.2.2.2.1, S.2.2.2.2.1, S.2.2.2.2.2.1, S.2.2.2.2.2.2.1, t46, S.2.2.2.2.2.2.2.2.1, S.2.2.2.2.2.2.2.2.2.1, S.2.2.2.2.2.2.2.2.2.2.1, ()) H)
       (doneE .normal)))
      (leafE fun S H k =>
          bindV (evAdd S.2.1 S.2.2.2.2.2.2.2.1) fun t52 =>
          bindV (evAdd S.2.1 S.2.2.2.2.2.2.2.1) fun t56 =>
          bindV (evIdxSlice 1 S.1 t56) fun t57 =>
          bindV (evLoad H false 1 t57) fun t58 =>
          bindV (evIdxSlice 1 S.1 S.2.2.2.2.2.2.1) fun t61 =>
          bindV (evLoad H false 1 t61) fun t62 =>
          bindV (evIdxSlice 1 S.1 S.2.2.2.2.2.2.1) fun t63 =>
          bindV (evStore lo H 1 t63 t58) fun H4 =>
          bindV (evIdxSlice 1 S.1 t52) fun t64 =>
          bindV (evStore lo H4 1 t64 t62) fun H5 =>
          k (S.1, S.2.1, S.2.2.1, S.2.2.2.1, S.2.2.2.2.1, S.2.2.2.2.2.1, S.2.2.2.2.2.2.1, S.2.2.2.2.2.2.2.1, S.2.2.2.2.2.2.2.2.1, S.2.2.2.2.2.2.2.2.2.1, S.2.2.2.2.2.2.2.2.2.2.1, ()) H5))))
     (leafE fun S H k =>
         bindV (evAdd S.2.2.2.2.2.2.1 (.int .i64 (.ofNat 1))) fun t35 =>
         k (S.1, S.2.1, S.2.2.1, S.2.2.2.1, S.2.2.2.2.1, S.2.2.2.2.2.1, t35, S.2.2.2.2.2.2.2.1, S.2.2.2.2.2.2.2.2.1, S.2.2.2.2.2.2.2.2.2.1, S.2.2.2.2.2.2.2.2.2.2.1, ()) H))) fuel)))))
   (doneE .normal))))

def F90 (call : CallF) (lo : Nat) (args : List Value) (H : AH) : Option (Value × AH) :=
  leave .all H (bindV (C90 call (lowOf .all lo H) (argAt args 0, argAt args 1, argAt args 2, argAt args 6, argAt args 7, argAt args 8, argAt args 9, argAt args 10, argAt args 15, argAt args 33, argAt args 43, ()) H) fun p => resE p.1 (some (oneOf [], p.2.2)))

theorem F90_eq (call : CallF) (lo : Nat) (args : List Value) (H : AH) : evFn P ctx call lo 90 args H = F90 call lo args H := by kernel_rfl

/-- slices.choosePivotOrdered[int] -/
def C91 (call : CallF) (lo : Nat) : Piece (Value × Value × Value × Value × Value × Value × Value × Value × Value × Value × Value × Value × Value × Value × Value × Unit) :=
  (seqE (leafE fun S H k =>
      k (S.1, S.2.1, S.2.2.1, (.int .i64 (.ofNat 0)), (.int .i64 (.ofNat 0)), S.2.2.2.2.2.1, S.2.2.2.2.2.2.1, S.2.2.2.2.2.2.2.1, S.2.2.2.2.2.2.2.2.1, S.2.2.2.2.2.2.2.2.2.1, S.2.2.2.2.2.2.2.2.2.2.1, S.2.2.2.2.2.2.2.2.2.2.2.1, S.2.2.2.2.2.2.2.2.2.2.2.2.1, S.2.2.2.2.2.2.2.2.2.2.2.2.2.1, S.2.2.2.2.2.2.2.2.2.2.2.2.2.2.1, ()) H)
  (seqE (leafE fun S H k =>
      bindV (evSub S.2.2.1 S.2.1) fun t15 =>
      k (S.1, S.2.1, S.2.2.1, S.2.2.2.1, S.2.2.2.2.1, t15, S.2.2.2.2.2.2.1, S.2.2.2.2.2.2.2.1, S.2.2.2.2.2.2.2.2.1, S.2.2.2.2.2.2.2.2.2.1, S.2.2.2.2.2.2.2.2.2.2.1, S.2.2.2.2.2.2.2.2.2.2.2.1, S.2.2.2.2.2.2.2.2.2.2.2.2.1, S.2.2.2.2.2.2.2.2.2.2.2.2.2.1, S.2.2.2.2.2.2.2.2.2.2.2.2.2.2.1, ()) H)
  (seqE (leafE fun S H k =>
      let t9 := newPtr H
      let H0 := pushBox H 3 (.int .i64 (.ofNat 0))
      k (S.1, S.2.1, S.2.2.1, S.2.2.2.1, S.2.2.2.2.1, S.2.2.2.2.2.1, t9, S.2.2.2.2.2.2.2.1, S.2.2.2.2.2.2.2.2.1, S.2.2.2.2.2.2.2.2.2.1, S.2.2.2.2.2.2.2.2.2.2.1, S.2.2.2.2.2.2.2.2.2.2.2.1, S.2.2.2.2.2.2.2.2.2.2.2.2.1, S.2.2.2.2.2.2.2.2.2.2.2.2.2.1, S.2.2.2.2.2.2.2.2.2.2.2.2.2.2.1, ()) H0)
  (seqE (leafE fun S H k =>
      bindV (evQuo S.2.2.2.2.2.1 (.int .i64 (.ofNat 4))) fun t18 =>
      bindV (evMul t18 (.int .i64 (.ofNat 1))) fun t19 =>
      bindV (evAdd S.2.1 t19) fun t20 =>
      k (S.1, S.2.1, S.2.2.1, S.2.2.2.1, S.2.2.2.2.1, S.2.2.2.2.2.1, S.2.2.2.2.2.2.1, t20, S.2.2.2.2.2.2.2.2.1, S.2.2.2.2.2.2.2.2.2.1, S.2.2.2.2.2.2.2.2.2.2.1, S.2.2.2.2.2.2.2.2.2.2.2.1, S.2.2.2.2.2.2.2.2.2.2.2.2.1, S.2.2.2.2.2.2.2.2.2.2.2.2.2.1, S.2.2.2.2.2.2.2.2.2.2.2.2.2.2.1, ()) H)
  (seqE (leafE fun S H k =>
      bindV (evQuo S.2.2.2.2.2.1 (.int .i64 (.ofNat 4))) fun t23 =>
      bindV (evMul t23 (.int .i64 (.ofNat 2))) fun t24 =>
      bindV (evAdd S.2.1 t24) fun t25 =>
      k (S.1, S.2.1, S.2.2.1, S.2.2.2.1, S.2.2.2.2.1, S.2.2.2.2.2.1, S.2.2.2.2.2.2.1, S.2.2.2.2.2.2.2.1, t25, S.2.2.2.2.2.2.2.2.2.1, S.2.2.2.2.2.2.2.2.2.2.1, S.2.2.2.2.2.2.2.2.2.2.2.1, S.2.2.2.2.2.2.2.2.2.2.2.2.1, S.2.2.2.2.2.2.2.2.2.2.2.2.2.1, S.2.2.2.2.2.2.2.2.2.2.2.2.2.2.1, ()) H)
  (seqE (leafE fun S H k =>
      bindV (evQuo S.2.2.2.2.2.1 (.int .i64 (.ofNat 4))) fun t28 =>
      bindV (evMul t28 (.int .i64 (.ofNat 3))) fun t29 =>
      bindV (evAdd S.2.1 t29) fun t30 =>
      k (S.1, S.2.1, S.2.2.1, S.2.2.2.1, S.2.2.2.2.1, S.2.2.2.2.2.1, S.2.2.2.2.2.2.1, S.2.2.2.2.2.2.2.1, S.2.2.2.2.2.2.2.2.1, t30, S.2.2.2.2.2.2.2.2.2.2.1, S.2.2.2.2.2.2.2.2.2.2.2.1, S.2.2.2.2.2.2.2.2.2.2.2.2.1, S.2.2.2.2.2.2.2.2.2.2.2.2.2.1, S.2.2.2.2.2.2.2.2.2.2.2.2.2.2.1, ()) H)
  (seqE (seqE (leafE fun S H k =>
      bindV (evGeq S.2.2.2.2.2.1 (.int .i64 (.ofNat 8))) fun t32 =>
      k (S.1, S.2.1, S.2.2.1, S.2.2.2.1, S.2.2.2.2.1, S.2.2.2.2.2.1, S.2.2.2.2.2.2.1, S.2.2.2.2.2.2.2.1, S.2.2.2.2.2.2.2.2.1, S.2.2.2.2.2.2.2.2.2.1, t32, S.2.2.2.2.2.2.2.2.2.2.2.1, S.2.2.2.2.2.2.2.2.2.2.2.2.1, S.2.2.2.2.2.2.2.2.2.2.2.2.2.1, S.2.2.2.2.2.2.2.2.2.2.2.2.2.2.1, ()) H)
  (condE (fun S => some S.2.2.2.2.2.2.2.2.2.2.1)
   (seqE (seqE (leafE fun S H k =>
       bindV (evGeq S.2.2.2.2.2.1 (.int .i64 (.ofNat 50))) fun t34 =>
       k (S.1, S.2.1, S.2.2.1, S.2.2.2.1, S.2.2.2.2.1, S.2.2.2.2.2.1, S.2.2.2.2.2.2.1, S.2.2.2.2.2.2.2.1, S.2.2.2.2.2.2.2.2.1, S.2.2.2.2.2.2.2.2.2.1, S.2.2.2.2.2.2.2.2.2.2.1, t34, S.2.2.2.2.2.2.2.2.2.2.2.2.1, S.2.2.2.2.2.2.2.2.2.2.2.2.2.1, S.2.2.2.2.2.2.2.2.2.2.2.2.2.2.1, ()) H)
   (condE (fun S => some S.2.2.2.2.2.2.2.2.2.2.2.1)
    (seqE (leafE fun S H k =>
        bindVH (call lo 104 [S.1, S.2.2.2.2.2.2.2.1, S.2.2.2.2.2.2.1] H) fun t37 H1 =>
        k (S.1, S.2.1, S.2.2.1, S.2.2.2.1, S.2.2.2.2.1, S.2.2.2.2.2.1, S.2.2.2.2.2.2.1, t37, S.2.2.2.2.2.2.2.2.1, S.2.2.2.2.2.2.2.2.2.1, S.2.2.2.2.2.2.2.2.2.2.1, S.2.2.2.2.2.2.2.2.2.2.2.1, S.2.2.2.2.2.2.2.2.2.2.2.2.1, S.2.2.2.2.2.2.2.2.2.2.2.2.2.1, S.2.2.2.2.2.2.2.2.2.2.2.2.2.2.1, ()) H1)
    (seqE (leafE fun S H k =>
        bindVH (call lo 104 [S.1, S.2.2.2.2.2.2.2.2.1, S.2.2.2.2.2.2.1] H) fun t40 H2 =>
        k (S.1, S.2.1, S.2.2.1, S.2.2.2.1, S.2.2.2.2.1, S.2.2.2.2.2.1, S.2.2.2.2.2.2.1, S.2.2.2.2.2.2.2.1, t40, S.2.2.2.2.2.2.2.2.2.1, S.2.2.2.2.2.2.2.2.2.2.1, S.2.2.2.2.2.2.2.2.2.2.2.1, S.2.2.2.2.2.2.2.2.2.2.2.2.1, S.2.2.2.2.2.2.2.2.2.2.2.2.2.1, S.2.2.2.2.2.2.2.2.2.2.2.2.2.2.1, ()) H2)
    (leafE fun S H k =>
        bindVH (call lo 104 [S.1, S.2.2.2.2.2.2.2.2.2.1, S.2.2.2.2.2.2.1] H) fun t43 H3 =>
        k (S.1, S.2.1, S.2.2.1, S.2.2.2.1, S.2.2.2.2.1, S.2.2.2.2.2.1, S.2.2.2.2.2.2.1, S.2.2.2.2.2.2.2.1, S.2.2.2.2.2.2.2.2.1, t43, S.2.2.2.2.2.2.2.2.2.2.1, S.2.2.2.2.2.2.2.2.2.2.2.1, S.2.2.2.2.2.2.2.2.2.2.2.2.1, S.2.2.2.2.2.2.2.2.2.2.2.2.2.1, S.2.2.2.2.2.2.2.2.2.2.2.2.2.2.1, ()) H3)))
    (doneE .normal)))
   (leafE fun S H k =>
       bindVH (call lo 105 [S.1, S.2.2.2.2.2.2.2.1, S.2.2.2.2.2.2.2.2.1, S.2.2.2.2.2.2.2.2.2.1, S.2.2.2.2.2.2.1] H) fun t48 H4 =>
       k (S.1, S.2.1, S.2.2.1, S.2.2.2.1, S.2.2.2.2.1, S.2.2.2.2.2.1, S.2.2.2.2.2.2.1, S.2.2.2.2.2.2.2.1, t48, S.2.2.2.2.2.2.2.2.2.1, S.2.2.2.2.2.2.2.2.2.2.1, S.2.2.2.2.2.2.2.2.2.2.2.1, S.2.2.2.2.2.2.2.2.2.2.2.2.1, S.2.2.2.2.2.2.2.2.2.2.2.2.2.1, S.2.2.2.2.2.2.2.2.2.2.2.2.2.2.1, ()) H4))
   (doneE .normal)))
  (seqE (leafE fun S H k =>
      bindV (evLoad H false 1 S.2.2.2.2.2.2.1) fun t49 =>
      k (S.1, S.2.1, S.2.2.1, S.2.2.2.1, S.2.2.2.2.1, S.2.2.2.2.2.1, S.2.2.2.2.2.2.1, S.2.2.2.2.2.2.2.1, S.2.2.2.2.2.2.2.2.1, S.2.2.2.2.2.2.2.2.2.1, S.2.2.2.2.2.2.2.2.2.2.1, S.2.2.2.2.2.2.2.2.2.2.2.1, t49, S.2.2.2.2.2.2.2.2.2.2.2.2.2.1, S.2.2.2.2.2.2.2.2.2.2.2.2.2.2.1, ()) H)
  (blockE 0 (seqE (leafE fun S H k =>
       bindV (evEql .int S.2.2.2.2.2.2.2.2.2.2.2.2.1 (.int .i64 (.ofNat 0))) fun t52 =>
       k (S.1, S.2.1, S.2.2.1, S.2.2.2.1, S.2.2.2.2.1, S.2.2.2.2.2.1, S.2.2.2.2.2.2.1, S.2.2.2.2.2.2.2.1, S.2.2.2.2.2.2.2.2.1, S.2.2.2.2.2.2.2.2.2.1, S.2.2.2.2.2.2.2.2.2.2.1, S.2.2.2.2.2.2.2.2.2.2.2.1, S.2.2.2.2.2.2.2.2.2.2.2.2.1, t52, S.2.2.2.2.2.2.2.2.2.2.2.2.2.2.1, ()) H)
   (condE (fun S => some S.2.2.2.2.2.2.2.2.2.2.2.2.2.1)
    (seqE (leafE fun S H k =>
        k (S.1, S.2.1, S.2.2.1, S.2.2.2.2.2.2.2.2.1, (.int .i64 (.ofNat 1)), S.2.2.2.2.2.1, S.2.2.2.2.2.2.1, S.2.2.2.2.2.2.2.1, S.2.2.2.2.2.2.2.2.1, S.2.2.2.2.2.2.2.2.2.1, S.2.2.2.2.2.2.2.2.2.2.1, S.2.2.2.2.2.2.2.2.2.2.2.1, S.2.2.2.2.2.2.2.2.2.2.2.2.1, S.2.2.2.2.2.2.2.2.2.2.2.2.2.1, S.2.2.2.2.2.2.2.2.2.2.2.2.2.2.1, ()) H)
    (doneE .ret))
    (seqE (leafE fun S H k =>
        bindV (evEql .int S.2.2.2.2.2.2.2.2.2.2.2.2.1 (.int .i64 (.ofNat 12))) fun t55 =>
        k (S.1, S.2.1, S.2.2.1, S.2.2.2.1, S.2.2.2.2.1, S.2.2.2.2.2.1, S.2.2.2.2.2.2.1, S.2.2.2.2.2.2.2.1, S.2.2.2.2.2.2.2.2.1, S.2.2.2.2.2.2.2.2.2.1, S.2.2.2.2.2.2.2.2.2.2.1, S.2.2.2.2.2.2.2.2.2.2.2.1, S.2.2.2.2.2.2.2.2.2.2.2.2.1, S.2.2.2.2.2.2.2.2.2.2.2.2.2.1, t55, ()) H)
    (condE (fun S => some S.2.2.2.2.2.2.2.2.2.2.2.2.2.2.1)
     (seqE (leafE fun S H k =>
         k (S.1, S.2.1, S.2.2.1, S.2.2.2.2.2.2.2.2.1, (.int .i64 (.ofNat 2)), S.2.2.2.2.2.1, S.2.2.2.2.2.2.1, S.2.2.2.2.2.2.2.1, S.2.2.2.2.2.2.2.2.1, S.2.2.2.2.2.2.2.2.2.1, S.2.2.2.2.2.2.2.2.2.2.1, S.2.2.2.2.2.2.2.2.2.2.2.1, S.2.2.2.2.2.2.2.2.2.2.2.2.1, S.2.2.2.2.2.2.2.2.2.2.2.2.2.1, S.2.2.2.2.2.2.2.2.2.2.2.2.2.2.1, ()) H)
     (doneE .ret))
     (seqE (leafE fun S H k =>
         k (S.1, S.2.1, S.2.2.1, S.2.2.2.2.2.2.2.2.1, (.int .i64 (.ofNat 0)), S.2.2.2.2.2.1, S.2.2.2.2.2.2.1, S.2.2.2.2.2.2.2.1, S.2.2.2.2.2.2.2.2.1, S.2.2.2.2.2.2.2.2.2.1, S.2.2.2.2.2.2.2.2.2.2.1, S.2.2.2.2.2.2.2.2.2.2.2.1, S.2.2.2.2.2.2.2.2.2.2.2.2.1, S.2.2.2.2.2.2.2.2.2.2.2.2.2.1, S.2.2.2.2.2.2.2.2.2.2.2.2.2.2.1, ()) H)
     (doneE .ret)))))))))))))))

def F91 (call : CallF) (lo : Nat) (args : List Value) (H : AH) : Option (Value × AH) :=
  leave .all H (bindV (C91 call (lowOf .all lo H) (argAt args 0, argAt args 1, argAt args 2, argAt args 6, argAt args 7, argAt args 8, argAt args 9, argAt args 10, argAt args 11, argAt args 12, argAt args 32, argAt args 34, argAt args 49, argAt args 51, argAt args 54, ()) H) fun p => resE p.1 (some (oneOf [p.2.1.2.2.2.1, p.2.1.2.2.2.2.1], p.2.2)))

theorem F91_eq (call : CallF) (lo : Nat) (args : List Value) (H : AH) : evFn P ctx call lo 91 args H = F91 call lo args H := by kernel_rfl

/-- slices.reverseRangeOrdered[int] -/
def C92 (call : CallF) (lo : Nat) : Piece (Value × Value × Value × Value × Value × Value × Unit) :=
  (seqE (leafE fun S H k =>
      k (S.1, S.2.1, S.2.2.1, S.2.1, S.2.2.2.2.1, S.2.2.2.2.2.1, ()) H)
  (seqE (leafE fun S H k =>
      bindV (evSub S.2.2.1 (.int .i64 (.ofNat 1))) fun t10 =>
      k (S.1, S.2.1, S.2.2.1, S.2.2.2.1, t10, S.2.2.2.2.2.1, ()) H)
  (blockE 0 (loopE (seqE (seqE (leafE fun S H k =>
        bindV (evLss S.2.2.2.1 S.2.2.2.2.1) fun t13 =>
        k (S.1, S.2.1, S.2.2.1, S.2.2.2.1, S.2.2.2.2.1, t13, ()) H)
    (condE (fun S => some S.2.2.2.2.2.1)
     (doneE .normal)
     (doneE (.exit 0))))
    (blockE 1 (seqE (leafE fun S H k =>
         bindV (evIdxSlice 1 S.1 S.2.2.2.2.1) fun t20 =>
         bindV (evLoad H false 1 t20) fun t21 =>
         bindV (evIdxSlice 1 S.1 S.2.2.2.1) fun t24 =>
         bindV (evLoad H false 1 t24) fun t25 =>
         bindV (evIdxSlice 1 S.1 S.2.2.2.1) fun t26 =>
         bindV (evStore lo H 1 t26 t21) fun H0 =>
         bindV (evIdxSlice 1 S.1 S.2.2.2.2.1) fun t27 =>
         bindV (evStore lo H0 1 t27 t25) fun H1 =>
         k (S.1, S.2.1, S.2.2.1, S.2.2.2.1, S.2.2.2.2.1, S.2.2.2.2.2.1, ()) H1)
     (seqE (leafE fun S H k =>
         bindV (evAdd S.2.2.2.1 (.int .i64 (.ofNat 1))) fun t29 =>
         k (S.1, S.2.1, S.2.2.1, t29, S.2.2.2.2.1, S.2.2.2.2.2.1, ()) H)
     (leafE fun S H k =>
         bindV (evSub S.2.2.2.2.1 (.int .i64 (.ofNat 1))) fun t31 =>
         k (S.1, S.2.1, S.2.2.1, S.2.2.2.1, t31, S.2.2.2.2.2.1, ()) H))))) fuel))))

def F92 (call : CallF) (lo : Nat) (args : List Value) (H : AH) : Option (Value × AH) :=
  leave .all H (bindV (C92 call (lowOf .all lo H) (argAt args 0, argAt args 1, argAt args 2, argAt args 6, argAt args 7, argAt args 13, ()) H) fun p => resE p.1 (some (oneOf [], p.2.2)))

theorem F92_eq (call : CallF) (lo : Nat) (args : List Value) (H : AH) : evFn P ctx call lo 92 args H = F92 call lo args H := by kernel_rfl

/-- slices.partialInsertionSortOrdered[int] -/
def C93 (call : CallF) (lo : Nat) : Piece (Value × Value × Value × Value × Value × Value × Value × Value × Value × Value × Value × Value × Value × Value × Value × Value × Value × Value × Unit) :=
  (seqE (leafE fun S H k =>
      k (S.1, S.2.1, S.2.2.1, (.bool false), S.2.2.2.2.1, S.2.2.2.2.2.1, S.2.2.2.2.2.2.1, S.2.2.2.2.2.2.2.1, S.2.2.2.2.2.2.2.2.1, S.2.2.2.2.2.2.2.2.2.1, S.2.2.2.2.2.2.2.2.2.2.1, S.2.2.2.2.2.2.2.2.2.2.2.1, S.2.2.2.2.2.2.2.2.2.2.2.2.1, S.2.2.2.2.2.2.2.2.2.2.2.2.2.1, S.2.2.2.2.2.2.2.2.2.2.2.2.2.2.1, S.2.2.2.2.2.2.2.2.2.2.2.2.2.2.2.1, S.2.2.2.2.2.2.2.2.2.2.2.2.2.2.2.2.1, S.2.2.2.2.2.2.2.2.2.2.2.2.2.2.2.2.2.1, ()) H)
  (seqE (leafE fun S H k =>
      bindV (evAdd S.2.1 (.int .i64 (.ofNat 1))) fun t12 =>
      k (S.1, S.2.1, S.2.2.1, S.2.2.2.1, t12, S.2.2.2.2.2.1, S.2.2.2.2.2.2.1, S.2.2.2.2.2.2.2.1, S.2.2.2.2.2.2.2.2.1, S.2.2.2.2.2.2.2.2.2.1, S.2.2.2.2.2.2.2.2.2.2.1, S.2.2.2.2.2.2.2.2.2.2.2.1, S.2.2.2.2.2.2.2.2.2.2.2.2.1, S.2.2.2.2.2.2.2.2.2.2.2.2.2.1, S.2.2.2.2.2.2.2.2.2.2.2.2.2.2.1, S.2.2.2.2.2.2.2.2.2.2.2.2.2.2.2.1, S.2.2.2.2.2.2.2.2.2.2.2.2.2.2.2.2.1, S.2.2.2.2.2.2.2.2.2.2.2.2.2.2.2.2.2.1, ()) H)
  (seqE (seqE (leafE fun S H k =>
      k (S.1, S.2.1, S.2.2.1, S.2.2.2.1, S.2.2.2.2.1, (.int .i64 (.ofNat 0)), S.2.2.2.2.2.2.1, S.2.2.2.2.2.2.2.1, S.2.2.2.2.2.2.2.2.1, S.2.2.2.2.2.2.2.2.2.1, S.2.2.2.2.2.2.2.2.2.2.1, S.2.2.2.2.2.2.2.2.2.2.2.1, S.2.2.2.2.2.2.2.2.2.2.2.2.1, S.2.2.2.2.2.2.2.2.2.2.2.2.2.1, S.2.2.2.2.2.2.2.2.2.2.2.2.2.2.1, S.2.2.2.2.2.2.2.2.2.2.2.2.2.2.2.1, S.2.2.2.2.2.2.2.2.2.2.2.2.2.2.2.2.1, S.2.2.2.2.2.2.2.2.2.2.2.2.2.2.2.2.2.1, ()) H)
  (blockE 0 (loopE (seqE (seqE (leafE fun S H k =>
        bindV (evLss S.2.2.2.2.2.1 (.int .i64 (.ofNat 5))) fun t14 =>
        k (S.1, S.2.1, S.2.2.1, S.2.2.2.1, S.2.2.2.2.1, S.2.2.2.2.2.1, S.2.2.2.2.2.2.1, S.2.2.2.2.2.2.2.1, t14, S.2.2.2.2.2.2.2.2.2.1, S.2.2.2.2.2.2.2.2.2.2.1, S.2.2.2.2.2.2.2.2.2.2.2.1, S.2.2.2.2.2.2.2.2.2.2.2.2.1, S.2.2.2.2.2.2.2.2.2.2.2.2.2.1, S.2.2.2.2.2.2.2.2.2.2.2.2.2.2.1, S.2.2.2.2.2.2.2.2.2.2.2.2.2.2.2.1, S.2.2.2.2.2.2.2.2.2.2.2.2.2.2.2.2.1, S.2.2.2.2.2.2.2.2.2.2.2.2.2.2.2.2.2.1, ()) H)
    (condE (fun S => some S.2.2.2.2.2.2.2.2.1)
     (doneE .normal)
     (doneE (.exit 0))))
    (seqE (blockE 1 (seqE (blockE 2 (loopE (seqE (seqE (leafE fun S H k =>
           bindV (evLss S.2.2.2.2.1 S.2.2.1) fun t19 =>
           guarded t19 true ( pairVH S.1 H) H fun t21 H0 =>
           guarded t19 true ( pairVH S.2.2.2.2.1 H0) H0 fun t22 H1 =>
           guarded t19 true (bindV (evIdxSlice 1 t21 t22) fun t1000000 => pairVH t1000000 H1) H1 fun t23 H2 =>
           guarded t19 true (bindV (evLoad H2 false 1 t23) fun t1000000 => pairVH t1000000 H2) H2 fun t24 H3 =>
           guarded t19 true ( pairVH S.1 H3) H3 fun t25 H4 =>
           guarded t19 true ( pairVH S.2.2.2.2.1 H4) H4 fun t26 H5 =>
           guarded t19 true (bindV (evSub t26 (.int .i64 (.ofNat 1))) fun t1000000 => pairVH t1000000 H5) H5 fun t27 H6 =>
           guarded t19 true (bindV (evIdxSlice 1 t25 t27) fun t1000000 => pairVH t1000000 H6) H6 fun t28 H7 =>
           guarded t19 true (bindV (evLoad H7 false 1 t28) fun t1000000 => pairVH t1000000 H7) H7 fun t29 H8 =>
           guarded t19 true (bindVH (call lo 94 [t24, t29] H8) fun t1000000 H9 => pairVH t1000000 H9) H8 fun t30 H10 =>
           guarded t19 true (bindV (evNot t30) fun t1000000 => pairVH t1000000 H10) H10 fun t31 H11 =>
           bindV (evPick t19 t31 (.bool false)) fun t32 =>
           k (S.1, S.2.1, S.2.2.1, S.2.2.2.1, S.2.2.2.2.1, S.2.2.2.2.2.1, S.2.2.2.2.2.2.1, S.2.2.2.2.2.2.2.1, S.2.2.2.2.2.2.2.2.1, t32, S.2.2.2.2.2.2.2.2.2.2.1, S.2.2.2.2.2.2.2.2.2.2.2.1, S.2.2.2.2.2.2.2.2.2.2.2.2.1, S.2.2.2.2.2.2.2.2.2.2.2.2.2.1, S.2.2.2.2.2.2.2.2.2.2.2.2.2.2.1, S.2.2.2.2.2.2.2.2.2.2.2.2.2.2.2.1, S.2.2.2.2.2.2.2.2.2.2.2.2.2.2.2.2.1, S.2.2.2.2.2.2.2.2.2.2.2.2.2.2.2.2.2.1, ()) H11)
       (condE (fun S => some S.2.2.2.2.2.2.2.2.2.1)
        (doneE .normal)
        (doneE (.exit 2))))
       (blockE 3 (leafE fun S H k =>
            bindV (evAdd S.2.2.2.2.1 (.int .i64 (.ofNat 1))) fun t34 =>
            k (S.1, S.2.1, S.2.2.1, S.2.2.2.1, t34, S.2.2.2.2.2.1, S.2.2.2.2.2.2.1, S.2.2.2.2.2.2.2.1, S.2.2.2.2.2.2.2.2.1, S.2.2.2.2.2.2.2.2.2.1, S.2.2.2.2.2.2.2.2.2.2.1, S.2.2.2.2.2.2.2.2.2.2.2.1, S.2.2.2.2.2.2.2.2.2.2.2.2.1, S.2.2.2.2.2.2.2.2.2.2.2.2.2.1, S.2.2.2.2.2.2.2.2.2.2.2.2.2.2.1, S.2.2.2.2.2.2.2.2.2.2.2.2.2.2.2.1, S.2.2.2.2.2.2.2.2.2.2.2.2.2.2.2.2.1, S.2.2.2.2.2.2.2.2.2.2.2.2.2.2.2.2.2.1, ()) H))) fuel))
     (seqE (seqE (leafE fun S H k =>
         bindV (evEql .int S.2.2.2.2.1 S.2.2.1) fun t37 =>
         k (S.1, S.2.1, S.2.2.1, S.2.2.2.1, S.2.2.2.2.1, S.2.2.2.2.2.1, S.2.2.2.2.2.2.1, S.2.2.2.2.2.2.2.1, S.2.2.2.2.2.2.2.2.1, S.2.2.2.2.2.2.2.2.2.1, t37, S.2.2.2.2.2.2.2.2.2.2.2.1, S.2.2.2.2.2.2.2.2.2.2.2.2.1, S.2.2.2.2.2.2.2.2.2.2.2.2.2.1, S.2.2.2.2.2.2.2.2.2.2.2.2.2.2.1, S.2.2.2.2.2.2.2.2.2.2.2.2.2.2.2.1, S.2.2.2.2.2.2.2.2.2.2.2.2.2.2.2.2.1, S.2.2.2.2.2.2.2.2.2.2.2.2.2.2.2.2.2.1, ()) H)
     (condE (fun S => some S.2.2.2.2.2.2.2.2.2.2.1)
      (seqE (leafE fun S H k =>
          k (S.1, S.2.1, S.2.2.1, (.bool true), S.2.2.2.2.1, S.2.2.2.2.2.1, S.2.2.2.2.2.2.1, S.2.2.2.2.2.2.2.1, S.2.2.2.2.2.2.2.2.1, S.2.2.2.2.2.2.2.2.2.1, S.2.2.2.2.2.2.2.2.2.2.1, S.2.2.2.2.2.2.2.2.2.2.2.1, S.2.2.2.2.2.2.2.2.2.2.2.2.1, S.2.2.2.2.2.2.2.2.2.2.2.2.2.1, S.2.2.2.2.2.2.2.2.2.2.2.2.2.2.1, S.2.2.2.2.2.2.2.2.2.2.2.2.2.2.2.1, S.2.2.2.2.2.2.2.2.2.2.2.2.2.2.2.2.1, S.2.2.2.2.2.2.2.2.2.2.2.2.2.2.2.2.2.1, ()) H)
      (doneE .ret))
      (doneE .normal)))
     (seqE (seqE (leafE fun S H k =>
         bindV (evSub S.2.2.1 S.2.1) fun t40 =>
         bindV (evLss t40 (.int .i64 (.ofNat 50))) fun t41 =>
         k (S.1, S.2.1, S.2.2.1, S.2.2.2.1, S.2.2.2.2.1, S.2.2.2.2.2.1, S.2.2.2.2.2.2.1, S.2.2.2.2.2.2.2.1, S.2.2.2.2.2.2.2.2.1, S.2.2.2.2.2.2.2.2.2.1, S.2.2.2.2.2.2.2.2.2.2.1, t41, S.2.2.2.2.2.2.2.2.2.2.2.2.1, S.2.2.2.2.2.2.2.2.2.2.2.2.2.1, S.2.2.2.2.2.2.2.2.2.2.2.2.2.2.1, S.2.2.2.2.2.2.2.2.2.2.2.2.2.2.2.1, S.2.2.2.2.2.2.2.2.2.2.2.2.2.2.2.2.1, S.2.2.2.2.2.2.2.2.2.2.2.2.2.2.2.2.2.1, ()) H)
     (condE (fun S => some S.2.2.2.2.2.2.2.2.2.2.2.1)
      (seqE (leafE fun S H k =>
          k (S.1, S.2.1, S.2.2.1, (.bool false), S.2.2.2.2.1, S.2.2.2.2.2.1, S.2.2.2.2.2.2.1, S.2.2.2.2.2.2.2.1, S.2.2.2.2.2.2.2.2.1, S.2.2.2.2.2.2.2.2.2.1, S.2.2.2.2.2.2.2.2.2.2.1, S.2.2.2.2.2.2.2.2.2.2.2.1, S.2.2.2.2.2.2.2.2.2.2.2.2.1, S.2.2.2.2.2.2.2.2.2.2.2.2.2.1, S.2.2.2.2.2.2.2.2.2.2.2.2.2.2.1, S.2.2.2.2.2.2.2.2.2.2.2.2.2.2.2.1, S.2.2.2.2.2.2.2.2.2.2.2.2.2.2.2.2.1, S.2.2.2.2.2.2.2.2.2.2.2.2.2.2.2.2.2.1, ()) H)
      (doneE .ret))
      (doneE .normal)))
     (seqE (leafE fun S H k =>
         bindV (evSub S.2.2.2.2.1 (.int .i64 (.ofNat 1))) fun t46 =>
         bindV (evSub S.2.2.2.2.1 (.int .i64 (.ofNat 1))) fun t49 =>
         bindV (evIdxSlice 1 S.1 t49) fun t50 =>
         bindV (evLoad H false 1 t50) fun t51 =>
         bindV (evIdxSlice 1 S.1 S.2.2.2.2.1) fun t54 =>
         bindV (evLoad H false 1 t54) fun t55 =>
         bindV (evIdxSlice 1 S.1 S.2.2.2.2.1) fun t56 =>
         bindV (evStore lo H 1 t56 t51) fun H12 =>
         bindV (evIdxSlice 1 S.1 t46) fun t57 =>
         bindV (evStore lo H12 1 t57 t55) fun H13 =>
         k (S.1, S.2.1, S.2.2.1, S.2.2.2.1, S.2.2.2.2.1, S.2.2.2.2.2.1, S.2.2.2.2.2.2.1, S.2.2.2.2.2.2.2.1, S.2.2.2.2.2.2.2.2.1, S.2.2.2.2.2.2.2.2.2.1, S.2.2.2.2.2.2.2.2.2.2.1, S.2.2.2.2.2.2.2.2.2.2.2.1, S.2.2.2.2.2.2.2.2.2.2.2.2.1, S.2.2.2.2.2.2.2.2.2.2.2.2.2.1, S.2.2.2.2.2.2.2.2.2.2.2.2.2.2.1, S.2.2.2.2.2.2.2.2.2.2.2.2.2.2.2.1, S.2.2.2.2.2.2.2.2.2.2.2.2.2.2.2.2.1, S.2.2.2.2.2.2.2.2.2.2.2.2.2.2.2.2.2.1, ()) H13)
     (seqE (seqE (leafE fun S H k =>
         bindV (evSub S.2.2.2.2.1 S.2.1) fun t60 =>
         bindV (evGeq t60 (.int .i64 (.ofNat 2))) fun t61 =>
         k (S.1, S.2.1, S.2.2.1, S.2.2.2.1, S.2.2.2.2.1, S.2.2.2.2.2.1, S.2.2.2.2.2.2.1, S.2.2.2.2.2.2.2.1, S.2.2.2.2.2.2.2.2.1, S.2.2.2.2.2.2.2.2.2.1, S.2.2.2.2.2.2.2.2.2.2.1, S.2.2.2.2.2.2.2.2.2.2.2.1, t61, S.2.2.2.2.2.2.2.2.2.2.2.2.2.1, S.2.2.2.2.2.2.2.2.2.2.2.2.2.2.1, S.2.2.2.2.2.2.2.2.2.2.2.2.2.2.2.1, S.2.2.2.2.2.2.2.2.2.2.2.2.2.2.2.2.1, S.2.2.2.2.2.2.2.2.2.2.2.2.2.2.2.2.2.1, ()) H)
     (condE (fun S => some S.2.2.2.2.2.2.2.2.2.2.2.2.1)
      (seqE (leafE fun S H k =>
          bindV (evSub S.2.2.2.2.1 (.int .i64 (.ofNat 1))) fun t63 =>
          k (S.1, S.2.1, S.2.2.1, S.2.2.2.1, S.2.2.2.2.1, S.2.2.2.2.2.1, t63, S.2.2.2.2.2.2.2.1, S.2.2.2.2.2.2.2.2.1, S.2.2.2.2.2.2.2.2.2.1, S.2.2.2.2.2.2.2.2.2.2.1, S.2.2.2.2.2.2.2.2.2.2.2.1, S.2.2.2.2.2.2.2.2.2.2.2.2.1, S.2.2.2.2.2.2.2.2.2.2.2.2.2.1, S.2.2.2.2.2.2.2.2.2.2.2.2.2.2.1, S.2.2.2.2.2.2.2.2.2.2.2.2.2.2.2.1, S.2.2.2.2.2.2.2.2.2.2.2.2.2.2.2.2.1, S.2.2.2.2.2.2.2.2.2.2.2.2.2.2.2.2.2.1, ()) H)
      (blockE 4 (loopE (seqE (seqE (leafE fun S H k =>
            bindV (evGeq S.2.2.2.2.2.2.1 (.int .i64 (.ofNat 1))) fun t65 =>
            k (S.1, S.2.1, S.2.2.1, S.2.2.2.1, S.2.2.2.2.1, S.2.2.2.2.2.1, S.2.2.2.2.2.2.1, S.2.2.2.2.2.2.2.1, S.2.2.2.2.2.2.2.2.1, S.2.2.2.2.2.2.2.2.2.1, S.2.2.2.2.2.2.2.2.2.2.1, S.2.2.2.2.2.2.2.2.2.2.2.1, S.2.2.2.2.2.2.2.2.2.2.2.2.1, t65, S.2.2.2.2.2.2.2.2.2.2.2.2.2.2.1, S.2.2.2.2.2.2.2.2.2.2.2.2.2.2.2.1, S.2.2.2.2.2.2.2.2.2.2.2.2.2.2.2.2.1, S.2.2.2.2.2.2.2.2.2.2.2.2.2.2.2.2.2.1, ()) H)
        (condE (fun S => some S.2.2.2.2.2.2.2.2.2.2.2.2.2.1)
         (doneE .normal)
         (doneE (.exit 4))))
        (seqE (blockE 5 (seqE (seqE (leafE fun S H k =>
             bindV (evIdxSlice 1 S.1 S.2.2.2.2.2.2.1) fun t70 =>
             bindV (evLoad H false 1 t70) fun t71 =>
             bindV (evSub S.2.2.2.2.2.2.1 (.int .i64 (.ofNat 1))) fun t74 =>
             bindV (evIdxSlice 1 S.1 t74) fun t75 =>
             bindV (evLoad H false 1 t75) fun t76 =>
             bindVH (call lo 94 [t71, t76] H) fun t77 H14 =>
             bindV (evNot t77) fun t78 =>
             k (S.1, S.2.1, S.2.2.1, S.2.2.2.1, S.2.2.2.2.1, S.2.2.2.2.2.1, S.2.2.2.2.2.2.1, S.2.2.2.2.2.2.2.1, S.2.2.2.2.2.2.2.2.1, S.2.2.2.2.2.2.2.2.2.1, S.2.2.2.2.2.2.2.2.2.2.1, S.2.2.2.2.2.2.2.2.2.2.2.1, S.2.2.2.2.2.2.2.2.2.2.2.2.1, S.2.2.2.2.2.2.2.2.2.2.2.2.2.1, t78, S.2.2.2.2.2.2.2.2.2.2.2.2.2.2.2.1, S.2.2.2.2.2.2.2.2.2.2.2.2.2.2.2.2.1, S.2.2.2.2.2.2.2.2.2.2.2.2.2.2.2.2.2.1, ()) H14)
         (condE (fun S => some S.2.2.2.2.2.2.2.2.2.2.2.2.2.2.1)
          (doneE (.exit 4))
          (doneE .normal)))
         (leafE fun S H k =>
             bindV (evSub S.2.2.2.2.2.2.1 (.int .i64 (.ofNat 1))) fun t83 =>
             bindV (evSub S.2.2.2.2.2.2.1 (.int .i64 (.ofNat 1))) fun t86 =>
             bindV (evIdxSlice 1 S.1 t86) fun t87 =>
             bindV (evLoad H false 1 t87) fun t88 =>
             bindV (evIdxSlice 1 S.1 S.2.2.2.2.2.2.1) fun t91 =>
             bindV (evLoad H false 1 t91) fun t92 =>
             bindV (evIdxSlice 1 S.1 S.2.2.2.2.2.2.1) fun t93 =>
             bindV (evStore lo H 1 t93 t88) fun H15 =>
             bindV (evIdxSlice 1 S.1 t83) fun t94 =>
             bindV (evStore lo H15 1 t94 t92) fun H16 =>
             k (S.1, S.2.1, S.2.2.1, S.2.2.2.1, S.2.2.2.2.1, S.2.2.2.2.2.1, S.2.2.2.2.2.2.1, S.2.2.2.2.2.2.2.1, S.2.2.2.2.2.2.2.2.1, S.2.2.2.2.2.2.2.2.2.1, S.2.2.2.2.2.2.2.2.2.2.1, S.2.2.2.2.2.2.2.2.2.2.2.1, S.2.2.2.2.2.2.2.2.2.2.2.2.1, S.2.2.2.2.2.2.2.2.2.2.2.2.2.1, S.2.2.2.2.2.2.2.2.2.2.2.2.2.2.1, S.2.2.2.2.2.2.2.2.2.2.2.2.2.2.2.1, S.2.2.2.2.2.2.2.2.2.2.2.2.2.2.2.2.1, S.2.2.2.2.2.2.2.2.2.2.2.2.2.2.2.2.2.1, ()) H16)))
        (leafE fun S H k =>
            bindV (evSub S.2.2.2.2.2.2.1 (.int .i64 (.ofNat 1))) fun t67 =>
            k (S.1, S.2.1, S.2.2.1, S.2.2.2.1, S.2.2.2.2.1, S.2.2.2.2.2.1, t67, S.2.2.2.2.2.2.2.1, S.2.2.2.2.2.2.2.2.1, S.2.2.2.2.2.2.2.2.2.1, S.2.2.2.2.2.2.2.2.2.2.1, S.2.2.2.2.2.2.2.2.2.2.2.1, S.2.2.2.2.2.2.2.2.2.2.2.2.1, S.2.2.2.2.2.2.2.2.2.2.2.2.2.1, S.2.2.2.2.2.2.2.2.2.2.2.2.2.2.1, S.2.2.2.2.2.2.2.2.2.2.2.2.2.2.2.1, S.2.2.2.2.2.2.2.2.2.2.2.2.2.2.2.2.1, S.2.2.2.2.2.2.2.2.2.2.2.2.2.2.2.2.2.1, ()) H))) fuel)))
      (doneE .normal)))
     (seqE (leafE fun S H k =>
         bindV (evSub S.2.2.1 S.2.2.2.2.1) fun t97 =>
         bindV (evGeq t97 (.int .i64 (.ofNat 2))) fun t98 =>
         k (S.1, S.2.1, S.2.2.1, S.2.2.2.1, S.2.2.2.2.1, S.2.2.2.2.2.1, S.2.2.2.2.2.2.1, S.2.2.2.2.2.2.2.1, S.2.2.2.2.2.2.2.2.1, S.2.2.2.2.2.2.2.2.2.1, S.2.2.2.2.2.2.2.2.2.2.1, S.2.2.2.2.2.2.2.2.2.2.2.1, S.2.2.2.2.2.2.2.2.2.2.2.2.1, S.2.2.2.2.2.2.2.2.2.2.2.2.2.1, S.2.2.2.2.2.2.2.2.2.2.2.2.2.2.1, t98, S.2.2.2.2.2.2.2.2.2.2.2.2.2.2.2.2.1, S.2.2.2.2.2.2.2.2.2.2.2.2.2.2.2.2.2.1, ()) H)
     (condE (fun S => some S.2.2.2.2.2.2.2.2.2.2.2.2.2.2.2.1)
      (seqE (leafE fun S H k =>
          bindV (evAdd S.2.2.2.2.1 (.int .i64 (.ofNat 1))) fun t100 =>
          k (S.1, S.2.1, S.2.2.1, S.2.2.2.1, S.2.2.2.2.1, S.2.2.2.2.2.1, S.2.2.2.2.2.2.1, t100, S.2.2.2.2.2.2.2.2.1, S.2.2.2.2.2.2.2.2.2.1, S.2.2.2.2.2.2.2.2.2.2.1, S.2.2.2.2.2.2.2.2.2.2.2.1, S.2.2.2.2.2.2.2.2.2.2.2.2.1, S.2.2.2.2.2.2.2.2.2.2.2.2.2.1, S.2.2.2.2.2.2.2.2.2.2.2.2.2.2.1, S.2.2.2.2.2.2.2.2.2.2.2.2.2.2.2.1, S.2.2.2.2.2.2.2.2.2.2.2.2.2.2.2.2.1, S.2.2.2.2.2.2.2.2.2.2.2.2.2.2.2.2.2.1, ()) H)
      (blockE 6 (loopE (seqE (seqE (leafE fun S H k =>
            bindV (evLss S.2.2.2.2.2.2.2.1 S.2.2.1) fun t103 =>
            k (S.1, S.2.1, S.2.2.1, S.2.2.2.1, S.2.2.2.2.1, S.2.2.2.2.2.1, S.2.2.2.2.2.2.1, S.2.2.2.2.2.2.2.1, S.2.2.2.2.2.2.2.2.1, S.2.2.2.2.2.2.2.2.2.1, S.2.2.2.2.2.2.2.2.2.2.1, S.2.2.2.2.2.2.2.2.2.2.2.1, S.2.2.2.2.2.2.2.2.2.2.2.2.1, S.2.2.2.2.2.2.2.2.2.2.2.2.2.1, S.2.2.2.2.2.2.2.2.2.2.2.2.2.2.1, S.2.2.2.2.2.2.2.2.2.2.2.2.2.2.2.1, t103, S.2.2.2.2.2.2.2.2.2.2.2.2.2.2.2.2.2.1, ()) H)
        (condE (fun S => some S.2.2.2.2.2.2.2.2.2.2.2.2.2.2.2.2.1)
         (doneE .normal)
         (doneE (.exit 6))))
        (seqE (blockE 7 (seqE (seqE (leafE fun S H k =>
             bindV (evIdxSlice 1 S.1 S.2.2.2.2.2.2.2.1) fun t108 =>
             bindV (evLoad H false 1 t108) fun t109 =>
             bindV (evSub S.2.2.2.2.2.2.2.1 (.int .i64 (.ofNat 1))) fun t112 =>
             bindV (evIdxSlice 1 S.1 t112) fun t113 =>
             bindV (evLoad H false 1 t113) fun t114 =>
             bindVH (call lo 94 [t109, t114] H) fun t115 H17 =>
             bindV (evNot t115) fun t116 =>
             k (S.1, S.2.1, S.2.2.1, S.2.2.2.1, S.2.2.2.2.1, S.2.2.2.2.2.1, S.2.2.2.2.2.2.1, S.2.2.2.2.2.2.2.1, S.2.2.2.2.2.2.2.2.1, S.2.2.2.2.2.2.2.2.2.1, S.2.2.2.2.2.2.2.2.2.2.1, S.2.2.2.2.2.2.2.2.2.2.2.1, S.2.2.2.2.2.2.2.2.2.2.2.2.1, S.2.2.2.2.2.2.2.2.2.2.2.2.2.1, S.2.2.2.2.2.2.2.2.2.2.2.2.2.2.1, S.2.2.2.2.2.2.2.2.2.2.2.2.2.2.2.1, S.2.2.2.2.2.2.2.2.2.2.2.2.2.2.2.2.1, t116, ()) H17)
         (condE (fun S => some S.2.2.2.2.2.2.2.2.2.2.2.2.2.2.2.2.2.1)
          (doneE (.exit 6))
          (doneE .normal)))
         (leafE fun S H k =>
             bindV (evSub S.2.2.2.2.2.2.2.1 (.int .i64 (.ofNat 1))) fun t121 =>
             bindV (evSub S.2.2.2.2.2.2.2.1 (.int .i64 (.ofNat 1))) fun t124 =>
             bindV (evIdxSlice 1 S.1 t124) fun t125 =>
             bindV (evLoad H false 1 t125) fun t126 =>
             bindV (evIdxSlice 1 S.1 S.2.2.2.2.2.2.2.1) fun t129 =>
             bindV (evLoad H false 1 t129) fun t130 =>
             bindV (evIdxSlice 1 S.1 S.2.2.2.2.2.2.2.1) fun t131 =>
             bindV (evStore lo H 1 t131 t126) fun H18 =>
             bindV (evIdxSlice 1 S.1 t121) fun t132 =>
             bindV (evStore lo H18 1 t132 t130) fun H19 =>
             k (S.1, S.2.1, S.2.2.1, S.2.2.2.1, S.2.2.2.2.1, S.2.2.2.2.2.1, S.2.2.2.2.2.2.1, S.2.2.2.2.2.2.2.1, S.2.2.2.2.2.2.2.2.1, S.2.2.2.2.2.2.2.2.2.1, S.2.2.2.2.2.2.2.2.2.2.1, S.2.2.2.2.2.2.2.2.2.2.2.1, S.2.2.2.2.2.2.2.2.2.2.2.2.1, S.2.2.2.2.2.2.2.2.2.2.2.2.2.1, S.2.2.2.2.2.2.2.2.2.2.2.2.2.2.1, S.2.2.2.2.2.2.2.2.2.2.2.2.2.2.2.1, S.2.2.2.2.2.2.2.2.2.2.2.2.2.2.2.2.1, S.2.2.2.2.2.2.2.2.2.2.2.2.2.2.2.2.2.1, ()) H19)))
        (leafE fun S H k =>
            bindV (evAdd S.2.2.2.2.2.2.2.1 (.int .i64 (.ofNat 1))) fun t105 =>
            k (S.1, S.2.1, S.2.2.1, S.2.2.2.1, S.2.2.2.2.1, S.2.2.2.2.2.1, S.2.2.2.2.2.2.1, t105, S.2.2.2.2.2.2.2.2.1, S.2.2.2.2.2.2.2.2.2.1, S.2.2.2.2.2.2.2.2.2.2.1, S.2.2.2.2.2.2.2.2.2.2.2.1, S.2.2.2.2.2.2.2.2.2.2.2.2.1, S.2.2.2.2.2.2.2.2.2.2.2.2.2.1, S.2.2.2.2.2.2.2.2.2.2.2.2.2.2.1, S.2.2.2.2.2.2.2.2.2.2.2.2.2.2.2.1, S.2.2.2.2.2.2.2.2.2.2.2.2.2.2.2.2.1, S.2.2.2.2.2.2.2.2.2.2.2.2.2.2.2.2.2.1, ()) H))) fuel)))
      (doneE .normal)))))))))
    (leafE fun S H k =>
        bindV (evAdd S.2.2.2.2.2.1 (.int .i64 (.ofNat 1))) fun t16 =>
        k (S.1, S.2.1, S.2.2.1, S.2.2.2.1, S.2.2.2.2.1, t16, S.2.2.2.2.2.2.1, S.2.2.2.2.2.2.2.1, S.2.2.2.2.2.2.2.2.1, S.2.2.2.2.2.2.2.2.2.1, S.2.2.2.2.2.2.2.2.2.2.1, S.2.2.2.2.2.2.2.2.2.2.2.1, S.2.2.2.2.2.2.2.2.2.2.2.2.1, S.2.2.2.2.2.2.2.2.2.2.2.2.2.1, S.2.2.2.2.2.2.2.2.2.2.2.2.2.2.1, S.2.2.2.2.2.2.2.2.2.2.2.2.2.2.2.1, S.2.2.2.2.2.2.2.2.2.2.2.2.2.2.2.2.1, S.2.2.2.2.2.2.2.2.2.2.2.2.2.2.2.2.2.1, ()) H))) fuel)))
  (seqE (leafE fun S H k =>
      k (S.1, S.2.1, S.2.2.1, (.bool false), S.2.2.2.2.1, S.2.2.2.2.2.1, S.2.2.2.2.2.2.1, S.2.2.2.2.2.2.2.1, S.2.2.2.2.2.2.2.2.1, S.2.2.2.2.2.2.2.2.2.1, S.2.2.2.2.2.2.2.2.2.2.1, S.2.2.2.2.2.2.2.2.2.2.2.1, S.2.2.2.2.2.2.2.2.2.2.2.2.1, S.2.2.2.2.2.2.2.2.2.2.2.2.2.1, S.2.2.2.2.2.2.2.2.2.2.2.2.2.2.1, S.2.2.2.2.2.2.2.2.2.2.2.2.2.2.2.1, S.2.2.2.2.2.2.2.2.2.2.2.2.2.2.2.2.1, S.2.2.2.2.2.2.2.2.2.2.2.2.2.2.2.2.2.1, ()) H)
  (doneE .ret)))))

def F93 (call : CallF) (lo : Nat) (args : List Value) (H : AH) : Option (Value × AH) :=
  leave .all H (bindV (C93 call (lowOf .all lo H) (argAt args 0, argAt args 1, argAt args 2, argAt args 6, argAt args 7, argAt args 8, argAt args 9, argAt args 10, argAt args 14, argAt args 32, argAt args 37, argAt args 41, argAt args 61, argAt args 65, argAt args 78, argAt args 98, argAt args 103, argAt args 116, ()) H) fun p => resE p.1 (some (oneOf [p.2.1.2.2.2.1], p.2.2)))

theorem F93_eq (call : CallF) (lo : Nat) (args : List Value) (H : AH) : evFn P ctx call lo 93 args H = F93 call lo args H := by kernel_rfl

/-- cmp.Less[int] -/
def C94 (call : CallF) (lo : Nat) : Piece (Value × Value × Value × Unit) :=
  (seqE (leafE fun S H k =>
      k (S.1, S.2.1, (.bool false), ()) H)
  (seqE (leafE fun S H k =>
      bindVH (call lo 106 [S.1] H) fun t6 H0 =>
      guarded t6 true ( pairVH S.2.1 H0) H0 fun t8 H1 =>
      guarded t6 true (bindVH (call lo 106 [t8] H1) fun t1000000 H2 => pairVH t1000000 H2) H1 fun t9 H3 =>
      guarded t6 true (bindV (evNot t9) fun t1000000 => pairVH t1000000 H3) H3 fun t10 H4 =>
      bindV (evPick t6 t10 (.bool false)) fun t11 =>
      guarded t11 false ( pairVH S.1 H4) H4 fun t13 H5 =>
      guarded t11 false ( pairVH S.2.1 H5) H5 fun t14 H6 =>
      guarded t11 false (bindV (evLss t13 t14) fun t1000000 => pairVH t1000000 H6) H6 fun t15 H7 =>
      bindV (evPick t11 (.bool true) t15) fun t16 =>
      k (S.1, S.2.1, t16, ()) H7)
  (doneE .ret)))

def F94 (call : CallF) (lo : Nat) (args : List Value) (H : AH) : Option (Value × AH) :=
  leave .all H (bindV (C94 call (lowOf .all lo H) (argAt args 0, argAt args 1, argAt args 4, ()) H) fun p => resE p.1 (some (oneOf [p.2.1.2.2.1], p.2.2)))

theorem F94_eq (call : CallF) (lo : Nat) (args : List Value) (H : AH) : evFn P ctx call lo 94 args H = F94 call lo args H := by kernel_rfl

/-- slices.partitionEqualOrdered[int] -/
def C95 (call : CallF) (lo : Nat) : Piece (Value × Value × Value × Value × Value × Value × Value × Value × Value × Value × Unit) :=
  (seqE (leafE fun S H k =>
      k (S.1, S.2.1, S.2.2.1, S.2.2.2.1, (.int .i64 (.ofNat 0)), S.2.2.2.2.2.1, S.2.2.2.2.2.2.1, S.2.2.2.2.2.2.2.1, S.2.2.2.2.2.2.2.2.1, S.2.2.2.2.2.2.2.2.2.1, ()) H)
  (seqE (leafE fun S H k =>
      bindV (evIdxSlice 1 S.1 S.2.2.2.1) fun t17 =>
      bindV (evLoad H false 1 t17) fun t18 =>
      bindV (evIdxSlice 1 S.1 S.2.1) fun t21 =>
      bindV (evLoad H false 1 t21) fun t22 =>
      bindV (evIdxSlice 1 S.1 S.2.1) fun t23 =>
      bindV (evStore lo H 1 t23 t18) fun H0 =>
      bindV (evIdxSlice 1 S.1 S.2.2.2.1) fun t24 =>
      bindV (evStore lo H0 1 t24 t22) fun H1 =>
      k (S.1, S.2.1, S.2.2.1, S.2.2.2.1, S.2.2.2.2.1, S.2.2.2.2.2.1, S.2.2.2.2.2.2.1, S.2.2.2.2.2.2.2.1, S.2.2.2.2.2.2.2.2.1, S.2.2.2.2.2.2.2.2.2.1, ()) H1)
  (seqE (leafE fun S H k =>
      bindV (evAdd S.2.1 (.int .i64 (.ofNat 1))) fun t26 =>
      bindV (evSub S.2.2.1 (.int .i64 (.ofNat 1))) fun t28 =>
      k (S.1, S.2.1, S.2.2.1, S.2.2.2.1, S.2.2.2.2.1, t26, t28, S.2.2.2.2.2.2.2.1, S.2.2.2.2.2.2.2.2.1, S.2.2.2.2.2.2.2.2.2.1, ()) H)
  (seqE (blockE 0 (loopE (blockE 1 (seqE (blockE 2 (loopE (seqE (seqE (leafE fun S H k =>
           bindV (evLeq S.2.2.2.2.2.1 S.2.2.2.2.2.2.1) fun t31 =>
           guarded t31 true ( pairVH S.1 H) H fun t33 H2 =>
           guarded t31 true ( pairVH S.2.1 H2) H2 fun t34 H3 =>
           guarded t31 true (bindV (evIdxSlice 1 t33 t34) fun t1000000 => pairVH t1000000 H3) H3 fun t35 H4 =>
           guarded t31 true (bindV (evLoad H4 false 1 t35) fun t1000000 => pairVH t1000000 H4) H4 fun t36 H5 =>
           guarded t31 true ( pairVH S.1 H5) H5 fun t37 H6 =>
           guarded t31 true ( pairVH S.2.2.2.2.2.1 H6) H6 fun t38 H7 =>
           guarded t31 true (bindV (evIdxSlice 1 t37 t38) fun t1000000 => pairVH t1000000 H7) H7 fun t39 H8 =>
           guarded t31 true (bindV (evLoad H8 false 1 t39) fun t1000000 => pairVH t1000000 H8) H8 fun t40 H9 =>
           guarded t31 true (bindVH (call lo 94 [t36, t40] H9) fun t1000000 H10 => pairVH t1000000 H10) H9 fun t41 H11 =>
           guarded t31 true (bindV (evNot t41) fun t1000000 => pairVH t1000000 H11) H11 fun t42 H12 =>
           bindV (evPick t31 t42 (.bool false)) fun t43 =>
           k (S.1, S.2.1, S.2.2.1, S.2.2.2.1, S.2.2.2.2.1, S.2.2.2.2.2.1, S.2.2.2.2.2.2.1, t43, S.2.2.2.2.2.2.2.2.1, S.2.2.2.2.2.2.2.2.2.1, ()) H12)
       (condE (fun S => some S.2.2.2.2.2.2.2.1)
        (doneE .normal)
        (doneE (.exit 2))))
       (blockE 3 (leafE fun S H k =>
            bindV (evAdd S.2.2.2.2.2.1 (.int .i64 (.ofNat 1))) fun t45 =>
            k (S.1, S.2.1, S.2.2.1, S.2.2.2.1, S.2.2.2.2.1, t45, S.2.2.2.2.2.2.1, S.2.2.2.2.2.2.2.1, S.2.2.2.2.2.2.2.2.1, S.2.2.2.2.2.2.2.2.2.1, ()) H))) fuel))
     (seqE (blockE 4 (loopE (seqE (seqE (leafE fun S H k =>
           bindV (evLeq S.2.2.2.2.2.1 S.2.2.2.2.2.2.1) fun t48 =>
           guarded t48 true ( pairVH S.1 H) H fun t50 H13 =>
           guarded t48 true ( pairVH S.2.1 H13) H13 fun t51 H14 =>
           guarded t48 true (bindV (evIdxSlice 1 t50 t51) fun t1000000 => pairVH t1000000 H14) H14 fun t52 H15 =>
           guarded t48 true (bindV (evLoad H15 false 1 t52) fun t1000000 => pairVH t1000000 H15) H15 fun t53 H16 =>
           guarded t48 true ( pairVH S.1 H16) H16 fun t54 H17 =>
           guarded t48 true ( pairVH S.2.2.2.2.2.2.1 H17) H17 fun t55 H18 =>
           guarded t48 true (bindV (evIdxSlice 1 t54 t55) fun t1000000 => pairVH t1000000 H18) H18 fun t56 H19 =>
           guarded t48 true (bindV (evLoad H19 false 1 t56) fun t1000000 => pairVH t1000000 H19) H19 fun t57 H20 =>
           guarded t48 true (bindVH (call lo 94 [t53, t57] H20) fun t1000000 H21 => pairVH t1000000 H21) H20 fun t58 H22 =>
           bindV (evPick t48 t58 (.bool false)) fun t59 =>
           k (S.1, S.2.1, S.2.2.1, S.2.2.2.1, S.2.2.2.2.1, S.2.2.2.2.2.1, S.2.2.2.2.2.2.1, S.2.2.2.2.2.2.2.1, t59, S.2.2.2.2.2.2.2.2.2.1, ()) H22)
       (condE (fun S => some S.2.2.2.2.2.2.2.2.1)
        (doneE .normal)
        (doneE (.exit 4))))
       (blockE 5 (leafE fun S H k =>
            bindV (evSub S.2.2.2.2.2.2.1 (.int .i64 (.ofNat 1))) fun t61 =>
            k (S.1, S.2.1, S.2.2.1, S.2.2.2.1, S.2.2.2.2.1, S.2.2.2.2.2.1, t61, S.2.2.2.2.2.2.2.1, S.2.2.2.2.2.2.2.2.1, S.2.2.2.2.2.2.2.2.2.1, ()) H))) fuel))
     (seqE (seqE (leafE fun S H k =>
         bindV (evGtr S.2.2.2.2.2.1 S.2.2.2.2.2.2.1) fun t64 =>
         k (S.1, S.2.1, S.2.2.1, S.2.2.2.1, S.2.2.2.2.1, S.2.2.2.2.2.1, S.2.2.2.2.2.2.1, S.2.2.2.2.2.2.2.1, S.2.2.2.2.2.2.2.2.1, t64, ()) H)
     (condE (fun S => some S.2.2.2.2.2.2.2.2.2.1)
      (doneE (.exit 0))
      (doneE .normal)))
     (seqE (leafE fun S H k =>
         bindV (evIdxSlice 1 S.1 S.2.2.2.2.2.2.1) fun t71 =>
         bindV (evLoad H false 1 t71) fun t72 =>
         bindV (evIdxSlice 1 S.1 S.2.2.2.2.2.1) fun t75 =>
         bindV (evLoad H false 1 t75) fun t76 =>
         bindV (evIdxSlice 1 S.1 S.2.2.2.2.2.1) fun t77 =>
         bindV (evStore lo H 1 t77 t72) fun H23 =>
         bindV (evIdxSlice 1 S.1 S.2.2.2.2.2.2.1) fun t78 =>
         bindV (evStore lo H23 1 t78 t76) fun H24 =>
         k (S.1, S.2.1, S.2.2.1, S.2.2.2.1, S.2.2.2.2.1, S.2.2.2.2.2.1, S.2.2.2.2.2.2.1, S.2.2.2.2.2.2.2.1, S.2.2.2.2.2.2.2.2.1, S.2.2.2.2.2.2.2.2.2.1, ()) H24)
     (seqE (leafE fun S H k =>
         bindV (evAdd S.2.2.2.2.2.1 (.int .i64 (.ofNat 1))) fun t80 =>
         k (S.1, S.2.1, S.2.2.1, S.2.2.2.1, S.2.2.2.2.1, t80, S.2.2.2.2.2.2.1, S.2.2.2.2.2.2.2.1, S.2.2.2.2.2.2.2.2.1, S.2.2.2.2.2.2.2.2.2.1, ()) H)
     (leafE fun S H k =>
         bindV (evSub S.2.2.2.2.2.2.1 (.int .i64 (.ofNat 1))) fun t82 =>
         k (S.1, S.2.1, S.2.2.1, S.2.2.2.1, S.2.2.2.2.1, S.2.2.2.2.2.1, t82, S.2.2.2.2.2.2.2.1, S.2.2.2.2.2.2.2.2.1, S.2.2.2.2.2.2.2.2.2.1, ()) H))))))) fuel))
  (seqE (leafE fun S H k =>
      k (S.1, S.2.1, S.2.2.1, S.2.2.2.1, S.2.2.2.2.2.1, S.2.2.2.2.2.1, S.2.2.2.2.2.2.1, S.2.2.2.2.2.2.2.1, S.2.2.2.2.2.2.2.2.1, S.2.2.2.2.2.2.2.2.2.1, ()) H)
  (doneE .ret))))))

def F95 (call : CallF) (lo : Nat) (args : List Value) (H : AH) : Option (Value × AH) :=
  leave .all H (bindV (C95 call (lowOf .all lo H) (argAt args 0, argAt args 1, argAt args 2, argAt args 3, argAt args 8, argAt args 9, argAt args 10, argAt args 43, argAt args 59, argAt args 64, ()) H) fun p => resE p.1 (some (oneOf [p.2.1.2.2.2.2.1], p.2.2)))

theorem F95_eq (call : CallF) (lo : Nat) (args : List Value) (H : AH) : evFn P ctx call lo 95 args H = F95 call lo args H := by kernel_rfl

/-- slices.partitionOrdered[int] -/
def C96 (call : CallF) (lo : Nat) : Piece (Value × Value × Value × Value × Value × Value × Value × Value × Value × Value × Value × Value × Value × Value × Unit) :=
  (seqE (leafE fun S H k =>
      k (S.1, S.2.1, S.2.2.1, S.2.2.2.1, (.int .i64 (.ofNat 0)), (.bool false), S.2.2.2.2.2.2.1, S.2.2.2.2.2.2.2.1, S.2.2.2.2.2.2.2.2.1, S.2.2.2.2.2.2.2.2.2.1, S.2.2.2.2.2.2.2.2.2.2.1, S.2.2.2.2.2.2.2.2.2.2.2.1, S.2.2.2.2.2.2.2.2.2.2.2.2.1, S.2.2.2.2.2.2.2.2.2.2.2.2.2.1, ()) H)
  (seqE (leafE fun S H k =>
      bindV (evIdxSlice 1 S.1 S.2.2.2.1) fun t18 =>
      bindV (evLoad H false 1 t18) fun t19 =>
      bindV (evIdxSlice 1 S.1 S.2.1) fun t22 =>
      bindV (evLoad H false 1 t22) fun t23 =>
      bindV (evIdxSlice 1 S.1 S.2.1) fun t24 =>
      bindV (evStore lo H 1 t24 t19) fun H0 =>
      bindV (evIdxSlice 1 S.1 S.2.2.2.1) fun t25 =>
      bindV (evStore lo H0 1 t25 t23) fun H1 =>
      k (S.1, S.2.1, S.2.2.1, S.2.2.2.1, S.2.2.2.2.1, S.2.2.2.2.2.1, S.2.2.2.2.2.2.1, S.2.2.2.2.2.2.2.1, S.2.2.2.2.2.2.2.2.1, S.2.2.2.2.2.2.2.2.2.1, S.2.2.2.2.2.2.2.2.2.2.1, S.2.2.2.2.2.2.2.2.2.2.2.1, S.2.2.2.2.2.2.2.2.2.2.2.2.1, S.2.2.2.2.2.2.2.2.2.2.2.2.2.1, ()) H1)
  (seqE (leafE fun S H k =>
      bindV (evAdd S.2.1 (.int .i64 (.ofNat 1))) fun t27 =>
      bindV (evSub S.2.2.1 (.int .i64 (.ofNat 1))) fun t29 =>
      k (S.1, S.2.1, S.2.2.1, S.2.2.2.1, S.2.2.2.2.1, S.2.2.2.2.2.1, t27, t29, S.2.2.2.2.2.2.2.2.1, S.2.2.2.2.2.2.2.2.2.1, S.2.2.2.2.2.2.2.2.2.2.1, S.2.2.2.2.2.2.2.2.2.2.2.1, S.2.2.2.2.2.2.2.2.2.2.2.2.1, S.2.2.2.2.2.2.2.2.2.2.2.2.2.1, ()) H)
  (seqE (blockE 0 (loopE (seqE (seqE (leafE fun S H k =>
        bindV (evLeq S.2.2.2.2.2.2.1 S.2.2.2.2.2.2.2.1) fun t32 =>
        guarded t32 true ( pairVH S.1 H) H fun t34 H2 =>
        guarded t32 true ( pairVH S.2.2.2.2.2.2.1 H2) H2 fun t35 H3 =>
        guarded t32 true (bindV (evIdxSlice 1 t34 t35) fun t1000000 => pairVH t1000000 H3) H3 fun t36 H4 =>
        guarded t32 true (bindV (evLoad H4 false 1 t36) fun t1000000 => pairVH t1000000 H4) H4 fun t37 H5 =>
        guarded t32 true ( pairVH S.1 H5) H5 fun t38 H6 =>
        guarded t32 true ( pairVH S.2.1 H6) H6 fun t39 H7 =>
        guarded t32 true (bindV (evIdxSlice 1 t38 t39) fun t1000000 => pairVH t1000000 H7) H7 fun t40 H8 =>
        guarded t32 true (bindV (evLoad H8 false 1 t40) fun t1000000 => pairVH t1000000 H8) H8 fun t41 H9 =>
        guarded t32 true (bindVH (call lo 94 [t37, t41] H9) fun t1000000 H10 => pairVH t1000000 H10) H9 fun t42 H11 =>
        bindV (evPick t32 t42 (.bool false)) fun t43 =>
        k (S.1, S.2.1, S.2.2.1, S.2.2.2.1, S.2.2.2.2.1, S.2.2.2.2.2.1, S.2.2.2.2.2.2.1, S.2.2.2.2.2.2.2.1, t43, S.2.2.2.2.2.2.2.2.2.1, S.2.2.2.2.2.2.2.2.2.2.1, S.2.2.2.2.2.2.2.2.2.2.2.1, S.2.2.2.2.2.2.2.2.2.2.2.2.1, S.2.2.2.2.2.2.2.2.2.2.2.2.2.1, ()) H11)
    (condE (fun S => some S.2.2.2.2.2.2.2.2.1)
     (doneE .normal)
     (doneE (.exit 0))))
    (blockE 1 (leafE fun S H k =>
         bindV (evAdd S.2.2.2.2.2.2.1 (.int .i64 (.ofNat 1))) fun t45 =>
         k (S.1, S.2.1, S.2.2.1, S.2.2.2.1, S.2.2.2.2.1, S.2.2.2.2.2.1, t45, S.2.2.2.2.2.2.2.1, S.2.2.2.2.2.2.2.2.1, S.2.2.2.2.2.2.2.2.2.1, S.2.2.2.2.2.2.2.2.2.2.1, S.2.2.2.2.2.2.2.2.2.2.2.1, S.2.2.2.2.2.2.2.2.2.2.2.2.1, S.2.2.2.2.2.2.2.2.2.2.2.2.2.1, ()) H))) fuel))
  (seqE (blockE 2 (loopE (seqE (seqE (leafE fun S H k =>
        bindV (evLeq S.2.2.2.2.2.2.1 S.2.2.2.2.2.2.2.1) fun t48 =>
        guarded t48 true ( pairVH S.1 H) H fun t50 H12 =>
        guarded t48 true ( pairVH S.2.2.2.2.2.2.2.1 H12) H12 fun t51 H13 =>
        guarded t48 true (bindV (evIdxSlice 1 t50 t51) fun t1000000 => pairVH t1000000 H13) H13 fun t52 H14 =>
        guarded t48 true (bindV (evLoad H14 false 1 t52) fun t1000000 => pairVH t1000000 H14) H14 fun t53 H15 =>
        guarded t48 true ( pairVH S.1 H15) H15 fun t54 H16 =>
        guarded t48 true ( pairVH S.2.1 H16) H16 fun t55 H17 =>
        guarded t48 true (bindV (evIdxSlice 1 t54 t55) fun t1000000 => pairVH t1000000 H17) H17 fun t56 H18 =>
        guarded t48 true (bindV (evLoad H18 false 1 t56) fun t1000000 => pairVH t1000000 H18) H18 fun t57 H19 =>
        guarded t48 true (bindVH (call lo 94 [t53, t57] H19) fun t1000000 H20 => pairVH t1000000 H20) H19 fun t58 H21 =>
        guarded t48 true (bindV (evNot t58) fun t1000000 => pairVH t1000000 H21) H21 fun t59 H22 =>
        bindV (evPick t48 t59 (.bool false)) fun t60 =>
        k (S.1, S.2.1, S.2.2.1, S.2.2.2.1, S.2.2.2.2.1, S.2.2.2.2.2.1, S.2.2.2.2.2.2.1, S.2.2.2.2.2.2.2.1, S.2.2.2.2.2.2.2.2.1, t60, S.2.2.2.2.2.2.2.2.2.2.1, S.2.2.2.2.2.2.2.2.2.2.2.1, S.2.2.2.2.2.2.2.2.2.2.2.2.1, S.2.2.2.2.2.2.2.2.2.2.2.2.2.1, ()) H22)
    (condE (fun S => some S.2.2.2.2.2.2.2.2.2.1)
     (doneE .normal)
     (doneE (.exit 2))))
    (blockE 3 (leafE fun S H k =>
         bindV (evSub S.2.2.2.2.2.2.2.1 (.int .i64 (.ofNat 1))) fun t62 =>
         k (S.1, S.2.1, S.2.2.1, S.2.2.2.1, S.2.2.2.2.1, S.2.2.2.2.2.1, S.2.2.2.2.2.2.1, t62, S.2.2.2.2.2.2.2.2.1, S.2.2.2.2.2.2.2.2.2.1, S.2.2.2.2.2.2.2.2.2.2.1, S.2.2.2.2.2.2.2.2.2.2.2.1, S.2.2.2.2.2.2.2.2.2.2.2.2.1, S.2.2.2.2.2.2.2.2.2.2.2.2.2.1, ()) H))) fuel))
  (seqE (seqE (leafE fun S H k =>
      bindV (evGtr S.2.2.2.2.2.2.1 S.2.2.2.2.2.2.2.1) fun t65 =>
      k (S.1, S.2.1, S.2.2.1, S.2.2.2.1, S.2.2.2.2.1, S.2.2.2.2.2.1, S.2.2.2.2.2.2.1, S.2.2.2.2.2.2.2.1, S.2.2.2.2.2.2.2.2.1, S.2.2.2.2.2.2.2.2.2.1, t65, S.2.2.2.2.2.2.2.2.2.2.2.1, S.2.2.2.2.2.2.2.2.2.2.2.2.1, S.2.2.2.2.2.2.2.2.2.2.2.2.2.1, ()) H)
  (condE (fun S => some S.2.2.2.2.2.2.2.2.2.2.1)
   (seqE (leafE fun S H k =>
       bindV (evIdxSlice 1 S.1 S.2.1) fun t72 =>
       bindV (evLoad H false 1 t72) fun t73 =>
       bindV (evIdxSlice 1 S.1 S.2.2.2.2.2.2.2.1) fun t76 =>
       bindV (evLoad H false 1 t76) fun t77 =>
       bindV (evIdxSlice 1 S.1 S.2.2.2.2.2.2.2.1) fun t78 =>
       bindV (evStore lo H 1 t78 t73) fun H23 =>
       bindV (evIdxSlice 1 S.1 S.2.1) fun t79 =>
       bindV (evStore lo H23 1 t79 t77) fun H24 =>
       k (S.1, S.2.1, S.2.2.1, S.2.2.2.1, S.2.2.2.2.1, S.2.2.2.2.2.1, S.2.2.2.2.2.2.1, S.2.2.2.2.2.2.2.1, S.2.2.2.2.2.2.2.2.1, S.2.2.2.2.2.2.2.2.2.1, S.2.2.2.2.2.2.2.2.2.2.1, S.2.2.2.2.2.2.2.2.2.2.2.1, S.2.2.2.2.2.2.2.2.2.2.2.2.1, S.2.2.2.2.2.2.2.2.2.2.2.2.2.1, ()) H24)
   (seqE (leafE fun S H k =>
       k (S.1, S.2.1, S.2.2.1, S.2.2.2.1, S.2.2.2.2.2.2.2.1, (.bool true), S.2.2.2.2.2.2.1, S.2.2.2.2.2.2.2.1, S.2.2.2.2.2.2.2.2.1, S.2.2.2.2.2.2.2.2.2.1, S.2.2.2.2.2.2.2.2.2.2.1, S.2.2.2.2.2.2.2.2.2.2.2.1, S.2.2.2.2.2.2.2.2.2.2.2.2.1, S.2.2.2.2.2.2.2.2.2.2.2.2.2.1, ()) H)
   (doneE .ret)))
   (doneE .normal)))
  (seqE (leafE fun S H k =>
      bindV (evIdxSlice 1 S.1 S.2.2.2.2.2.2.2.1) fun t87 =>
      bindV (evLoad H false 1 t87) fun t88 =>
      bindV (evIdxSlice 1 S.1 S.2.2.2.2.2.2.1) fun t91 =>
      bindV (evLoad H false 1 t91) fun t92 =>
      bindV (evIdxSlice 1 S.1 S.2.2.2.2.2.2.1) fun t93 =>
      bindV (evStore lo H 1 t93 t88) fun H25 =>
      bindV (evIdxSlice 1 S.1 S.2.2.2.2.2.2.2.1) fun t94 =>
      bindV (evStore lo H25 1 t94 t92) fun H26 =>
      k (S.1, S.2.1, S.2.2.1, S.2.2.2.1, S.2.2.2.2.1, S.2.2.2.2.2.1, S.2.2.2.2.2.2.1, S.2.2.2.2.2.2.2.1, S.2.2.2.2.2.2.2.2.1, S.2.2.2.2.2.2.2.2.2.1, S.2.2.2.2.2.2.2.2.2.2.1, S.2.2.2.2.2.2.2.2.2.2.2.1, S.2.2.2.2.2.2.2.2.2.2.2.2.1, S.2.2.2.2.2.2.2.2.2.2.2.2.2.1, ()) H26)
  (seqE (leafE fun S H k =>
      bindV (evAdd S.2.2.2.2.2.2.1 (.int .i64 (.ofNat 1))) fun t96 =>
      k (S.1, S.2.1, S.2.2.1, S.2.2.2.1, S.2.2.2.2.1, S.2.2.2.2.2.1, t96, S.2.2.2.2.2.2.2.1, S.2.2.2.2.2.2.2.2.1, S.2.2.2.2.2.2.2.2.2.1, S.2.2.2.2.2.2.2.2.2.2.1, S.2.2.2.2.2.2.2.2.2.2.2.1, S.2.2.2.2.2.2.2.2.2.2.2.2.1, S.2.2.2.2.2.2.2.2.2.2.2.2.2.1, ()) H)
  (seqE (leafE fun S H k =>
      bindV (evSub S.2.2.2.2.2.2.2.1 (.int .i64 (.ofNat 1))) fun t98 =>
      k (S.1, S.2.1, S.2.2.1, S.2.2.2.1, S.2.2.2.2.1, S.2.2.2.2.2.1, S.2.2.2.2.2.2.1, t98, S.2.2.2.2.2.2.2.2.1, S.2.2.2.2.2.2.2.2.2.1, S.2.2.2.2.2.2.2.2.2.2.1, S.2.2.2.2.2.2.2.2.2.2.2.1, S.2.2.2.2.2.2.2.2.2.2.2.2.1, S.2.2.2.2.2.2.2.2.2.2.2.2.2.1, ()) H)
  (seqE (blockE 4 (loopE (blockE 5 (seqE (blockE 6 (loopE (seqE (seqE (leafE fun S H k =>
           bindV (evLeq S.2.2.2.2.2.2.1 S.2.2.2.2.2.2.2.1) fun t101 =>
           guarded t101 true ( pairVH S.1 H) H fun t103 H27 =>
           guarded t101 true ( pairVH S.2.2.2.2.2.2.1 H27) H27 fun t104 H28 =>
           guarded t101 true (bindV (evIdxSlice 1 t103 t104) fun t1000000 => pairVH t1000000 H28) H28 fun t105 H29 =>
           guarded t101 true (bindV (evLoad H29 false 1 t105) fun t1000000 => pairVH t1000000 H29) H29 fun t106 H30 =>
           guarded t101 true ( pairVH S.1 H30) H30 fun t107 H31 =>
           guarded t101 true ( pairVH S.2.1 H31) H31 fun t108 H32 =>
           guarded t101 true (bindV (evIdxSlice 1 t107 t108) fun t1000000 => pairVH t1000000 H32) H32 fun t109 H33 =>
           guarded t101 true (bindV (evLoad H33 false 1 t109) fun t1000000 => pairVH t1000000 H33) H33 fun t110 H34 =>
           guarded t101 true (bindVH (call lo 94 [t106, t110] H34) fun t1000000 H35 => pairVH t1000000 H35) H34 fun t111 H36 =>
           bindV (evPick t101 t111 (.bool false)) fun t112 =>
           k (S.1, S.2.1, S.2.2.1, S.2.2.2.1, S.2.2.2.2.1, S.2.2.2.2.2.1, S.2.2.2.2.2.2.1, S.2.2.2.2.2.2.2.1, S.2.2.2.2.2.2.2.2.1, S.2.2.2.2.2.2.2.2.2.1, S.2.2.2.2.2.2.2.2.2.2.1, t112, S.2.2.2.2.2.2.2.2.2.2.2.2.1, S.2.2.2.2.2.2.2.2.2.2.2.2.2.1, ()) H36)
       (condE (fun S => some S.2.2.2.2.2.2.2.2.2.2.2.1)
        (doneE .normal)
        (doneE (.exit 6))))
       (blockE 7 (leafE fun S H k =>
            bindV (evAdd S.2.2.2.2.2.2.1 (.int .i64 (.ofNat 1))) fun t114 =>
            k (S.1, S.2.1, S.2.2.1, S.2.2.2.1, S.2.2.2.2.1, S.2.2.2.2.2.1, t114, S.2.2.2.2.2.2.2.1, S.2.2.2.2.2.2.2.2.1, S.2.2.2.2.2.2.2.2.2.1, S.2.2.2.2.2.2.2.2.2.2.1, S.2.2.2.2.2.2.2.2.2.2.2.1, S.2.2.2.2.2.2.2.2.2.2.2.2.1, S.2.2.2.2.2.2.2.2.2.2.2.2.2.1, ()) H))) fuel))
     (seqE (blockE 8 (loopE (seqE (seqE (leafE fun S H k =>
           bindV (evLeq S.2.2.2.2.2.2.1 S.2.2.2.2.2.2.2.1) fun t117 =>
           guarded t117 true ( pairVH S.1 H) H fun t119 H37 =>
           guarded t117 true ( pairVH S.2.2.2.2.2.2.2.1 H37) H37 fun t120 H38 =>
           guarded t117 true (bindV (evIdxSlice 1 t119 t120) fun t1000000 => pairVH t1000000 H38) H38 fun t121 H39 =>
           guarded t117 true (bindV (evLoad H39 false 1 t121) fun t1000000 => pairVH t1000000 H39) H39 fun t122 H40 =>
           guarded t117 true ( pairVH S.1 H40) H40 fun t123 H41 =>
           guarded t117 true ( pairVH S.2.1 H41) H41 fun t124 H42 =>
           guarded t117 true (bindV (evIdxSlice 1 t123 t124) fun t1000000 => pairVH t1000000 H42) H42 fun t125 H43 =>
           guarded t117 true (bindV (evLoad H43 false 1 t125) fun t1000000 => pairVH t1000000 H43) H43 fun t126 H44 =>
           guarded t117 true (bindVH (call lo 94 [t122, t126] H44) fun t1000000 H45 => pairVH t1000000 H45) H44 fun t127 H46 =>
           guarded t117 true (bindV (evNot t127) fun t1000000 => pairVH t1000000 H46) H46 fun t128 H47 =>
           bindV (evPick t117 t128 (.bool false)) fun t129 =>
           k (S.1, S.2.1, S.2.2.1, S.2.2.2.1, S.2.2.2.2.1, S.2.2.2.2.2.1, S.2.2.2.2.2.2.1, S.2.2.2.2.2.2.2.1, S.2.2.2.2.2.2.2.2.1, S.2.2.2.2.2.2.2.2.2.1, S.2.2.2.2.2.2.2.2.2.2.1, S.2.2.2.2.2.2.2.2.2.2.2.1, t129, S.2.2.2.2.2.2.2.2.2.2.2.2.2.1, ()) H47)
       (condE (fun S => some S.2.2.2.2.2.2.2.2.2.2.2.2.1)
        (doneE .normal)
        (doneE (.exit 8))))
       (blockE 9 (leafE fun S H k =>
            bindV (evSub S.2.2.2.2.2.2.2.1 (.int .i64 (.ofNat 1))) fun t131 =>
            k (S.1, S.2.1, S.2.2.1, S.2.2.2.1, S.2.2.2.2.1, S.2.2.2.2.2.1, S.2.2.2.2.2.2.1, t131, S.2.2.2.2.2.2.2.2.1, S.2.2.2.2.2.2.2.2.2.1, S.2.2.2.2.2.2.2.2.2.2.1, S.2.2.2.2.2.2.2.2.2.2.2.1, S.2.2.2.2.2.2.2.2.2.2.2.2.1, S.2.2.2.2.2.2.2.2.2.2.2.2.2.1, ()) H))) fuel))
     (seqE (seqE (leafE fun S H k =>
         bindV (evGtr S.2.2.2.2.2.2.1 S.2.2.2.2.2.2.2.1) fun t134 =>
         k (S.1, S.2.1, S.2.2.1, S.2.2.2.1, S.2.2.2.2.1, S.2.2.2.2.2.1, S.2.2.2.2.2.2.1, S.2.2.2.2.2.2.2.1, S.2.2.2.2.2.2.2.2.1, S.2.2.2.2.2.2.2.2.2.1, S.2.2.2.2.2.2.2.2.2.2.1, S.2.2.2.2.2.2.2.2.2.2.2.1, S.2.2.2.2.2.2.2.2.2.2.2.2.1, t134, ()) H)
     (condE (fun S => some S.2.2.2.2.2.2.2.2.2.2.2.2.2.1)
      (doneE (.exit 4))
      (doneE .normal)))
     (seqE (leafE fun S H k =>
         bindV (evIdxSlice 1 S.1 S.2.2.2.2.2.2.2.1) fun t141 =>
         bindV (evLoad H false 1 t141) fun t142 =>
         bindV (evIdxSlice 1 S.1 S.2.2.2.2.2.2.1) fun t145 =>
         bindV (evLoad H false 1 t145) fun t146 =>
         bindV (evIdxSlice 1 S.1 S.2.2.2.2.2.2.1) fun t147 =>
         bindV (evStore lo H 1 t147 t142) fun H48 =>
         bindV (evIdxSlice 1 S.1 S.2.2.2.2.2.2.2.1) fun t148 =>
         bindV (evStore lo H48 1 t148 t146) fun H49 =>
         k (S.1, S.2.1, S.2.2.1, S.2.2.2.1, S.2.2.2.2.1, S.2.2.2.2.2.1, S.2.2.2.2.2.2.1, S.2.2.2.2.2.2.2.1, S.2.2.2.2.2.2.2.2.1, S.2.2.2.2.2.2.2.2.2.1, S.2.2.2.2.2.2.2.2.2.2.1, S.2.2.2.2.2.2.2.2.2.2.2.1, S.2.2.2.2.2.2.2.2.2.2.2.2.1, S.2.2.2.2.2.2.2.2.2.2.2.2.2.1, ()) H49)
     (seqE (leafE fun S H k =>
         bindV (evAdd S.2.2.2.2.2.2.1 (.int .i64 (.ofNat 1))) fun t150 =>
         k (S.1, S.2.1, S.2.2.1, S.2.2.2.1, S.2.2.2.2.1, S.2.2.2.2.2.1, t150, S.2.2.2.2.2.2.2.1, S.2.2.2.2.2.2.2.2.1, S.2.2.2.2.2.2.2.2.2.1, S.2.2.2.2.2.2.2.2.2.2.1, S.2.2.2.2.2.2.2.2.2.2.2.1, S.2.2.2.2.2.2.2.2.2.2.2.2.1, S.2.2.2.2.2.2.2.2.2.2.2.2.2.1, ()) H)
     (leafE fun S H k =>
         bindV (evSub S.2.2.2.2.2.2.2.1 (.int .i64 (.ofNat 1))) fun t152 =>
         k (S.1, S.2.1, S.2.2.1, S.2.2.2.1, S.2.2.2.2.1, S.2.2.2.2.2.1, S.2.2.2.2.2.2.1, t152, S.2.2.2.2.2.2.2.2.1, S.2.2.2.2.2.2.2.2.2.1, S.2.2.2.2.2.2.2.2.2.2.1, S.2.2.2.2.2.2.2.2.2.2.2.1, S.2.2.2.2.2.2.2.2.2.2.2.2.1, S.2.2.2.2.2.2.2.2.2.2.2.2.2.1, ()) H))))))) fuel))
  (seqE (leafE fun S H k =>
      bindV (evIdxSlice 1 S.1 S.2.1) fun t159 =>
      bindV (evLoad H false 1 t159) fun t160 =>
      bindV (evIdxSlice 1 S.1 S.2.2.2.2.2.2.2.1) fun t163 =>
      bindV (evLoad H false 1 t163) fun t164 =>
      bindV (evIdxSlice 1 S.1 S.2.2.2.2.2.2.2.1) fun t165 =>
      bindV (evStore lo H 1 t165 t160) fun H50 =>
      bindV (evIdxSlice 1 S.1 S.2.1) fun t166 =>
      bindV (evStore lo H50 1 t166 t164) fun H51 =>
      k (S.1, S.2.1, S.2.2.1, S.2.2.2.1, S.2.2.2.2.1, S.2.2.2.2.2.1, S.2.2.2.2.2.2.1, S.2.2.2.2.2.2.2.1, S.2.2.2.2.2.2.2.2.1, S.2.2.2.2.2.2.2.2.2.1, S.2.2.2.2.2.2.2.2.2.2.1, S.2.2.2.2.2.2.2.2.2.2.2.1, S.2.2.2.2.2.2.2.2.2.2.2.2.1, S.2.2.2.2.2.2.2.2.2.2.2.2.2.1, ()) H51)
  (seqE (leafE fun S H k =>
      k (S.1, S.2.1, S.2.2.1, S.2.2.2.1, S.2.2.2.2.2.2.2.1, (.bool false), S.2.2.2.2.2.2.1, S.2.2.2.2.2.2.2.1, S.2.2.2.2.2.2.2.2.1, S.2.2.2.2.2.2.2.2.2.1, S.2.2.2.2.2.2.2.2.2.2.1, S.2.2.2.2.2.2.2.2.2.2.2.1, S.2.2.2.2.2.2.2.2.2.2.2.2.1, S.2.2.2.2.2.2.2.2.2.2.2.2.2.1, ()) H)
  (doneE .ret)))))))))))))

def F96 (call : CallF) (lo : Nat) (args : List Value) (H : AH) : Option (Value × AH) :=
  leave .all H (bindV (C96 call (lowOf .all lo H) (argAt args 0, argAt args 1, argAt args 2, argAt args 3, argAt args 8, argAt args 9, argAt args 10, argAt args 11, argAt args 43, argAt args 60, argAt args 65, argAt args 112, argAt args 129, argAt args 134, ()) H) fun p => resE p.1 (some (oneOf [p.2.1.2.2.2.2.1, p.2.1.2.2.2.2.2.1], p.2.2)))

theorem F96_eq (call : CallF) (lo : Nat) (args : List Value) (H : AH) : evFn P ctx call lo 96 args H = F96 call lo args H := by kernel_rfl

/-- math/bits.Len32 -/
def C97 (call : CallF) (lo : Nat) : Piece (Value × Value × Value × Value × Unit) :=
  (seqE (leafE fun S H k =>
      k (S.1, (.int .i64 (.ofNat 0)), S.2.2.1, S.2.2.2.1, ()) H)
  (seqE (seqE (leafE fun S H k =>
      bindV (evGeq S.1 (.int .u32 (.ofNat 65536))) fun t4 =>
      k (S.1, S.2.1, t4, S.2.2.2.1, ()) H)
  (condE (fun S => some S.2.2.1)
   (seqE (leafE fun S H k =>
       bindV (evShr S.1 (.int .u64 (.ofNat 16))) fun t6 =>
       k (t6, S.2.1, S.2.2.1, S.2.2.2.1, ()) H)
   (leafE fun S H k =>
       k (S.1, (.int .i64 (.ofNat 16)), S.2.2.1, S.2.2.2.1, ()) H))
   (doneE .normal)))
  (seqE (seqE (leafE fun S H k =>
      bindV (evGeq S.1 (.int .u32 (.ofNat 256))) fun t8 =>
      k (S.1, S.2.1, S.2.2.1, t8, ()) H)
  (condE (fun S => some S.2.2.2.1)
   (seqE (leafE fun S H k =>
       bindV (evShr S.1 (.int .u64 (.ofNat 8))) fun t10 =>
       k (t10, S.2.1, S.2.2.1, S.2.2.2.1, ()) H)
   (leafE fun S H k =>
       bindV (evAdd S.2.1 (.int .i64 (.ofNat 8))) fun t12 =>
       k (S.1, t12, S.2.2.1, S.2.2.2.1, ()) H))
   (doneE .normal)))
  (seqE (leafE fun S H k =>
      bindV (evConv .u8 S.1) fun t15 =>
      bindV (evIdxStr str2 t15) fun t16 =>
      bindV (evConv .i64 t16) fun t17 =>
      bindV (evAdd S.2.1 t17) fun t18 =>
      k (S.1, t18, S.2.2.1, S.2.2.2.1, ()) H)
  (doneE .ret)))))

def F97 (call : CallF) (lo : Nat) (args : List Value) (H : AH) : Option (Value × AH) :=
  leave .all H (bindV (C97 call (lowOf .all lo H) (argAt args 0, argAt args 2, argAt args 4, argAt args 8, ()) H) fun p => resE p.1 (some (oneOf [p.2.1.2.1], p.2.2)))

theorem F97_eq (call : CallF) (lo : Nat) (args : List Value) (H : AH) : evFn P ctx call lo 97 args H = F97 call lo args H := by kernel_rfl

/-- math/bits.Len64 -/
def C98 (call : CallF) (lo : Nat) : Piece (Value × Value × Value × Value × Value × Unit) :=
  (seqE (leafE fun S H k =>
      k (S.1, (.int .i64 (.ofNat 0)), S.2.2.1, S.2.2.2.1, S.2.2.2.2.1, ()) H)
  (seqE (seqE (leafE fun S H k =>
      bindV (evGeq S.1 (.int .u64 (.ofNat 4294967296))) fun t4 =>
      k (S.1, S.2.1, t4, S.2.2.2.1, S.2.2.2.2.1, ()) H)
  (condE (fun S => some S.2.2.1)
   (seqE (leafE fun S H k =>
       bindV (evShr S.1 (.int .u64 (.ofNat 32))) fun t6 =>
       k (t6, S.2.1, S.2.2.1, S.2.2.2.1, S.2.2.2.2.1, ()) H)
   (leafE fun S H k =>
       k (S.1, (.int .i64 (.ofNat 32)), S.2.2.1, S.2.2.2.1, S.2.2.2.2.1, ()) H))
   (doneE .normal)))
  (seqE (seqE (leafE fun S H k =>
      bindV (evGeq S.1 (.int .u64 (.ofNat 65536))) fun t8 =>
      k (S.1, S.2.1, S.2.2.1, t8, S.2.2.2.2.1, ()) H)
  (condE (fun S => some S.2.2.2.1)
   (seqE (leafE fun S H k =>
       bindV (evShr S.1 (.int .u64 (.ofNat 16))) fun t10 =>
       k (t10, S.2.1, S.2.2.1, S.2.2.2.1, S.2.2.2.2.1, ()) H)
   (leafE fun S H k =>
       bindV (evAdd S.2.1 (.int .i64 (.ofNat 16))) fun t12 =>
       k (S.1, t12, S.2.2.1, S.2.2.2.1, S.2.2.2.2.1, ()) H))
   (doneE .normal)))
  (seqE (seqE (leafE fun S H k =>
      bindV (evGeq S.1 (.int .u64 (.ofNat 256))) fun t14 =>
      k (S.1, S.2.1, S.2.2.1, S.2.2.2.1, t14, ()) H)
  (condE (fun S => some S.2.2.2.2.1)
   (seqE (leafE fun S H k =>
       bindV (evShr S.1 (.int .u64 (.ofNat 8))) fun t16 =>
       k (t16, S.2.1, S.2.2.1, S.2.2.2.1, S.2.2.2.2.1, ()) H)
   (leafE fun S H k =>
       bindV (evAdd S.2.1 (.int .i64 (.ofNat 8))) fun t18 =>
       k (S.1, t18, S.2.2.1, S.2.2.2.1, S.2.2.2.2.1, ()) H))
   (doneE .normal)))
  (seqE (leafE fun S H k =>
      bindV (evConv .u8 S.1) fun t21 =>
      bindV (evIdxStr str2 t21) fun t22 =>
      bindV (evConv .i64 t22) fun t23 =>
      bindV (evAdd S.2.1 t23) fun t24 =>
      k (S.1, t24, S.2.2.1, S.2.2.2.1, S.2.2.2.2.1, ()) H)
  (doneE .ret))))))

def F98 (call : CallF) (lo : Nat) (args : List Value) (H : AH) : Option (Value × AH) :=
  leave .all H (bindV (C98 call (lowOf .all lo H) (argAt args 0, argAt args 2, argAt args 4, argAt args 8, argAt args 14, ()) H) fun p => resE p.1 (some (oneOf [p.2.1.2.1], p.2.2)))

theorem F98_eq (call : CallF) (lo : Nat) (args : List Value) (H : AH) : evFn P ctx call lo 98 args H = F98 call lo args H := by kernel_rfl

/-- cmp.Compare[int] -/
def C99 (call : CallF) (lo : Nat) : Piece (Value × Value × Value × Value × Value × Value × Value × Value × Value × Value × Unit) :=
  (seqE (leafE fun S H k =>
      k (S.1, S.2.1, (.int .i64 (.ofNat 0)), S.2.2.2.1, S.2.2.2.2.1, S.2.2.2.2.2.1, S.2.2.2.2.2.2.1, S.2.2.2.2.2.2.2.1, S.2.2.2.2.2.2.2.2.1, S.2.2.2.2.2.2.2.2.2.1, ()) H)
  (seqE (leafE fun S H k =>
      bindVH (call lo 106 [S.1] H) fun t8 H0 =>
      k (S.1, S.2.1, S.2.2.1, t8, S.2.2.2.2.1, S.2.2.2.2.2.1, S.2.2.2.2.2.2.1, S.2.2.2.2.2.2.2.1, S.2.2.2.2.2.2.2.2.1, S.2.2.2.2.2.2.2.2.2.1, ()) H0)
  (seqE (leafE fun S H k =>
      bindVH (call lo 106 [S.2.1] H) fun t10 H1 =>
      k (S.1, S.2.1, S.2.2.1, S.2.2.2.1, t10, S.2.2.2.2.2.1, S.2.2.2.2.2.2.1, S.2.2.2.2.2.2.2.1, S.2.2.2.2.2.2.2.2.1, S.2.2.2.2.2.2.2.2.2.1, ()) H1)
  (seqE (seqE (leafE fun S H k =>
      k (S.1, S.2.1, S.2.2.1, S.2.2.2.1, S.2.2.2.2.1, S.2.2.2.1, S.2.2.2.2.2.2.1, S.2.2.2.2.2.2.2.1, S.2.2.2.2.2.2.2.2.1, S.2.2.2.2.2.2.2.2.2.1, ()) H)
  (condE (fun S => some S.2.2.2.2.2.1)
   (seqE (seqE (leafE fun S H k =>
       k (S.1, S.2.1, S.2.2.1, S.2.2.2.1, S.2.2.2.2.1, S.2.2.2.2.2.1, S.2.2.2.2.1, S.2.2.2.2.2.2.2.1, S.2.2.2.2.2.2.2.2.1, S.2.2.2.2.2.2.2.2.2.1, ()) H)
   (condE (fun S => some S.2.2.2.2.2.2.1)
    (seqE (leafE fun S H k =>
        k (S.1, S.2.1, (.int .i64 (.ofNat 0)), S.2.2.2.1, S.2.2.2.2.1, S.2.2.2.2.2.1, S.2.2.2.2.2.2.1, S.2.2.2.2.2.2.2.1, S.2.2.2.2.2.2.2.2.1, S.2.2.2.2.2.2.2.2.2.1, ()) H)
    (doneE .ret))
    (doneE .normal)))
   (seqE (leafE fun S H k =>
       k (S.1, S.2.1, (.int .i64 (.negSucc 0)), S.2.2.2.1, S.2.2.2.2.1, S.2.2.2.2.2.1, S.2.2.2.2.2.2.1, S.2.2.2.2.2.2.2.1, S.2.2.2.2.2.2.2.2.1, S.2.2.2.2.2.2.2.2.2.1, ()) H)
   (doneE .ret)))
   (doneE .normal)))
  (seqE (seqE (leafE fun S H k =>
      k (S.1, S.2.1, S.2.2.1, S.2.2.2.1, S.2.2.2.2.1, S.2.2.2.2.2.1, S.2.2.2.2.2.2.1, S.2.2.2.2.1, S.2.2.2.2.2.2.2.2.1, S.2.2.2.2.2.2.2.2.2.1, ()) H)
  (condE (fun S => some S.2.2.2.2.2.2.2.1)
   (seqE (leafE fun S H k =>
       k (S.1, S.2.1, (.int .i64 (.ofNat 1)), S.2.2.2.1, S.2.2.2.2.1, S.2.2.2.2.2.1, S.2.2.2.2.2.2.1, S.2.2.2.2.2.2.2.1, S.2.2.2.2.2.2.2.2.1, S.2.2.2.2.2.2.2.2.2.1, ()) H)
   (doneE .ret))
   (doneE .normal)))
  (seqE (seqE (leafE fun S H k =>
      bindV (evLss S.1 S.2.1) fun t16 =>
      k (S.1, S.2.1, S.2.2.1, S.2.2.2.1, S.2.2.2.2.1, S.2.2.2.2.2.1, S.2.2.2.2.2.2.1, S.2.2.2.2.2.2.2.1, t16, S.2.2.2.2.2.2.2.2.2.1, ()) H)
  (condE (fun S => some S.2.2.2.2.2.2.2.2.1)
   (seqE (leafE fun S H k =>
       k (S.1, S.2.1, (.int .i64 (.negSucc 0)), S.2.2.2.1, S.2.2.2.2.1, S.2.2.2.2.2.1, S.2.2.2.2.2.2.1, S.2.2.2.2.2.2.2.1, S.2.2.2.2.2.2.2.2.1, S.2.2.2.2.2.2.2.2.2.1, ()) H)
   (doneE .ret))
   (doneE .normal)))
  (seqE (seqE (leafE fun S H k =>
      bindV (evGtr S.1 S.2.1) fun t19 =>
      k (S.1, S.2.1, S.2.2.1, S.2.2.2.1, S.2.2.2.2.1, S.2.2.2.2.2.1, S.2.2.2.2.2.2.1, S.2.2.2.2.2.2.2.1, S.2.2.2.2.2.2.2.2.1, t19, ()) H)
  (condE (fun S => some S.2.2.2.2.2.2.2.2.2.1)
   (seqE (leafE fun S H k =>
       k (S.1, S.2.1, (.int .i64 (.ofNat 1)), S.2.2.2.1, S.2.2.2.2.1, S.2.2.2.2.2.1, S.2.2.2.2.2.2.1, S.2.2.2.2.2.2.2.1, S.2.2.2.2.2.2.2.2.1, S.2.2.2.2.2.2.2.2.2.1, ()) H)
   (doneE .ret))
   (doneE .normal)))
  (seqE (leafE fun S H k =>
      k (S.1, S.2.1, (.int .i64 (.ofNat 0)), S.2.2.2.1, S.2.2.2.2.1, S.2.2.2.2.2.1, S.2.2.2.2.2.2.1, S.2.2.2.2.2.2.2.1, S.2.2.2.2.2.2.2.2.1, S.2.2.2.2.2.2.2.2.2.1, ()) H)
  (doneE .ret)))))))))

def F99 (call : CallF) (lo : Nat) (args : List Value) (H : AH) : Option (Value × AH) :=
  leave .all H (bindV (C99 call (lowOf .all lo H) (argAt args 0, argAt args 1, argAt args 4, argAt args 5, argAt args 6, argAt args 11, argAt args 12, argAt args 13, argAt args 16, argAt args 19, ()) H) fun p => resE p.1 (some (oneOf [p.2.1.2.2.1], p.2.2)))

theorem F99_eq (call : CallF) (lo : Nat) (args : List Value) (H : AH) : evFn P ctx call lo 99 args H = F99 call lo args H := by kernel_rfl

/-- slices.IndexFunc[[]int,int] -/
def C100 (call : CallF) (lo : Nat) : Piece (Value × Value × Value × Value × Value × Value × Value × Value × Unit) :=
  (seqE (leafE fun S H k =>
      k (S.1, S.2.1, (.int .i64 (.ofNat 0)), S.2.2.2.1, S.2.2.2.2.1, S.2.2.2.2.2.1, S.2.2.2.2.2.2.1, S.2.2.2.2.2.2.2.1, ()) H)
  (seqE (seqE (leafE fun S H k =>
      bindV (evLenS S.1) fun t7 =>
      k (S.1, S.2.1, S.2.2.1, S.2.2.2.1, t7, (.int .i64 (.ofNat 0)), S.2.2.2.2.2.2.1, S.2.2.2.2.2.2.2.1, ()) H)
  (blockE 0 (loopE (seqE (leafE fun S H k =>
        bindV (evLss S.2.2.2.2.2.1 S.2.2.2.2.1) fun t9 =>
        k (S.1, S.2.1, S.2.2.1, S.2.2.2.1, S.2.2.2.2.1, S.2.2.2.2.2.1, t9, S.2.2.2.2.2.2.2.1, ()) H)
    (seqE (condE (fun S => some S.2.2.2.2.2.2.1)
     (doneE .normal)
     (doneE (.exit 0)))
    (seqE (blockE 1 (seqE (leafE fun S H k =>
         k (S.1, S.2.1, S.2.2.1, S.2.2.2.2.2.1, S.2.2.2.2.1, S.2.2.2.2.2.1, S.2.2.2.2.2.2.1, S.2.2.2.2.2.2.2.1, ()) H)
     (seqE (leafE fun S H k =>
         bindV (evIdxSlice 1 S.1 S.2.2.2.1) fun t14 =>
         bindV (evLoad H false 1 t14) fun t15 =>
         callVal call lo S.2.1 [t15] H fun t16 H0 =>
         k (S.1, S.2.1, S.2.2.1, S.2.2.2.1, S.2.2.2.2.1, S.2.2.2.2.2.1, S.2.2.2.2.2.2.1, t16, ()) H0)
     (condE (fun S => some S.2.2.2.2.2.2.2.1)
      (seqE (leafE fun S H k =>
          k (S.1, S.2.1, S.2.2.2.1, S.2.2.2.1, S.2.2.2.2.1, S.2.2.2.2.2.1, S.2.2.2.2.2.2.1, S.2.2.2.2.2.2.2.1, ()) H)
      (doneE .ret))
      (doneE .normal)))))
    (leafE fun S H k =>
        bindV (evAdd S.2.2.2.2.2.1 (.int .i64 (.ofNat 1))) fun t18 =>
        k (S.1, S.2.1, S.2.2.1, S.2.2.2.1, S.2.2.2.2.1, t18, S.2.2.2.2.2.2.1, S.2.2.2.2.2.2.2.1, ()) H)))) fuel)))
  (seqE (leafE fun S H k =>
      k (S.1, S.2.1, (.int .i64 (.negSucc 0)), S.2.2.2.1, S.2.2.2.2.1, S.2.2.2.2.2.1, S.2.2.2.2.2.2.1, S.2.2.2.2.2.2.2.1, ()) H)
  (doneE .ret))))

def F100 (call : CallF) (lo : Nat) (args : List Value) (H : AH) : Option (Value × AH) :=
  leave .all H (bindV (C100 call (lowOf .all lo H) (argAt args 0, argAt args 1, argAt args 4, argAt args 5, argAt args 7, argAt args 8, argAt args 9, argAt args 16, ()) H) fun p => resE p.1 (some (oneOf [p.2.1.2.2.1], p.2.2)))

theorem F100_eq (call : CallF) (lo : Nat) (args : List Value) (H : AH) : evFn P ctx call lo 100 args H = F100 call lo args H := by kernel_rfl

/-- slices.siftDownOrdered[int] -/
def C101 (call : CallF) (lo : Nat) : Piece (Value × Value × Value × Value × Value × Value × Value × Value × Value × Unit) :=
  (seqE (leafE fun S H k =>
      k (S.1, S.2.1, S.2.2.1, S.2.2.2.1, S.2.1, S.2.2.2.2.2.1, S.2.2.2.2.2.2.1, S.2.2.2.2.2.2.2.1, S.2.2.2.2.2.2.2.2.1, ()) H)
  (blockE 0 (loopE (blockE 1 (seqE (leafE fun S H k =>
         bindV (evMul (.int .i64 (.ofNat 2)) S.2.2.2.2.1) fun t12 =>
         bindV (evAdd t12 (.int .i64 (.ofNat 1))) fun t13 =>
         k (S.1, S.2.1, S.2.2.1, S.2.2.2.1, S.2.2.2.2.1, t13, S.2.2.2.2.2.2.1, S.2.2.2.2.2.2.2.1, S.2.2.2.2.2.2.2.2.1, ()) H)
     (seqE (seqE (leafE fun S H k =>
         bindV (evGeq S.2.2.2.2.2.1 S.2.2.1) fun t16 =>
         k (S.1, S.2.1, S.2.2.1, S.2.2.2.1, S.2.2.2.2.1, S.2.2.2.2.2.1, t16, S.2.2.2.2.2.2.2.1, S.2.2.2.2.2.2.2.2.1, ()) H)
     (condE (fun S => some S.2.2.2.2.2.2.1)
      (doneE (.exit 0))
      (doneE .normal)))
     (seqE (seqE (leafE fun S H k =>
         bindV (evAdd S.2.2.2.2.2.1 (.int .i64 (.ofNat 1))) fun t18 =>
         bindV (evLss t18 S.2.2.1) fun t20 =>
         guarded t20 true ( pairVH S.1 H) H fun t22 H0 =>
         guarded t20 true ( pairVH S.2.2.2.1 H0) H0 fun t23 H1 =>
         guarded t20 true ( pairVH S.2.2.2.2.2.1 H1) H1 fun t24 H2 =>
         guarded t20 true (bindV (evAdd t23 t24) fun t1000000 => pairVH t1000000 H2) H2 fun t25 H3 =>
         guarded t20 true (bindV (evIdxSlice 1 t22 t25) fun t1000000 => pairVH t1000000 H3) H3 fun t26 H4 =>
         guarded t20 true (bindV (evLoad H4 false 1 t26) fun t1000000 => pairVH t1000000 H4) H4 fun t27 H5 =>
         guarded t20 true ( pairVH S.1 H5) H5 fun t28 H6 =>
         guarded t20 true ( pairVH S.2.2.2.1 H6) H6 fun t29 H7 =>
         guarded t20 true ( pairVH S.2.2.2.2.2.1 H7) H7 fun t30 H8 =>
         guarded t20 true (bindV (evAdd t29 t30) fun t1000000 => pairVH t1000000 H8) H8 fun t31 H9 =>
         guarded t20 true (bindV (evAdd t31 (.int .i64 (.ofNat 1))) fun t1000000 => pairVH t1000000 H9) H9 fun t32 H10 =>
         guarded t20 true (bindV (evIdxSlice 1 t28 t32) fun t1000000 => pairVH t1000000 H10) H10 fun t33 H11 =>
         guarded t20 true (bindV (evLoad H11 false 1 t33) fun t1000000 => pairVH t1000000 H11) H11 fun t34 H12 =>
         guarded t20 true (bindVH (call lo 94 [t27, t34] H12) fun t1000000 H13 => pairVH t1000000 H13) H12 fun t35 H14 =>
         bindV (evPick t20 t35 (.bool false)) fun t36 =>
         k (S.1, S.2.1, S.2.2.1, S.2.2.2.1, S.2.2.2.2.1, S.2.2.2.2.2.1, S.2.2.2.2.2.2.1, t36, S.2.2.2.2.2.2.2.2.1, ()) H14)
     (condE (fun S => some S.2.2.2.2.2.2.2.1)
      (leafE fun S H k =>
          bindV (evAdd S.2.2.2.2.2.1 (.int .i64 (.ofNat 1))) fun t38 =>
          k (S.1, S.2.1, S.2.2.1, S.2.2.2.1, S.2.2.2.2.1, t38, S.2.2.2.2.2.2.1, S.2.2.2.2.2.2.2.1, S.2.2.2.2.2.2.2.2.1, ()) H)
      (doneE .normal)))
     (seqE (seqE (leafE fun S H k =>
         bindV (evAdd S.2.2.2.1 S.2.2.2.2.1) fun t42 =>
         bindV (evIdxSlice 1 S.1 t42) fun t43 =>
         bindV (evLoad H false 1 t43) fun t44 =>
         bindV (evAdd S.2.2.2.1 S.2.2.2.2.2.1) fun t48 =>
         bindV (evIdxSlice 1 S.1 t48) fun t49 =>
         bindV (evLoad H false 1 t49) fun t50 =>
         bindVH (call lo 94 [t44, t50] H) fun t51 H15 =>
         bindV (evNot t51) fun t52 =>
         k (S.1, S.2.1, S.2.2.1, S.2.2.2.1, S.2.2.2.2.1, S.2.2.2.2.2.1, S.2.2.2.2.2.2.1, S.2.2.2.2.2.2.2.1, t52, ()) H15)
     (condE (fun S => some S.2.2.2.2.2.2.2.2.1)
      (doneE .ret)
      (doneE .normal)))
     (seqE (leafE fun S H k =>
         bindV (evAdd S.2.2.2.1 S.2.2.2.2.1) fun t56 =>
         bindV (evAdd S.2.2.2.1 S.2.2.2.2.2.1) fun t60 =>
         bindV (evAdd S.2.2.2.1 S.2.2.2.2.2.1) fun t64 =>
         bindV (evIdxSlice 1 S.1 t64) fun t65 =>
         bindV (evLoad H false 1 t65) fun t66 =>
         bindV (evAdd S.2.2.2.1 S.2.2.2.2.1) fun t70 =>
         bindV (evIdxSlice 1 S.1 t70) fun t71 =>
         bindV (evLoad H false 1 t71) fun t72 =>
         bindV (evIdxSlice 1 S.1 t56) fun t73 =>
         bindV (evStore lo H 1 t73 t66) fun H16 =>
         bindV (evIdxSlice 1 S.1 t60) fun t74 =>
         bindV (evStore lo H16 1 t74 t72) fun H17 =>
         k (S.1, S.2.1, S.2.2.1, S.2.2.2.1, S.2.2.2.2.1, S.2.2.2.2.2.1, S.2.2.2.2.2.2.1, S.2.2.2.2.2.2.2.1, S.2.2.2.2.2.2.2.2.1, ()) H17)
     (leafE fun S H k =>
         k (S.1, S.2.1, S.2.2.1, S.2.2.2.1, S.2.2.2.2.2.1, S.2.2.2.2.2.1, S.2.2.2.2.2.2.1, S.2.2.2.2.2.2.2.1, S.2.2.2.2.2.2.2.2.1, ()) H))))))) fuel)))

def F101 (call : CallF) (lo : Nat) (args : List Value) (H : AH) : Option (Value × AH) :=
  leave .all H (bindV (C101 call (lowOf .all lo H) (argAt args 0, argAt args 1, argAt args 2, argAt args 3, argAt args 8, argAt args 9, argAt args 16, argAt args 36, argAt args 52, ()) H) fun p => resE p.1 (some (oneOf [], p.2.2)))

theorem F101_eq (call : CallF) (lo : Nat) (args : List Value) (H : AH) : evFn P ctx call lo 101 args H = F101 call lo args H := by kernel_rfl

/-- slices.nextPowerOfTwo -/
def C102 (call : CallF) (lo : Nat) : Piece (Value × Value × Unit) :=
  (seqE (leafE fun S H k =>
      k (S.1, (.int .u64 (.ofNat 0)), ()) H)
  (seqE (leafE fun S H k =>
      bindV (evConv .u64 S.1) fun t4 =>
      bindVH (call lo 77 [t4] H) fun t5 H0 =>
      bindV (evShl (.int .u64 (.ofNat 1)) t5) fun t6 =>
      k (S.1, t6, ()) H0)
  (doneE .ret)))

def F102 (call : CallF) (lo : Nat) (args : List Value) (H : AH) : Option (Value × AH) :=
  leave .all H (bindV (C102 call (lowOf .all lo H) (argAt args 0, argAt args 2, ()) H) fun p => resE p.1 (some (oneOf [p.2.1.2.1], p.2.2)))

theorem F102_eq (call : CallF) (lo : Nat) (args : List Value) (H : AH) : evFn P ctx call lo 102 args H = F102 call lo args H := by kernel_rfl

/-- (*slices.xorshift).Next -/
def C103 (call : CallF) (lo : Nat) : Piece (Value × Value × Unit) :=
  (seqE (leafE fun S H k =>
      k (S.1, (.int .u64 (.ofNat 0)), ()) H)
  (seqE (leafE fun S H k =>
      bindV (evNil S.1) fun t4 =>
      bindV (evLoad H false 1 t4) fun t5 =>
      bindV (evNil S.1) fun t7 =>
      bindV (evLoad H false 1 t7) fun t8 =>
      bindV (evShl t8 (.int .u64 (.ofNat 13))) fun t9 =>
      bindV (evXor t5 t9) fun t10 =>
      bindV (evNil S.1) fun t11 =>
      bindV (evStore lo H 1 t11 t10) fun H0 =>
      k (S.1, S.2.1, ()) H0)
  (seqE (leafE fun S H k =>
      bindV (evNil S.1) fun t13 =>
      bindV (evLoad H false 1 t13) fun t14 =>
      bindV (evNil S.1) fun t16 =>
      bindV (evLoad H false 1 t16) fun t17 =>
      bindV (evShr t17 (.int .u64 (.ofNat 7))) fun t18 =>
      bindV (evXor t14 t18) fun t19 =>
      bindV (evNil S.1) fun t20 =>
      bindV (evStore lo H 1 t20 t19) fun H1 =>
      k (S.1, S.2.1, ()) H1)
  (seqE (leafE fun S H k =>
      bindV (evNil S.1) fun t22 =>
      bindV (evLoad H false 1 t22) fun t23 =>
      bindV (evNil S.1) fun t25 =>
      bindV (evLoad H false 1 t25) fun t26 =>
      bindV (evShl t26 (.int .u64 (.ofNat 17))) fun t27 =>
      bindV (evXor t23 t27) fun t28 =>
      bindV (evNil S.1) fun t29 =>
      bindV (evStore lo H 1 t29 t28) fun H2 =>
      k (S.1, S.2.1, ()) H2)
  (seqE (leafE fun S H k =>
      bindV (evNil S.1) fun t31 =>
      bindV (evLoad H false 1 t31) fun t32 =>
      k (S.1, t32, ()) H)
  (doneE .ret))))))

def F103 (call : CallF) (lo : Nat) (args : List Value) (H : AH) : Option (Value × AH) :=
  leave .all H (bindV (C103 call (lowOf .all lo H) (argAt args 0, argAt args 2, ()) H) fun p => resE p.1 (some (oneOf [p.2.1.2.1], p.2.2)))

theorem F103_eq (call : CallF) (lo : Nat) (args : List Value) (H : AH) : evFn P ctx call lo 103 args H = F103 call lo args H := by kernel_rfl

/-- slices.medianAdjacentOrdered[int] -/
def C104 (call : CallF) (lo : Nat) : Piece (Value × Value × Value × Value × Unit) :=
  (seqE (leafE fun S H k =>
      k (S.1, S.2.1, S.2.2.1, (.int .i64 (.ofNat 0)), ()) H)
  (seqE (leafE fun S H k =>
      bindV (evSub S.2.1 (.int .i64 (.ofNat 1))) fun t9 =>
      bindV (evAdd S.2.1 (.int .i64 (.ofNat 1))) fun t12 =>
      bindVH (call lo 105 [S.1, t9, S.2.1, t12, S.2.2.1] H) fun t14 H0 =>
      k (S.1, S.2.1, S.2.2.1, t14, ()) H0)
  (doneE .ret)))

def F104 (call : CallF) (lo : Nat) (args : List Value) (H : AH) : Option (Value × AH) :=
  leave .all H (bindV (C104 call (lowOf .all lo H) (argAt args 0, argAt args 1, argAt args 2, argAt args 6, ()) H) fun p => resE p.1 (some (oneOf [p.2.1.2.2.2.1], p.2.2)))

theorem F104_eq (call : CallF) (lo : Nat) (args : List Value) (H : AH) : evFn P ctx call lo 104 args H = F104 call lo args H := by kernel_rfl

/-- slices.medianOrdered[int] -/
def C105 (call : CallF) (lo : Nat) : Piece (Value × Value × Value × Value × Value × Value × Unit) :=
  (seqE (leafE fun S H k =>
      k (S.1, S.2.1, S.2.2.1, S.2.2.2.1, S.2.2.2.2.1, (.int .i64 (.ofNat 0)), ()) H)
  (seqE (leafE fun S H k =>
      bindVH (call lo 107 [S.1, S.2.1, S.2.2.1, S.2.2.2.2.1] H) fun t16 H0 =>
      bindV (evComp t16 0) fun t17 =>
      bindV (evComp t16 1) fun t18 =>
      k (S.1, t17, t18, S.2.2.2.1, S.2.2.2.2.1, S.2.2.2.2.2.1, ()) H0)
  (seqE (leafE fun S H k =>
      bindVH (call lo 107 [S.1, S.2.2.1, S.2.2.2.1, S.2.2.2.2.1] H) fun t24 H1 =>
      bindV (evComp t24 0) fun t25 =>
      bindV (evComp t24 1) fun t26 =>
      k (S.1, S.2.1, t25, t26, S.2.2.2.2.1, S.2.2.2.2.2.1, ()) H1)
  (seqE (leafE fun S H k =>
      bindVH (call lo 107 [S.1, S.2.1, S.2.2.1, S.2.2.2.2.1] H) fun t32 H2 =>
      bindV (evComp t32 0) fun t33 =>
      bindV (evComp t32 1) fun t34 =>
      k (S.1, t33, t34, S.2.2.2.1, S.2.2.2.2.1, S.2.2.2.2.2.1, ()) H2)
  (seqE (leafE fun S H k =>
      k (S.1, S.2.1, S.2.2.1, S.2.2.2.1, S.2.2.2.2.1, S.2.2.1, ()) H)
  (doneE .ret))))))

def F105 (call : CallF) (lo : Nat) (args : List Value) (H : AH) : Option (Value × AH) :=
  leave .all H (bindV (C105 call (lowOf .all lo H) (argAt args 0, argAt args 1, argAt args 2, argAt args 3, argAt args 4, argAt args 10, ()) H) fun p => resE p.1 (some (oneOf [p.2.1.2.2.2.2.2.1], p.2.2)))

theorem F105_eq (call : CallF) (lo : Nat) (args : List Value) (H : AH) : evFn P ctx call lo 105 args H = F105 call lo args H := by kernel_rfl

/-- cmp.isNaN[int] -/
def C106 (call : CallF) (lo : Nat) : Piece (Value × Value × Unit) :=
  (seqE (leafE fun S H k =>
      k (S.1, (.bool false), ()) H)
  (seqE (leafE fun S H k =>
      bindV (evNeq .int S.1 S.1) fun t5 =>
      k (S.1, t5, ()) H)
  (doneE .ret)))

def F106 (call : CallF) (lo : Nat) (args : List Value) (H : AH) : Option (Value × AH) :=
  leave .all H (bindV (C106 call (lowOf .all lo H) (argAt args 0, argAt args 2, ()) H) fun p => resE p.1 (some (oneOf [p.2.1.2.1], p.2.2)))

theorem F106_eq (call : CallF) (lo : Nat) (args : List Value) (H : AH) : evFn P ctx call lo 106 args H = F106 call lo args H := by kernel_rfl

/-- slices.order2Ordered[int] -/
def C107 (call : CallF) (lo : Nat) : Piece (Value × Value × Value × Value × Value × Value × Value × Unit) :=
  (seqE (leafE fun S H k =>
      k (S.1, S.2.1, S.2.2.1, S.2.2.2.1, (.int .i64 (.ofNat 0)), (.int .i64 (.ofNat 0)), S.2.2.2.2.2.2.1, ()) H)
  (seqE (seqE (leafE fun S H k =>
      bindV (evIdxSlice 1 S.1 S.2.2.1) fun t12 =>
      bindV (evLoad H false 1 t12) fun t13 =>
      bindV (evIdxSlice 1 S.1 S.2.1) fun t16 =>
      bindV (evLoad H false 1 t16) fun t17 =>
      bindVH (call lo 94 [t13, t17] H) fun t18 H0 =>
      k (S.1, S.2.1, S.2.2.1, S.2.2.2.1, S.2.2.2.2.1, S.2.2.2.2.2.1, t18, ()) H0)
  (condE (fun S => some S.2.2.2.2.2.2.1)
   (seqE (leafE fun S H k =>
       bindV (evNil S.2.2.2.1) fun t20 =>
       bindV (evLoad H false 1 t20) fun t21 =>
       bindV (evAdd t21 (.int .i64 (.ofNat 1))) fun t22 =>
       bindV (evNil S.2.2.2.1) fun t23 =>
       bindV (evStore lo H 1 t23 t22) fun H1 =>
       k (S.1, S.2.1, S.2.2.1, S.2.2.2.1, S.2.2.2.2.1, S.2.2.2.2.2.1, S.2.2.2.2.2.2.1, ()) H1)
   (seqE (leafE fun S H k =>
       k (S.1, S.2.1, S.2.2.1, S.2.2.2.1, S.2.2.1, S.2.1, S.2.2.2.2.2.2.1, ()) H)
   (doneE .ret)))
   (doneE .normal)))
  (seqE (leafE fun S H k =>
      k (S.1, S.2.1, S.2.2.1, S.2.2.2.1, S.2.1, S.2.2.1, S.2.2.2.2.2.2.1, ()) H)
  (doneE .ret))))

def F107 (call : CallF) (lo : Nat) (args : List Value) (H : AH) : Option (Value × AH) :=
  leave .all H (bindV (C107 call (lowOf .all lo H) (argAt args 0, argAt args 1, argAt args 2, argAt args 3, argAt args 8, argAt args 9, argAt args 18, ()) H) fun p => resE p.1 (some (oneOf [p.2.1.2.2.2.2.1, p.2.1.2.2.2.2.2.1], p.2.2)))

theorem F107_eq (call : CallF) (lo : Nat) (args : List Value) (H : AH) : evFn P ctx call lo 107 args H = F107 call lo args H := by kernel_rfl


end
end Go.Proofs.YtclepgonpdcibaaGreatDoor
