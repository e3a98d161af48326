/- Shallow functions, each with the proof that the evaluator is it (printed by wip/ev/gen.lean), part 4.
   Conditions: none. -/
import Derived.Test.YtnnfpbdimgagdaaGreatDoorEvT
namespace Go.Proofs.YtnnfpbdimgagdaaGreatDoor
open Go Go.Ev
set_option maxRecDepth 1000000
set_option linter.unusedVariables false
noncomputable section

/-- slices.siftDownCmpFunc[[2]int] -/
def C116 (call : CallF) (lo : Nat) : Piece (Value × Value × Value × Value × Value × Value × Value × Value × Value × Value × Unit) :=
  (seqE (leafE fun S H k =>
      k (S.1, S.2.1, S.2.2.1, S.2.2.2.1, S.2.2.2.2.1, S.2.1, S.2.2.2.2.2.2.1, S.2.2.2.2.2.2.2.1, S.2.2.2.2.2.2.2.2.1, S.2.2.2.2.2.2.2.2.2.1, ()) H)
  (blockE 0 (loopE (blockE 1 (seqE (leafE fun S H k =>
         bindV (evMul (.int .i64 (.ofNat 2)) S.2.2.2.2.2.1) fun t14 =>
         bindV (evAdd t14 (.int .i64 (.ofNat 1))) fun t15 =>
         k (S.1, S.2.1, S.2.2.1, S.2.2.2.1, S.2.2.2.2.1, S.2.2.2.2.2.1, t15, S.2.2.2.2.2.2.2.1, S.2.2.2.2.2.2.2.2.1, S.2.2.2.2.2.2.2.2.2.1, ()) H)
     (seqE (seqE (leafE fun S H k =>
         bindV (evGeq S.2.2.2.2.2.2.1 S.2.2.1) fun t18 =>
         k (S.1, S.2.1, S.2.2.1, S.2.2.2.1, S.2.2.2.2.1, S.2.2.2.2.2.1, S.2.2.2.2.2.2.1, t18, S.2.2.2.2.2.2.2.2.1, S.2.2.2.2.2.2.2.2.2.1, ()) H)
     (condE (fun S => some S.2.2.2.2.2.2.2.1)
      (doneE (.exit 0))
      (doneE .normal)))
     (seqE (seqE (leafE fun S H k =>
         bindV (evAdd S.2.2.2.2.2.2.1 (.int .i64 (.ofNat 1))) fun t20 =>
         bindV (evLss t20 S.2.2.1) fun t22 =>
         guarded t22 true ( pairVH S.2.2.2.2.1 H) H fun t24 H0 =>
         guarded t22 true ( pairVH S.1 H0) H0 fun t25 H1 =>
         guarded t22 true ( pairVH S.2.2.2.1 H1) H1 fun t26 H2 =>
         guarded t22 true ( pairVH S.2.2.2.2.2.2.1 H2) H2 fun t27 H3 =>
         guarded t22 true (bindV (evAdd t26 t27) fun t1000000 => pairVH t1000000 H3) H3 fun t28 H4 =>
         guarded t22 true (bindV (evIdxSlice 2 t25 t28) fun t1000000 => pairVH t1000000 H4) H4 fun t29 H5 =>
         guarded t22 true (bindV (evLoad H5 true 2 t29) fun t1000000 => pairVH t1000000 H5) H5 fun t30 H6 =>
         guarded t22 true ( pairVH S.1 H6) H6 fun t31 H7 =>
         guarded t22 true ( pairVH S.2.2.2.1 H7) H7 fun t32 H8 =>
         guarded t22 true ( pairVH S.2.2.2.2.2.2.1 H8) H8 fun t33 H9 =>
         guarded t22 true (bindV (evAdd t32 t33) fun t1000000 => pairVH t1000000 H9) H9 fun t34 H10 =>
         guarded t22 true (bindV (evAdd t34 (.int .i64 (.ofNat 1))) fun t1000000 => pairVH t1000000 H10) H10 fun t35 H11 =>
         guarded t22 true (bindV (evIdxSlice 2 t31 t35) fun t1000000 => pairVH t1000000 H11) H11 fun t36 H12 =>
         guarded t22 true (bindV (evLoad H12 true 2 t36) fun t1000000 => pairVH t1000000 H12) H12 fun t37 H13 =>
         guarded t22 true (callVal call lo t24 [t30, t37] H13 fun t1000000 H14 => pairVH t1000000 H14) H13 fun t38 H15 =>
         guarded t22 true (bindV (evLss t38 (.int .i64 (.ofNat 0))) fun t1000000 => pairVH t1000000 H15) H15 fun t39 H16 =>
         bindV (evPick t22 t39 (.bool false)) fun t40 =>
         k (S.1, S.2.1, S.2.2.1, S.2.2.2.1, S.2.2.2.2.1, S.2.2.2.2.2.1, S.2.2.2.2.2.2.1, S.2.2.2.2.2.2.2.1, t40, S.2.2.2.2.2.2.2.2.2.1, ()) H16)
     (condE (fun S => some S.2.2.2.2.2.2.2.2.1)
      (leafE fun S H k =>
          bindV (evAdd S.2.2.2.2.2.2.1 (.int .i64 (.ofNat 1))) fun t42 =>
          k (S.1, S.2.1, S.2.2.1, S.2.2.2.1, S.2.2.2.2.1, S.2.2.2.2.2.1, t42, S.2.2.2.2.2.2.2.1, S.2.2.2.2.2.2.2.2.1, S.2.2.2.2.2.2.2.2.2.1, ()) H)
      (doneE .normal)))
     (seqE (seqE (leafE fun S H k =>
         bindV (evAdd S.2.2.2.1 S.2.2.2.2.2.1) fun t47 =>
         bindV (evIdxSlice 2 S.1 t47) fun t48 =>
         bindV (evLoad H true 2 t48) fun t49 =>
         bindV (evAdd S.2.2.2.1 S.2.2.2.2.2.2.1) fun t53 =>
         bindV (evIdxSlice 2 S.1 t53) fun t54 =>
         bindV (evLoad H true 2 t54) fun t55 =>
         callVal call lo S.2.2.2.2.1 [t49, t55] H fun t56 H17 =>
         bindV (evLss t56 (.int .i64 (.ofNat 0))) fun t57 =>
         bindV (evNot t57) fun t58 =>
         k (S.1, S.2.1, S.2.2.1, S.2.2.2.1, S.2.2.2.2.1, S.2.2.2.2.2.1, S.2.2.2.2.2.2.1, S.2.2.2.2.2.2.2.1, S.2.2.2.2.2.2.2.2.1, t58, ()) H17)
     (condE (fun S => some S.2.2.2.2.2.2.2.2.2.1)
      (doneE .ret)
      (doneE .normal)))
     (seqE (leafE fun S H k =>
         bindV (evAdd S.2.2.2.1 S.2.2.2.2.2.1) fun t62 =>
         bindV (evAdd S.2.2.2.1 S.2.2.2.2.2.2.1) fun t66 =>
         bindV (evAdd S.2.2.2.1 S.2.2.2.2.2.2.1) fun t70 =>
         bindV (evIdxSlice 2 S.1 t70) fun t71 =>
         bindV (evLoad H true 2 t71) fun t72 =>
         bindV (evAdd S.2.2.2.1 S.2.2.2.2.2.1) fun t76 =>
         bindV (evIdxSlice 2 S.1 t76) fun t77 =>
         bindV (evLoad H true 2 t77) fun t78 =>
         bindV (evIdxSlice 2 S.1 t62) fun t79 =>
         bindV (evStore lo H 2 t79 t72) fun H18 =>
         bindV (evIdxSlice 2 S.1 t66) fun t80 =>
         bindV (evStore lo H18 2 t80 t78) fun H19 =>
         k (S.1, S.2.1, S.2.2.1, S.2.2.2.1, S.2.2.2.2.1, S.2.2.2.2.2.1, S.2.2.2.2.2.2.1, S.2.2.2.2.2.2.2.1, S.2.2.2.2.2.2.2.2.1, S.2.2.2.2.2.2.2.2.2.1, ()) H19)
     (leafE fun S H k =>
         k (S.1, S.2.1, S.2.2.1, S.2.2.2.1, S.2.2.2.2.1, S.2.2.2.2.2.2.1, S.2.2.2.2.2.2.1, S.2.2.2.2.2.2.2.1, S.2.2.2.2.2.2.2.2.1, S.2.2.2.2.2.2.2.2.2.1, ()) H))))))) fuel)))

def F116 (call : CallF) (lo : Nat) (args : List Value) (H : AH) : Option (Value × AH) :=
  leave .all H (bindV (C116 call (lowOf .all lo H) (argAt args 0, argAt args 1, argAt args 2, argAt args 3, argAt args 4, argAt args 10, argAt args 11, argAt args 18, argAt args 40, argAt args 58, ()) H) fun p => resE p.1 (some (oneOf [], p.2.2)))

theorem F116_eq (call : CallF) (lo : Nat) (args : List Value) (H : AH) : evFn P ctx call lo 116 args H = F116 call lo args H := by kernel_rfl

/-- slices.medianAdjacentCmpFunc[[2]int] -/
def C117 (call : CallF) (lo : Nat) : Piece (Value × Value × Value × Value × Value × Unit) :=
  (seqE (leafE fun S H k =>
      k (S.1, S.2.1, S.2.2.1, S.2.2.2.1, (.int .i64 (.ofNat 0)), ()) H)
  (seqE (leafE fun S H k =>
      bindV (evSub S.2.1 (.int .i64 (.ofNat 1))) fun t11 =>
      bindV (evAdd S.2.1 (.int .i64 (.ofNat 1))) fun t14 =>
      bindVH (call lo 118 [S.1, t11, S.2.1, t14, S.2.2.1, S.2.2.2.1] H) fun t17 H0 =>
      k (S.1, S.2.1, S.2.2.1, S.2.2.2.1, t17, ()) H0)
  (doneE .ret)))

def F117 (call : CallF) (lo : Nat) (args : List Value) (H : AH) : Option (Value × AH) :=
  leave .all H (bindV (C117 call (lowOf .all lo H) (argAt args 0, argAt args 1, argAt args 2, argAt args 3, argAt args 8, ()) H) fun p => resE p.1 (some (oneOf [p.2.1.2.2.2.2.1], p.2.2)))

theorem F117_eq (call : CallF) (lo : Nat) (args : List Value) (H : AH) : evFn P ctx call lo 117 args H = F117 call lo args H := by kernel_rfl

/-- slices.medianCmpFunc[[2]int] -/
def C118 (call : CallF) (lo : Nat) : Piece (Value × Value × Value × Value × Value × Value × Value × Unit) :=
  (seqE (leafE fun S H k =>
      k (S.1, S.2.1, S.2.2.1, S.2.2.2.1, S.2.2.2.2.1, S.2.2.2.2.2.1, (.int .i64 (.ofNat 0)), ()) H)
  (seqE (leafE fun S H k =>
      bindVH (call lo 119 [S.1, S.2.1, S.2.2.1, S.2.2.2.2.1, S.2.2.2.2.2.1] H) fun t19 H0 =>
      bindV (evComp t19 0) fun t20 =>
      bindV (evComp t19 1) fun t21 =>
      k (S.1, t20, t21, S.2.2.2.1, S.2.2.2.2.1, S.2.2.2.2.2.1, S.2.2.2.2.2.2.1, ()) H0)
  (seqE (leafE fun S H k =>
      bindVH (call lo 119 [S.1, S.2.2.1, S.2.2.2.1, S.2.2.2.2.1, S.2.2.2.2.2.1] H) fun t28 H1 =>
      bindV (evComp t28 0) fun t29 =>
      bindV (evComp t28 1) fun t30 =>
      k (S.1, S.2.1, t29, t30, S.2.2.2.2.1, S.2.2.2.2.2.1, S.2.2.2.2.2.2.1, ()) H1)
  (seqE (leafE fun S H k =>
      bindVH (call lo 119 [S.1, S.2.1, S.2.2.1, S.2.2.2.2.1, S.2.2.2.2.2.1] H) fun t37 H2 =>
      bindV (evComp t37 0) fun t38 =>
      bindV (evComp t37 1) fun t39 =>
      k (S.1, t38, t39, S.2.2.2.1, S.2.2.2.2.1, S.2.2.2.2.2.1, S.2.2.2.2.2.2.1, ()) H2)
  (seqE (leafE fun S H k =>
      k (S.1, S.2.1, S.2.2.1, S.2.2.2.1, S.2.2.2.2.1, S.2.2.2.2.2.1, S.2.2.1, ()) H)
  (doneE .ret))))))

def F118 (call : CallF) (lo : Nat) (args : List Value) (H : AH) : Option (Value × AH) :=
  leave .all H (bindV (C118 call (lowOf .all lo H) (argAt args 0, argAt args 1, argAt args 2, argAt args 3, argAt args 4, argAt args 5, argAt args 12, ()) H) fun p => resE p.1 (some (oneOf [p.2.1.2.2.2.2.2.2.1], p.2.2)))

theorem F118_eq (call : CallF) (lo : Nat) (args : List Value) (H : AH) : evFn P ctx call lo 118 args H = F118 call lo args H := by kernel_rfl

/-- slices.order2CmpFunc[[2]int] -/
def C119 (call : CallF) (lo : Nat) : Piece (Value × Value × Value × Value × Value × Value × Value × Value × Unit) :=
  (seqE (leafE fun S H k =>
      k (S.1, S.2.1, S.2.2.1, S.2.2.2.1, S.2.2.2.2.1, (.int .i64 (.ofNat 0)), (.int .i64 (.ofNat 0)), S.2.2.2.2.2.2.2.1, ()) H)
  (seqE (seqE (leafE fun S H k =>
      bindV (evIdxSlice 2 S.1 S.2.2.1) fun t15 =>
      bindV (evLoad H true 2 t15) fun t16 =>
      bindV (evIdxSlice 2 S.1 S.2.1) fun t19 =>
      bindV (evLoad H true 2 t19) fun t20 =>
      callVal call lo S.2.2.2.2.1 [t16, t20] H fun t21 H0 =>
      bindV (evLss t21 (.int .i64 (.ofNat 0))) fun t22 =>
      k (S.1, S.2.1, S.2.2.1, S.2.2.2.1, S.2.2.2.2.1, S.2.2.2.2.2.1, S.2.2.2.2.2.2.1, t22, ()) H0)
  (condE (fun S => some S.2.2.2.2.2.2.2.1)
   (seqE (leafE fun S H k =>
       bindV (evNil S.2.2.2.1) fun t24 =>
       bindV (evLoad H false 1 t24) fun t25 =>
       bindV (evAdd t25 (.int .i64 (.ofNat 1))) fun t26 =>
       bindV (evNil S.2.2.2.1) fun t27 =>
       bindV (evStore lo H 1 t27 t26) fun H1 =>
       k (S.1, S.2.1, S.2.2.1, S.2.2.2.1, S.2.2.2.2.1, S.2.2.2.2.2.1, S.2.2.2.2.2.2.1, S.2.2.2.2.2.2.2.1, ()) H1)
   (seqE (leafE fun S H k =>
       k (S.1, S.2.1, S.2.2.1, S.2.2.2.1, S.2.2.2.2.1, S.2.2.1, S.2.1, S.2.2.2.2.2.2.2.1, ()) H)
   (doneE .ret)))
   (doneE .normal)))
  (seqE (leafE fun S H k =>
      k (S.1, S.2.1, S.2.2.1, S.2.2.2.1, S.2.2.2.2.1, S.2.1, S.2.2.1, S.2.2.2.2.2.2.2.1, ()) H)
  (doneE .ret))))

def F119 (call : CallF) (lo : Nat) (args : List Value) (H : AH) : Option (Value × AH) :=
  leave .all H (bindV (C119 call (lowOf .all lo H) (argAt args 0, argAt args 1, argAt args 2, argAt args 3, argAt args 4, argAt args 10, argAt args 11, argAt args 22, ()) H) fun p => resE p.1 (some (oneOf [p.2.1.2.2.2.2.2.1, p.2.1.2.2.2.2.2.2.1], p.2.2)))

theorem F119_eq (call : CallF) (lo : Nat) (args : List Value) (H : AH) : evFn P ctx call lo 119 args H = F119 call lo args H := by kernel_rfl


end
end Go.Proofs.YtnnfpbdimgagdaaGreatDoor
