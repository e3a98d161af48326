/- Shallow functions, each with the proof that the evaluator is it (printed by wip/ev/gen.lean), part 1.
   Conditions: none. -/
import Derived.Test.YtclepgonpdcibaaGreatDoorEvT
namespace Go.Proofs.YtclepgonpdcibaaGreatDoor
open Go Go.Ev
set_option maxRecDepth 1000000
set_option linter.unusedVariables false
noncomputable section

/-- novaculite/novaculitelaw09.works -/
def C28 (call : CallF) (lo : Nat) : Piece (Value × Value × Value × Value × Value × Value × Value × Value × Value × Value × Value × Value × Value × Value × Value × Value × Value × Value × Value × Value × Value × Value × Value × Unit) :=
  (seqE (leafE fun S H k =>
      k ((.bool false), S.2.1, S.2.2.1, S.2.2.2.1, S.2.2.2.2.1, S.2.2.2.2.2.1, S.2.2.2.2.2.2.1, S.2.2.2.2.2.2.2.1, S.2.2.2.2.2.2.2.2.1, S.2.2.2.2.2.2.2.2.2.1, S.2.2.2.2.2.2.2.2.2.2.1, S.2.2.2.2.2.2.2.2.2.2.2.1, S.2.2.2.2.2.2.2.2.2.2.2.2.1, S.2.2.2.2.2.2.2.2.2.2.2.2.2.1, S.2.2.2.2.2.2.2.2.2.2.2.2.2.2.1, S.2.2.2.2.2.2.2.2.2.2.2.2.2.2.2.1, S.2.2.2.2.2.2.2.2.2.2.2.2.2.2.2.2.1, S.2.2.2.2.2.2.2.2.2.2.2.2.2.2.2.2.2.1, S.2.2.2.2.2.2.2.2.2.2.2.2.2.2.2.2.2.2.1, S.2.2.2.2.2.2.2.2.2.2.2.2.2.2.2.2.2.2.2.1, S.2.2.2.2.2.2.2.2.2.2.2.2.2.2.2.2.2.2.2.2.1, S.2.2.2.2.2.2.2.2.2.2.2.2.2.2.2.2.2.2.2.2.2.1, S.2.2.2.2.2.2.2.2.2.2.2.2.2.2.2.2.2.2.2.2.2.2.1, ()) H)
  (seqE (leafE fun S H k =>
      bindVH (call lo 12 [] H) fun t23 H0 =>
      bindVH (call lo 4 [t23] H0) fun t24 H1 =>
      bindV (evComp t24 0) fun t25 =>
      bindV (evComp t24 1) fun t26 =>
      k (S.1, t25, t26, S.2.2.2.1, S.2.2.2.2.1, S.2.2.2.2.2.1, S.2.2.2.2.2.2.1, S.2.2.2.2.2.2.2.1, S.2.2.2.2.2.2.2.2.1, S.2.2.2.2.2.2.2.2.2.1, S.2.2.2.2.2.2.2.2.2.2.1, S.2.2.2.2.2.2.2.2.2.2.2.1, S.2.2.2.2.2.2.2.2.2.2.2.2.1, S.2.2.2.2.2.2.2.2.2.2.2.2.2.1, S.2.2.2.2.2.2.2.2.2.2.2.2.2.2.1, S.2.2.2.2.2.2.2.2.2.2.2.2.2.2.2.1, S.2.2.2.2.2.2.2.2.2.2.2.2.2.2.2.2.1, S.2.2.2.2.2.2.2.2.2.2.2.2.2.2.2.2.2.1, S.2.2.2.2.2.2.2.2.2.2.2.2.2.2.2.2.2.2.1, S.2.2.2.2.2.2.2.2.2.2.2.2.2.2.2.2.2.2.2.1, S.2.2.2.2.2.2.2.2.2.2.2.2.2.2.2.2.2.2.2.2.1, S.2.2.2.2.2.2.2.2.2.2.2.2.2.2.2.2.2.2.2.2.2.1, S.2.2.2.2.2.2.2.2.2.2.2.2.2.2.2.2.2.2.2.2.2.2.1, ()) H1)
  (seqE (leafE fun S H k =>
      bindVH (call lo 12 [] H) fun t28 H2 =>
      bindVH (call lo 48 [t28] H2) fun t29 H3 =>
      bindV (evComp t29 0) fun t30 =>
      bindV (evComp t29 1) fun t31 =>
      k (S.1, S.2.1, S.2.2.1, t30, t31, S.2.2.2.2.2.1, S.2.2.2.2.2.2.1, S.2.2.2.2.2.2.2.1, S.2.2.2.2.2.2.2.2.1, S.2.2.2.2.2.2.2.2.2.1, S.2.2.2.2.2.2.2.2.2.2.1, S.2.2.2.2.2.2.2.2.2.2.2.1, S.2.2.2.2.2.2.2.2.2.2.2.2.1, S.2.2.2.2.2.2.2.2.2.2.2.2.2.1, S.2.2.2.2.2.2.2.2.2.2.2.2.2.2.1, S.2.2.2.2.2.2.2.2.2.2.2.2.2.2.2.1, S.2.2.2.2.2.2.2.2.2.2.2.2.2.2.2.2.1, S.2.2.2.2.2.2.2.2.2.2.2.2.2.2.2.2.2.1, S.2.2.2.2.2.2.2.2.2.2.2.2.2.2.2.2.2.2.1, S.2.2.2.2.2.2.2.2.2.2.2.2.2.2.2.2.2.2.2.1, S.2.2.2.2.2.2.2.2.2.2.2.2.2.2.2.2.2.2.2.2.1, S.2.2.2.2.2.2.2.2.2.2.2.2.2.2.2.2.2.2.2.2.2.1, S.2.2.2.2.2.2.2.2.2.2.2.2.2.2.2.2.2.2.2.2.2.2.1, ()) H3)
  (seqE (leafE fun S H k =>
      bindVH (call lo 12 [] H) fun t33 H4 =>
      bindVH (call lo 8 [t33] H4) fun t34 H5 =>
      bindV (evComp t34 0) fun t35 =>
      bindV (evComp t34 1) fun t36 =>
      k (S.1, S.2.1, S.2.2.1, S.2.2.2.1, S.2.2.2.2.1, t35, t36, S.2.2.2.2.2.2.2.1, S.2.2.2.2.2.2.2.2.1, S.2.2.2.2.2.2.2.2.2.1, S.2.2.2.2.2.2.2.2.2.2.1, S.2.2.2.2.2.2.2.2.2.2.2.1, S.2.2.2.2.2.2.2.2.2.2.2.2.1, S.2.2.2.2.2.2.2.2.2.2.2.2.2.1, S.2.2.2.2.2.2.2.2.2.2.2.2.2.2.1, S.2.2.2.2.2.2.2.2.2.2.2.2.2.2.2.1, S.2.2.2.2.2.2.2.2.2.2.2.2.2.2.2.2.1, S.2.2.2.2.2.2.2.2.2.2.2.2.2.2.2.2.2.1, S.2.2.2.2.2.2.2.2.2.2.2.2.2.2.2.2.2.2.1, S.2.2.2.2.2.2.2.2.2.2.2.2.2.2.2.2.2.2.2.1, S.2.2.2.2.2.2.2.2.2.2.2.2.2.2.2.2.2.2.2.2.1, S.2.2.2.2.2.2.2.2.2.2.2.2.2.2.2.2.2.2.2.2.2.1, S.2.2.2.2.2.2.2.2.2.2.2.2.2.2.2.2.2.2.2.2.2.2.1, ()) H5)
  (seqE (leafE fun S H k =>
      bindVH (call lo 12 [] H) fun t38 H6 =>
      bindVH (call lo 49 [t38] H6) fun t39 H7 =>
      bindV (evComp t39 0) fun t40 =>
      bindV (evComp t39 1) fun t41 =>
      k (S.1, S.2.1, S.2.2.1, S.2.2.2.1, S.2.2.2.2.1, S.2.2.2.2.2.1, S.2.2.2.2.2.2.1, t40, t41, S.2.2.2.2.2.2.2.2.2.1, S.2.2.2.2.2.2.2.2.2.2.1, S.2.2.2.2.2.2.2.2.2.2.2.1, S.2.2.2.2.2.2.2.2.2.2.2.2.1, S.2.2.2.2.2.2.2.2.2.2.2.2.2.1, S.2.2.2.2.2.2.2.2.2.2.2.2.2.2.1, S.2.2.2.2.2.2.2.2.2.2.2.2.2.2.2.1, S.2.2.2.2.2.2.2.2.2.2.2.2.2.2.2.2.1, S.2.2.2.2.2.2.2.2.2.2.2.2.2.2.2.2.2.1, S.2.2.2.2.2.2.2.2.2.2.2.2.2.2.2.2.2.2.1, S.2.2.2.2.2.2.2.2.2.2.2.2.2.2.2.2.2.2.2.1, S.2.2.2.2.2.2.2.2.2.2.2.2.2.2.2.2.2.2.2.2.1, S.2.2.2.2.2.2.2.2.2.2.2.2.2.2.2.2.2.2.2.2.2.1, S.2.2.2.2.2.2.2.2.2.2.2.2.2.2.2.2.2.2.2.2.2.2.1, ()) H7)
  (seqE (leafE fun S H k =>
      bindVH (call lo 12 [] H) fun t43 H8 =>
      bindVH (call lo 10 [t43] H8) fun t44 H9 =>
      bindV (evComp t44 0) fun t45 =>
      bindV (evComp t44 1) fun t46 =>
      k (S.1, S.2.1, S.2.2.1, S.2.2.2.1, S.2.2.2.2.1, S.2.2.2.2.2.1, S.2.2.2.2.2.2.1, S.2.2.2.2.2.2.2.1, S.2.2.2.2.2.2.2.2.1, t45, t46, S.2.2.2.2.2.2.2.2.2.2.2.1, S.2.2.2.2.2.2.2.2.2.2.2.2.1, S.2.2.2.2.2.2.2.2.2.2.2.2.2.1, S.2.2.2.2.2.2.2.2.2.2.2.2.2.2.1, S.2.2.2.2.2.2.2.2.2.2.2.2.2.2.2.1, S.2.2.2.2.2.2.2.2.2.2.2.2.2.2.2.2.1, S.2.2.2.2.2.2.2.2.2.2.2.2.2.2.2.2.2.1, S.2.2.2.2.2.2.2.2.2.2.2.2.2.2.2.2.2.2.1, S.2.2.2.2.2.2.2.2.2.2.2.2.2.2.2.2.2.2.2.1, S.2.2.2.2.2.2.2.2.2.2.2.2.2.2.2.2.2.2.2.2.1, S.2.2.2.2.2.2.2.2.2.2.2.2.2.2.2.2.2.2.2.2.2.1, S.2.2.2.2.2.2.2.2.2.2.2.2.2.2.2.2.2.2.2.2.2.2.1, ()) H9)
  (seqE (leafE fun S H k =>
      bindVH (call lo 12 [] H) fun t48 H10 =>
      bindVH (call lo 11 [t48, (.int .i64 (.ofNat 0))] H10) fun t49 H11 =>
      bindV (evComp t49 0) fun t50 =>
      bindV (evComp t49 1) fun t51 =>
      k (S.1, S.2.1, S.2.2.1, S.2.2.2.1, S.2.2.2.2.1, S.2.2.2.2.2.1, S.2.2.2.2.2.2.1, S.2.2.2.2.2.2.2.1, S.2.2.2.2.2.2.2.2.1, S.2.2.2.2.2.2.2.2.2.1, S.2.2.2.2.2.2.2.2.2.2.1, t50, t51, S.2.2.2.2.2.2.2.2.2.2.2.2.2.1, S.2.2.2.2.2.2.2.2.2.2.2.2.2.2.1, S.2.2.2.2.2.2.2.2.2.2.2.2.2.2.2.1, S.2.2.2.2.2.2.2.2.2.2.2.2.2.2.2.2.1, S.2.2.2.2.2.2.2.2.2.2.2.2.2.2.2.2.2.1, S.2.2.2.2.2.2.2.2.2.2.2.2.2.2.2.2.2.2.1, S.2.2.2.2.2.2.2.2.2.2.2.2.2.2.2.2.2.2.2.1, S.2.2.2.2.2.2.2.2.2.2.2.2.2.2.2.2.2.2.2.2.1, S.2.2.2.2.2.2.2.2.2.2.2.2.2.2.2.2.2.2.2.2.2.1, S.2.2.2.2.2.2.2.2.2.2.2.2.2.2.2.2.2.2.2.2.2.2.1, ()) H11)
  (seqE (leafE fun S H k =>
      bindVH (call lo 9 [] H) fun t53 H12 =>
      bindV (evFill [(0, 1, (.int .i64 (.ofNat 0))), (1, 1, (.int .i64 (.ofNat 1))), (2, 1, (.int .i64 (.ofNat 2))), (3, 1, (.int .i64 (.ofNat 3)))] (zeros (cellsOf (.int .i64 (.ofNat 0))) 4)) fun c13 =>
      let t54 := newSlice H12 4 4
      let H14 := H12.push (.cells (Nat.mul 4 1) c13 3)
      bindVH (call lo 14 [t54] H14) fun t55 H15 =>
      bindVH (call lo 13 [t53, t55] H15) fun t56 H16 =>
      bindV (evComp t56 0) fun t57 =>
      bindV (evComp t56 1) fun t58 =>
      k (S.1, S.2.1, S.2.2.1, S.2.2.2.1, S.2.2.2.2.1, S.2.2.2.2.2.1, S.2.2.2.2.2.2.1, S.2.2.2.2.2.2.2.1, S.2.2.2.2.2.2.2.2.1, S.2.2.2.2.2.2.2.2.2.1, S.2.2.2.2.2.2.2.2.2.2.1, S.2.2.2.2.2.2.2.2.2.2.2.1, S.2.2.2.2.2.2.2.2.2.2.2.2.1, t57, t58, S.2.2.2.2.2.2.2.2.2.2.2.2.2.2.2.1, S.2.2.2.2.2.2.2.2.2.2.2.2.2.2.2.2.1, S.2.2.2.2.2.2.2.2.2.2.2.2.2.2.2.2.2.1, S.2.2.2.2.2.2.2.2.2.2.2.2.2.2.2.2.2.2.1, S.2.2.2.2.2.2.2.2.2.2.2.2.2.2.2.2.2.2.2.1, S.2.2.2.2.2.2.2.2.2.2.2.2.2.2.2.2.2.2.2.2.1, S.2.2.2.2.2.2.2.2.2.2.2.2.2.2.2.2.2.2.2.2.2.1, S.2.2.2.2.2.2.2.2.2.2.2.2.2.2.2.2.2.2.2.2.2.2.1, ()) H16)
  (seqE (seqE (leafE fun S H k =>
      bindV (evNeq .int S.2.2.1 (.int .i64 (.ofNat 0))) fun t60 =>
      guarded t60 false ( pairVH S.2.2.2.2.1 H) H fun t62 H17 =>
      guarded t60 false (bindV (evNeq .int t62 (.int .i64 (.ofNat 0))) fun t1000000 => pairVH t1000000 H17) H17 fun t63 H18 =>
      bindV (evPick t60 (.bool true) t63) fun t64 =>
      guarded t64 false ( pairVH S.2.2.2.2.2.2.1 H18) H18 fun t66 H19 =>
      guarded t64 false (bindV (evNeq .int t66 (.int .i64 (.ofNat 0))) fun t1000000 => pairVH t1000000 H19) H19 fun t67 H20 =>
      bindV (evPick t64 (.bool true) t67) fun t68 =>
      guarded t68 false ( pairVH S.2.2.2.2.2.2.2.2.1 H20) H20 fun t70 H21 =>
      guarded t68 false (bindV (evNeq .int t70 (.int .i64 (.ofNat 0))) fun t1000000 => pairVH t1000000 H21) H21 fun t71 H22 =>
      bindV (evPick t68 (.bool true) t71) fun t72 =>
      guarded t72 false ( pairVH S.2.2.2.2.2.2.2.2.2.2.1 H22) H22 fun t74 H23 =>
      guarded t72 false (bindV (evNeq .int t74 (.int .i64 (.ofNat 0))) fun t1000000 => pairVH t1000000 H23) H23 fun t75 H24 =>
      bindV (evPick t72 (.bool true) t75) fun t76 =>
      guarded t76 false ( pairVH S.2.2.2.2.2.2.2.2.2.2.2.2.1 H24) H24 fun t78 H25 =>
      guarded t76 false (bindV (evNeq .int t78 (.int .i64 (.ofNat 0))) fun t1000000 => pairVH t1000000 H25) H25 fun t79 H26 =>
      bindV (evPick t76 (.bool true) t79) fun t80 =>
      guarded t80 false ( pairVH S.2.2.2.2.2.2.2.2.2.2.2.2.2.2.1 H26) H26 fun t82 H27 =>
      guarded t80 false (bindV (evNeq .int t82 (.int .i64 (.ofNat 0))) fun t1000000 => pairVH t1000000 H27) H27 fun t83 H28 =>
      bindV (evPick t80 (.bool true) t83) fun t84 =>
      k (S.1, S.2.1, S.2.2.1, S.2.2.2.1, S.2.2.2.2.1, S.2.2.2.2.2.1, S.2.2.2.2.2.2.1, S.2.2.2.2.2.2.2.1, S.2.2.2.2.2.2.2.2.1, S.2.2.2.2.2.2.2.2.2.1, S.2.2.2.2.2.2.2.2.2.2.1, S.2.2.2.2.2.2.2.2.2.2.2.1, S.2.2.2.2.2.2.2.2.2.2.2.2.1, S.2.2.2.2.2.2.2.2.2.2.2.2.2.1, S.2.2.2.2.2.2.2.2.2.2.2.2.2.2.1, S.2.2.2.2.2.2.2.2.2.2.2.2.2.2.2.1, S.2.2.2.2.2.2.2.2.2.2.2.2.2.2.2.2.1, S.2.2.2.2.2.2.2.2.2.2.2.2.2.2.2.2.2.1, S.2.2.2.2.2.2.2.2.2.2.2.2.2.2.2.2.2.2.1, S.2.2.2.2.2.2.2.2.2.2.2.2.2.2.2.2.2.2.2.1, S.2.2.2.2.2.2.2.2.2.2.2.2.2.2.2.2.2.2.2.2.1, S.2.2.2.2.2.2.2.2.2.2.2.2.2.2.2.2.2.2.2.2.2.1, t84, ()) H28)
  (condE (fun S => some S.2.2.2.2.2.2.2.2.2.2.2.2.2.2.2.2.2.2.2.2.2.2.1)
   (seqE (leafE fun S H k =>
       k ((.bool false), S.2.1, S.2.2.1, S.2.2.2.1, S.2.2.2.2.1, S.2.2.2.2.2.1, S.2.2.2.2.2.2.1, S.2.2.2.2.2.2.2.1, S.2.2.2.2.2.2.2.2.1, S.2.2.2.2.2.2.2.2.2.1, S.2.2.2.2.2.2.2.2.2.2.1, S.2.2.2.2.2.2.2.2.2.2.2.1, S.2.2.2.2.2.2.2.2.2.2.2.2.1, S.2.2.2.2.2.2.2.2.2.2.2.2.2.1, S.2.2.2.2.2.2.2.2.2.2.2.2.2.2.1, S.2.2.2.2.2.2.2.2.2.2.2.2.2.2.2.1, S.2.2.2.2.2.2.2.2.2.2.2.2.2.2.2.2.1, S.2.2.2.2.2.2.2.2.2.2.2.2.2.2.2.2.2.1, S.2.2.2.2.2.2.2.2.2.2.2.2.2.2.2.2.2.2.1, S.2.2.2.2.2.2.2.2.2.2.2.2.2.2.2.2.2.2.2.1, S.2.2.2.2.2.2.2.2.2.2.2.2.2.2.2.2.2.2.2.2.1, S.2.2.2.2.2.2.2.2.2.2.2.2.2.2.2.2.2.2.2.2.2.1, S.2.2.2.2.2.2.2.2.2.2.2.2.2.2.2.2.2.2.2.2.2.2.1, ()) H)
   (doneE .ret))
   (doneE .normal)))
  (seqE (leafE fun S H k =>
      bindVH (call lo 5 [] H) fun t86 H29 =>
      bindVH (call lo 17 [t86] H29) fun t87 H30 =>
      bindV (evComp t87 0) fun t88 =>
      bindV (evComp t87 1) fun t89 =>
      k (S.1, S.2.1, t89, S.2.2.2.1, S.2.2.2.2.1, S.2.2.2.2.2.1, S.2.2.2.2.2.2.1, S.2.2.2.2.2.2.2.1, S.2.2.2.2.2.2.2.2.1, S.2.2.2.2.2.2.2.2.2.1, S.2.2.2.2.2.2.2.2.2.2.1, S.2.2.2.2.2.2.2.2.2.2.2.1, S.2.2.2.2.2.2.2.2.2.2.2.2.1, S.2.2.2.2.2.2.2.2.2.2.2.2.2.1, S.2.2.2.2.2.2.2.2.2.2.2.2.2.2.1, t88, S.2.2.2.2.2.2.2.2.2.2.2.2.2.2.2.2.1, S.2.2.2.2.2.2.2.2.2.2.2.2.2.2.2.2.2.1, S.2.2.2.2.2.2.2.2.2.2.2.2.2.2.2.2.2.2.1, S.2.2.2.2.2.2.2.2.2.2.2.2.2.2.2.2.2.2.2.1, S.2.2.2.2.2.2.2.2.2.2.2.2.2.2.2.2.2.2.2.2.1, S.2.2.2.2.2.2.2.2.2.2.2.2.2.2.2.2.2.2.2.2.2.1, S.2.2.2.2.2.2.2.2.2.2.2.2.2.2.2.2.2.2.2.2.2.2.1, ()) H30)
  (seqE (leafE fun S H k =>
      bindVH (call lo 12 [] H) fun t91 H31 =>
      bindVH (call lo 18 [t91] H31) fun t92 H32 =>
      bindV (evComp t92 0) fun t93 =>
      bindV (evComp t92 1) fun t94 =>
      k (S.1, S.2.1, S.2.2.1, S.2.2.2.1, t94, S.2.2.2.2.2.1, S.2.2.2.2.2.2.1, S.2.2.2.2.2.2.2.1, S.2.2.2.2.2.2.2.2.1, S.2.2.2.2.2.2.2.2.2.1, S.2.2.2.2.2.2.2.2.2.2.1, S.2.2.2.2.2.2.2.2.2.2.2.1, S.2.2.2.2.2.2.2.2.2.2.2.2.1, S.2.2.2.2.2.2.2.2.2.2.2.2.2.1, S.2.2.2.2.2.2.2.2.2.2.2.2.2.2.1, S.2.2.2.2.2.2.2.2.2.2.2.2.2.2.2.1, t93, S.2.2.2.2.2.2.2.2.2.2.2.2.2.2.2.2.2.1, S.2.2.2.2.2.2.2.2.2.2.2.2.2.2.2.2.2.2.1, S.2.2.2.2.2.2.2.2.2.2.2.2.2.2.2.2.2.2.2.1, S.2.2.2.2.2.2.2.2.2.2.2.2.2.2.2.2.2.2.2.2.1, S.2.2.2.2.2.2.2.2.2.2.2.2.2.2.2.2.2.2.2.2.2.1, S.2.2.2.2.2.2.2.2.2.2.2.2.2.2.2.2.2.2.2.2.2.2.1, ()) H32)
  (seqE (leafE fun S H k =>
      bindVH (call lo 12 [] H) fun t96 H33 =>
      bindVH (call lo 50 [t96] H33) fun t97 H34 =>
      bindV (evComp t97 0) fun t98 =>
      bindV (evComp t97 1) fun t99 =>
      bindV (evComp t97 2) fun t100 =>
      k (S.1, S.2.1, S.2.2.1, S.2.2.2.1, S.2.2.2.2.1, S.2.2.2.2.2.1, t100, S.2.2.2.2.2.2.2.1, S.2.2.2.2.2.2.2.2.1, S.2.2.2.2.2.2.2.2.2.1, S.2.2.2.2.2.2.2.2.2.2.1, S.2.2.2.2.2.2.2.2.2.2.2.1, S.2.2.2.2.2.2.2.2.2.2.2.2.1, S.2.2.2.2.2.2.2.2.2.2.2.2.2.1, S.2.2.2.2.2.2.2.2.2.2.2.2.2.2.1, S.2.2.2.2.2.2.2.2.2.2.2.2.2.2.2.1, S.2.2.2.2.2.2.2.2.2.2.2.2.2.2.2.2.1, t98, t99, S.2.2.2.2.2.2.2.2.2.2.2.2.2.2.2.2.2.2.2.1, S.2.2.2.2.2.2.2.2.2.2.2.2.2.2.2.2.2.2.2.2.1, S.2.2.2.2.2.2.2.2.2.2.2.2.2.2.2.2.2.2.2.2.2.1, S.2.2.2.2.2.2.2.2.2.2.2.2.2.2.2.2.2.2.2.2.2.2.1, ()) H34)
  (seqE (leafE fun S H k =>
      bindVH (call lo 6 [] H) fun t102 H35 =>
      bindVH (call lo 20 [(.int .i64 (.ofNat 1)), (.int .i64 (.ofNat 0)), (.int .i64 (.ofNat 0))] H35) fun t103 H36 =>
      bindVH (call lo 19 [t102, t103] H36) fun t104 H37 =>
      bindV (evComp t104 0) fun t105 =>
      bindV (evComp t104 1) fun t106 =>
      k (S.1, S.2.1, S.2.2.1, S.2.2.2.1, S.2.2.2.2.1, S.2.2.2.2.2.1, S.2.2.2.2.2.2.1, S.2.2.2.2.2.2.2.1, t106, S.2.2.2.2.2.2.2.2.2.1, S.2.2.2.2.2.2.2.2.2.2.1, S.2.2.2.2.2.2.2.2.2.2.2.1, S.2.2.2.2.2.2.2.2.2.2.2.2.1, S.2.2.2.2.2.2.2.2.2.2.2.2.2.1, S.2.2.2.2.2.2.2.2.2.2.2.2.2.2.1, S.2.2.2.2.2.2.2.2.2.2.2.2.2.2.2.1, S.2.2.2.2.2.2.2.2.2.2.2.2.2.2.2.2.1, S.2.2.2.2.2.2.2.2.2.2.2.2.2.2.2.2.2.1, S.2.2.2.2.2.2.2.2.2.2.2.2.2.2.2.2.2.2.1, t105, S.2.2.2.2.2.2.2.2.2.2.2.2.2.2.2.2.2.2.2.2.1, S.2.2.2.2.2.2.2.2.2.2.2.2.2.2.2.2.2.2.2.2.2.1, S.2.2.2.2.2.2.2.2.2.2.2.2.2.2.2.2.2.2.2.2.2.2.1, ()) H37)
  (seqE (leafE fun S H k =>
      bindVH (call lo 6 [] H) fun t108 H38 =>
      bindVH (call lo 20 [(.int .i64 (.ofNat 1)), (.int .i64 (.ofNat 0)), (.int .i64 (.ofNat 1))] H38) fun t109 H39 =>
      bindVH (call lo 20 [(.int .i64 (.ofNat 1)), (.int .i64 (.ofNat 0)), (.int .i64 (.ofNat 0))] H39) fun t110 H40 =>
      bindV (evFill [(0, 3, t109), (3, 3, t110)] (zeros (cellsOf z42) 2)) fun c41 =>
      let t111 := newSlice H40 2 2
      let H42 := H40.push (.cells (Nat.mul 2 3) c41 42)
      bindVH (call lo 21 [t108, t111] H42) fun t112 H43 =>
      bindV (evComp t112 0) fun t113 =>
      bindV (evComp t112 1) fun t114 =>
      k (S.1, S.2.1, S.2.2.1, S.2.2.2.1, S.2.2.2.2.1, S.2.2.2.2.2.1, S.2.2.2.2.2.2.1, S.2.2.2.2.2.2.2.1, S.2.2.2.2.2.2.2.2.1, S.2.2.2.2.2.2.2.2.2.1, t114, S.2.2.2.2.2.2.2.2.2.2.2.1, S.2.2.2.2.2.2.2.2.2.2.2.2.1, S.2.2.2.2.2.2.2.2.2.2.2.2.2.1, S.2.2.2.2.2.2.2.2.2.2.2.2.2.2.1, S.2.2.2.2.2.2.2.2.2.2.2.2.2.2.2.1, S.2.2.2.2.2.2.2.2.2.2.2.2.2.2.2.2.1, S.2.2.2.2.2.2.2.2.2.2.2.2.2.2.2.2.2.1, S.2.2.2.2.2.2.2.2.2.2.2.2.2.2.2.2.2.2.1, S.2.2.2.2.2.2.2.2.2.2.2.2.2.2.2.2.2.2.2.1, t113, S.2.2.2.2.2.2.2.2.2.2.2.2.2.2.2.2.2.2.2.2.2.1, S.2.2.2.2.2.2.2.2.2.2.2.2.2.2.2.2.2.2.2.2.2.2.1, ()) H43)
  (seqE (leafE fun S H k =>
      bindVH (call lo 5 [] H) fun t116 H44 =>
      bindVH (call lo 20 [(.int .i64 (.ofNat 1)), (.int .i64 (.ofNat 0)), (.int .i64 (.ofNat 0))] H44) fun t117 H45 =>
      bindVH (call lo 20 [(.int .i64 (.ofNat 1)), (.int .i64 (.ofNat 0)), (.int .i64 (.ofNat 1))] H45) fun t118 H46 =>
      bindV (evFill [(0, 3, t117), (3, 3, t118)] (zeros (cellsOf z42) 2)) fun c47 =>
      let t119 := newSlice H46 2 2
      let H48 := H46.push (.cells (Nat.mul 2 3) c47 42)
      bindVH (call lo 22 [t116, t119, (.int .i64 (.ofNat 4))] H48) fun t120 H49 =>
      bindV (evComp t120 0) fun t121 =>
      bindV (evComp t120 1) fun t122 =>
      k (S.1, S.2.1, S.2.2.1, S.2.2.2.1, S.2.2.2.2.1, S.2.2.2.2.2.1, S.2.2.2.2.2.2.1, S.2.2.2.2.2.2.2.1, S.2.2.2.2.2.2.2.2.1, S.2.2.2.2.2.2.2.2.2.1, S.2.2.2.2.2.2.2.2.2.2.1, S.2.2.2.2.2.2.2.2.2.2.2.1, t122, S.2.2.2.2.2.2.2.2.2.2.2.2.2.1, S.2.2.2.2.2.2.2.2.2.2.2.2.2.2.1, S.2.2.2.2.2.2.2.2.2.2.2.2.2.2.2.1, S.2.2.2.2.2.2.2.2.2.2.2.2.2.2.2.2.1, S.2.2.2.2.2.2.2.2.2.2.2.2.2.2.2.2.2.1, S.2.2.2.2.2.2.2.2.2.2.2.2.2.2.2.2.2.2.1, S.2.2.2.2.2.2.2.2.2.2.2.2.2.2.2.2.2.2.2.1, S.2.2.2.2.2.2.2.2.2.2.2.2.2.2.2.2.2.2.2.2.1, t121, S.2.2.2.2.2.2.2.2.2.2.2.2.2.2.2.2.2.2.2.2.2.2.1, ()) H49)
  (seqE (leafE fun S H k =>
      bindVH (call lo 7 [] H) fun t124 H50 =>
      bindVH (call lo 8 [t124] H50) fun t125 H51 =>
      bindV (evComp t125 0) fun t126 =>
      bindV (evComp t125 1) fun t127 =>
      k (S.1, S.2.1, S.2.2.1, S.2.2.2.1, S.2.2.2.2.1, S.2.2.2.2.2.1, S.2.2.2.2.2.2.1, S.2.2.2.2.2.2.2.1, S.2.2.2.2.2.2.2.2.1, S.2.2.2.2.2.2.2.2.2.1, S.2.2.2.2.2.2.2.2.2.2.1, S.2.2.2.2.2.2.2.2.2.2.2.1, S.2.2.2.2.2.2.2.2.2.2.2.2.1, S.2.2.2.2.2.2.2.2.2.2.2.2.2.1, t127, S.2.2.2.2.2.2.2.2.2.2.2.2.2.2.2.1, S.2.2.2.2.2.2.2.2.2.2.2.2.2.2.2.2.1, S.2.2.2.2.2.2.2.2.2.2.2.2.2.2.2.2.2.1, S.2.2.2.2.2.2.2.2.2.2.2.2.2.2.2.2.2.2.1, S.2.2.2.2.2.2.2.2.2.2.2.2.2.2.2.2.2.2.2.1, S.2.2.2.2.2.2.2.2.2.2.2.2.2.2.2.2.2.2.2.2.1, S.2.2.2.2.2.2.2.2.2.2.2.2.2.2.2.2.2.2.2.2.2.1, S.2.2.2.2.2.2.2.2.2.2.2.2.2.2.2.2.2.2.2.2.2.2.1, ()) H51)
  (seqE (leafE fun S H k =>
      bindV (evEql .int S.2.2.1 (.int .i64 (.ofNat 0))) fun t129 =>
      guarded t129 true ( pairVH S.2.2.2.2.1 H) H fun t131 H52 =>
      guarded t129 true (bindV (evEql .int t131 (.int .i64 (.ofNat 0))) fun t1000000 => pairVH t1000000 H52) H52 fun t132 H53 =>
      bindV (evPick t129 t132 (.bool false)) fun t133 =>
      guarded t133 true ( pairVH S.2.2.2.2.2.2.1 H53) H53 fun t135 H54 =>
      guarded t133 true (bindV (evEql .int t135 (.int .i64 (.ofNat 0))) fun t1000000 => pairVH t1000000 H54) H54 fun t136 H55 =>
      bindV (evPick t133 t136 (.bool false)) fun t137 =>
      guarded t137 true ( pairVH S.2.2.2.2.2.2.2.2.1 H55) H55 fun t139 H56 =>
      guarded t137 true (bindV (evEql .int t139 (.int .i64 (.ofNat 0))) fun t1000000 => pairVH t1000000 H56) H56 fun t140 H57 =>
      bindV (evPick t137 t140 (.bool false)) fun t141 =>
      guarded t141 true ( pairVH S.2.2.2.2.2.2.2.2.2.2.1 H57) H57 fun t143 H58 =>
      guarded t141 true (bindV (evEql .int t143 (.int .i64 (.ofNat 0))) fun t1000000 => pairVH t1000000 H58) H58 fun t144 H59 =>
      bindV (evPick t141 t144 (.bool false)) fun t145 =>
      guarded t145 true ( pairVH S.2.2.2.2.2.2.2.2.2.2.2.2.1 H59) H59 fun t147 H60 =>
      guarded t145 true (bindV (evEql .int t147 (.int .i64 (.ofNat 0))) fun t1000000 => pairVH t1000000 H60) H60 fun t148 H61 =>
      bindV (evPick t145 t148 (.bool false)) fun t149 =>
      guarded t149 true ( pairVH S.2.2.2.2.2.2.2.2.2.2.2.2.2.2.1 H61) H61 fun t151 H62 =>
      guarded t149 true (bindV (evEql .int t151 (.int .i64 (.ofNat 12))) fun t1000000 => pairVH t1000000 H62) H62 fun t152 H63 =>
      bindV (evPick t149 t152 (.bool false)) fun t153 =>
      guarded t153 true ( pairVH S.2.1 H63) H63 fun t155 H64 =>
      guarded t153 true (bindV (evFill [(0, 1, (.int .i64 (.ofNat 0))), (1, 1, (.int .i64 (.ofNat 3))), (2, 1, (.int .i64 (.ofNat 6)))] (zeros (cellsOf (.int .i64 (.ofNat 0))) 3)) fun c65 => let t1000000 := newSlice H64 3 3; let H66 := H64.push (.cells (Nat.mul 3 1) c65 3); pairVH t1000000 H66) H64 fun t156 H67 =>
      guarded t153 true (bindVH (call lo 16 [t156] H67) fun t1000000 H68 => pairVH t1000000 H68) H67 fun t157 H69 =>
      guarded t153 true (bindVH (call lo 15 [t155, t157] H69) fun t1000000 H70 => pairVH t1000000 H70) H69 fun t158 H71 =>
      bindV (evPick t153 t158 (.bool false)) fun t159 =>
      guarded t159 true ( pairVH S.2.2.2.1 H71) H71 fun t161 H72 =>
      guarded t159 true (bindV (evFill [(0, 1, (.int .i64 (.ofNat 1))), (1, 1, (.int .i64 (.ofNat 2))), (2, 1, (.int .i64 (.ofNat 4))), (3, 1, (.int .i64 (.ofNat 5))), (4, 1, (.int .i64 (.ofNat 7))), (5, 1, (.int .i64 (.ofNat 8)))] (zeros (cellsOf (.int .i64 (.ofNat 0))) 6)) fun c73 => let t1000000 := newSlice H72 6 6; let H74 := H72.push (.cells (Nat.mul 6 1) c73 3); pairVH t1000000 H74) H72 fun t162 H75 =>
      guarded t159 true (bindVH (call lo 16 [t162] H75) fun t1000000 H76 => pairVH t1000000 H76) H75 fun t163 H77 =>
      guarded t159 true (bindVH (call lo 15 [t161, t163] H77) fun t1000000 H78 => pairVH t1000000 H78) H77 fun t164 H79 =>
      bindV (evPick t159 t164 (.bool false)) fun t165 =>
      guarded t165 true ( pairVH S.2.2.2.2.2.1 H79) H79 fun t167 H80 =>
      guarded t165 true (bindV (evEql .int t167 (.int .i64 (.ofNat 3))) fun t1000000 => pairVH t1000000 H80) H80 fun t168 H81 =>
      bindV (evPick t165 t168 (.bool false)) fun t169 =>
      guarded t169 true ( pairVH S.2.2.2.2.2.2.2.1 H81) H81 fun t171 H82 =>
      guarded t169 true (bindV (evEql .int t171 (.int .i64 (.ofNat 4))) fun t1000000 => pairVH t1000000 H82) H82 fun t172 H83 =>
      bindV (evPick t169 t172 (.bool false)) fun t173 =>
      guarded t173 true ( pairVH S.2.2.2.2.2.2.2.2.2.1 H83) H83 fun t175 H84 =>
      guarded t173 true (bindV (evEql .int t175 (.int .i64 (.ofNat 3))) fun t1000000 => pairVH t1000000 H84) H84 fun t176 H85 =>
      bindV (evPick t173 t176 (.bool false)) fun t177 =>
      guarded t177 true ( pairVH S.2.2.2.2.2.2.2.2.2.2.2.1 H85) H85 fun t179 H86 =>
      guarded t177 true (bindV (evFill [(0, 1, (.int .i64 (.ofNat 1))), (1, 1, (.int .i64 (.ofNat 2))), (2, 1, (.int .i64 (.ofNat 3))), (3, 1, (.int .i64 (.ofNat 4))), (4, 1, (.int .i64 (.ofNat 5))), (5, 1, (.int .i64 (.ofNat 8))), (6, 1, (.int .i64 (.ofNat 6))), (7, 1, (.int .i64 (.ofNat 7)))] (zeros (cellsOf (.int .i64 (.ofNat 0))) 8)) fun c87 => let t1000000 := newSlice H86 8 8; let H88 := H86.push (.cells (Nat.mul 8 1) c87 3); pairVH t1000000 H88) H86 fun t180 H89 =>
      guarded t177 true (bindVH (call lo 14 [t180] H89) fun t1000000 H90 => pairVH t1000000 H90) H89 fun t181 H91 =>
      guarded t177 true (bindVH (call lo 23 [t179, t181] H91) fun t1000000 H92 => pairVH t1000000 H92) H91 fun t182 H93 =>
      bindV (evPick t177 t182 (.bool false)) fun t183 =>
      guarded t183 true ( pairVH S.2.2.2.2.2.2.2.2.2.2.2.2.2.1 H93) H93 fun t185 H94 =>
      guarded t183 true (bindV (evEql .int t185 (.int .i64 (.ofNat 1))) fun t1000000 => pairVH t1000000 H94) H94 fun t186 H95 =>
      bindV (evPick t183 t186 (.bool false)) fun t187 =>
      guarded t187 true ( pairVH S.2.2.2.2.2.2.2.2.2.2.2.2.2.2.2.1 H95) H95 fun t189 H96 =>
      guarded t187 true (bindV (evEql .int t189 (.int .i64 (.ofNat 3))) fun t1000000 => pairVH t1000000 H96) H96 fun t190 H97 =>
      bindV (evPick t187 t190 (.bool false)) fun t191 =>
      guarded t191 true ( pairVH S.2.2.2.2.2.2.2.2.2.2.2.2.2.2.2.2.1 H97) H97 fun t193 H98 =>
      guarded t191 true (bindV (evFill [(0, 1, (.int .i64 (.ofNat 0))), (1, 1, (.int .i64 (.ofNat 1))), (2, 1, (.int .i64 (.ofNat 2))), (3, 1, (.int .i64 (.ofNat 5))), (4, 1, (.int .i64 (.ofNat 3))), (5, 1, (.int .i64 (.ofNat 4))), (6, 1, (.int .i64 (.ofNat 6))), (7, 1, (.int .i64 (.ofNat 7)))] (zeros (cellsOf (.int .i64 (.ofNat 0))) 8)) fun c99 => let t1000000 := newSlice H98 8 8; let H100 := H98.push (.cells (Nat.mul 8 1) c99 3); pairVH t1000000 H100) H98 fun t194 H101 =>
      guarded t191 true (bindVH (call lo 14 [t194] H101) fun t1000000 H102 => pairVH t1000000 H102) H101 fun t195 H103 =>
      guarded t191 true (bindVH (call lo 23 [t193, t195] H103) fun t1000000 H104 => pairVH t1000000 H104) H103 fun t196 H105 =>
      bindV (evPick t191 t196 (.bool false)) fun t197 =>
      guarded t197 true ( pairVH S.2.2.2.2.2.2.2.2.2.2.2.2.2.2.2.2.2.1 H105) H105 fun t199 H106 =>
      guarded t197 true (bindV (evEql .int t199 (.int .i64 (.ofNat 3))) fun t1000000 => pairVH t1000000 H106) H106 fun t200 H107 =>
      bindV (evPick t197 t200 (.bool false)) fun t201 =>
      guarded t201 true ( pairVH S.2.2.2.2.2.2.2.2.2.2.2.2.2.2.2.2.2.2.1 H107) H107 fun t203 H108 =>
      guarded t201 true (bindV (evFill [(0, 1, (.int .i64 (.ofNat 1))), (1, 1, (.int .i64 (.ofNat 5))), (2, 1, (.int .i64 (.ofNat 7)))] (zeros (cellsOf (.int .i64 (.ofNat 0))) 3)) fun c109 => let t1000000 := newSlice H108 3 3; let H110 := H108.push (.cells (Nat.mul 3 1) c109 3); pairVH t1000000 H110) H108 fun t204 H111 =>
      guarded t201 true (bindVH (call lo 16 [t204] H111) fun t1000000 H112 => pairVH t1000000 H112) H111 fun t205 H113 =>
      guarded t201 true (bindVH (call lo 15 [t203, t205] H113) fun t1000000 H114 => pairVH t1000000 H114) H113 fun t206 H115 =>
      bindV (evPick t201 t206 (.bool false)) fun t207 =>
      guarded t207 true ( pairVH S.2.2.2.2.2.2.2.2.2.2.2.2.2.2.2.2.2.2.2.1 H115) H115 fun t209 H116 =>
      guarded t207 true (bindV (evEql .int t209 (.int .i64 (.ofNat 1))) fun t1000000 => pairVH t1000000 H116) H116 fun t210 H117 =>
      bindV (evPick t207 t210 (.bool false)) fun t211 =>
      guarded t211 true ( pairVH S.2.2.2.2.2.2.2.2.2.2.2.2.2.2.2.2.2.2.2.2.1 H117) H117 fun t213 H118 =>
      guarded t211 true (bindV (evEql .int t213 (.int .i64 (.ofNat 1))) fun t1000000 => pairVH t1000000 H118) H118 fun t214 H119 =>
      bindV (evPick t211 t214 (.bool false)) fun t215 =>
      guarded t215 true ( pairVH S.2.2.2.2.2.2.2.2.2.2.2.2.2.2.2.2.2.2.2.2.2.1 H119) H119 fun t217 H120 =>
      guarded t215 true (bindV (evEql .int t217 (.int .i64 (.ofNat 2))) fun t1000000 => pairVH t1000000 H120) H120 fun t218 H121 =>
      bindV (evPick t215 t218 (.bool false)) fun t219 =>
      guarded t219 true (bindVH (call lo 12 [] H121) fun t1000000 H122 => pairVH t1000000 H122) H121 fun t221 H123 =>
      guarded t219 true (bindVH (call lo 24 [t221, (.int .i64 (.ofNat 3))] H123) fun t1000000 H124 => pairVH t1000000 H124) H123 fun t222 H125 =>
      guarded t219 true (bindV (evEql .int t222 (.int .i64 (.ofNat 0))) fun t1000000 => pairVH t1000000 H125) H125 fun t223 H126 =>
      bindV (evPick t219 t223 (.bool false)) fun t224 =>
      guarded t224 true (bindVH (call lo 12 [] H126) fun t1000000 H127 => pairVH t1000000 H127) H126 fun t226 H128 =>
      guarded t224 true (bindVH (call lo 24 [t226, (.int .i64 (.ofNat 4))] H128) fun t1000000 H129 => pairVH t1000000 H129) H128 fun t227 H130 =>
      guarded t224 true (bindV (evEql .int t227 (.int .i64 (.ofNat 21))) fun t1000000 => pairVH t1000000 H130) H130 fun t228 H131 =>
      bindV (evPick t224 t228 (.bool false)) fun t229 =>
      guarded t229 true (bindVH (call lo 12 [] H131) fun t1000000 H132 => pairVH t1000000 H132) H131 fun t231 H133 =>
      guarded t229 true (bindVH (call lo 24 [t231, (.int .i64 (.ofNat 5))] H133) fun t1000000 H134 => pairVH t1000000 H134) H133 fun t232 H135 =>
      guarded t229 true (bindV (evEql .int t232 (.int .i64 (.ofNat 15))) fun t1000000 => pairVH t1000000 H135) H135 fun t233 H136 =>
      bindV (evPick t229 t233 (.bool false)) fun t234 =>
      guarded t234 true (bindVH (call lo 12 [] H136) fun t1000000 H137 => pairVH t1000000 H137) H136 fun t236 H138 =>
      guarded t234 true (bindV (evFill [(0, 1, (.int .i64 (.ofNat 1))), (1, 1, (.int .i64 (.ofNat 5))), (2, 1, (.int .i64 (.ofNat 7)))] (zeros (cellsOf (.int .i64 (.ofNat 0))) 3)) fun c139 => let t1000000 := newSlice H138 3 3; let H140 := H138.push (.cells (Nat.mul 3 1) c139 3); pairVH t1000000 H140) H138 fun t237 H141 =>
      guarded t234 true (bindVH (call lo 16 [t237] H141) fun t1000000 H142 => pairVH t1000000 H142) H141 fun t238 H143 =>
      guarded t234 true (bindVH (call lo 25 [t236, (.int .i64 (.ofNat 3)), (.int .i64 (.ofNat 3)), t238] H143) fun t1000000 H144 => pairVH t1000000 H144) H143 fun t239 H145 =>
      guarded t234 true (bindV (evEql .int t239 (.int .i64 (.ofNat 0))) fun t1000000 => pairVH t1000000 H145) H145 fun t240 H146 =>
      bindV (evPick t234 t240 (.bool false)) fun t241 =>
      guarded t241 true (bindVH (call lo 12 [] H146) fun t1000000 H147 => pairVH t1000000 H147) H146 fun t243 H148 =>
      guarded t241 true (bindV (evFill [(0, 1, (.int .i64 (.ofNat 1))), (1, 1, (.int .i64 (.ofNat 5))), (2, 1, (.int .i64 (.ofNat 7)))] (zeros (cellsOf (.int .i64 (.ofNat 0))) 3)) fun c149 => let t1000000 := newSlice H148 3 3; let H150 := H148.push (.cells (Nat.mul 3 1) c149 3); pairVH t1000000 H150) H148 fun t244 H151 =>
      guarded t241 true (bindVH (call lo 16 [t244] H151) fun t1000000 H152 => pairVH t1000000 H152) H151 fun t245 H153 =>
      guarded t241 true (bindVH (call lo 25 [t243, (.int .i64 (.ofNat 2)), (.int .i64 (.ofNat 3)), t245] H153) fun t1000000 H154 => pairVH t1000000 H154) H153 fun t246 H155 =>
      guarded t241 true (bindV (evEql .int t246 (.int .i64 (.ofNat 14))) fun t1000000 => pairVH t1000000 H155) H155 fun t247 H156 =>
      bindV (evPick t241 t247 (.bool false)) fun t248 =>
      k (t248, S.2.1, S.2.2.1, S.2.2.2.1, S.2.2.2.2.1, S.2.2.2.2.2.1, S.2.2.2.2.2.2.1, S.2.2.2.2.2.2.2.1, S.2.2.2.2.2.2.2.2.1, S.2.2.2.2.2.2.2.2.2.1, S.2.2.2.2.2.2.2.2.2.2.1, S.2.2.2.2.2.2.2.2.2.2.2.1, S.2.2.2.2.2.2.2.2.2.2.2.2.1, S.2.2.2.2.2.2.2.2.2.2.2.2.2.1, S.2.2.2.2.2.2.2.2.2.2.2.2.2.2.1, S.2.2.2.2.2.2.2.2.2.2.2.2.2.2.2.1, S.2.2.2.2.2.2.2.2.2.2.2.2.2.2.2.2.1, S.2.2.2.2.2.2.2.2.2.2.2.2.2.2.2.2.2.1, S.2.2.2.2.2.2.2.2.2.2.2.2.2.2.2.2.2.2.1, S.2.2.2.2.2.2.2.2.2.2.2.2.2.2.2.2.2.2.2.1, S.2.2.2.2.2.2.2.2.2.2.2.2.2.2.2.2.2.2.2.2.1, S.2.2.2.2.2.2.2.2.2.2.2.2.2.2.2.2.2.2.2.2.2.1, S.2.2.2.2.2.2.2.2.2.2.2.2.2.2.2.2.2.2.2.2.2.2.1, ()) H156)
  (doneE .ret))))))))))))))))))

def F28 (call : CallF) (lo : Nat) (args : List Value) (H : AH) : Option (Value × AH) :=
  leave .pure H (bindV (C28 call (lowOf .pure lo H) (argAt args 0, argAt args 1, argAt args 2, argAt args 3, argAt args 4, argAt args 5, argAt args 6, argAt args 7, argAt args 8, argAt args 9, argAt args 10, argAt args 11, argAt args 12, argAt args 13, argAt args 14, argAt args 15, argAt args 16, argAt args 17, argAt args 18, argAt args 19, argAt args 20, argAt args 21, argAt args 84, ()) H) fun p => resE p.1 (some (oneOf [p.2.1.1], p.2.2)))

theorem F28_eq (call : CallF) (lo : Nat) (args : List Value) (H : AH) : evFn P ctx call lo 28 args H = F28 call lo args H := by kernel_rfl

/-- novaculite/seam.Region -/
def C29 (call : CallF) (lo : Nat) : Piece (Value × Value × Value × Value × Value × Value × Value × Value × Value × Value × Value × Value × Value × Unit) :=
  (seqE (leafE fun S H k =>
      let t1 := newPtr H
      let H0 := pushBox H 56 S.1
      k (S.1, t1, (.slice none 0 0), (.int .i64 (.ofNat 0)), S.2.2.2.2.1, S.2.2.2.2.2.1, S.2.2.2.2.2.2.1, S.2.2.2.2.2.2.2.1, S.2.2.2.2.2.2.2.2.1, S.2.2.2.2.2.2.2.2.2.1, S.2.2.2.2.2.2.2.2.2.2.1, S.2.2.2.2.2.2.2.2.2.2.2.1, S.2.2.2.2.2.2.2.2.2.2.2.2.1, ()) H0)
  (seqE (leafE fun S H k =>
      bindV (evLoad H true 2 S.2.1) fun t10 =>
      bindVH (call lo 51 [t10] H) fun t11 H1 =>
      bindV (evComp t11 0) fun t12 =>
      bindV (evComp t11 1) fun t13 =>
      let t4 := newPtr H1
      let H2 := pushBox H1 93 z93
      bindV (evStore lo H2 2 t4 t12) fun H3 =>
      k (S.1, S.2.1, S.2.2.1, S.2.2.2.1, t4, t13, S.2.2.2.2.2.2.1, S.2.2.2.2.2.2.2.1, S.2.2.2.2.2.2.2.2.1, S.2.2.2.2.2.2.2.2.2.1, S.2.2.2.2.2.2.2.2.2.2.1, S.2.2.2.2.2.2.2.2.2.2.2.1, S.2.2.2.2.2.2.2.2.2.2.2.2.1, ()) H3)
  (seqE (seqE (leafE fun S H k =>
      bindV (evNeq .int S.2.2.2.2.2.1 (.int .i64 (.ofNat 0))) fun t15 =>
      k (S.1, S.2.1, S.2.2.1, S.2.2.2.1, S.2.2.2.2.1, S.2.2.2.2.2.1, S.2.2.2.2.2.2.1, S.2.2.2.2.2.2.2.1, t15, S.2.2.2.2.2.2.2.2.2.1, S.2.2.2.2.2.2.2.2.2.2.1, S.2.2.2.2.2.2.2.2.2.2.2.1, S.2.2.2.2.2.2.2.2.2.2.2.2.1, ()) H)
  (condE (fun S => some S.2.2.2.2.2.2.2.2.1)
   (seqE (leafE fun S H k =>
       k (S.1, S.2.1, (.slice none 0 0), S.2.2.2.2.2.1, S.2.2.2.2.1, S.2.2.2.2.2.1, S.2.2.2.2.2.2.1, S.2.2.2.2.2.2.2.1, S.2.2.2.2.2.2.2.2.1, S.2.2.2.2.2.2.2.2.2.1, S.2.2.2.2.2.2.2.2.2.2.1, S.2.2.2.2.2.2.2.2.2.2.2.1, S.2.2.2.2.2.2.2.2.2.2.2.2.1, ()) H)
   (doneE .ret))
   (doneE .normal)))
  (seqE (leafE fun S H k =>
      k (S.1, S.2.1, S.2.2.1, S.2.2.2.1, S.2.2.2.2.1, S.2.2.2.2.2.1, (.slice none 0 0), S.2.2.2.2.2.2.2.1, S.2.2.2.2.2.2.2.2.1, S.2.2.2.2.2.2.2.2.2.1, S.2.2.2.2.2.2.2.2.2.2.1, S.2.2.2.2.2.2.2.2.2.2.2.1, S.2.2.2.2.2.2.2.2.2.2.2.2.1, ()) H)
  (seqE (seqE (leafE fun S H k =>
      bindV (evLoad H true 2 S.2.2.2.2.1) fun t17 =>
      bindV (evLoad H true 2 S.2.2.2.2.1) fun t18 =>
      need (Nat.ble lo H.next) <|
      bindVH (call H.next 54 [t18] H) fun t19 H4 =>
      bindVH (call lo 53 [t17, t19] H4) fun t20 H5 =>
      bindVH (call lo 52 [t20] H5) fun t21 H6 =>
      bindV (evLenS t21) fun t22 =>
      k (S.1, S.2.1, S.2.2.1, S.2.2.2.1, S.2.2.2.2.1, S.2.2.2.2.2.1, S.2.2.2.2.2.2.1, S.2.2.2.2.2.2.2.1, S.2.2.2.2.2.2.2.2.1, t21, t22, (.int .i64 (.ofNat 0)), S.2.2.2.2.2.2.2.2.2.2.2.2.1, ()) H6)
  (blockE 0 (loopE (seqE (leafE fun S H k =>
        bindV (evLss S.2.2.2.2.2.2.2.2.2.2.2.1 S.2.2.2.2.2.2.2.2.2.2.1) fun t24 =>
        k (S.1, S.2.1, S.2.2.1, S.2.2.2.1, S.2.2.2.2.1, S.2.2.2.2.2.1, S.2.2.2.2.2.2.1, S.2.2.2.2.2.2.2.1, S.2.2.2.2.2.2.2.2.1, S.2.2.2.2.2.2.2.2.2.1, S.2.2.2.2.2.2.2.2.2.2.1, S.2.2.2.2.2.2.2.2.2.2.2.1, t24, ()) H)
    (seqE (condE (fun S => some S.2.2.2.2.2.2.2.2.2.2.2.2.1)
     (doneE .normal)
     (doneE (.exit 0)))
    (seqE (blockE 1 (seqE (leafE fun S H k =>
         bindV (evIdxSlice 1 S.2.2.2.2.2.2.2.2.2.1 S.2.2.2.2.2.2.2.2.2.2.2.1) fun t25 =>
         bindV (evLoad H false 1 t25) fun t26 =>
         k (S.1, S.2.1, S.2.2.1, S.2.2.2.1, S.2.2.2.2.1, S.2.2.2.2.2.1, S.2.2.2.2.2.2.1, t26, S.2.2.2.2.2.2.2.2.1, S.2.2.2.2.2.2.2.2.2.1, S.2.2.2.2.2.2.2.2.2.2.1, S.2.2.2.2.2.2.2.2.2.2.2.1, S.2.2.2.2.2.2.2.2.2.2.2.2.1, ()) H)
     (leafE fun S H k =>
         bindV (evQuo S.2.2.2.2.2.2.2.1 (.int .i64 (.ofNat 7))) fun t29 =>
         bindV (evRem S.2.2.2.2.2.2.2.1 (.int .i64 (.ofNat 7))) fun t31 =>
         bindV (evAgg [(0, 1, t29), (1, 1, t31)] (cellsOf z59)) fun t32 =>
         bindV (evFill [(0, 2, t32)] (zeros (cellsOf z59) 1)) fun c7 =>
         let t33 := newSlice H 1 1
         let H8 := H.push (.cells (Nat.mul 1 2) c7 59)
         bindVH (evAppend lo H8 59 2 16 S.2.2.2.2.2.2.1 t33) fun t34 H9 =>
         k (S.1, S.2.1, S.2.2.1, S.2.2.2.1, S.2.2.2.2.1, S.2.2.2.2.2.1, t34, S.2.2.2.2.2.2.2.1, S.2.2.2.2.2.2.2.2.1, S.2.2.2.2.2.2.2.2.2.1, S.2.2.2.2.2.2.2.2.2.2.1, S.2.2.2.2.2.2.2.2.2.2.2.1, S.2.2.2.2.2.2.2.2.2.2.2.2.1, ()) H9)))
    (leafE fun S H k =>
        bindV (evAdd S.2.2.2.2.2.2.2.2.2.2.2.1 (.int .i64 (.ofNat 1))) fun t35 =>
        k (S.1, S.2.1, S.2.2.1, S.2.2.2.1, S.2.2.2.2.1, S.2.2.2.2.2.1, S.2.2.2.2.2.2.1, S.2.2.2.2.2.2.2.1, S.2.2.2.2.2.2.2.2.1, S.2.2.2.2.2.2.2.2.2.1, S.2.2.2.2.2.2.2.2.2.2.1, t35, S.2.2.2.2.2.2.2.2.2.2.2.2.1, ()) H)))) fuel)))
  (seqE (leafE fun S H k =>
      k (S.1, S.2.1, S.2.2.2.2.2.2.1, (.int .i64 (.ofNat 0)), S.2.2.2.2.1, S.2.2.2.2.2.1, S.2.2.2.2.2.2.1, S.2.2.2.2.2.2.2.1, S.2.2.2.2.2.2.2.2.1, S.2.2.2.2.2.2.2.2.2.1, S.2.2.2.2.2.2.2.2.2.2.1, S.2.2.2.2.2.2.2.2.2.2.2.1, S.2.2.2.2.2.2.2.2.2.2.2.2.1, ()) H)
  (doneE .ret)))))))

def F29 (call : CallF) (lo : Nat) (args : List Value) (H : AH) : Option (Value × AH) :=
  leave .all H (bindV (C29 call (lowOf .all lo H) (argAt args 0, argAt args 1, argAt args 2, argAt args 3, argAt args 4, argAt args 5, argAt args 6, argAt args 8, argAt args 15, argAt args 21, argAt args 22, argAt args 23, argAt args 24, ()) H) fun p => resE p.1 (some (oneOf [p.2.1.2.2.1, p.2.1.2.2.2.1], p.2.2)))

theorem F29_eq (call : CallF) (lo : Nat) (args : List Value) (H : AH) : evFn P ctx call lo 29 args H = F29 call lo args H := by kernel_rfl

/-- (novaculite/block.Block).hill -/
def C30 (call : CallF) (lo : Nat) : Piece (Value × Value × Value × Unit) :=
  (seqE (leafE fun S H k =>
      let t1 := newPtr H
      let H0 := pushBox H 28 S.1
      let t2 := newPtr H0
      let H1 := pushBox H0 56 z56
      k (S.1, t1, t2, ()) H1)
  (seqE (leafE fun S H k =>
      bindV (evShift S.2.1 0) fun t3 =>
      bindV (evLoad H false 1 t3) fun t4 =>
      bindV (evShift S.2.1 2) fun t5 =>
      bindV (evLoad H false 1 t5) fun t6 =>
      bindV (evAgg [(0, 1, t4), (1, 1, t6)] (cellsOf z56)) fun t7 =>
      bindV (evStore lo H 2 S.2.2.1 t7) fun H2 =>
      k (S.1, S.2.1, S.2.2.1, ()) H2)
  (doneE .ret)))

def F30 (call : CallF) (lo : Nat) (args : List Value) (H : AH) : Option (Value × AH) :=
  leave .all H (bindV (C30 call (lowOf .all lo H) (argAt args 0, argAt args 1, argAt args 2, ()) H) fun p => resE p.1 (bindV (evLoad p.2.2 true 2 p.2.1.2.2.1) fun r0 => some (oneOf [r0], p.2.2)))

theorem F30_eq (call : CallF) (lo : Nat) (args : List Value) (H : AH) : evFn P ctx call lo 30 args H = F30 call lo args H := by kernel_rfl

/-- novaculite/block.cells -/
def C31 (call : CallF) (lo : Nat) : Piece (Value × Value × Value × Unit) :=
  (seqE (leafE fun S H k =>
      k (S.1, (.slice none 0 0), S.2.2.1, ()) H)
  (seqE (leafE fun S H k =>
      bindVH (call lo 55 [S.1] H) fun t5 H0 =>
      k (S.1, S.2.1, t5, ()) H0)
  (seqE (leafE fun S H k =>
      bindVH (call lo 56 [S.2.2.1] H) fun t7 H1 =>
      k (S.1, S.2.1, S.2.2.1, ()) H1)
  (seqE (leafE fun S H k =>
      bindVH (call lo 57 [S.2.2.1] H) fun t9 H2 =>
      k (S.1, t9, S.2.2.1, ()) H2)
  (doneE .ret)))))

def F31 (call : CallF) (lo : Nat) (args : List Value) (H : AH) : Option (Value × AH) :=
  leave .all H (bindV (C31 call (lowOf .all lo H) (argAt args 0, argAt args 2, argAt args 3, ()) H) fun p => resE p.1 (some (oneOf [p.2.1.2.1], p.2.2)))

theorem F31_eq (call : CallF) (lo : Nat) (args : List Value) (H : AH) : evFn P ctx call lo 31 args H = F31 call lo args H := by kernel_rfl

/-- novaculite/block.surveyed -/
def C32 (call : CallF) (lo : Nat) : Piece (Value × Value × Value × Value × Value × Value × Value × Value × Unit) :=
  (seqE (leafE fun S H k =>
      let t1 := newPtr H
      let H0 := pushBox H 28 S.1
      let t2 := newPtr H0
      let H1 := pushBox H0 63 z63
      k (S.1, t1, t2, (.int .i64 (.ofNat 0)), S.2.2.2.2.1, S.2.2.2.2.2.1, S.2.2.2.2.2.2.1, S.2.2.2.2.2.2.2.1, ()) H1)
  (seqE (leafE fun S H k =>
      bindV (evLoad H true 3 S.2.1) fun t7 =>
      bindVH (call lo 4 [t7] H) fun t8 H2 =>
      bindV (evComp t8 0) fun t9 =>
      bindV (evComp t8 1) fun t10 =>
      k (S.1, S.2.1, S.2.2.1, S.2.2.2.1, t9, t10, S.2.2.2.2.2.2.1, S.2.2.2.2.2.2.2.1, ()) H2)
  (seqE (blockE 0 (seqE (leafE fun S H k =>
       bindV (evNeq .int S.2.2.2.2.2.1 (.int .i64 (.ofNat 0))) fun t13 =>
       k (S.1, S.2.1, S.2.2.1, S.2.2.2.1, S.2.2.2.2.1, S.2.2.2.2.2.1, t13, S.2.2.2.2.2.2.2.1, ()) H)
   (condE (fun S => some S.2.2.2.2.2.2.1)
    (seqE (leafE fun S H k =>
        bindV (evAgg [] (cellsOf z63)) fun t14 =>
        bindV (evStore lo H 5 S.2.2.1 t14) fun H3 =>
        k (S.1, S.2.1, S.2.2.1, S.2.2.2.2.2.1, S.2.2.2.2.1, S.2.2.2.2.2.1, S.2.2.2.2.2.2.1, S.2.2.2.2.2.2.2.1, ()) H3)
    (doneE .ret))
    (seqE (leafE fun S H k =>
        bindV (evLenS S.2.2.2.2.1) fun t18 =>
        bindV (evEql .int t18 (.int .i64 (.ofNat 0))) fun t19 =>
        k (S.1, S.2.1, S.2.2.1, S.2.2.2.1, S.2.2.2.2.1, S.2.2.2.2.2.1, S.2.2.2.2.2.2.1, t19, ()) H)
    (condE (fun S => some S.2.2.2.2.2.2.2.1)
     (seqE (leafE fun S H k =>
         bindV (evAgg [] (cellsOf z63)) fun t20 =>
         bindV (evStore lo H 5 S.2.2.1 t20) fun H4 =>
         k (S.1, S.2.1, S.2.2.1, (.int .i64 (.ofNat 12)), S.2.2.2.2.1, S.2.2.2.2.2.1, S.2.2.2.2.2.2.1, S.2.2.2.2.2.2.2.1, ()) H4)
     (doneE .ret))
     (doneE .normal))))))
  (seqE (leafE fun S H k =>
      bindV (evLoad H true 3 S.2.1) fun t21 =>
      bindV (evAgg [(0, 3, t21), (3, 1, S.2.2.2.2.1), (4, 1, (.func (.func 58) #[] #[]))] (cellsOf z63)) fun t23 =>
      bindV (evStore lo H 5 S.2.2.1 t23) fun H5 =>
      k (S.1, S.2.1, S.2.2.1, (.int .i64 (.ofNat 0)), S.2.2.2.2.1, S.2.2.2.2.2.1, S.2.2.2.2.2.2.1, S.2.2.2.2.2.2.2.1, ()) H5)
  (doneE .ret)))))

def F32 (call : CallF) (lo : Nat) (args : List Value) (H : AH) : Option (Value × AH) :=
  leave .all H (bindV (C32 call (lowOf .all lo H) (argAt args 0, argAt args 1, argAt args 2, argAt args 3, argAt args 4, argAt args 5, argAt args 11, argAt args 16, ()) H) fun p => resE p.1 (bindV (evLoad p.2.2 true 5 p.2.1.2.2.1) fun r0 => some (oneOf [r0, p.2.1.2.2.2.1], p.2.2)))

theorem F32_eq (call : CallF) (lo : Nat) (args : List Value) (H : AH) : evFn P ctx call lo 32 args H = F32 call lo args H := by kernel_rfl

/-- (novaculite/block.survey).ends -/
def C33 (call : CallF) (lo : Nat) : Piece (Value × Value × Value × Value × Value × Value × Value × Value × Value × Value × Value × Value × Value × Unit) :=
  (seqE (leafE fun S H k =>
      let t1 := newPtr H
      let H0 := pushBox H 63 S.1
      k (S.1, t1, (.int .i64 (.ofNat 0)), (.int .i64 (.ofNat 0)), (.int .i64 (.ofNat 0)), S.2.2.2.2.2.1, S.2.2.2.2.2.2.1, S.2.2.2.2.2.2.2.1, S.2.2.2.2.2.2.2.2.1, S.2.2.2.2.2.2.2.2.2.1, S.2.2.2.2.2.2.2.2.2.2.1, S.2.2.2.2.2.2.2.2.2.2.2.1, S.2.2.2.2.2.2.2.2.2.2.2.2.1, ()) H0)
  (seqE (seqE (leafE fun S H k =>
      bindV (evShift S.2.1 3) fun t8 =>
      bindV (evLoad H false 1 t8) fun t9 =>
      bindV (evLenS t9) fun t10 =>
      k (S.1, S.2.1, S.2.2.1, S.2.2.2.1, S.2.2.2.2.1, S.2.2.2.2.2.1, S.2.2.2.2.2.2.1, S.2.2.2.2.2.2.2.1, t9, t10, (.int .i64 (.ofNat 0)), S.2.2.2.2.2.2.2.2.2.2.2.1, S.2.2.2.2.2.2.2.2.2.2.2.2.1, ()) H)
  (blockE 0 (loopE (seqE (leafE fun S H k =>
        bindV (evLss S.2.2.2.2.2.2.2.2.2.2.1 S.2.2.2.2.2.2.2.2.2.1) fun t12 =>
        k (S.1, S.2.1, S.2.2.1, S.2.2.2.1, S.2.2.2.2.1, S.2.2.2.2.2.1, S.2.2.2.2.2.2.1, S.2.2.2.2.2.2.2.1, S.2.2.2.2.2.2.2.2.1, S.2.2.2.2.2.2.2.2.2.1, S.2.2.2.2.2.2.2.2.2.2.1, t12, S.2.2.2.2.2.2.2.2.2.2.2.2.1, ()) H)
    (seqE (condE (fun S => some S.2.2.2.2.2.2.2.2.2.2.2.1)
     (doneE .normal)
     (doneE (.exit 0)))
    (seqE (blockE 1 (seqE (leafE fun S H k =>
         bindV (evIdxSlice 1 S.2.2.2.2.2.2.2.2.1 S.2.2.2.2.2.2.2.2.2.2.1) fun t14 =>
         bindV (evLoad H false 1 t14) fun t15 =>
         k (S.1, S.2.1, S.2.2.1, S.2.2.2.1, S.2.2.2.2.1, S.2.2.2.2.2.2.2.2.2.2.1, t15, S.2.2.2.2.2.2.2.1, S.2.2.2.2.2.2.2.2.1, S.2.2.2.2.2.2.2.2.2.1, S.2.2.2.2.2.2.2.2.2.2.1, S.2.2.2.2.2.2.2.2.2.2.2.1, S.2.2.2.2.2.2.2.2.2.2.2.2.1, ()) H)
     (seqE (leafE fun S H k =>
         bindV (evShift S.2.1 4) fun t16 =>
         bindV (evLoad H false 1 t16) fun t17 =>
         bindV (evShift S.2.1 0) fun t18 =>
         bindV (evLoad H true 3 t18) fun t19 =>
         callVal call lo t17 [t19, S.2.2.2.2.2.2.1] H fun t21 H1 =>
         k (S.1, S.2.1, S.2.2.1, S.2.2.2.1, S.2.2.2.2.1, S.2.2.2.2.2.1, S.2.2.2.2.2.2.1, t21, S.2.2.2.2.2.2.2.2.1, S.2.2.2.2.2.2.2.2.2.1, S.2.2.2.2.2.2.2.2.2.2.1, S.2.2.2.2.2.2.2.2.2.2.2.1, S.2.2.2.2.2.2.2.2.2.2.2.2.1, ()) H1)
     (seqE (seqE (leafE fun S H k =>
         bindV (evEql .int S.2.2.2.2.2.1 (.int .i64 (.ofNat 0))) fun t23 =>
         guarded t23 false ( pairVH S.2.2.2.2.2.2.2.1 H) H fun t25 H2 =>
         guarded t23 false ( pairVH S.2.2.1 H2) H2 fun t26 H3 =>
         guarded t23 false (bindV (evLss t25 t26) fun t1000000 => pairVH t1000000 H3) H3 fun t27 H4 =>
         bindV (evPick t23 (.bool true) t27) fun t28 =>
         k (S.1, S.2.1, S.2.2.1, S.2.2.2.1, S.2.2.2.2.1, S.2.2.2.2.2.1, S.2.2.2.2.2.2.1, S.2.2.2.2.2.2.2.1, S.2.2.2.2.2.2.2.2.1, S.2.2.2.2.2.2.2.2.2.1, S.2.2.2.2.2.2.2.2.2.2.1, S.2.2.2.2.2.2.2.2.2.2.2.1, t28, ()) H4)
     (condE (fun S => some S.2.2.2.2.2.2.2.2.2.2.2.2.1)
      (leafE fun S H k =>
          k (S.1, S.2.1, S.2.2.2.2.2.2.2.1, S.2.2.2.1, S.2.2.2.2.2.2.1, S.2.2.2.2.2.1, S.2.2.2.2.2.2.1, S.2.2.2.2.2.2.2.1, S.2.2.2.2.2.2.2.2.1, S.2.2.2.2.2.2.2.2.2.1, S.2.2.2.2.2.2.2.2.2.2.1, S.2.2.2.2.2.2.2.2.2.2.2.1, S.2.2.2.2.2.2.2.2.2.2.2.2.1, ()) H)
      (doneE .normal)))
     (leafE fun S H k =>
         bindV (evLesser true S.2.2.2.1 S.2.2.2.2.2.2.2.1) fun c5 =>
         k (S.1, S.2.1, S.2.2.1, c5, S.2.2.2.2.1, S.2.2.2.2.2.1, S.2.2.2.2.2.2.1, S.2.2.2.2.2.2.2.1, S.2.2.2.2.2.2.2.2.1, S.2.2.2.2.2.2.2.2.2.1, S.2.2.2.2.2.2.2.2.2.2.1, S.2.2.2.2.2.2.2.2.2.2.2.1, S.2.2.2.2.2.2.2.2.2.2.2.2.1, ()) H)))))
    (leafE fun S H k =>
        bindV (evAdd S.2.2.2.2.2.2.2.2.2.2.1 (.int .i64 (.ofNat 1))) fun t34 =>
        k (S.1, S.2.1, S.2.2.1, S.2.2.2.1, S.2.2.2.2.1, S.2.2.2.2.2.1, S.2.2.2.2.2.2.1, S.2.2.2.2.2.2.2.1, S.2.2.2.2.2.2.2.2.1, S.2.2.2.2.2.2.2.2.2.1, t34, S.2.2.2.2.2.2.2.2.2.2.2.1, S.2.2.2.2.2.2.2.2.2.2.2.2.1, ()) H)))) fuel)))
  (seqE (leafE fun S H k =>
      k (S.1, S.2.1, S.2.2.1, S.2.2.2.1, S.2.2.2.2.1, S.2.2.2.2.2.1, S.2.2.2.2.2.2.1, S.2.2.2.2.2.2.2.1, S.2.2.2.2.2.2.2.2.1, S.2.2.2.2.2.2.2.2.2.1, S.2.2.2.2.2.2.2.2.2.2.1, S.2.2.2.2.2.2.2.2.2.2.2.1, S.2.2.2.2.2.2.2.2.2.2.2.2.1, ()) H)
  (doneE .ret))))

def F33 (call : CallF) (lo : Nat) (args : List Value) (H : AH) : Option (Value × AH) :=
  leave .pure H (bindV (C33 call (lowOf .pure lo H) (argAt args 0, argAt args 1, argAt args 2, argAt args 3, argAt args 4, argAt args 5, argAt args 6, argAt args 7, argAt args 9, argAt args 10, argAt args 11, argAt args 12, argAt args 28, ()) H) fun p => resE p.1 (some (oneOf [p.2.1.2.2.1, p.2.1.2.2.2.1, p.2.1.2.2.2.2.1], p.2.2)))

theorem F33_eq (call : CallF) (lo : Nat) (args : List Value) (H : AH) : evFn P ctx call lo 33 args H = F33 call lo args H := by kernel_rfl

/-- slices.Contains[[]int,int] -/
def C34 (call : CallF) (lo : Nat) : Piece (Value × Value × Value × Unit) :=
  (seqE (leafE fun S H k =>
      k (S.1, S.2.1, (.bool false), ()) H)
  (seqE (leafE fun S H k =>
      bindVH (call lo 59 [S.1, S.2.1] H) fun t7 H0 =>
      bindV (evGeq t7 (.int .i64 (.ofNat 0))) fun t8 =>
      k (S.1, S.2.1, t8, ()) H0)
  (doneE .ret)))

def F34 (call : CallF) (lo : Nat) (args : List Value) (H : AH) : Option (Value × AH) :=
  leave .pure H (bindV (C34 call (lowOf .pure lo H) (argAt args 0, argAt args 1, argAt args 4, ()) H) fun p => resE p.1 (some (oneOf [p.2.1.2.2.1], p.2.2)))

theorem F34_eq (call : CallF) (lo : Nat) (args : List Value) (H : AH) : evFn P ctx call lo 34 args H = F34 call lo args H := by kernel_rfl

/-- novaculite/saw.First -/
def C35 (call : CallF) (lo : Nat) : Piece (Value × Value × Value × Value × Value × Value × Value × Unit) :=
  (seqE (leafE fun S H k =>
      let t1 := newPtr H
      let H0 := pushBox H 71 S.1
      k (S.1, t1, (.slice none 0 0), (.int .i64 (.ofNat 0)), S.2.2.2.2.1, S.2.2.2.2.2.1, S.2.2.2.2.2.2.1, ()) H0)
  (seqE (leafE fun S H k =>
      bindV (evLoad H true 3 S.2.1) fun t7 =>
      bindVH (call lo 60 [t7] H) fun t8 H1 =>
      bindV (evComp t8 0) fun t9 =>
      bindV (evComp t8 1) fun t10 =>
      let t4 := newPtr H1
      let H2 := pushBox H1 106 z106
      bindV (evStore lo H2 19 t4 t9) fun H3 =>
      k (S.1, S.2.1, S.2.2.1, S.2.2.2.1, t4, t10, S.2.2.2.2.2.2.1, ()) H3)
  (seqE (seqE (leafE fun S H k =>
      bindV (evNeq .int S.2.2.2.2.2.1 (.int .i64 (.ofNat 0))) fun t12 =>
      k (S.1, S.2.1, S.2.2.1, S.2.2.2.1, S.2.2.2.2.1, S.2.2.2.2.2.1, t12, ()) H)
  (condE (fun S => some S.2.2.2.2.2.2.1)
   (seqE (leafE fun S H k =>
       k (S.1, S.2.1, (.slice none 0 0), S.2.2.2.2.2.1, S.2.2.2.2.1, S.2.2.2.2.2.1, S.2.2.2.2.2.2.1, ()) H)
   (doneE .ret))
   (doneE .normal)))
  (seqE (leafE fun S H k =>
      bindV (evLoad H true 19 S.2.2.2.2.1) fun t14 =>
      bindV (evShift S.2.2.2.2.1 2) fun t15 =>
      bindV (evLoad H false 1 t15) fun t16 =>
      bindVH (call lo 61 [t14, t16] H) fun t17 H4 =>
      k (S.1, S.2.1, t17, (.int .i64 (.ofNat 0)), S.2.2.2.2.1, S.2.2.2.2.2.1, S.2.2.2.2.2.2.1, ()) H4)
  (doneE .ret)))))

def F35 (call : CallF) (lo : Nat) (args : List Value) (H : AH) : Option (Value × AH) :=
  leave .all H (bindV (C35 call (lowOf .all lo H) (argAt args 0, argAt args 1, argAt args 2, argAt args 3, argAt args 4, argAt args 5, argAt args 12, ()) H) fun p => resE p.1 (some (oneOf [p.2.1.2.2.1, p.2.1.2.2.2.1], p.2.2)))

theorem F35_eq (call : CallF) (lo : Nat) (args : List Value) (H : AH) : evFn P ctx call lo 35 args H = F35 call lo args H := by kernel_rfl

/-- (novaculite/block.Block).slab -/
def C36 (call : CallF) (lo : Nat) : Piece (Value × Value × Value × Value × Unit) :=
  (seqE (leafE fun S H k =>
      let t2 := newPtr H
      let H0 := pushBox H 28 S.1
      let t4 := newPtr H0
      let H1 := pushBox H0 71 z71
      k (S.1, S.2.1, t2, t4, ()) H1)
  (seqE (leafE fun S H k =>
      bindV (evShift S.2.2.1 0) fun t5 =>
      bindV (evLoad H false 1 t5) fun t6 =>
      bindV (evShift S.2.2.1 0) fun t7 =>
      bindV (evLoad H false 1 t7) fun t8 =>
      bindV (evShift S.2.2.1 1) fun t9 =>
      bindV (evLoad H false 1 t9) fun t10 =>
      bindV (evFill [(0, 1, t10), (1, 1, S.2.1)] (zeros (cellsOf (.slice none 0 0)) 2)) fun c2 =>
      let t12 := newSlice H 2 2
      let H3 := H.push (.cells (Nat.mul 2 1) c2 22)
      need (Nat.ble lo H3.next) <|
      bindVH (call H3.next 31 [t12] H3) fun t13 H4 =>
      bindV (evAgg [(0, 1, t6), (1, 1, t8), (2, 1, t13)] (cellsOf z71)) fun t14 =>
      bindV (evStore lo H4 3 S.2.2.2.1 t14) fun H5 =>
      k (S.1, S.2.1, S.2.2.1, S.2.2.2.1, ()) H5)
  (doneE .ret)))

def F36 (call : CallF) (lo : Nat) (args : List Value) (H : AH) : Option (Value × AH) :=
  leave .all H (bindV (C36 call (lowOf .all lo H) (argAt args 0, argAt args 1, argAt args 2, argAt args 4, ()) H) fun p => resE p.1 (bindV (evLoad p.2.2 true 3 p.2.1.2.2.2.1) fun r0 => some (oneOf [r0], p.2.2)))

theorem F36_eq (call : CallF) (lo : Nat) (args : List Value) (H : AH) : evFn P ctx call lo 36 args H = F36 call lo args H := by kernel_rfl

/-- novaculite/saw.Valid -/
def C37 (call : CallF) (lo : Nat) : Piece (Value × Value × Value × Value × Value × Unit) :=
  (seqE (leafE fun S H k =>
      let t2 := newPtr H
      let H0 := pushBox H 71 S.1
      k (S.1, S.2.1, t2, (.int .i64 (.ofNat 0)), S.2.2.2.2.1, ()) H0)
  (seqE (leafE fun S H k =>
      bindV (evLoad H true 3 S.2.2.1) fun t9 =>
      bindVH (call lo 62 [t9, S.2.1] H) fun t11 H1 =>
      bindV (evComp t11 0) fun t12 =>
      bindV (evComp t11 1) fun t13 =>
      bindV (evComp t11 2) fun t14 =>
      let t5 := newPtr H1
      let H2 := pushBox H1 106 z106
      bindV (evStore lo H2 19 t5 t12) fun H3 =>
      k (S.1, S.2.1, S.2.2.1, S.2.2.2.1, t14, ()) H3)
  (seqE (leafE fun S H k =>
      k (S.1, S.2.1, S.2.2.1, S.2.2.2.2.1, S.2.2.2.2.1, ()) H)
  (doneE .ret))))

def F37 (call : CallF) (lo : Nat) (args : List Value) (H : AH) : Option (Value × AH) :=
  leave .pure H (bindV (C37 call (lowOf .pure lo H) (argAt args 0, argAt args 1, argAt args 2, argAt args 4, argAt args 7, ()) H) fun p => resE p.1 (some (oneOf [p.2.1.2.2.2.1], p.2.2)))

theorem F37_eq (call : CallF) (lo : Nat) (args : List Value) (H : AH) : evFn P ctx call lo 37 args H = F37 call lo args H := by kernel_rfl

/-- (novaculite/block.survey).keeps -/
def C38 (call : CallF) (lo : Nat) : Piece (Value × Value × Value × Value × Value × Value × Unit) :=
  (seqE (leafE fun S H k =>
      let t2 := newPtr H
      let H0 := pushBox H 63 S.1
      let t3 := newPtr H0
      let H1 := pushBox H0 32 S.2.1
      k (S.1, S.2.1, t2, t3, (.int .i64 (.ofNat 0)), S.2.2.2.2.2.1, ()) H1)
  (seqE (leafE fun S H k =>
      bindV (evShift S.2.2.1 4) fun t9 =>
      bindV (evStore lo H 1 t9 (.func (.func 63) ⟨[]⟩ ⟨[S.2.2.2.1]⟩)) fun H2 =>
      k (S.1, S.2.1, S.2.2.1, S.2.2.2.1, S.2.2.2.2.1, S.2.2.2.2.2.1, ()) H2)
  (seqE (leafE fun S H k =>
      bindV (evLoad H true 5 S.2.2.1) fun t11 =>
      bindVH (call lo 33 [t11] H) fun t12 H3 =>
      bindV (evComp t12 0) fun t13 =>
      bindV (evComp t12 1) fun t14 =>
      bindV (evComp t12 2) fun t15 =>
      k (S.1, S.2.1, S.2.2.1, S.2.2.2.1, S.2.2.2.2.1, t13, ()) H3)
  (seqE (leafE fun S H k =>
      k (S.1, S.2.1, S.2.2.1, S.2.2.2.1, S.2.2.2.2.2.1, S.2.2.2.2.2.1, ()) H)
  (doneE .ret)))))

def F38 (call : CallF) (lo : Nat) (args : List Value) (H : AH) : Option (Value × AH) :=
  leave .pure H (bindV (C38 call (lowOf .pure lo H) (argAt args 0, argAt args 1, argAt args 2, argAt args 3, argAt args 4, argAt args 5, ()) H) fun p => resE p.1 (some (oneOf [p.2.1.2.2.2.2.1], p.2.2)))

theorem F38_eq (call : CallF) (lo : Nat) (args : List Value) (H : AH) : evFn P ctx call lo 38 args H = F38 call lo args H := by kernel_rfl

/-- (novaculite/block.survey).firm -/
def C39 (call : CallF) (lo : Nat) : Piece (Value × Value × Value × Value × Value × Unit) :=
  (seqE (leafE fun S H k =>
      let t1 := newPtr H
      let H0 := pushBox H 63 S.1
      k (S.1, t1, (.int .i64 (.ofNat 0)), S.2.2.2.1, S.2.2.2.2.1, ()) H0)
  (seqE (leafE fun S H k =>
      bindV (evShift S.2.1 0) fun t8 =>
      bindV (evLoad H true 3 t8) fun t9 =>
      bindVH (call lo 36 [t9, (.slice none 0 0)] H) fun t10 H1 =>
      bindVH (call lo 40 [t10] H1) fun t11 H2 =>
      bindV (evComp t11 0) fun t12 =>
      bindV (evComp t11 1) fun t13 =>
      k (S.1, S.2.1, S.2.2.1, t12, S.2.2.2.2.1, ()) H2)
  (seqE (leafE fun S H k =>
      bindV (evShift S.2.1 0) fun t15 =>
      bindV (evLoad H true 3 t15) fun t16 =>
      bindV (evShift S.2.1 3) fun t17 =>
      bindV (evLoad H false 1 t17) fun t18 =>
      bindVH (call lo 36 [t16, t18] H) fun t19 H3 =>
      bindVH (call lo 40 [t19] H3) fun t20 H4 =>
      bindV (evComp t20 0) fun t21 =>
      bindV (evComp t20 1) fun t22 =>
      k (S.1, S.2.1, S.2.2.1, S.2.2.2.1, t21, ()) H4)
  (seqE (leafE fun S H k =>
      bindV (evSub S.2.2.2.1 (.int .i64 (.ofNat 1))) fun t24 =>
      bindV (evLesser true t24 S.2.2.2.2.1) fun c5 =>
      k (S.1, S.2.1, c5, S.2.2.2.1, S.2.2.2.2.1, ()) H)
  (doneE .ret)))))

def F39 (call : CallF) (lo : Nat) (args : List Value) (H : AH) : Option (Value × AH) :=
  leave .pure H (bindV (C39 call (lowOf .pure lo H) (argAt args 0, argAt args 1, argAt args 2, argAt args 3, argAt args 5, ()) H) fun p => resE p.1 (some (oneOf [p.2.1.2.2.1], p.2.2)))

theorem F39_eq (call : CallF) (lo : Nat) (args : List Value) (H : AH) : evFn P ctx call lo 39 args H = F39 call lo args H := by kernel_rfl

/-- novaculite/saw.Most -/
def C40 (call : CallF) (lo : Nat) : Piece (Value × Value × Value × Value × Value × Value × Value × Unit) :=
  (seqE (leafE fun S H k =>
      let t1 := newPtr H
      let H0 := pushBox H 71 S.1
      k (S.1, t1, (.int .i64 (.ofNat 0)), (.int .i64 (.ofNat 0)), S.2.2.2.2.1, S.2.2.2.2.2.1, S.2.2.2.2.2.2.1, ()) H0)
  (seqE (leafE fun S H k =>
      bindV (evLoad H true 3 S.2.1) fun t7 =>
      bindVH (call lo 60 [t7] H) fun t8 H1 =>
      bindV (evComp t8 0) fun t9 =>
      bindV (evComp t8 1) fun t10 =>
      let t4 := newPtr H1
      let H2 := pushBox H1 106 z106
      bindV (evStore lo H2 19 t4 t9) fun H3 =>
      k (S.1, S.2.1, S.2.2.1, S.2.2.2.1, t4, t10, S.2.2.2.2.2.2.1, ()) H3)
  (seqE (seqE (leafE fun S H k =>
      bindV (evNeq .int S.2.2.2.2.2.1 (.int .i64 (.ofNat 0))) fun t12 =>
      k (S.1, S.2.1, S.2.2.1, S.2.2.2.1, S.2.2.2.2.1, S.2.2.2.2.2.1, t12, ()) H)
  (condE (fun S => some S.2.2.2.2.2.2.1)
   (seqE (leafE fun S H k =>
       k (S.1, S.2.1, (.int .i64 (.ofNat 0)), S.2.2.2.2.2.1, S.2.2.2.2.1, S.2.2.2.2.2.1, S.2.2.2.2.2.2.1, ()) H)
   (doneE .ret))
   (doneE .normal)))
  (seqE (leafE fun S H k =>
      bindV (evLoad H true 19 S.2.2.2.2.1) fun t14 =>
      bindV (evShift S.2.2.2.2.1 2) fun t15 =>
      bindV (evLoad H false 1 t15) fun t16 =>
      bindVH (call lo 64 [t14, t16] H) fun t17 H4 =>
      k (S.1, S.2.1, t17, (.int .i64 (.ofNat 0)), S.2.2.2.2.1, S.2.2.2.2.2.1, S.2.2.2.2.2.2.1, ()) H4)
  (doneE .ret)))))

def F40 (call : CallF) (lo : Nat) (args : List Value) (H : AH) : Option (Value × AH) :=
  leave .pure H (bindV (C40 call (lowOf .pure lo H) (argAt args 0, argAt args 1, argAt args 2, argAt args 3, argAt args 4, argAt args 5, argAt args 12, ()) H) fun p => resE p.1 (some (oneOf [p.2.1.2.2.1, p.2.1.2.2.2.1], p.2.2)))

theorem F40_eq (call : CallF) (lo : Nat) (args : List Value) (H : AH) : evFn P ctx call lo 40 args H = F40 call lo args H := by kernel_rfl

/-- novaculite/seam.Opposite -/
def C41 (call : CallF) (lo : Nat) : Piece (Value × Value × Value × Value × Value × Value × Unit) :=
  (seqE (leafE fun S H k =>
      let t1 := newPtr H
      let H0 := pushBox H 42 S.1
      let t2 := newPtr H0
      let H1 := pushBox H0 42 z42
      k (S.1, t1, t2, (.int .i64 (.ofNat 0)), S.2.2.2.2.1, S.2.2.2.2.2.1, ()) H1)
  (seqE (seqE (leafE fun S H k =>
      bindV (evLoad H true 3 S.2.1) fun t5 =>
      bindVH (call lo 65 [t5] H) fun t6 H2 =>
      k (S.1, S.2.1, S.2.2.1, S.2.2.2.1, t6, S.2.2.2.2.2.1, ()) H2)
  (seqE (leafE fun S H k =>
      bindV (evNeq .int S.2.2.2.2.1 (.int .i64 (.ofNat 0))) fun t8 =>
      k (S.1, S.2.1, S.2.2.1, S.2.2.2.1, S.2.2.2.2.1, t8, ()) H)
  (condE (fun S => some S.2.2.2.2.2.1)
   (seqE (leafE fun S H k =>
       bindV (evAgg [] (cellsOf z42)) fun t9 =>
       bindV (evStore lo H 3 S.2.2.1 t9) fun H3 =>
       k (S.1, S.2.1, S.2.2.1, S.2.2.2.2.1, S.2.2.2.2.1, S.2.2.2.2.2.1, ()) H3)
   (doneE .ret))
   (doneE .normal))))
  (seqE (leafE fun S H k =>
      bindV (evShift S.2.1 0) fun t11 =>
      bindV (evLoad H false 1 t11) fun t12 =>
      bindV (evNeg t12) fun t13 =>
      bindV (evShift S.2.1 1) fun t14 =>
      bindV (evLoad H false 1 t14) fun t15 =>
      bindV (evNeg t15) fun t16 =>
      bindV (evShift S.2.1 2) fun t17 =>
      bindV (evLoad H false 1 t17) fun t18 =>
      bindV (evNeg t18) fun t19 =>
      bindV (evSub t19 (.int .i64 (.ofNat 1))) fun t20 =>
      bindV (evAgg [(0, 1, t13), (1, 1, t16), (2, 1, t20)] (cellsOf z42)) fun t21 =>
      bindV (evStore lo H 3 S.2.2.1 t21) fun H4 =>
      k (S.1, S.2.1, S.2.2.1, (.int .i64 (.ofNat 0)), S.2.2.2.2.1, S.2.2.2.2.2.1, ()) H4)
  (doneE .ret))))

def F41 (call : CallF) (lo : Nat) (args : List Value) (H : AH) : Option (Value × AH) :=
  leave .all H (bindV (C41 call (lowOf .all lo H) (argAt args 0, argAt args 1, argAt args 2, argAt args 3, argAt args 4, argAt args 8, ()) H) fun p => resE p.1 (bindV (evLoad p.2.2 true 3 p.2.1.2.2.1) fun r0 => some (oneOf [r0, p.2.1.2.2.2.1], p.2.2)))

theorem F41_eq (call : CallF) (lo : Nat) (args : List Value) (H : AH) : evFn P ctx call lo 41 args H = F41 call lo args H := by kernel_rfl

/-- (novaculite/block.survey).gain -/
def C42 (call : CallF) (lo : Nat) : Piece (Value × Value × Value × Value × Value × Value × Value × Value × Value × Value × Value × Value × Value × Value × Value × Unit) :=
  (seqE (leafE fun S H k =>
      let t2 := newPtr H
      let H0 := pushBox H 63 S.1
      let t3 := newPtr H0
      let H1 := pushBox H0 42 S.2.1
      k (S.1, S.2.1, t2, t3, (.int .i64 (.ofNat 0)), (.int .i64 (.ofNat 0)), S.2.2.2.2.2.2.1, S.2.2.2.2.2.2.2.1, S.2.2.2.2.2.2.2.2.1, S.2.2.2.2.2.2.2.2.2.1, S.2.2.2.2.2.2.2.2.2.2.1, S.2.2.2.2.2.2.2.2.2.2.2.1, S.2.2.2.2.2.2.2.2.2.2.2.2.1, S.2.2.2.2.2.2.2.2.2.2.2.2.2.1, S.2.2.2.2.2.2.2.2.2.2.2.2.2.2.1, ()) H1)
  (seqE (leafE fun S H k =>
      bindV (evLoad H true 5 S.2.2.1) fun t11 =>
      bindV (evLoad H true 3 S.2.2.2.1) fun t12 =>
      bindVH (call lo 66 [t11, t12] H) fun t13 H2 =>
      bindV (evComp t13 0) fun t14 =>
      bindV (evComp t13 1) fun t15 =>
      k (S.1, S.2.1, S.2.2.1, S.2.2.2.1, S.2.2.2.2.1, t15, t14, S.2.2.2.2.2.2.2.1, S.2.2.2.2.2.2.2.2.1, S.2.2.2.2.2.2.2.2.2.1, S.2.2.2.2.2.2.2.2.2.2.1, S.2.2.2.2.2.2.2.2.2.2.2.1, S.2.2.2.2.2.2.2.2.2.2.2.2.1, S.2.2.2.2.2.2.2.2.2.2.2.2.2.1, S.2.2.2.2.2.2.2.2.2.2.2.2.2.2.1, ()) H2)
  (seqE (seqE (leafE fun S H k =>
      bindV (evLenS S.2.2.2.2.2.2.1) fun t17 =>
      k (S.1, S.2.1, S.2.2.1, S.2.2.2.1, S.2.2.2.2.1, S.2.2.2.2.2.1, S.2.2.2.2.2.2.1, S.2.2.2.2.2.2.2.1, S.2.2.2.2.2.2.2.2.1, S.2.2.2.2.2.2.2.2.2.1, S.2.2.2.2.2.2.1, t17, (.int .i64 (.ofNat 0)), S.2.2.2.2.2.2.2.2.2.2.2.2.2.1, S.2.2.2.2.2.2.2.2.2.2.2.2.2.2.1, ()) H)
  (blockE 0 (loopE (seqE (leafE fun S H k =>
        bindV (evLss S.2.2.2.2.2.2.2.2.2.2.2.2.1 S.2.2.2.2.2.2.2.2.2.2.2.1) fun t19 =>
        k (S.1, S.2.1, S.2.2.1, S.2.2.2.1, S.2.2.2.2.1, S.2.2.2.2.2.1, S.2.2.2.2.2.2.1, S.2.2.2.2.2.2.2.1, S.2.2.2.2.2.2.2.2.1, S.2.2.2.2.2.2.2.2.2.1, S.2.2.2.2.2.2.2.2.2.2.1, S.2.2.2.2.2.2.2.2.2.2.2.1, S.2.2.2.2.2.2.2.2.2.2.2.2.1, t19, S.2.2.2.2.2.2.2.2.2.2.2.2.2.2.1, ()) H)
    (seqE (condE (fun S => some S.2.2.2.2.2.2.2.2.2.2.2.2.2.1)
     (doneE .normal)
     (doneE (.exit 0)))
    (seqE (blockE 1 (seqE (leafE fun S H k =>
         bindV (evIdxSlice 5 S.2.2.2.2.2.2.2.2.2.2.1 S.2.2.2.2.2.2.2.2.2.2.2.2.1) fun t21 =>
         bindV (evLoad H true 5 t21) fun t22 =>
         let t8 := newPtr H
         let H3 := pushBox H 63 z63
         bindV (evStore lo H3 5 t8 t22) fun H4 =>
         k (S.1, S.2.1, S.2.2.1, S.2.2.2.1, S.2.2.2.2.1, S.2.2.2.2.2.1, S.2.2.2.2.2.2.1, S.2.2.2.2.2.2.2.2.2.2.2.2.1, t8, S.2.2.2.2.2.2.2.2.2.1, S.2.2.2.2.2.2.2.2.2.2.1, S.2.2.2.2.2.2.2.2.2.2.2.1, S.2.2.2.2.2.2.2.2.2.2.2.2.1, S.2.2.2.2.2.2.2.2.2.2.2.2.2.1, S.2.2.2.2.2.2.2.2.2.2.2.2.2.2.1, ()) H4)
     (seqE (leafE fun S H k =>
         bindV (evLoad H true 5 S.2.2.2.2.2.2.2.2.1) fun t23 =>
         need (Nat.ble lo H.next) <|
         bindVH (call H.next 39 [t23] H) fun t24 H5 =>
         bindV (evLoad H5 true 5 S.2.2.1) fun t25 =>
         bindVH (call lo 39 [t25] H5) fun t26 H6 =>
         bindV (evSub t24 t26) fun t27 =>
         k (S.1, S.2.1, S.2.2.1, S.2.2.2.1, S.2.2.2.2.1, S.2.2.2.2.2.1, S.2.2.2.2.2.2.1, S.2.2.2.2.2.2.2.1, S.2.2.2.2.2.2.2.2.1, t27, S.2.2.2.2.2.2.2.2.2.2.1, S.2.2.2.2.2.2.2.2.2.2.2.1, S.2.2.2.2.2.2.2.2.2.2.2.2.1, S.2.2.2.2.2.2.2.2.2.2.2.2.2.1, S.2.2.2.2.2.2.2.2.2.2.2.2.2.2.1, ()) H6)
     (seqE (leafE fun S H k =>
         bindV (evEql .int S.2.2.2.2.2.2.2.1 (.int .i64 (.ofNat 0))) fun t29 =>
         guarded t29 false ( pairVH S.2.2.2.2.2.2.2.2.2.1 H) H fun t31 H7 =>
         guarded t29 false ( pairVH S.2.2.2.2.1 H7) H7 fun t32 H8 =>
         guarded t29 false (bindV (evLss t31 t32) fun t1000000 => pairVH t1000000 H8) H8 fun t33 H9 =>
         bindV (evPick t29 (.bool true) t33) fun t34 =>
         k (S.1, S.2.1, S.2.2.1, S.2.2.2.1, S.2.2.2.2.1, S.2.2.2.2.2.1, S.2.2.2.2.2.2.1, S.2.2.2.2.2.2.2.1, S.2.2.2.2.2.2.2.2.1, S.2.2.2.2.2.2.2.2.2.1, S.2.2.2.2.2.2.2.2.2.2.1, S.2.2.2.2.2.2.2.2.2.2.2.1, S.2.2.2.2.2.2.2.2.2.2.2.2.1, S.2.2.2.2.2.2.2.2.2.2.2.2.2.1, t34, ()) H9)
     (condE (fun S => some S.2.2.2.2.2.2.2.2.2.2.2.2.2.2.1)
      (leafE fun S H k =>
          k (S.1, S.2.1, S.2.2.1, S.2.2.2.1, S.2.2.2.2.2.2.2.2.2.1, S.2.2.2.2.2.1, S.2.2.2.2.2.2.1, S.2.2.2.2.2.2.2.1, S.2.2.2.2.2.2.2.2.1, S.2.2.2.2.2.2.2.2.2.1, S.2.2.2.2.2.2.2.2.2.2.1, S.2.2.2.2.2.2.2.2.2.2.2.1, S.2.2.2.2.2.2.2.2.2.2.2.2.1, S.2.2.2.2.2.2.2.2.2.2.2.2.2.1, S.2.2.2.2.2.2.2.2.2.2.2.2.2.2.1, ()) H)
      (doneE .normal))))))
    (leafE fun S H k =>
        bindV (evAdd S.2.2.2.2.2.2.2.2.2.2.2.2.1 (.int .i64 (.ofNat 1))) fun t36 =>
        k (S.1, S.2.1, S.2.2.1, S.2.2.2.1, S.2.2.2.2.1, S.2.2.2.2.2.1, S.2.2.2.2.2.2.1, S.2.2.2.2.2.2.2.1, S.2.2.2.2.2.2.2.2.1, S.2.2.2.2.2.2.2.2.2.1, S.2.2.2.2.2.2.2.2.2.2.1, S.2.2.2.2.2.2.2.2.2.2.2.1, t36, S.2.2.2.2.2.2.2.2.2.2.2.2.2.1, S.2.2.2.2.2.2.2.2.2.2.2.2.2.2.1, ()) H)))) fuel)))
  (seqE (leafE fun S H k =>
      k (S.1, S.2.1, S.2.2.1, S.2.2.2.1, S.2.2.2.2.1, S.2.2.2.2.2.1, S.2.2.2.2.2.2.1, S.2.2.2.2.2.2.2.1, S.2.2.2.2.2.2.2.2.1, S.2.2.2.2.2.2.2.2.2.1, S.2.2.2.2.2.2.2.2.2.2.1, S.2.2.2.2.2.2.2.2.2.2.2.1, S.2.2.2.2.2.2.2.2.2.2.2.2.1, S.2.2.2.2.2.2.2.2.2.2.2.2.2.1, S.2.2.2.2.2.2.2.2.2.2.2.2.2.2.1, ()) H)
  (doneE .ret)))))

def F42 (call : CallF) (lo : Nat) (args : List Value) (H : AH) : Option (Value × AH) :=
  leave .pure H (bindV (C42 call (lowOf .pure lo H) (argAt args 0, argAt args 1, argAt args 2, argAt args 3, argAt args 4, argAt args 5, argAt args 6, argAt args 7, argAt args 8, argAt args 9, argAt args 16, argAt args 17, argAt args 18, argAt args 19, argAt args 34, ()) H) fun p => resE p.1 (some (oneOf [p.2.1.2.2.2.2.1, p.2.1.2.2.2.2.2.1], p.2.2)))

theorem F42_eq (call : CallF) (lo : Nat) (args : List Value) (H : AH) : evFn P ctx call lo 42 args H = F42 call lo args H := by kernel_rfl

/-- novaculite/block.all -/
def C43 (call : CallF) (lo : Nat) : Piece (Value × Value × Value × Value × Value × Value × Value × Value × Value × Value × Unit) :=
  (seqE (leafE fun S H k =>
      k (S.1, (.int .i64 (.ofNat 0)), S.2.2.1, S.2.2.2.1, S.2.2.2.2.1, S.2.2.2.2.2.1, S.2.2.2.2.2.2.1, S.2.2.2.2.2.2.2.1, S.2.2.2.2.2.2.2.2.1, S.2.2.2.2.2.2.2.2.2.1, ()) H)
  (seqE (seqE (leafE fun S H k =>
      bindV (evLenS S.1) fun t8 =>
      bindV (evGtr t8 (.int .i64 (.ofNat 5))) fun t9 =>
      k (S.1, S.2.1, S.2.2.1, S.2.2.2.1, t9, S.2.2.2.2.2.1, S.2.2.2.2.2.2.1, S.2.2.2.2.2.2.2.1, S.2.2.2.2.2.2.2.2.1, S.2.2.2.2.2.2.2.2.2.1, ()) H)
  (condE (fun S => some S.2.2.2.2.1)
   (seqE (leafE fun S H k =>
       k (S.1, (.int .i64 (.ofNat 3)), S.2.2.1, S.2.2.2.1, S.2.2.2.2.1, S.2.2.2.2.2.1, S.2.2.2.2.2.2.1, S.2.2.2.2.2.2.2.1, S.2.2.2.2.2.2.2.2.1, S.2.2.2.2.2.2.2.2.2.1, ()) H)
   (doneE .ret))
   (doneE .normal)))
  (seqE (seqE (leafE fun S H k =>
      bindV (evLenS S.1) fun t11 =>
      k (S.1, S.2.1, S.2.2.1, S.2.2.2.1, S.2.2.2.2.1, S.1, t11, (.int .i64 (.ofNat 0)), S.2.2.2.2.2.2.2.2.1, S.2.2.2.2.2.2.2.2.2.1, ()) H)
  (blockE 0 (loopE (seqE (leafE fun S H k =>
        bindV (evLss S.2.2.2.2.2.2.2.1 S.2.2.2.2.2.2.1) fun t13 =>
        k (S.1, S.2.1, S.2.2.1, S.2.2.2.1, S.2.2.2.2.1, S.2.2.2.2.2.1, S.2.2.2.2.2.2.1, S.2.2.2.2.2.2.2.1, t13, S.2.2.2.2.2.2.2.2.2.1, ()) H)
    (seqE (condE (fun S => some S.2.2.2.2.2.2.2.2.1)
     (doneE .normal)
     (doneE (.exit 0)))
    (seqE (blockE 1 (seqE (leafE fun S H k =>
         bindV (evIdxSlice 3 S.2.2.2.2.2.1 S.2.2.2.2.2.2.2.1) fun t14 =>
         bindV (evLoad H true 3 t14) fun t15 =>
         let t4 := newPtr H
         let H0 := pushBox H 42 z42
         bindV (evStore lo H0 3 t4 t15) fun H1 =>
         k (S.1, S.2.1, t4, S.2.2.2.1, S.2.2.2.2.1, S.2.2.2.2.2.1, S.2.2.2.2.2.2.1, S.2.2.2.2.2.2.2.1, S.2.2.2.2.2.2.2.2.1, S.2.2.2.2.2.2.2.2.2.1, ()) H1)
     (seqE (leafE fun S H k =>
         bindV (evLoad H true 3 S.2.2.1) fun t17 =>
         bindVH (call lo 41 [t17] H) fun t18 H2 =>
         bindV (evComp t18 0) fun t19 =>
         bindV (evComp t18 1) fun t20 =>
         let t5 := newPtr H2
         let H3 := pushBox H2 42 z42
         bindV (evStore lo H3 3 t5 t19) fun H4 =>
         k (S.1, S.2.1, S.2.2.1, t20, S.2.2.2.2.1, S.2.2.2.2.2.1, S.2.2.2.2.2.2.1, S.2.2.2.2.2.2.2.1, S.2.2.2.2.2.2.2.2.1, S.2.2.2.2.2.2.2.2.2.1, ()) H4)
     (seqE (leafE fun S H k =>
         bindV (evNeq .int S.2.2.2.1 (.int .i64 (.ofNat 0))) fun t22 =>
         k (S.1, S.2.1, S.2.2.1, S.2.2.2.1, S.2.2.2.2.1, S.2.2.2.2.2.1, S.2.2.2.2.2.2.1, S.2.2.2.2.2.2.2.1, S.2.2.2.2.2.2.2.2.1, t22, ()) H)
     (condE (fun S => some S.2.2.2.2.2.2.2.2.2.1)
      (seqE (leafE fun S H k =>
          k (S.1, S.2.2.2.1, S.2.2.1, S.2.2.2.1, S.2.2.2.2.1, S.2.2.2.2.2.1, S.2.2.2.2.2.2.1, S.2.2.2.2.2.2.2.1, S.2.2.2.2.2.2.2.2.1, S.2.2.2.2.2.2.2.2.2.1, ()) H)
      (doneE .ret))
      (doneE .normal))))))
    (leafE fun S H k =>
        bindV (evAdd S.2.2.2.2.2.2.2.1 (.int .i64 (.ofNat 1))) fun t24 =>
        k (S.1, S.2.1, S.2.2.1, S.2.2.2.1, S.2.2.2.2.1, S.2.2.2.2.2.1, S.2.2.2.2.2.2.1, t24, S.2.2.2.2.2.2.2.2.1, S.2.2.2.2.2.2.2.2.2.1, ()) H)))) fuel)))
  (seqE (leafE fun S H k =>
      k (S.1, (.int .i64 (.ofNat 0)), S.2.2.1, S.2.2.2.1, S.2.2.2.2.1, S.2.2.2.2.2.1, S.2.2.2.2.2.2.1, S.2.2.2.2.2.2.2.1, S.2.2.2.2.2.2.2.2.1, S.2.2.2.2.2.2.2.2.2.1, ()) H)
  (doneE .ret)))))

def F43 (call : CallF) (lo : Nat) (args : List Value) (H : AH) : Option (Value × AH) :=
  leave .pure H (bindV (C43 call (lowOf .pure lo H) (argAt args 0, argAt args 2, argAt args 4, argAt args 6, argAt args 9, argAt args 10, argAt args 11, argAt args 12, argAt args 13, argAt args 22, ()) H) fun p => resE p.1 (some (oneOf [p.2.1.2.1], p.2.2)))

theorem F43_eq (call : CallF) (lo : Nat) (args : List Value) (H : AH) : evFn P ctx call lo 43 args H = F43 call lo args H := by kernel_rfl

/-- (novaculite/block.survey).depth -/
def C44 (call : CallF) (lo : Nat) : Piece (Value × Value × Value × Value × Value × Value × Value × Value × Value × Value × Value × Value × Value × Value × Value × Value × Value × Value × Value × Value × Value × Value × Unit) :=
  (seqE (leafE fun S H k =>
      let t3 := newPtr H
      let H0 := pushBox H 63 S.1
      k (S.1, S.2.1, S.2.2.1, t3, (.int .i64 (.ofNat 0)), S.2.2.2.2.2.1, S.2.2.2.2.2.2.1, S.2.2.2.2.2.2.2.1, S.2.2.2.2.2.2.2.2.1, S.2.2.2.2.2.2.2.2.2.1, S.2.2.2.2.2.2.2.2.2.2.1, S.2.2.2.2.2.2.2.2.2.2.2.1, S.2.2.2.2.2.2.2.2.2.2.2.2.1, S.2.2.2.2.2.2.2.2.2.2.2.2.2.1, S.2.2.2.2.2.2.2.2.2.2.2.2.2.2.1, S.2.2.2.2.2.2.2.2.2.2.2.2.2.2.2.1, S.2.2.2.2.2.2.2.2.2.2.2.2.2.2.2.2.1, S.2.2.2.2.2.2.2.2.2.2.2.2.2.2.2.2.2.1, S.2.2.2.2.2.2.2.2.2.2.2.2.2.2.2.2.2.2.1, S.2.2.2.2.2.2.2.2.2.2.2.2.2.2.2.2.2.2.2.1, S.2.2.2.2.2.2.2.2.2.2.2.2.2.2.2.2.2.2.2.2.1, S.2.2.2.2.2.2.2.2.2.2.2.2.2.2.2.2.2.2.2.2.2.1, ()) H0)
  (seqE (seqE (leafE fun S H k =>
      bindV (evLoad H true 5 S.2.2.2.1) fun t16 =>
      bindVH (call lo 39 [t16] H) fun t17 H1 =>
      bindV (evGeq t17 S.2.2.1) fun t19 =>
      k (S.1, S.2.1, S.2.2.1, S.2.2.2.1, S.2.2.2.2.1, S.2.2.2.2.2.1, S.2.2.2.2.2.2.1, S.2.2.2.2.2.2.2.1, S.2.2.2.2.2.2.2.2.1, S.2.2.2.2.2.2.2.2.2.1, S.2.2.2.2.2.2.2.2.2.2.1, S.2.2.2.2.2.2.2.2.2.2.2.1, t19, S.2.2.2.2.2.2.2.2.2.2.2.2.2.1, S.2.2.2.2.2.2.2.2.2.2.2.2.2.2.1, S.2.2.2.2.2.2.2.2.2.2.2.2.2.2.2.1, S.2.2.2.2.2.2.2.2.2.2.2.2.2.2.2.2.1, S.2.2.2.2.2.2.2.2.2.2.2.2.2.2.2.2.2.1, S.2.2.2.2.2.2.2.2.2.2.2.2.2.2.2.2.2.2.1, S.2.2.2.2.2.2.2.2.2.2.2.2.2.2.2.2.2.2.2.1, S.2.2.2.2.2.2.2.2.2.2.2.2.2.2.2.2.2.2.2.2.1, S.2.2.2.2.2.2.2.2.2.2.2.2.2.2.2.2.2.2.2.2.2.1, ()) H1)
  (condE (fun S => some S.2.2.2.2.2.2.2.2.2.2.2.2.1)
   (seqE (leafE fun S H k =>
       k (S.1, S.2.1, S.2.2.1, S.2.2.2.1, (.int .i64 (.ofNat 0)), S.2.2.2.2.2.1, S.2.2.2.2.2.2.1, S.2.2.2.2.2.2.2.1, S.2.2.2.2.2.2.2.2.1, S.2.2.2.2.2.2.2.2.2.1, S.2.2.2.2.2.2.2.2.2.2.1, S.2.2.2.2.2.2.2.2.2.2.2.1, S.2.2.2.2.2.2.2.2.2.2.2.2.1, S.2.2.2.2.2.2.2.2.2.2.2.2.2.1, S.2.2.2.2.2.2.2.2.2.2.2.2.2.2.1, S.2.2.2.2.2.2.2.2.2.2.2.2.2.2.2.1, S.2.2.2.2.2.2.2.2.2.2.2.2.2.2.2.2.1, S.2.2.2.2.2.2.2.2.2.2.2.2.2.2.2.2.2.1, S.2.2.2.2.2.2.2.2.2.2.2.2.2.2.2.2.2.2.1, S.2.2.2.2.2.2.2.2.2.2.2.2.2.2.2.2.2.2.2.1, S.2.2.2.2.2.2.2.2.2.2.2.2.2.2.2.2.2.2.2.2.1, S.2.2.2.2.2.2.2.2.2.2.2.2.2.2.2.2.2.2.2.2.2.1, ()) H)
   (doneE .ret))
   (doneE .normal)))
  (seqE (leafE fun S H k =>
      k (S.1, S.2.1, S.2.2.1, S.2.2.2.1, S.2.2.2.2.1, (.int .i64 (.ofNat 6)), S.2.2.2.2.2.2.1, S.2.2.2.2.2.2.2.1, S.2.2.2.2.2.2.2.2.1, S.2.2.2.2.2.2.2.2.2.1, S.2.2.2.2.2.2.2.2.2.2.1, S.2.2.2.2.2.2.2.2.2.2.2.1, S.2.2.2.2.2.2.2.2.2.2.2.2.1, S.2.2.2.2.2.2.2.2.2.2.2.2.2.1, S.2.2.2.2.2.2.2.2.2.2.2.2.2.2.1, S.2.2.2.2.2.2.2.2.2.2.2.2.2.2.2.1, S.2.2.2.2.2.2.2.2.2.2.2.2.2.2.2.2.1, S.2.2.2.2.2.2.2.2.2.2.2.2.2.2.2.2.2.1, S.2.2.2.2.2.2.2.2.2.2.2.2.2.2.2.2.2.2.1, S.2.2.2.2.2.2.2.2.2.2.2.2.2.2.2.2.2.2.2.1, S.2.2.2.2.2.2.2.2.2.2.2.2.2.2.2.2.2.2.2.2.1, S.2.2.2.2.2.2.2.2.2.2.2.2.2.2.2.2.2.2.2.2.2.1, ()) H)
  (seqE (seqE (leafE fun S H k =>
      bindV (evLenS S.2.1) fun t21 =>
      k (S.1, S.2.1, S.2.2.1, S.2.2.2.1, S.2.2.2.2.1, S.2.2.2.2.2.1, S.2.2.2.2.2.2.1, S.2.2.2.2.2.2.2.1, S.2.2.2.2.2.2.2.2.1, S.2.2.2.2.2.2.2.2.2.1, S.2.2.2.2.2.2.2.2.2.2.1, S.2.2.2.2.2.2.2.2.2.2.2.1, S.2.2.2.2.2.2.2.2.2.2.2.2.1, S.2.1, t21, (.int .i64 (.ofNat 0)), S.2.2.2.2.2.2.2.2.2.2.2.2.2.2.2.2.1, S.2.2.2.2.2.2.2.2.2.2.2.2.2.2.2.2.2.1, S.2.2.2.2.2.2.2.2.2.2.2.2.2.2.2.2.2.2.1, S.2.2.2.2.2.2.2.2.2.2.2.2.2.2.2.2.2.2.2.1, S.2.2.2.2.2.2.2.2.2.2.2.2.2.2.2.2.2.2.2.2.1, S.2.2.2.2.2.2.2.2.2.2.2.2.2.2.2.2.2.2.2.2.2.1, ()) H)
  (blockE 0 (loopE (seqE (leafE fun S H k =>
        bindV (evLss S.2.2.2.2.2.2.2.2.2.2.2.2.2.2.2.1 S.2.2.2.2.2.2.2.2.2.2.2.2.2.2.1) fun t23 =>
        k (S.1, S.2.1, S.2.2.1, S.2.2.2.1, S.2.2.2.2.1, S.2.2.2.2.2.1, S.2.2.2.2.2.2.1, S.2.2.2.2.2.2.2.1, S.2.2.2.2.2.2.2.2.1, S.2.2.2.2.2.2.2.2.2.1, S.2.2.2.2.2.2.2.2.2.2.1, S.2.2.2.2.2.2.2.2.2.2.2.1, S.2.2.2.2.2.2.2.2.2.2.2.2.1, S.2.2.2.2.2.2.2.2.2.2.2.2.2.1, S.2.2.2.2.2.2.2.2.2.2.2.2.2.2.1, S.2.2.2.2.2.2.2.2.2.2.2.2.2.2.2.1, t23, S.2.2.2.2.2.2.2.2.2.2.2.2.2.2.2.2.2.1, S.2.2.2.2.2.2.2.2.2.2.2.2.2.2.2.2.2.2.1, S.2.2.2.2.2.2.2.2.2.2.2.2.2.2.2.2.2.2.2.1, S.2.2.2.2.2.2.2.2.2.2.2.2.2.2.2.2.2.2.2.2.1, S.2.2.2.2.2.2.2.2.2.2.2.2.2.2.2.2.2.2.2.2.2.1, ()) H)
    (seqE (condE (fun S => some S.2.2.2.2.2.2.2.2.2.2.2.2.2.2.2.2.1)
     (doneE .normal)
     (doneE (.exit 0)))
    (seqE (blockE 1 (seqE (leafE fun S H k =>
         bindV (evIdxSlice 3 S.2.2.2.2.2.2.2.2.2.2.2.2.2.1 S.2.2.2.2.2.2.2.2.2.2.2.2.2.2.2.1) fun t25 =>
         bindV (evLoad H true 3 t25) fun t26 =>
         let t9 := newPtr H
         let H2 := pushBox H 42 z42
         bindV (evStore lo H2 3 t9 t26) fun H3 =>
         k (S.1, S.2.1, S.2.2.1, S.2.2.2.1, S.2.2.2.2.1, S.2.2.2.2.2.1, S.2.2.2.2.2.2.2.2.2.2.2.2.2.2.2.1, t9, S.2.2.2.2.2.2.2.2.1, S.2.2.2.2.2.2.2.2.2.1, S.2.2.2.2.2.2.2.2.2.2.1, S.2.2.2.2.2.2.2.2.2.2.2.1, S.2.2.2.2.2.2.2.2.2.2.2.2.1, S.2.2.2.2.2.2.2.2.2.2.2.2.2.1, S.2.2.2.2.2.2.2.2.2.2.2.2.2.2.1, S.2.2.2.2.2.2.2.2.2.2.2.2.2.2.2.1, S.2.2.2.2.2.2.2.2.2.2.2.2.2.2.2.2.1, S.2.2.2.2.2.2.2.2.2.2.2.2.2.2.2.2.2.1, S.2.2.2.2.2.2.2.2.2.2.2.2.2.2.2.2.2.2.1, S.2.2.2.2.2.2.2.2.2.2.2.2.2.2.2.2.2.2.2.1, S.2.2.2.2.2.2.2.2.2.2.2.2.2.2.2.2.2.2.2.2.1, S.2.2.2.2.2.2.2.2.2.2.2.2.2.2.2.2.2.2.2.2.2.1, ()) H3)
     (seqE (leafE fun S H k =>
         bindV (evLoad H true 5 S.2.2.2.1) fun t28 =>
         bindV (evLoad H true 3 S.2.2.2.2.2.2.2.1) fun t29 =>
         bindVH (call lo 66 [t28, t29] H) fun t30 H4 =>
         bindV (evComp t30 0) fun t31 =>
         bindV (evComp t30 1) fun t32 =>
         k (S.1, S.2.1, S.2.2.1, S.2.2.2.1, S.2.2.2.2.1, S.2.2.2.2.2.1, S.2.2.2.2.2.2.1, S.2.2.2.2.2.2.2.1, t31, S.2.2.2.2.2.2.2.2.2.1, S.2.2.2.2.2.2.2.2.2.2.1, S.2.2.2.2.2.2.2.2.2.2.2.1, S.2.2.2.2.2.2.2.2.2.2.2.2.1, S.2.2.2.2.2.2.2.2.2.2.2.2.2.1, S.2.2.2.2.2.2.2.2.2.2.2.2.2.2.1, S.2.2.2.2.2.2.2.2.2.2.2.2.2.2.2.1, S.2.2.2.2.2.2.2.2.2.2.2.2.2.2.2.2.1, S.2.2.2.2.2.2.2.2.2.2.2.2.2.2.2.2.2.1, S.2.2.2.2.2.2.2.2.2.2.2.2.2.2.2.2.2.2.1, S.2.2.2.2.2.2.2.2.2.2.2.2.2.2.2.2.2.2.2.1, S.2.2.2.2.2.2.2.2.2.2.2.2.2.2.2.2.2.2.2.2.1, S.2.2.2.2.2.2.2.2.2.2.2.2.2.2.2.2.2.2.2.2.2.1, ()) H4)
     (seqE (seqE (leafE fun S H k =>
         bindV (evLenS S.2.2.2.2.2.2.2.2.1) fun t34 =>
         bindV (evLss t34 (.int .i64 (.ofNat 2))) fun t35 =>
         k (S.1, S.2.1, S.2.2.1, S.2.2.2.1, S.2.2.2.2.1, S.2.2.2.2.2.1, S.2.2.2.2.2.2.1, S.2.2.2.2.2.2.2.1, S.2.2.2.2.2.2.2.2.1, S.2.2.2.2.2.2.2.2.2.1, S.2.2.2.2.2.2.2.2.2.2.1, S.2.2.2.2.2.2.2.2.2.2.2.1, S.2.2.2.2.2.2.2.2.2.2.2.2.1, S.2.2.2.2.2.2.2.2.2.2.2.2.2.1, S.2.2.2.2.2.2.2.2.2.2.2.2.2.2.1, S.2.2.2.2.2.2.2.2.2.2.2.2.2.2.2.1, S.2.2.2.2.2.2.2.2.2.2.2.2.2.2.2.2.1, t35, S.2.2.2.2.2.2.2.2.2.2.2.2.2.2.2.2.2.2.1, S.2.2.2.2.2.2.2.2.2.2.2.2.2.2.2.2.2.2.2.1, S.2.2.2.2.2.2.2.2.2.2.2.2.2.2.2.2.2.2.2.2.1, S.2.2.2.2.2.2.2.2.2.2.2.2.2.2.2.2.2.2.2.2.2.1, ()) H)
     (condE (fun S => some S.2.2.2.2.2.2.2.2.2.2.2.2.2.2.2.2.2.1)
      (doneE (.exit 1))
      (doneE .normal)))
     (seqE (leafE fun S H k =>
         bindV (evCut 3 S.2.1 none (some S.2.2.2.2.2.2.1) none) fun t38 =>
         bindV (evAdd S.2.2.2.2.2.2.1 (.int .i64 (.ofNat 1))) fun t41 =>
         bindV (evCut 3 S.2.1 (some t41) none none) fun t42 =>
         bindV (evFill [(0, 1, t38), (1, 1, t42)] (zeros (cellsOf (.slice none 0 0)) 2)) fun c5 =>
         let t43 := newSlice H 2 2
         let H6 := H.push (.cells (Nat.mul 2 1) c5 26)
         bindVH (call lo 67 [t43] H6) fun t44 H7 =>
         k (S.1, S.2.1, S.2.2.1, S.2.2.2.1, S.2.2.2.2.1, S.2.2.2.2.2.1, S.2.2.2.2.2.2.1, S.2.2.2.2.2.2.2.1, S.2.2.2.2.2.2.2.2.1, t44, S.2.2.2.2.2.2.2.2.2.2.1, S.2.2.2.2.2.2.2.2.2.2.2.1, S.2.2.2.2.2.2.2.2.2.2.2.2.1, S.2.2.2.2.2.2.2.2.2.2.2.2.2.1, S.2.2.2.2.2.2.2.2.2.2.2.2.2.2.1, S.2.2.2.2.2.2.2.2.2.2.2.2.2.2.2.1, S.2.2.2.2.2.2.2.2.2.2.2.2.2.2.2.2.1, S.2.2.2.2.2.2.2.2.2.2.2.2.2.2.2.2.2.1, S.2.2.2.2.2.2.2.2.2.2.2.2.2.2.2.2.2.2.1, S.2.2.2.2.2.2.2.2.2.2.2.2.2.2.2.2.2.2.2.1, S.2.2.2.2.2.2.2.2.2.2.2.2.2.2.2.2.2.2.2.2.1, S.2.2.2.2.2.2.2.2.2.2.2.2.2.2.2.2.2.2.2.2.2.1, ()) H7)
     (seqE (leafE fun S H k =>
         k (S.1, S.2.1, S.2.2.1, S.2.2.2.1, S.2.2.2.2.1, S.2.2.2.2.2.1, S.2.2.2.2.2.2.1, S.2.2.2.2.2.2.2.1, S.2.2.2.2.2.2.2.2.1, S.2.2.2.2.2.2.2.2.2.1, (.int .i64 (.ofNat 0)), S.2.2.2.2.2.2.2.2.2.2.2.1, S.2.2.2.2.2.2.2.2.2.2.2.2.1, S.2.2.2.2.2.2.2.2.2.2.2.2.2.1, S.2.2.2.2.2.2.2.2.2.2.2.2.2.2.1, S.2.2.2.2.2.2.2.2.2.2.2.2.2.2.2.1, S.2.2.2.2.2.2.2.2.2.2.2.2.2.2.2.2.1, S.2.2.2.2.2.2.2.2.2.2.2.2.2.2.2.2.2.1, S.2.2.2.2.2.2.2.2.2.2.2.2.2.2.2.2.2.2.1, S.2.2.2.2.2.2.2.2.2.2.2.2.2.2.2.2.2.2.2.1, S.2.2.2.2.2.2.2.2.2.2.2.2.2.2.2.2.2.2.2.2.1, S.2.2.2.2.2.2.2.2.2.2.2.2.2.2.2.2.2.2.2.2.2.1, ()) H)
     (seqE (seqE (leafE fun S H k =>
         bindV (evLenS S.2.2.2.2.2.2.2.2.1) fun t46 =>
         k (S.1, S.2.1, S.2.2.1, S.2.2.2.1, S.2.2.2.2.1, S.2.2.2.2.2.1, S.2.2.2.2.2.2.1, S.2.2.2.2.2.2.2.1, S.2.2.2.2.2.2.2.2.1, S.2.2.2.2.2.2.2.2.2.1, S.2.2.2.2.2.2.2.2.2.2.1, S.2.2.2.2.2.2.2.2.2.2.2.1, S.2.2.2.2.2.2.2.2.2.2.2.2.1, S.2.2.2.2.2.2.2.2.2.2.2.2.2.1, S.2.2.2.2.2.2.2.2.2.2.2.2.2.2.1, S.2.2.2.2.2.2.2.2.2.2.2.2.2.2.2.1, S.2.2.2.2.2.2.2.2.2.2.2.2.2.2.2.2.1, S.2.2.2.2.2.2.2.2.2.2.2.2.2.2.2.2.2.1, S.2.2.2.2.2.2.2.2.1, t46, (.int .i64 (.ofNat 0)), S.2.2.2.2.2.2.2.2.2.2.2.2.2.2.2.2.2.2.2.2.2.1, ()) H)
     (blockE 2 (loopE (seqE (leafE fun S H k =>
           bindV (evLss S.2.2.2.2.2.2.2.2.2.2.2.2.2.2.2.2.2.2.2.2.1 S.2.2.2.2.2.2.2.2.2.2.2.2.2.2.2.2.2.2.2.1) fun t48 =>
           k (S.1, S.2.1, S.2.2.1, S.2.2.2.1, S.2.2.2.2.1, S.2.2.2.2.2.1, S.2.2.2.2.2.2.1, S.2.2.2.2.2.2.2.1, S.2.2.2.2.2.2.2.2.1, S.2.2.2.2.2.2.2.2.2.1, S.2.2.2.2.2.2.2.2.2.2.1, S.2.2.2.2.2.2.2.2.2.2.2.1, S.2.2.2.2.2.2.2.2.2.2.2.2.1, S.2.2.2.2.2.2.2.2.2.2.2.2.2.1, S.2.2.2.2.2.2.2.2.2.2.2.2.2.2.1, S.2.2.2.2.2.2.2.2.2.2.2.2.2.2.2.1, S.2.2.2.2.2.2.2.2.2.2.2.2.2.2.2.2.1, S.2.2.2.2.2.2.2.2.2.2.2.2.2.2.2.2.2.1, S.2.2.2.2.2.2.2.2.2.2.2.2.2.2.2.2.2.2.1, S.2.2.2.2.2.2.2.2.2.2.2.2.2.2.2.2.2.2.2.1, S.2.2.2.2.2.2.2.2.2.2.2.2.2.2.2.2.2.2.2.2.1, t48, ()) H)
       (seqE (condE (fun S => some S.2.2.2.2.2.2.2.2.2.2.2.2.2.2.2.2.2.2.2.2.2.1)
        (doneE .normal)
        (doneE (.exit 2)))
       (seqE (blockE 3 (seqE (leafE fun S H k =>
            bindV (evIdxSlice 5 S.2.2.2.2.2.2.2.2.2.2.2.2.2.2.2.2.2.2.1 S.2.2.2.2.2.2.2.2.2.2.2.2.2.2.2.2.2.2.2.2.1) fun t49 =>
            bindV (evLoad H true 5 t49) fun t50 =>
            let t15 := newPtr H
            let H8 := pushBox H 63 z63
            bindV (evStore lo H8 5 t15 t50) fun H9 =>
            k (S.1, S.2.1, S.2.2.1, S.2.2.2.1, S.2.2.2.2.1, S.2.2.2.2.2.1, S.2.2.2.2.2.2.1, S.2.2.2.2.2.2.2.1, S.2.2.2.2.2.2.2.2.1, S.2.2.2.2.2.2.2.2.2.1, S.2.2.2.2.2.2.2.2.2.2.1, t15, S.2.2.2.2.2.2.2.2.2.2.2.2.1, S.2.2.2.2.2.2.2.2.2.2.2.2.2.1, S.2.2.2.2.2.2.2.2.2.2.2.2.2.2.1, S.2.2.2.2.2.2.2.2.2.2.2.2.2.2.2.1, S.2.2.2.2.2.2.2.2.2.2.2.2.2.2.2.2.1, S.2.2.2.2.2.2.2.2.2.2.2.2.2.2.2.2.2.1, S.2.2.2.2.2.2.2.2.2.2.2.2.2.2.2.2.2.2.1, S.2.2.2.2.2.2.2.2.2.2.2.2.2.2.2.2.2.2.2.1, S.2.2.2.2.2.2.2.2.2.2.2.2.2.2.2.2.2.2.2.2.1, S.2.2.2.2.2.2.2.2.2.2.2.2.2.2.2.2.2.2.2.2.2.1, ()) H9)
        (leafE fun S H k =>
            bindV (evLoad H true 5 S.2.2.2.2.2.2.2.2.2.2.2.1) fun t52 =>
            bindVH (call lo 44 [t52, S.2.2.2.2.2.2.2.2.2.1, S.2.2.1] H) fun t55 H10 =>
            bindV (evLesser true S.2.2.2.2.2.2.2.2.2.2.1 t55) fun c11 =>
            k (S.1, S.2.1, S.2.2.1, S.2.2.2.1, S.2.2.2.2.1, S.2.2.2.2.2.1, S.2.2.2.2.2.2.1, S.2.2.2.2.2.2.2.1, S.2.2.2.2.2.2.2.2.1, S.2.2.2.2.2.2.2.2.2.1, c11, S.2.2.2.2.2.2.2.2.2.2.2.1, S.2.2.2.2.2.2.2.2.2.2.2.2.1, S.2.2.2.2.2.2.2.2.2.2.2.2.2.1, S.2.2.2.2.2.2.2.2.2.2.2.2.2.2.1, S.2.2.2.2.2.2.2.2.2.2.2.2.2.2.2.1, S.2.2.2.2.2.2.2.2.2.2.2.2.2.2.2.2.1, S.2.2.2.2.2.2.2.2.2.2.2.2.2.2.2.2.2.1, S.2.2.2.2.2.2.2.2.2.2.2.2.2.2.2.2.2.2.1, S.2.2.2.2.2.2.2.2.2.2.2.2.2.2.2.2.2.2.2.1, S.2.2.2.2.2.2.2.2.2.2.2.2.2.2.2.2.2.2.2.2.1, S.2.2.2.2.2.2.2.2.2.2.2.2.2.2.2.2.2.2.2.2.2.1, ()) H10)))
       (leafE fun S H k =>
           bindV (evAdd S.2.2.2.2.2.2.2.2.2.2.2.2.2.2.2.2.2.2.2.2.1 (.int .i64 (.ofNat 1))) fun t57 =>
           k (S.1, S.2.1, S.2.2.1, S.2.2.2.1, S.2.2.2.2.1, S.2.2.2.2.2.1, S.2.2.2.2.2.2.1, S.2.2.2.2.2.2.2.1, S.2.2.2.2.2.2.2.2.1, S.2.2.2.2.2.2.2.2.2.1, S.2.2.2.2.2.2.2.2.2.2.1, S.2.2.2.2.2.2.2.2.2.2.2.1, S.2.2.2.2.2.2.2.2.2.2.2.2.1, S.2.2.2.2.2.2.2.2.2.2.2.2.2.1, S.2.2.2.2.2.2.2.2.2.2.2.2.2.2.1, S.2.2.2.2.2.2.2.2.2.2.2.2.2.2.2.1, S.2.2.2.2.2.2.2.2.2.2.2.2.2.2.2.2.1, S.2.2.2.2.2.2.2.2.2.2.2.2.2.2.2.2.2.1, S.2.2.2.2.2.2.2.2.2.2.2.2.2.2.2.2.2.2.1, S.2.2.2.2.2.2.2.2.2.2.2.2.2.2.2.2.2.2.2.1, t57, S.2.2.2.2.2.2.2.2.2.2.2.2.2.2.2.2.2.2.2.2.2.1, ()) H)))) fuel)))
     (leafE fun S H k =>
         bindV (evAdd S.2.2.2.2.2.2.2.2.2.2.1 (.int .i64 (.ofNat 1))) fun t60 =>
         bindV (evLesser false S.2.2.2.2.2.1 t60) fun c12 =>
         k (S.1, S.2.1, S.2.2.1, S.2.2.2.1, S.2.2.2.2.1, c12, S.2.2.2.2.2.2.1, S.2.2.2.2.2.2.2.1, S.2.2.2.2.2.2.2.2.1, S.2.2.2.2.2.2.2.2.2.1, S.2.2.2.2.2.2.2.2.2.2.1, S.2.2.2.2.2.2.2.2.2.2.2.1, S.2.2.2.2.2.2.2.2.2.2.2.2.1, S.2.2.2.2.2.2.2.2.2.2.2.2.2.1, S.2.2.2.2.2.2.2.2.2.2.2.2.2.2.1, S.2.2.2.2.2.2.2.2.2.2.2.2.2.2.2.1, S.2.2.2.2.2.2.2.2.2.2.2.2.2.2.2.2.1, S.2.2.2.2.2.2.2.2.2.2.2.2.2.2.2.2.2.1, S.2.2.2.2.2.2.2.2.2.2.2.2.2.2.2.2.2.2.1, S.2.2.2.2.2.2.2.2.2.2.2.2.2.2.2.2.2.2.2.1, S.2.2.2.2.2.2.2.2.2.2.2.2.2.2.2.2.2.2.2.2.1, S.2.2.2.2.2.2.2.2.2.2.2.2.2.2.2.2.2.2.2.2.2.1, ()) H))))))))
    (leafE fun S H k =>
        bindV (evAdd S.2.2.2.2.2.2.2.2.2.2.2.2.2.2.2.1 (.int .i64 (.ofNat 1))) fun t62 =>
        k (S.1, S.2.1, S.2.2.1, S.2.2.2.1, S.2.2.2.2.1, S.2.2.2.2.2.1, S.2.2.2.2.2.2.1, S.2.2.2.2.2.2.2.1, S.2.2.2.2.2.2.2.2.1, S.2.2.2.2.2.2.2.2.2.1, S.2.2.2.2.2.2.2.2.2.2.1, S.2.2.2.2.2.2.2.2.2.2.2.1, S.2.2.2.2.2.2.2.2.2.2.2.2.1, S.2.2.2.2.2.2.2.2.2.2.2.2.2.1, S.2.2.2.2.2.2.2.2.2.2.2.2.2.2.1, t62, S.2.2.2.2.2.2.2.2.2.2.2.2.2.2.2.2.1, S.2.2.2.2.2.2.2.2.2.2.2.2.2.2.2.2.2.1, S.2.2.2.2.2.2.2.2.2.2.2.2.2.2.2.2.2.2.1, S.2.2.2.2.2.2.2.2.2.2.2.2.2.2.2.2.2.2.2.1, S.2.2.2.2.2.2.2.2.2.2.2.2.2.2.2.2.2.2.2.2.1, S.2.2.2.2.2.2.2.2.2.2.2.2.2.2.2.2.2.2.2.2.2.1, ()) H)))) fuel)))
  (seqE (leafE fun S H k =>
      k (S.1, S.2.1, S.2.2.1, S.2.2.2.1, S.2.2.2.2.2.1, S.2.2.2.2.2.1, S.2.2.2.2.2.2.1, S.2.2.2.2.2.2.2.1, S.2.2.2.2.2.2.2.2.1, S.2.2.2.2.2.2.2.2.2.1, S.2.2.2.2.2.2.2.2.2.2.1, S.2.2.2.2.2.2.2.2.2.2.2.1, S.2.2.2.2.2.2.2.2.2.2.2.2.1, S.2.2.2.2.2.2.2.2.2.2.2.2.2.1, S.2.2.2.2.2.2.2.2.2.2.2.2.2.2.1, S.2.2.2.2.2.2.2.2.2.2.2.2.2.2.2.1, S.2.2.2.2.2.2.2.2.2.2.2.2.2.2.2.2.1, S.2.2.2.2.2.2.2.2.2.2.2.2.2.2.2.2.2.1, S.2.2.2.2.2.2.2.2.2.2.2.2.2.2.2.2.2.2.1, S.2.2.2.2.2.2.2.2.2.2.2.2.2.2.2.2.2.2.2.1, S.2.2.2.2.2.2.2.2.2.2.2.2.2.2.2.2.2.2.2.2.1, S.2.2.2.2.2.2.2.2.2.2.2.2.2.2.2.2.2.2.2.2.2.1, ()) H)
  (doneE .ret))))))

def F44 (call : CallF) (lo : Nat) (args : List Value) (H : AH) : Option (Value × AH) :=
  leave .pure H (bindV (C44 call (lowOf .pure lo H) (argAt args 0, argAt args 1, argAt args 2, argAt args 3, argAt args 6, argAt args 7, argAt args 8, argAt args 9, argAt args 10, argAt args 12, argAt args 13, argAt args 15, argAt args 19, argAt args 20, argAt args 21, argAt args 22, argAt args 23, argAt args 35, argAt args 45, argAt args 46, argAt args 47, argAt args 48, ()) H) fun p => resE p.1 (some (oneOf [p.2.1.2.2.2.2.1], p.2.2)))

theorem F44_eq (call : CallF) (lo : Nat) (args : List Value) (H : AH) : evFn P ctx call lo 44 args H = F44 call lo args H := by kernel_rfl

/-- novaculite/saw.Proves -/
def C45 (call : CallF) (lo : Nat) : Piece (Value × Value × Value × Value × Value × Value × Value × Value × Value × Value × Value × Value × Value × Value × Value × Value × Value × Value × Value × Value × Value × Value × Value × Value × Value × Value × Unit) :=
  (seqE (leafE fun S H k =>
      let t3 := newPtr H
      let H0 := pushBox H 71 S.1
      k (S.1, S.2.1, S.2.2.1, t3, (.int .i64 (.ofNat 0)), S.2.2.2.2.2.1, S.2.2.2.2.2.2.1, S.2.2.2.2.2.2.2.1, S.2.2.2.2.2.2.2.2.1, S.2.2.2.2.2.2.2.2.2.1, S.2.2.2.2.2.2.2.2.2.2.1, S.2.2.2.2.2.2.2.2.2.2.2.1, S.2.2.2.2.2.2.2.2.2.2.2.2.1, S.2.2.2.2.2.2.2.2.2.2.2.2.2.1, S.2.2.2.2.2.2.2.2.2.2.2.2.2.2.1, S.2.2.2.2.2.2.2.2.2.2.2.2.2.2.2.1, S.2.2.2.2.2.2.2.2.2.2.2.2.2.2.2.2.1, S.2.2.2.2.2.2.2.2.2.2.2.2.2.2.2.2.2.1, S.2.2.2.2.2.2.2.2.2.2.2.2.2.2.2.2.2.2.1, S.2.2.2.2.2.2.2.2.2.2.2.2.2.2.2.2.2.2.2.1, S.2.2.2.2.2.2.2.2.2.2.2.2.2.2.2.2.2.2.2.2.1, S.2.2.2.2.2.2.2.2.2.2.2.2.2.2.2.2.2.2.2.2.2.1, S.2.2.2.2.2.2.2.2.2.2.2.2.2.2.2.2.2.2.2.2.2.2.1, S.2.2.2.2.2.2.2.2.2.2.2.2.2.2.2.2.2.2.2.2.2.2.2.1, S.2.2.2.2.2.2.2.2.2.2.2.2.2.2.2.2.2.2.2.2.2.2.2.2.1, S.2.2.2.2.2.2.2.2.2.2.2.2.2.2.2.2.2.2.2.2.2.2.2.2.2.1, ()) H0)
  (seqE (leafE fun S H k =>
      bindV (evLoad H true 3 S.2.2.2.1) fun t16 =>
      bindVH (call lo 60 [t16] H) fun t17 H1 =>
      bindV (evComp t17 0) fun t18 =>
      bindV (evComp t17 1) fun t19 =>
      let t7 := newPtr H1
      let H2 := pushBox H1 106 z106
      bindV (evStore lo H2 19 t7 t18) fun H3 =>
      k (S.1, S.2.1, S.2.2.1, S.2.2.2.1, S.2.2.2.2.1, t7, t19, S.2.2.2.2.2.2.2.1, S.2.2.2.2.2.2.2.2.1, S.2.2.2.2.2.2.2.2.2.1, S.2.2.2.2.2.2.2.2.2.2.1, S.2.2.2.2.2.2.2.2.2.2.2.1, S.2.2.2.2.2.2.2.2.2.2.2.2.1, S.2.2.2.2.2.2.2.2.2.2.2.2.2.1, S.2.2.2.2.2.2.2.2.2.2.2.2.2.2.1, S.2.2.2.2.2.2.2.2.2.2.2.2.2.2.2.1, S.2.2.2.2.2.2.2.2.2.2.2.2.2.2.2.2.1, S.2.2.2.2.2.2.2.2.2.2.2.2.2.2.2.2.2.1, S.2.2.2.2.2.2.2.2.2.2.2.2.2.2.2.2.2.2.1, S.2.2.2.2.2.2.2.2.2.2.2.2.2.2.2.2.2.2.2.1, S.2.2.2.2.2.2.2.2.2.2.2.2.2.2.2.2.2.2.2.2.1, S.2.2.2.2.2.2.2.2.2.2.2.2.2.2.2.2.2.2.2.2.2.1, S.2.2.2.2.2.2.2.2.2.2.2.2.2.2.2.2.2.2.2.2.2.2.1, S.2.2.2.2.2.2.2.2.2.2.2.2.2.2.2.2.2.2.2.2.2.2.2.1, S.2.2.2.2.2.2.2.2.2.2.2.2.2.2.2.2.2.2.2.2.2.2.2.2.1, S.2.2.2.2.2.2.2.2.2.2.2.2.2.2.2.2.2.2.2.2.2.2.2.2.2.1, ()) H3)
  (seqE (blockE 0 (seqE (leafE fun S H k =>
       bindV (evNeq .int S.2.2.2.2.2.2.1 (.int .i64 (.ofNat 0))) fun t22 =>
       k (S.1, S.2.1, S.2.2.1, S.2.2.2.1, S.2.2.2.2.1, S.2.2.2.2.2.1, S.2.2.2.2.2.2.1, S.2.2.2.2.2.2.2.1, S.2.2.2.2.2.2.2.2.1, S.2.2.2.2.2.2.2.2.2.1, S.2.2.2.2.2.2.2.2.2.2.1, t22, S.2.2.2.2.2.2.2.2.2.2.2.2.1, S.2.2.2.2.2.2.2.2.2.2.2.2.2.1, S.2.2.2.2.2.2.2.2.2.2.2.2.2.2.1, S.2.2.2.2.2.2.2.2.2.2.2.2.2.2.2.1, S.2.2.2.2.2.2.2.2.2.2.2.2.2.2.2.2.1, S.2.2.2.2.2.2.2.2.2.2.2.2.2.2.2.2.2.1, S.2.2.2.2.2.2.2.2.2.2.2.2.2.2.2.2.2.2.1, S.2.2.2.2.2.2.2.2.2.2.2.2.2.2.2.2.2.2.2.1, S.2.2.2.2.2.2.2.2.2.2.2.2.2.2.2.2.2.2.2.2.1, S.2.2.2.2.2.2.2.2.2.2.2.2.2.2.2.2.2.2.2.2.2.1, S.2.2.2.2.2.2.2.2.2.2.2.2.2.2.2.2.2.2.2.2.2.2.1, S.2.2.2.2.2.2.2.2.2.2.2.2.2.2.2.2.2.2.2.2.2.2.2.1, S.2.2.2.2.2.2.2.2.2.2.2.2.2.2.2.2.2.2.2.2.2.2.2.2.1, S.2.2.2.2.2.2.2.2.2.2.2.2.2.2.2.2.2.2.2.2.2.2.2.2.2.1, ()) H)
   (condE (fun S => some S.2.2.2.2.2.2.2.2.2.2.2.1)
    (seqE (leafE fun S H k =>
        k (S.1, S.2.1, S.2.2.1, S.2.2.2.1, S.2.2.2.2.2.2.1, S.2.2.2.2.2.1, S.2.2.2.2.2.2.1, S.2.2.2.2.2.2.2.1, S.2.2.2.2.2.2.2.2.1, S.2.2.2.2.2.2.2.2.2.1, S.2.2.2.2.2.2.2.2.2.2.1, S.2.2.2.2.2.2.2.2.2.2.2.1, S.2.2.2.2.2.2.2.2.2.2.2.2.1, S.2.2.2.2.2.2.2.2.2.2.2.2.2.1, S.2.2.2.2.2.2.2.2.2.2.2.2.2.2.1, S.2.2.2.2.2.2.2.2.2.2.2.2.2.2.2.1, S.2.2.2.2.2.2.2.2.2.2.2.2.2.2.2.2.1, S.2.2.2.2.2.2.2.2.2.2.2.2.2.2.2.2.2.1, S.2.2.2.2.2.2.2.2.2.2.2.2.2.2.2.2.2.2.1, S.2.2.2.2.2.2.2.2.2.2.2.2.2.2.2.2.2.2.2.1, S.2.2.2.2.2.2.2.2.2.2.2.2.2.2.2.2.2.2.2.2.1, S.2.2.2.2.2.2.2.2.2.2.2.2.2.2.2.2.2.2.2.2.2.1, S.2.2.2.2.2.2.2.2.2.2.2.2.2.2.2.2.2.2.2.2.2.2.1, S.2.2.2.2.2.2.2.2.2.2.2.2.2.2.2.2.2.2.2.2.2.2.2.1, S.2.2.2.2.2.2.2.2.2.2.2.2.2.2.2.2.2.2.2.2.2.2.2.2.1, S.2.2.2.2.2.2.2.2.2.2.2.2.2.2.2.2.2.2.2.2.2.2.2.2.2.1, ()) H)
    (doneE .ret))
    (seqE (leafE fun S H k =>
        bindV (evLss S.2.1 (.int .i64 (.ofNat 0))) fun t26 =>
        k (S.1, S.2.1, S.2.2.1, S.2.2.2.1, S.2.2.2.2.1, S.2.2.2.2.2.1, S.2.2.2.2.2.2.1, S.2.2.2.2.2.2.2.1, S.2.2.2.2.2.2.2.2.1, S.2.2.2.2.2.2.2.2.2.1, S.2.2.2.2.2.2.2.2.2.2.1, S.2.2.2.2.2.2.2.2.2.2.2.1, t26, S.2.2.2.2.2.2.2.2.2.2.2.2.2.1, S.2.2.2.2.2.2.2.2.2.2.2.2.2.2.1, S.2.2.2.2.2.2.2.2.2.2.2.2.2.2.2.1, S.2.2.2.2.2.2.2.2.2.2.2.2.2.2.2.2.1, S.2.2.2.2.2.2.2.2.2.2.2.2.2.2.2.2.2.1, S.2.2.2.2.2.2.2.2.2.2.2.2.2.2.2.2.2.2.1, S.2.2.2.2.2.2.2.2.2.2.2.2.2.2.2.2.2.2.2.1, S.2.2.2.2.2.2.2.2.2.2.2.2.2.2.2.2.2.2.2.2.1, S.2.2.2.2.2.2.2.2.2.2.2.2.2.2.2.2.2.2.2.2.2.1, S.2.2.2.2.2.2.2.2.2.2.2.2.2.2.2.2.2.2.2.2.2.2.1, S.2.2.2.2.2.2.2.2.2.2.2.2.2.2.2.2.2.2.2.2.2.2.2.1, S.2.2.2.2.2.2.2.2.2.2.2.2.2.2.2.2.2.2.2.2.2.2.2.2.1, S.2.2.2.2.2.2.2.2.2.2.2.2.2.2.2.2.2.2.2.2.2.2.2.2.2.1, ()) H)
    (condE (fun S => some S.2.2.2.2.2.2.2.2.2.2.2.2.1)
     (seqE (leafE fun S H k =>
         k (S.1, S.2.1, S.2.2.1, S.2.2.2.1, (.int .i64 (.ofNat 1)), S.2.2.2.2.2.1, S.2.2.2.2.2.2.1, S.2.2.2.2.2.2.2.1, S.2.2.2.2.2.2.2.2.1, S.2.2.2.2.2.2.2.2.2.1, S.2.2.2.2.2.2.2.2.2.2.1, S.2.2.2.2.2.2.2.2.2.2.2.1, S.2.2.2.2.2.2.2.2.2.2.2.2.1, S.2.2.2.2.2.2.2.2.2.2.2.2.2.1, S.2.2.2.2.2.2.2.2.2.2.2.2.2.2.1, S.2.2.2.2.2.2.2.2.2.2.2.2.2.2.2.1, S.2.2.2.2.2.2.2.2.2.2.2.2.2.2.2.2.1, S.2.2.2.2.2.2.2.2.2.2.2.2.2.2.2.2.2.1, S.2.2.2.2.2.2.2.2.2.2.2.2.2.2.2.2.2.2.1, S.2.2.2.2.2.2.2.2.2.2.2.2.2.2.2.2.2.2.2.1, S.2.2.2.2.2.2.2.2.2.2.2.2.2.2.2.2.2.2.2.2.1, S.2.2.2.2.2.2.2.2.2.2.2.2.2.2.2.2.2.2.2.2.2.1, S.2.2.2.2.2.2.2.2.2.2.2.2.2.2.2.2.2.2.2.2.2.2.1, S.2.2.2.2.2.2.2.2.2.2.2.2.2.2.2.2.2.2.2.2.2.2.2.1, S.2.2.2.2.2.2.2.2.2.2.2.2.2.2.2.2.2.2.2.2.2.2.2.2.1, S.2.2.2.2.2.2.2.2.2.2.2.2.2.2.2.2.2.2.2.2.2.2.2.2.2.1, ()) H)
     (doneE .ret))
     (doneE .normal))))))
  (seqE (leafE fun S H k =>
      bindV (evShift S.2.2.2.2.2.1 2) fun t27 =>
      bindV (evLoad H false 1 t27) fun t28 =>
      k (S.1, S.2.1, S.2.2.1, S.2.2.2.1, S.2.2.2.2.1, S.2.2.2.2.2.1, S.2.2.2.2.2.2.1, t28, (.int .i64 (.negSucc 0)), S.2.2.2.2.2.2.2.2.2.1, S.2.2.2.2.2.2.2.2.2.2.1, S.2.2.2.2.2.2.2.2.2.2.2.1, S.2.2.2.2.2.2.2.2.2.2.2.2.1, S.2.2.2.2.2.2.2.2.2.2.2.2.2.1, S.2.2.2.2.2.2.2.2.2.2.2.2.2.2.1, S.2.2.2.2.2.2.2.2.2.2.2.2.2.2.2.1, S.2.2.2.2.2.2.2.2.2.2.2.2.2.2.2.2.1, S.2.2.2.2.2.2.2.2.2.2.2.2.2.2.2.2.2.1, S.2.2.2.2.2.2.2.2.2.2.2.2.2.2.2.2.2.2.1, S.2.2.2.2.2.2.2.2.2.2.2.2.2.2.2.2.2.2.2.1, S.2.2.2.2.2.2.2.2.2.2.2.2.2.2.2.2.2.2.2.2.1, S.2.2.2.2.2.2.2.2.2.2.2.2.2.2.2.2.2.2.2.2.2.1, S.2.2.2.2.2.2.2.2.2.2.2.2.2.2.2.2.2.2.2.2.2.2.1, S.2.2.2.2.2.2.2.2.2.2.2.2.2.2.2.2.2.2.2.2.2.2.2.1, S.2.2.2.2.2.2.2.2.2.2.2.2.2.2.2.2.2.2.2.2.2.2.2.2.1, S.2.2.2.2.2.2.2.2.2.2.2.2.2.2.2.2.2.2.2.2.2.2.2.2.2.1, ()) H)
  (seqE (seqE (leafE fun S H k =>
      bindV (evLenS S.2.2.1) fun t30 =>
      k (S.1, S.2.1, S.2.2.1, S.2.2.2.1, S.2.2.2.2.1, S.2.2.2.2.2.1, S.2.2.2.2.2.2.1, S.2.2.2.2.2.2.2.1, S.2.2.2.2.2.2.2.2.1, S.2.2.2.2.2.2.2.2.2.1, S.2.2.2.2.2.2.2.2.2.2.1, S.2.2.2.2.2.2.2.2.2.2.2.1, S.2.2.2.2.2.2.2.2.2.2.2.2.1, S.2.2.1, t30, (.int .i64 (.ofNat 0)), S.2.2.2.2.2.2.2.2.2.2.2.2.2.2.2.2.1, S.2.2.2.2.2.2.2.2.2.2.2.2.2.2.2.2.2.1, S.2.2.2.2.2.2.2.2.2.2.2.2.2.2.2.2.2.2.1, S.2.2.2.2.2.2.2.2.2.2.2.2.2.2.2.2.2.2.2.1, S.2.2.2.2.2.2.2.2.2.2.2.2.2.2.2.2.2.2.2.2.1, S.2.2.2.2.2.2.2.2.2.2.2.2.2.2.2.2.2.2.2.2.2.1, S.2.2.2.2.2.2.2.2.2.2.2.2.2.2.2.2.2.2.2.2.2.2.1, S.2.2.2.2.2.2.2.2.2.2.2.2.2.2.2.2.2.2.2.2.2.2.2.1, S.2.2.2.2.2.2.2.2.2.2.2.2.2.2.2.2.2.2.2.2.2.2.2.2.1, S.2.2.2.2.2.2.2.2.2.2.2.2.2.2.2.2.2.2.2.2.2.2.2.2.2.1, ()) H)
  (blockE 1 (loopE (seqE (leafE fun S H k =>
        bindV (evLss S.2.2.2.2.2.2.2.2.2.2.2.2.2.2.2.1 S.2.2.2.2.2.2.2.2.2.2.2.2.2.2.1) fun t32 =>
        k (S.1, S.2.1, S.2.2.1, S.2.2.2.1, S.2.2.2.2.1, S.2.2.2.2.2.1, S.2.2.2.2.2.2.1, S.2.2.2.2.2.2.2.1, S.2.2.2.2.2.2.2.2.1, S.2.2.2.2.2.2.2.2.2.1, S.2.2.2.2.2.2.2.2.2.2.1, S.2.2.2.2.2.2.2.2.2.2.2.1, S.2.2.2.2.2.2.2.2.2.2.2.2.1, S.2.2.2.2.2.2.2.2.2.2.2.2.2.1, S.2.2.2.2.2.2.2.2.2.2.2.2.2.2.1, S.2.2.2.2.2.2.2.2.2.2.2.2.2.2.2.1, t32, S.2.2.2.2.2.2.2.2.2.2.2.2.2.2.2.2.2.1, S.2.2.2.2.2.2.2.2.2.2.2.2.2.2.2.2.2.2.1, S.2.2.2.2.2.2.2.2.2.2.2.2.2.2.2.2.2.2.2.1, S.2.2.2.2.2.2.2.2.2.2.2.2.2.2.2.2.2.2.2.2.1, S.2.2.2.2.2.2.2.2.2.2.2.2.2.2.2.2.2.2.2.2.2.1, S.2.2.2.2.2.2.2.2.2.2.2.2.2.2.2.2.2.2.2.2.2.2.1, S.2.2.2.2.2.2.2.2.2.2.2.2.2.2.2.2.2.2.2.2.2.2.2.1, S.2.2.2.2.2.2.2.2.2.2.2.2.2.2.2.2.2.2.2.2.2.2.2.2.1, S.2.2.2.2.2.2.2.2.2.2.2.2.2.2.2.2.2.2.2.2.2.2.2.2.2.1, ()) H)
    (seqE (condE (fun S => some S.2.2.2.2.2.2.2.2.2.2.2.2.2.2.2.2.1)
     (doneE .normal)
     (doneE (.exit 1)))
    (seqE (blockE 2 (seqE (leafE fun S H k =>
         bindV (evIdxSlice 1 S.2.2.2.2.2.2.2.2.2.2.2.2.2.1 S.2.2.2.2.2.2.2.2.2.2.2.2.2.2.2.1) fun t33 =>
         bindV (evLoad H false 1 t33) fun t34 =>
         k (S.1, S.2.1, S.2.2.1, S.2.2.2.1, S.2.2.2.2.1, S.2.2.2.2.2.1, S.2.2.2.2.2.2.1, S.2.2.2.2.2.2.2.1, S.2.2.2.2.2.2.2.2.1, t34, S.2.2.2.2.2.2.2.2.2.2.1, S.2.2.2.2.2.2.2.2.2.2.2.1, S.2.2.2.2.2.2.2.2.2.2.2.2.1, S.2.2.2.2.2.2.2.2.2.2.2.2.2.1, S.2.2.2.2.2.2.2.2.2.2.2.2.2.2.1, S.2.2.2.2.2.2.2.2.2.2.2.2.2.2.2.1, S.2.2.2.2.2.2.2.2.2.2.2.2.2.2.2.2.1, S.2.2.2.2.2.2.2.2.2.2.2.2.2.2.2.2.2.1, S.2.2.2.2.2.2.2.2.2.2.2.2.2.2.2.2.2.2.1, S.2.2.2.2.2.2.2.2.2.2.2.2.2.2.2.2.2.2.2.1, S.2.2.2.2.2.2.2.2.2.2.2.2.2.2.2.2.2.2.2.2.1, S.2.2.2.2.2.2.2.2.2.2.2.2.2.2.2.2.2.2.2.2.2.1, S.2.2.2.2.2.2.2.2.2.2.2.2.2.2.2.2.2.2.2.2.2.2.1, S.2.2.2.2.2.2.2.2.2.2.2.2.2.2.2.2.2.2.2.2.2.2.2.1, S.2.2.2.2.2.2.2.2.2.2.2.2.2.2.2.2.2.2.2.2.2.2.2.2.1, S.2.2.2.2.2.2.2.2.2.2.2.2.2.2.2.2.2.2.2.2.2.2.2.2.2.1, ()) H)
     (seqE (blockE 3 (seqE (leafE fun S H k =>
          bindV (evLss S.2.2.2.2.2.2.2.2.2.1 (.int .i64 (.ofNat 0))) fun t37 =>
          guarded t37 false ( pairVH S.2.2.2.2.2.2.2.2.2.1 H) H fun t39 H4 =>
          guarded t37 false (bindV (evShift S.2.2.2.2.2.1 0) fun t1000000 => pairVH t1000000 H4) H4 fun t40 H5 =>
          guarded t37 false (bindV (evLoad H5 false 1 t40) fun t1000000 => pairVH t1000000 H5) H5 fun t41 H6 =>
          guarded t37 false (bindV (evShift S.2.2.2.2.2.1 1) fun t1000000 => pairVH t1000000 H6) H6 fun t42 H7 =>
          guarded t37 false (bindV (evLoad H7 false 1 t42) fun t1000000 => pairVH t1000000 H7) H7 fun t43 H8 =>
          guarded t37 false (bindV (evMul t41 t43) fun t1000000 => pairVH t1000000 H8) H8 fun t44 H9 =>
          guarded t37 false (bindV (evGeq t39 t44) fun t1000000 => pairVH t1000000 H9) H9 fun t45 H10 =>
          bindV (evPick t37 (.bool true) t45) fun t46 =>
          k (S.1, S.2.1, S.2.2.1, S.2.2.2.1, S.2.2.2.2.1, S.2.2.2.2.2.1, S.2.2.2.2.2.2.1, S.2.2.2.2.2.2.2.1, S.2.2.2.2.2.2.2.2.1, S.2.2.2.2.2.2.2.2.2.1, S.2.2.2.2.2.2.2.2.2.2.1, S.2.2.2.2.2.2.2.2.2.2.2.1, S.2.2.2.2.2.2.2.2.2.2.2.2.1, S.2.2.2.2.2.2.2.2.2.2.2.2.2.1, S.2.2.2.2.2.2.2.2.2.2.2.2.2.2.1, S.2.2.2.2.2.2.2.2.2.2.2.2.2.2.2.1, S.2.2.2.2.2.2.2.2.2.2.2.2.2.2.2.2.1, t46, S.2.2.2.2.2.2.2.2.2.2.2.2.2.2.2.2.2.2.1, S.2.2.2.2.2.2.2.2.2.2.2.2.2.2.2.2.2.2.2.1, S.2.2.2.2.2.2.2.2.2.2.2.2.2.2.2.2.2.2.2.2.1, S.2.2.2.2.2.2.2.2.2.2.2.2.2.2.2.2.2.2.2.2.2.1, S.2.2.2.2.2.2.2.2.2.2.2.2.2.2.2.2.2.2.2.2.2.2.1, S.2.2.2.2.2.2.2.2.2.2.2.2.2.2.2.2.2.2.2.2.2.2.2.1, S.2.2.2.2.2.2.2.2.2.2.2.2.2.2.2.2.2.2.2.2.2.2.2.2.1, S.2.2.2.2.2.2.2.2.2.2.2.2.2.2.2.2.2.2.2.2.2.2.2.2.2.1, ()) H10)
      (condE (fun S => some S.2.2.2.2.2.2.2.2.2.2.2.2.2.2.2.2.2.1)
       (seqE (leafE fun S H k =>
           k (S.1, S.2.1, S.2.2.1, S.2.2.2.1, (.int .i64 (.ofNat 2)), S.2.2.2.2.2.1, S.2.2.2.2.2.2.1, S.2.2.2.2.2.2.2.1, S.2.2.2.2.2.2.2.2.1, S.2.2.2.2.2.2.2.2.2.1, S.2.2.2.2.2.2.2.2.2.2.1, S.2.2.2.2.2.2.2.2.2.2.2.1, S.2.2.2.2.2.2.2.2.2.2.2.2.1, S.2.2.2.2.2.2.2.2.2.2.2.2.2.1, S.2.2.2.2.2.2.2.2.2.2.2.2.2.2.1, S.2.2.2.2.2.2.2.2.2.2.2.2.2.2.2.1, S.2.2.2.2.2.2.2.2.2.2.2.2.2.2.2.2.1, S.2.2.2.2.2.2.2.2.2.2.2.2.2.2.2.2.2.1, S.2.2.2.2.2.2.2.2.2.2.2.2.2.2.2.2.2.2.1, S.2.2.2.2.2.2.2.2.2.2.2.2.2.2.2.2.2.2.2.1, S.2.2.2.2.2.2.2.2.2.2.2.2.2.2.2.2.2.2.2.2.1, S.2.2.2.2.2.2.2.2.2.2.2.2.2.2.2.2.2.2.2.2.2.1, S.2.2.2.2.2.2.2.2.2.2.2.2.2.2.2.2.2.2.2.2.2.2.1, S.2.2.2.2.2.2.2.2.2.2.2.2.2.2.2.2.2.2.2.2.2.2.2.1, S.2.2.2.2.2.2.2.2.2.2.2.2.2.2.2.2.2.2.2.2.2.2.2.2.1, S.2.2.2.2.2.2.2.2.2.2.2.2.2.2.2.2.2.2.2.2.2.2.2.2.2.1, ()) H)
       (doneE .ret))
       (seqE (leafE fun S H k =>
           bindV (evLeq S.2.2.2.2.2.2.2.2.2.1 S.2.2.2.2.2.2.2.2.1) fun t50 =>
           k (S.1, S.2.1, S.2.2.1, S.2.2.2.1, S.2.2.2.2.1, S.2.2.2.2.2.1, S.2.2.2.2.2.2.1, S.2.2.2.2.2.2.2.1, S.2.2.2.2.2.2.2.2.1, S.2.2.2.2.2.2.2.2.2.1, S.2.2.2.2.2.2.2.2.2.2.1, S.2.2.2.2.2.2.2.2.2.2.2.1, S.2.2.2.2.2.2.2.2.2.2.2.2.1, S.2.2.2.2.2.2.2.2.2.2.2.2.2.1, S.2.2.2.2.2.2.2.2.2.2.2.2.2.2.1, S.2.2.2.2.2.2.2.2.2.2.2.2.2.2.2.1, S.2.2.2.2.2.2.2.2.2.2.2.2.2.2.2.2.1, S.2.2.2.2.2.2.2.2.2.2.2.2.2.2.2.2.2.1, t50, S.2.2.2.2.2.2.2.2.2.2.2.2.2.2.2.2.2.2.2.1, S.2.2.2.2.2.2.2.2.2.2.2.2.2.2.2.2.2.2.2.2.1, S.2.2.2.2.2.2.2.2.2.2.2.2.2.2.2.2.2.2.2.2.2.1, S.2.2.2.2.2.2.2.2.2.2.2.2.2.2.2.2.2.2.2.2.2.2.1, S.2.2.2.2.2.2.2.2.2.2.2.2.2.2.2.2.2.2.2.2.2.2.2.1, S.2.2.2.2.2.2.2.2.2.2.2.2.2.2.2.2.2.2.2.2.2.2.2.2.1, S.2.2.2.2.2.2.2.2.2.2.2.2.2.2.2.2.2.2.2.2.2.2.2.2.2.1, ()) H)
       (condE (fun S => some S.2.2.2.2.2.2.2.2.2.2.2.2.2.2.2.2.2.2.1)
        (seqE (leafE fun S H k =>
            k (S.1, S.2.1, S.2.2.1, S.2.2.2.1, (.int .i64 (.ofNat 7)), S.2.2.2.2.2.1, S.2.2.2.2.2.2.1, S.2.2.2.2.2.2.2.1, S.2.2.2.2.2.2.2.2.1, S.2.2.2.2.2.2.2.2.2.1, S.2.2.2.2.2.2.2.2.2.2.1, S.2.2.2.2.2.2.2.2.2.2.2.1, S.2.2.2.2.2.2.2.2.2.2.2.2.1, S.2.2.2.2.2.2.2.2.2.2.2.2.2.1, S.2.2.2.2.2.2.2.2.2.2.2.2.2.2.1, S.2.2.2.2.2.2.2.2.2.2.2.2.2.2.2.1, S.2.2.2.2.2.2.2.2.2.2.2.2.2.2.2.2.1, S.2.2.2.2.2.2.2.2.2.2.2.2.2.2.2.2.2.1, S.2.2.2.2.2.2.2.2.2.2.2.2.2.2.2.2.2.2.1, S.2.2.2.2.2.2.2.2.2.2.2.2.2.2.2.2.2.2.2.1, S.2.2.2.2.2.2.2.2.2.2.2.2.2.2.2.2.2.2.2.2.1, S.2.2.2.2.2.2.2.2.2.2.2.2.2.2.2.2.2.2.2.2.2.1, S.2.2.2.2.2.2.2.2.2.2.2.2.2.2.2.2.2.2.2.2.2.2.1, S.2.2.2.2.2.2.2.2.2.2.2.2.2.2.2.2.2.2.2.2.2.2.2.1, S.2.2.2.2.2.2.2.2.2.2.2.2.2.2.2.2.2.2.2.2.2.2.2.2.1, S.2.2.2.2.2.2.2.2.2.2.2.2.2.2.2.2.2.2.2.2.2.2.2.2.2.1, ()) H)
        (doneE .ret))
        (seqE (leafE fun S H k =>
            bindV (evShift S.2.2.2.2.2.1 2) fun t52 =>
            bindV (evLoad H false 1 t52) fun t53 =>
            bindV (evShr t53 S.2.2.2.2.2.2.2.2.2.1) fun t55 =>
            bindV (evAnd t55 (.int .u64 (.ofNat 1))) fun t56 =>
            bindV (evEql .int t56 (.int .u64 (.ofNat 0))) fun t57 =>
            k (S.1, S.2.1, S.2.2.1, S.2.2.2.1, S.2.2.2.2.1, S.2.2.2.2.2.1, S.2.2.2.2.2.2.1, S.2.2.2.2.2.2.2.1, S.2.2.2.2.2.2.2.2.1, S.2.2.2.2.2.2.2.2.2.1, S.2.2.2.2.2.2.2.2.2.2.1, S.2.2.2.2.2.2.2.2.2.2.2.1, S.2.2.2.2.2.2.2.2.2.2.2.2.1, S.2.2.2.2.2.2.2.2.2.2.2.2.2.1, S.2.2.2.2.2.2.2.2.2.2.2.2.2.2.1, S.2.2.2.2.2.2.2.2.2.2.2.2.2.2.2.1, S.2.2.2.2.2.2.2.2.2.2.2.2.2.2.2.2.1, S.2.2.2.2.2.2.2.2.2.2.2.2.2.2.2.2.2.1, S.2.2.2.2.2.2.2.2.2.2.2.2.2.2.2.2.2.2.1, t57, S.2.2.2.2.2.2.2.2.2.2.2.2.2.2.2.2.2.2.2.2.1, S.2.2.2.2.2.2.2.2.2.2.2.2.2.2.2.2.2.2.2.2.2.1, S.2.2.2.2.2.2.2.2.2.2.2.2.2.2.2.2.2.2.2.2.2.2.1, S.2.2.2.2.2.2.2.2.2.2.2.2.2.2.2.2.2.2.2.2.2.2.2.1, S.2.2.2.2.2.2.2.2.2.2.2.2.2.2.2.2.2.2.2.2.2.2.2.2.1, S.2.2.2.2.2.2.2.2.2.2.2.2.2.2.2.2.2.2.2.2.2.2.2.2.2.1, ()) H)
        (condE (fun S => some S.2.2.2.2.2.2.2.2.2.2.2.2.2.2.2.2.2.2.2.1)
         (seqE (leafE fun S H k =>
             k (S.1, S.2.1, S.2.2.1, S.2.2.2.1, (.int .i64 (.ofNat 13)), S.2.2.2.2.2.1, S.2.2.2.2.2.2.1, S.2.2.2.2.2.2.2.1, S.2.2.2.2.2.2.2.2.1, S.2.2.2.2.2.2.2.2.2.1, S.2.2.2.2.2.2.2.2.2.2.1, S.2.2.2.2.2.2.2.2.2.2.2.1, S.2.2.2.2.2.2.2.2.2.2.2.2.1, S.2.2.2.2.2.2.2.2.2.2.2.2.2.1, S.2.2.2.2.2.2.2.2.2.2.2.2.2.2.1, S.2.2.2.2.2.2.2.2.2.2.2.2.2.2.2.1, S.2.2.2.2.2.2.2.2.2.2.2.2.2.2.2.2.1, S.2.2.2.2.2.2.2.2.2.2.2.2.2.2.2.2.2.1, S.2.2.2.2.2.2.2.2.2.2.2.2.2.2.2.2.2.2.1, S.2.2.2.2.2.2.2.2.2.2.2.2.2.2.2.2.2.2.2.1, S.2.2.2.2.2.2.2.2.2.2.2.2.2.2.2.2.2.2.2.2.1, S.2.2.2.2.2.2.2.2.2.2.2.2.2.2.2.2.2.2.2.2.2.1, S.2.2.2.2.2.2.2.2.2.2.2.2.2.2.2.2.2.2.2.2.2.2.1, S.2.2.2.2.2.2.2.2.2.2.2.2.2.2.2.2.2.2.2.2.2.2.2.1, S.2.2.2.2.2.2.2.2.2.2.2.2.2.2.2.2.2.2.2.2.2.2.2.2.1, S.2.2.2.2.2.2.2.2.2.2.2.2.2.2.2.2.2.2.2.2.2.2.2.2.2.1, ()) H)
         (doneE .ret))
         (doneE .normal))))))))
     (seqE (leafE fun S H k =>
         bindV (evShl (.int .u64 (.ofNat 1)) S.2.2.2.2.2.2.2.2.2.1) fun t60 =>
         bindV (evAndNot S.2.2.2.2.2.2.2.1 t60) fun t61 =>
         k (S.1, S.2.1, S.2.2.1, S.2.2.2.1, S.2.2.2.2.1, S.2.2.2.2.2.1, S.2.2.2.2.2.2.1, t61, S.2.2.2.2.2.2.2.2.1, S.2.2.2.2.2.2.2.2.2.1, S.2.2.2.2.2.2.2.2.2.2.1, S.2.2.2.2.2.2.2.2.2.2.2.1, S.2.2.2.2.2.2.2.2.2.2.2.2.1, S.2.2.2.2.2.2.2.2.2.2.2.2.2.1, S.2.2.2.2.2.2.2.2.2.2.2.2.2.2.1, S.2.2.2.2.2.2.2.2.2.2.2.2.2.2.2.1, S.2.2.2.2.2.2.2.2.2.2.2.2.2.2.2.2.1, S.2.2.2.2.2.2.2.2.2.2.2.2.2.2.2.2.2.1, S.2.2.2.2.2.2.2.2.2.2.2.2.2.2.2.2.2.2.1, S.2.2.2.2.2.2.2.2.2.2.2.2.2.2.2.2.2.2.2.1, S.2.2.2.2.2.2.2.2.2.2.2.2.2.2.2.2.2.2.2.2.1, S.2.2.2.2.2.2.2.2.2.2.2.2.2.2.2.2.2.2.2.2.2.1, S.2.2.2.2.2.2.2.2.2.2.2.2.2.2.2.2.2.2.2.2.2.2.1, S.2.2.2.2.2.2.2.2.2.2.2.2.2.2.2.2.2.2.2.2.2.2.2.1, S.2.2.2.2.2.2.2.2.2.2.2.2.2.2.2.2.2.2.2.2.2.2.2.2.1, S.2.2.2.2.2.2.2.2.2.2.2.2.2.2.2.2.2.2.2.2.2.2.2.2.2.1, ()) H)
     (leafE fun S H k =>
         k (S.1, S.2.1, S.2.2.1, S.2.2.2.1, S.2.2.2.2.1, S.2.2.2.2.2.1, S.2.2.2.2.2.2.1, S.2.2.2.2.2.2.2.1, S.2.2.2.2.2.2.2.2.2.1, S.2.2.2.2.2.2.2.2.2.1, S.2.2.2.2.2.2.2.2.2.2.1, S.2.2.2.2.2.2.2.2.2.2.2.1, S.2.2.2.2.2.2.2.2.2.2.2.2.1, S.2.2.2.2.2.2.2.2.2.2.2.2.2.1, S.2.2.2.2.2.2.2.2.2.2.2.2.2.2.1, S.2.2.2.2.2.2.2.2.2.2.2.2.2.2.2.1, S.2.2.2.2.2.2.2.2.2.2.2.2.2.2.2.2.1, S.2.2.2.2.2.2.2.2.2.2.2.2.2.2.2.2.2.1, S.2.2.2.2.2.2.2.2.2.2.2.2.2.2.2.2.2.2.1, S.2.2.2.2.2.2.2.2.2.2.2.2.2.2.2.2.2.2.2.1, S.2.2.2.2.2.2.2.2.2.2.2.2.2.2.2.2.2.2.2.2.1, S.2.2.2.2.2.2.2.2.2.2.2.2.2.2.2.2.2.2.2.2.2.1, S.2.2.2.2.2.2.2.2.2.2.2.2.2.2.2.2.2.2.2.2.2.2.1, S.2.2.2.2.2.2.2.2.2.2.2.2.2.2.2.2.2.2.2.2.2.2.2.1, S.2.2.2.2.2.2.2.2.2.2.2.2.2.2.2.2.2.2.2.2.2.2.2.2.1, S.2.2.2.2.2.2.2.2.2.2.2.2.2.2.2.2.2.2.2.2.2.2.2.2.2.1, ()) H)))))
    (leafE fun S H k =>
        bindV (evAdd S.2.2.2.2.2.2.2.2.2.2.2.2.2.2.2.1 (.int .i64 (.ofNat 1))) fun t63 =>
        k (S.1, S.2.1, S.2.2.1, S.2.2.2.1, S.2.2.2.2.1, S.2.2.2.2.2.1, S.2.2.2.2.2.2.1, S.2.2.2.2.2.2.2.1, S.2.2.2.2.2.2.2.2.1, S.2.2.2.2.2.2.2.2.2.1, S.2.2.2.2.2.2.2.2.2.2.1, S.2.2.2.2.2.2.2.2.2.2.2.1, S.2.2.2.2.2.2.2.2.2.2.2.2.1, S.2.2.2.2.2.2.2.2.2.2.2.2.2.1, S.2.2.2.2.2.2.2.2.2.2.2.2.2.2.1, t63, S.2.2.2.2.2.2.2.2.2.2.2.2.2.2.2.2.1, S.2.2.2.2.2.2.2.2.2.2.2.2.2.2.2.2.2.1, S.2.2.2.2.2.2.2.2.2.2.2.2.2.2.2.2.2.2.1, S.2.2.2.2.2.2.2.2.2.2.2.2.2.2.2.2.2.2.2.1, S.2.2.2.2.2.2.2.2.2.2.2.2.2.2.2.2.2.2.2.2.1, S.2.2.2.2.2.2.2.2.2.2.2.2.2.2.2.2.2.2.2.2.2.1, S.2.2.2.2.2.2.2.2.2.2.2.2.2.2.2.2.2.2.2.2.2.2.1, S.2.2.2.2.2.2.2.2.2.2.2.2.2.2.2.2.2.2.2.2.2.2.2.1, S.2.2.2.2.2.2.2.2.2.2.2.2.2.2.2.2.2.2.2.2.2.2.2.2.1, S.2.2.2.2.2.2.2.2.2.2.2.2.2.2.2.2.2.2.2.2.2.2.2.2.2.1, ()) H)))) fuel)))
  (seqE (seqE (leafE fun S H k =>
      bindVH (call lo 68 [S.2.2.2.2.2.2.2.1] H) fun t65 H11 =>
      bindV (evLenS t65) fun t66 =>
      k (S.1, S.2.1, S.2.2.1, S.2.2.2.1, S.2.2.2.2.1, S.2.2.2.2.2.1, S.2.2.2.2.2.2.1, S.2.2.2.2.2.2.2.1, S.2.2.2.2.2.2.2.2.1, S.2.2.2.2.2.2.2.2.2.1, S.2.2.2.2.2.2.2.2.2.2.1, S.2.2.2.2.2.2.2.2.2.2.2.1, S.2.2.2.2.2.2.2.2.2.2.2.2.1, S.2.2.2.2.2.2.2.2.2.2.2.2.2.1, S.2.2.2.2.2.2.2.2.2.2.2.2.2.2.1, S.2.2.2.2.2.2.2.2.2.2.2.2.2.2.2.1, S.2.2.2.2.2.2.2.2.2.2.2.2.2.2.2.2.1, S.2.2.2.2.2.2.2.2.2.2.2.2.2.2.2.2.2.1, S.2.2.2.2.2.2.2.2.2.2.2.2.2.2.2.2.2.2.1, S.2.2.2.2.2.2.2.2.2.2.2.2.2.2.2.2.2.2.2.1, t65, t66, (.int .i64 (.ofNat 0)), S.2.2.2.2.2.2.2.2.2.2.2.2.2.2.2.2.2.2.2.2.2.2.2.1, S.2.2.2.2.2.2.2.2.2.2.2.2.2.2.2.2.2.2.2.2.2.2.2.2.1, S.2.2.2.2.2.2.2.2.2.2.2.2.2.2.2.2.2.2.2.2.2.2.2.2.2.1, ()) H11)
  (blockE 4 (loopE (seqE (leafE fun S H k =>
        bindV (evLss S.2.2.2.2.2.2.2.2.2.2.2.2.2.2.2.2.2.2.2.2.2.2.1 S.2.2.2.2.2.2.2.2.2.2.2.2.2.2.2.2.2.2.2.2.2.1) fun t68 =>
        k (S.1, S.2.1, S.2.2.1, S.2.2.2.1, S.2.2.2.2.1, S.2.2.2.2.2.1, S.2.2.2.2.2.2.1, S.2.2.2.2.2.2.2.1, S.2.2.2.2.2.2.2.2.1, S.2.2.2.2.2.2.2.2.2.1, S.2.2.2.2.2.2.2.2.2.2.1, S.2.2.2.2.2.2.2.2.2.2.2.1, S.2.2.2.2.2.2.2.2.2.2.2.2.1, S.2.2.2.2.2.2.2.2.2.2.2.2.2.1, S.2.2.2.2.2.2.2.2.2.2.2.2.2.2.1, S.2.2.2.2.2.2.2.2.2.2.2.2.2.2.2.1, S.2.2.2.2.2.2.2.2.2.2.2.2.2.2.2.2.1, S.2.2.2.2.2.2.2.2.2.2.2.2.2.2.2.2.2.1, S.2.2.2.2.2.2.2.2.2.2.2.2.2.2.2.2.2.2.1, S.2.2.2.2.2.2.2.2.2.2.2.2.2.2.2.2.2.2.2.1, S.2.2.2.2.2.2.2.2.2.2.2.2.2.2.2.2.2.2.2.2.1, S.2.2.2.2.2.2.2.2.2.2.2.2.2.2.2.2.2.2.2.2.2.1, S.2.2.2.2.2.2.2.2.2.2.2.2.2.2.2.2.2.2.2.2.2.2.1, t68, S.2.2.2.2.2.2.2.2.2.2.2.2.2.2.2.2.2.2.2.2.2.2.2.2.1, S.2.2.2.2.2.2.2.2.2.2.2.2.2.2.2.2.2.2.2.2.2.2.2.2.2.1, ()) H)
    (seqE (condE (fun S => some S.2.2.2.2.2.2.2.2.2.2.2.2.2.2.2.2.2.2.2.2.2.2.2.1)
     (doneE .normal)
     (doneE (.exit 4)))
    (seqE (blockE 5 (seqE (leafE fun S H k =>
         bindV (evIdxSlice 1 S.2.2.2.2.2.2.2.2.2.2.2.2.2.2.2.2.2.2.2.2.1 S.2.2.2.2.2.2.2.2.2.2.2.2.2.2.2.2.2.2.2.2.2.2.1) fun t69 =>
         bindV (evLoad H false 1 t69) fun t70 =>
         k (S.1, S.2.1, S.2.2.1, S.2.2.2.1, S.2.2.2.2.1, S.2.2.2.2.2.1, S.2.2.2.2.2.2.1, S.2.2.2.2.2.2.2.1, S.2.2.2.2.2.2.2.2.1, S.2.2.2.2.2.2.2.2.2.1, t70, S.2.2.2.2.2.2.2.2.2.2.2.1, S.2.2.2.2.2.2.2.2.2.2.2.2.1, S.2.2.2.2.2.2.2.2.2.2.2.2.2.1, S.2.2.2.2.2.2.2.2.2.2.2.2.2.2.1, S.2.2.2.2.2.2.2.2.2.2.2.2.2.2.2.1, S.2.2.2.2.2.2.2.2.2.2.2.2.2.2.2.2.1, S.2.2.2.2.2.2.2.2.2.2.2.2.2.2.2.2.2.1, S.2.2.2.2.2.2.2.2.2.2.2.2.2.2.2.2.2.2.1, S.2.2.2.2.2.2.2.2.2.2.2.2.2.2.2.2.2.2.2.1, S.2.2.2.2.2.2.2.2.2.2.2.2.2.2.2.2.2.2.2.2.1, S.2.2.2.2.2.2.2.2.2.2.2.2.2.2.2.2.2.2.2.2.2.1, S.2.2.2.2.2.2.2.2.2.2.2.2.2.2.2.2.2.2.2.2.2.2.1, S.2.2.2.2.2.2.2.2.2.2.2.2.2.2.2.2.2.2.2.2.2.2.2.1, S.2.2.2.2.2.2.2.2.2.2.2.2.2.2.2.2.2.2.2.2.2.2.2.2.1, S.2.2.2.2.2.2.2.2.2.2.2.2.2.2.2.2.2.2.2.2.2.2.2.2.2.1, ()) H)
     (seqE (leafE fun S H k =>
         bindV (evShift S.2.2.2.2.2.1 3) fun t72 =>
         bindV (evIdxArr 16 1 t72 S.2.2.2.2.2.2.2.2.2.2.1) fun t73 =>
         bindV (evLoad H false 1 t73) fun t74 =>
         bindV (evAnd t74 S.2.2.2.2.2.2.2.1) fun t76 =>
         bindV (evNeq .int t76 (.int .u64 (.ofNat 0))) fun t77 =>
         k (S.1, S.2.1, S.2.2.1, S.2.2.2.1, S.2.2.2.2.1, S.2.2.2.2.2.1, S.2.2.2.2.2.2.1, S.2.2.2.2.2.2.2.1, S.2.2.2.2.2.2.2.2.1, S.2.2.2.2.2.2.2.2.2.1, S.2.2.2.2.2.2.2.2.2.2.1, S.2.2.2.2.2.2.2.2.2.2.2.1, S.2.2.2.2.2.2.2.2.2.2.2.2.1, S.2.2.2.2.2.2.2.2.2.2.2.2.2.1, S.2.2.2.2.2.2.2.2.2.2.2.2.2.2.1, S.2.2.2.2.2.2.2.2.2.2.2.2.2.2.2.1, S.2.2.2.2.2.2.2.2.2.2.2.2.2.2.2.2.1, S.2.2.2.2.2.2.2.2.2.2.2.2.2.2.2.2.2.1, S.2.2.2.2.2.2.2.2.2.2.2.2.2.2.2.2.2.2.1, S.2.2.2.2.2.2.2.2.2.2.2.2.2.2.2.2.2.2.2.1, S.2.2.2.2.2.2.2.2.2.2.2.2.2.2.2.2.2.2.2.2.1, S.2.2.2.2.2.2.2.2.2.2.2.2.2.2.2.2.2.2.2.2.2.1, S.2.2.2.2.2.2.2.2.2.2.2.2.2.2.2.2.2.2.2.2.2.2.1, S.2.2.2.2.2.2.2.2.2.2.2.2.2.2.2.2.2.2.2.2.2.2.2.1, t77, S.2.2.2.2.2.2.2.2.2.2.2.2.2.2.2.2.2.2.2.2.2.2.2.2.2.1, ()) H)
     (condE (fun S => some S.2.2.2.2.2.2.2.2.2.2.2.2.2.2.2.2.2.2.2.2.2.2.2.2.1)
      (seqE (leafE fun S H k =>
          k (S.1, S.2.1, S.2.2.1, S.2.2.2.1, (.int .i64 (.ofNat 21)), S.2.2.2.2.2.1, S.2.2.2.2.2.2.1, S.2.2.2.2.2.2.2.1, S.2.2.2.2.2.2.2.2.1, S.2.2.2.2.2.2.2.2.2.1, S.2.2.2.2.2.2.2.2.2.2.1, S.2.2.2.2.2.2.2.2.2.2.2.1, S.2.2.2.2.2.2.2.2.2.2.2.2.1, S.2.2.2.2.2.2.2.2.2.2.2.2.2.1, S.2.2.2.2.2.2.2.2.2.2.2.2.2.2.1, S.2.2.2.2.2.2.2.2.2.2.2.2.2.2.2.1, S.2.2.2.2.2.2.2.2.2.2.2.2.2.2.2.2.1, S.2.2.2.2.2.2.2.2.2.2.2.2.2.2.2.2.2.1, S.2.2.2.2.2.2.2.2.2.2.2.2.2.2.2.2.2.2.1, S.2.2.2.2.2.2.2.2.2.2.2.2.2.2.2.2.2.2.2.1, S.2.2.2.2.2.2.2.2.2.2.2.2.2.2.2.2.2.2.2.2.1, S.2.2.2.2.2.2.2.2.2.2.2.2.2.2.2.2.2.2.2.2.2.1, S.2.2.2.2.2.2.2.2.2.2.2.2.2.2.2.2.2.2.2.2.2.2.1, S.2.2.2.2.2.2.2.2.2.2.2.2.2.2.2.2.2.2.2.2.2.2.2.1, S.2.2.2.2.2.2.2.2.2.2.2.2.2.2.2.2.2.2.2.2.2.2.2.2.1, S.2.2.2.2.2.2.2.2.2.2.2.2.2.2.2.2.2.2.2.2.2.2.2.2.2.1, ()) H)
      (doneE .ret))
      (doneE .normal)))))
    (leafE fun S H k =>
        bindV (evAdd S.2.2.2.2.2.2.2.2.2.2.2.2.2.2.2.2.2.2.2.2.2.2.1 (.int .i64 (.ofNat 1))) fun t78 =>
        k (S.1, S.2.1, S.2.2.1, S.2.2.2.1, S.2.2.2.2.1, S.2.2.2.2.2.1, S.2.2.2.2.2.2.1, S.2.2.2.2.2.2.2.1, S.2.2.2.2.2.2.2.2.1, S.2.2.2.2.2.2.2.2.2.1, S.2.2.2.2.2.2.2.2.2.2.1, S.2.2.2.2.2.2.2.2.2.2.2.1, S.2.2.2.2.2.2.2.2.2.2.2.2.1, S.2.2.2.2.2.2.2.2.2.2.2.2.2.1, S.2.2.2.2.2.2.2.2.2.2.2.2.2.2.1, S.2.2.2.2.2.2.2.2.2.2.2.2.2.2.2.1, S.2.2.2.2.2.2.2.2.2.2.2.2.2.2.2.2.1, S.2.2.2.2.2.2.2.2.2.2.2.2.2.2.2.2.2.1, S.2.2.2.2.2.2.2.2.2.2.2.2.2.2.2.2.2.2.1, S.2.2.2.2.2.2.2.2.2.2.2.2.2.2.2.2.2.2.2.1, S.2.2.2.2.2.2.2.2.2.2.2.2.2.2.2.2.2.2.2.2.1, S.2.2.2.2.2.2.2.2.2.2.2.2.2.2.2.2.2.2.2.2.2.1, t78, S.2.2.2.2.2.2.2.2.2.2.2.2.2.2.2.2.2.2.2.2.2.2.2.1, S.2.2.2.2.2.2.2.2.2.2.2.2.2.2.2.2.2.2.2.2.2.2.2.2.1, S.2.2.2.2.2.2.2.2.2.2.2.2.2.2.2.2.2.2.2.2.2.2.2.2.2.1, ()) H)))) fuel)))
  (seqE (seqE (leafE fun S H k =>
      bindV (evLenS S.2.2.1) fun t80 =>
      bindV (evGtr t80 S.2.1) fun t82 =>
      k (S.1, S.2.1, S.2.2.1, S.2.2.2.1, S.2.2.2.2.1, S.2.2.2.2.2.1, S.2.2.2.2.2.2.1, S.2.2.2.2.2.2.2.1, S.2.2.2.2.2.2.2.2.1, S.2.2.2.2.2.2.2.2.2.1, S.2.2.2.2.2.2.2.2.2.2.1, S.2.2.2.2.2.2.2.2.2.2.2.1, S.2.2.2.2.2.2.2.2.2.2.2.2.1, S.2.2.2.2.2.2.2.2.2.2.2.2.2.1, S.2.2.2.2.2.2.2.2.2.2.2.2.2.2.1, S.2.2.2.2.2.2.2.2.2.2.2.2.2.2.2.1, S.2.2.2.2.2.2.2.2.2.2.2.2.2.2.2.2.1, S.2.2.2.2.2.2.2.2.2.2.2.2.2.2.2.2.2.1, S.2.2.2.2.2.2.2.2.2.2.2.2.2.2.2.2.2.2.1, S.2.2.2.2.2.2.2.2.2.2.2.2.2.2.2.2.2.2.2.1, S.2.2.2.2.2.2.2.2.2.2.2.2.2.2.2.2.2.2.2.2.1, S.2.2.2.2.2.2.2.2.2.2.2.2.2.2.2.2.2.2.2.2.2.1, S.2.2.2.2.2.2.2.2.2.2.2.2.2.2.2.2.2.2.2.2.2.2.1, S.2.2.2.2.2.2.2.2.2.2.2.2.2.2.2.2.2.2.2.2.2.2.2.1, S.2.2.2.2.2.2.2.2.2.2.2.2.2.2.2.2.2.2.2.2.2.2.2.2.1, t82, ()) H)
  (condE (fun S => some S.2.2.2.2.2.2.2.2.2.2.2.2.2.2.2.2.2.2.2.2.2.2.2.2.2.1)
   (seqE (leafE fun S H k =>
       k (S.1, S.2.1, S.2.2.1, S.2.2.2.1, (.int .i64 (.ofNat 14)), S.2.2.2.2.2.1, S.2.2.2.2.2.2.1, S.2.2.2.2.2.2.2.1, S.2.2.2.2.2.2.2.2.1, S.2.2.2.2.2.2.2.2.2.1, S.2.2.2.2.2.2.2.2.2.2.1, S.2.2.2.2.2.2.2.2.2.2.2.1, S.2.2.2.2.2.2.2.2.2.2.2.2.1, S.2.2.2.2.2.2.2.2.2.2.2.2.2.1, S.2.2.2.2.2.2.2.2.2.2.2.2.2.2.1, S.2.2.2.2.2.2.2.2.2.2.2.2.2.2.2.1, S.2.2.2.2.2.2.2.2.2.2.2.2.2.2.2.2.1, S.2.2.2.2.2.2.2.2.2.2.2.2.2.2.2.2.2.1, S.2.2.2.2.2.2.2.2.2.2.2.2.2.2.2.2.2.2.1, S.2.2.2.2.2.2.2.2.2.2.2.2.2.2.2.2.2.2.2.1, S.2.2.2.2.2.2.2.2.2.2.2.2.2.2.2.2.2.2.2.2.1, S.2.2.2.2.2.2.2.2.2.2.2.2.2.2.2.2.2.2.2.2.2.1, S.2.2.2.2.2.2.2.2.2.2.2.2.2.2.2.2.2.2.2.2.2.2.1, S.2.2.2.2.2.2.2.2.2.2.2.2.2.2.2.2.2.2.2.2.2.2.2.1, S.2.2.2.2.2.2.2.2.2.2.2.2.2.2.2.2.2.2.2.2.2.2.2.2.1, S.2.2.2.2.2.2.2.2.2.2.2.2.2.2.2.2.2.2.2.2.2.2.2.2.2.1, ()) H)
   (doneE .ret))
   (doneE .normal)))
  (seqE (leafE fun S H k =>
      k (S.1, S.2.1, S.2.2.1, S.2.2.2.1, (.int .i64 (.ofNat 0)), S.2.2.2.2.2.1, S.2.2.2.2.2.2.1, S.2.2.2.2.2.2.2.1, S.2.2.2.2.2.2.2.2.1, S.2.2.2.2.2.2.2.2.2.1, S.2.2.2.2.2.2.2.2.2.2.1, S.2.2.2.2.2.2.2.2.2.2.2.1, S.2.2.2.2.2.2.2.2.2.2.2.2.1, S.2.2.2.2.2.2.2.2.2.2.2.2.2.1, S.2.2.2.2.2.2.2.2.2.2.2.2.2.2.1, S.2.2.2.2.2.2.2.2.2.2.2.2.2.2.2.1, S.2.2.2.2.2.2.2.2.2.2.2.2.2.2.2.2.1, S.2.2.2.2.2.2.2.2.2.2.2.2.2.2.2.2.2.1, S.2.2.2.2.2.2.2.2.2.2.2.2.2.2.2.2.2.2.1, S.2.2.2.2.2.2.2.2.2.2.2.2.2.2.2.2.2.2.2.1, S.2.2.2.2.2.2.2.2.2.2.2.2.2.2.2.2.2.2.2.2.1, S.2.2.2.2.2.2.2.2.2.2.2.2.2.2.2.2.2.2.2.2.2.1, S.2.2.2.2.2.2.2.2.2.2.2.2.2.2.2.2.2.2.2.2.2.2.1, S.2.2.2.2.2.2.2.2.2.2.2.2.2.2.2.2.2.2.2.2.2.2.2.1, S.2.2.2.2.2.2.2.2.2.2.2.2.2.2.2.2.2.2.2.2.2.2.2.2.1, S.2.2.2.2.2.2.2.2.2.2.2.2.2.2.2.2.2.2.2.2.2.2.2.2.2.1, ()) H)
  (doneE .ret)))))))))

def F45 (call : CallF) (lo : Nat) (args : List Value) (H : AH) : Option (Value × AH) :=
  leave .pure H (bindV (C45 call (lowOf .pure lo H) (argAt args 0, argAt args 1, argAt args 2, argAt args 3, argAt args 6, argAt args 7, argAt args 8, argAt args 9, argAt args 10, argAt args 12, argAt args 14, argAt args 20, argAt args 24, argAt args 29, argAt args 30, argAt args 31, argAt args 32, argAt args 35, argAt args 47, argAt args 51, argAt args 65, argAt args 66, argAt args 67, argAt args 68, argAt args 77, argAt args 82, ()) H) fun p => resE p.1 (some (oneOf [p.2.1.2.2.2.2.1], p.2.2)))

theorem F45_eq (call : CallF) (lo : Nat) (args : List Value) (H : AH) : evFn P ctx call lo 45 args H = F45 call lo args H := by kernel_rfl

/-- novaculite/saw.Check -/
def C46 (call : CallF) (lo : Nat) : Piece (Value × Value × Value × Value × Unit) :=
  (seqE (leafE fun S H k =>
      let t1 := newPtr H
      let H0 := pushBox H 71 S.1
      k (S.1, t1, (.int .i64 (.ofNat 0)), S.2.2.2.1, ()) H0)
  (seqE (leafE fun S H k =>
      bindV (evLoad H true 3 S.2.1) fun t6 =>
      bindVH (call lo 60 [t6] H) fun t7 H1 =>
      bindV (evComp t7 0) fun t8 =>
      bindV (evComp t7 1) fun t9 =>
      let t3 := newPtr H1
      let H2 := pushBox H1 106 z106
      bindV (evStore lo H2 19 t3 t8) fun H3 =>
      k (S.1, S.2.1, S.2.2.1, t9, ()) H3)
  (seqE (leafE fun S H k =>
      k (S.1, S.2.1, S.2.2.2.1, S.2.2.2.1, ()) H)
  (doneE .ret))))

def F46 (call : CallF) (lo : Nat) (args : List Value) (H : AH) : Option (Value × AH) :=
  leave .pure H (bindV (C46 call (lowOf .pure lo H) (argAt args 0, argAt args 1, argAt args 2, argAt args 4, ()) H) fun p => resE p.1 (some (oneOf [p.2.1.2.2.1], p.2.2)))

theorem F46_eq (call : CallF) (lo : Nat) (args : List Value) (H : AH) : evFn P ctx call lo 46 args H = F46 call lo args H := by kernel_rfl

/-- novaculite/seam.Check -/
def C47 (call : CallF) (lo : Nat) : Piece (Value × Value × Value × Value × Value × Unit) :=
  (seqE (leafE fun S H k =>
      let t1 := newPtr H
      let H0 := pushBox H 56 S.1
      k (S.1, t1, (.int .i64 (.ofNat 0)), S.2.2.2.1, S.2.2.2.2.1, ()) H0)
  (seqE (blockE 0 (seqE (leafE fun S H k =>
       bindV (evShift S.2.1 0) fun t4 =>
       bindV (evLoad H false 1 t4) fun t5 =>
       bindV (evLss t5 (.int .i64 (.ofNat 1))) fun t6 =>
       guarded t6 false (bindV (evShift S.2.1 0) fun t1000000 => pairVH t1000000 H) H fun t8 H1 =>
       guarded t6 false (bindV (evLoad H1 false 1 t8) fun t1000000 => pairVH t1000000 H1) H1 fun t9 H2 =>
       guarded t6 false (bindV (evGtr t9 (.int .i64 (.ofNat 7))) fun t1000000 => pairVH t1000000 H2) H2 fun t10 H3 =>
       bindV (evPick t6 (.bool true) t10) fun t11 =>
       k (S.1, S.2.1, S.2.2.1, t11, S.2.2.2.2.1, ()) H3)
   (condE (fun S => some S.2.2.2.1)
    (seqE (leafE fun S H k =>
        k (S.1, S.2.1, (.int .i64 (.ofNat 1)), S.2.2.2.1, S.2.2.2.2.1, ()) H)
    (doneE .ret))
    (seqE (leafE fun S H k =>
        bindV (evShift S.2.1 1) fun t13 =>
        bindV (evLoad H false 1 t13) fun t14 =>
        bindV (evLenS t14) fun t15 =>
        bindV (evGtr t15 (.int .i64 (.ofNat 10))) fun t16 =>
        k (S.1, S.2.1, S.2.2.1, S.2.2.2.1, t16, ()) H)
    (condE (fun S => some S.2.2.2.2.1)
     (seqE (leafE fun S H k =>
         k (S.1, S.2.1, (.int .i64 (.ofNat 3)), S.2.2.2.1, S.2.2.2.2.1, ()) H)
     (doneE .ret))
     (doneE .normal))))))
  (seqE (leafE fun S H k =>
      bindV (evShift S.2.1 1) fun t17 =>
      bindV (evLoad H false 1 t17) fun t18 =>
      bindVH (call lo 69 [t18] H) fun t19 H4 =>
      k (S.1, S.2.1, t19, S.2.2.2.1, S.2.2.2.2.1, ()) H4)
  (doneE .ret))))

def F47 (call : CallF) (lo : Nat) (args : List Value) (H : AH) : Option (Value × AH) :=
  leave .pure H (bindV (C47 call (lowOf .pure lo H) (argAt args 0, argAt args 1, argAt args 2, argAt args 3, argAt args 12, ()) H) fun p => resE p.1 (some (oneOf [p.2.1.2.2.1], p.2.2)))

theorem F47_eq (call : CallF) (lo : Nat) (args : List Value) (H : AH) : evFn P ctx call lo 47 args H = F47 call lo args H := by kernel_rfl

/-- novaculite/block.Sound -/
def C48 (call : CallF) (lo : Nat) : Piece (Value × Value × Value × Value × Value × Value × Value × Unit) :=
  (seqE (leafE fun S H k =>
      let t1 := newPtr H
      let H0 := pushBox H 28 S.1
      k (S.1, t1, (.slice none 0 0), (.int .i64 (.ofNat 0)), S.2.2.2.2.1, S.2.2.2.2.2.1, S.2.2.2.2.2.2.1, ()) H0)
  (seqE (leafE fun S H k =>
      bindV (evLoad H true 3 S.2.1) fun t7 =>
      bindVH (call lo 4 [t7] H) fun t8 H1 =>
      bindV (evComp t8 0) fun t9 =>
      bindV (evComp t8 1) fun t10 =>
      k (S.1, S.2.1, S.2.2.1, S.2.2.2.1, t9, t10, S.2.2.2.2.2.2.1, ()) H1)
  (seqE (seqE (leafE fun S H k =>
      bindV (evNeq .int S.2.2.2.2.2.1 (.int .i64 (.ofNat 0))) fun t12 =>
      k (S.1, S.2.1, S.2.2.1, S.2.2.2.1, S.2.2.2.2.1, S.2.2.2.2.2.1, t12, ()) H)
  (condE (fun S => some S.2.2.2.2.2.2.1)
   (seqE (leafE fun S H k =>
       k (S.1, S.2.1, (.slice none 0 0), S.2.2.2.2.2.1, S.2.2.2.2.1, S.2.2.2.2.2.1, S.2.2.2.2.2.2.1, ()) H)
   (doneE .ret))
   (doneE .normal)))
  (seqE (leafE fun S H k =>
      bindV (evLoad H true 3 S.2.1) fun t14 =>
      bindVH (call lo 36 [t14, S.2.2.2.2.1] H) fun t16 H2 =>
      bindVH (call lo 70 [t16] H2) fun t17 H3 =>
      bindV (evComp t17 0) fun t18 =>
      bindV (evComp t17 1) fun t19 =>
      k (S.1, S.2.1, t18, t19, S.2.2.2.2.1, S.2.2.2.2.2.1, S.2.2.2.2.2.2.1, ()) H3)
  (doneE .ret)))))

def F48 (call : CallF) (lo : Nat) (args : List Value) (H : AH) : Option (Value × AH) :=
  leave .all H (bindV (C48 call (lowOf .all lo H) (argAt args 0, argAt args 1, argAt args 2, argAt args 3, argAt args 4, argAt args 5, argAt args 12, ()) H) fun p => resE p.1 (some (oneOf [p.2.1.2.2.1, p.2.1.2.2.2.1], p.2.2)))

theorem F48_eq (call : CallF) (lo : Nat) (args : List Value) (H : AH) : evFn P ctx call lo 48 args H = F48 call lo args H := by kernel_rfl

/-- novaculite/block.Might -/
def C49 (call : CallF) (lo : Nat) : Piece (Value × Value × Value × Value × Value × Value × Value × Unit) :=
  (seqE (leafE fun S H k =>
      let t1 := newPtr H
      let H0 := pushBox H 28 S.1
      k (S.1, t1, (.int .i64 (.ofNat 0)), (.int .i64 (.ofNat 0)), S.2.2.2.2.1, S.2.2.2.2.2.1, S.2.2.2.2.2.2.1, ()) H0)
  (seqE (leafE fun S H k =>
      bindV (evLoad H true 3 S.2.1) fun t10 =>
      bindVH (call lo 32 [t10] H) fun t11 H1 =>
      bindV (evComp t11 0) fun t12 =>
      bindV (evComp t11 1) fun t13 =>
      let t4 := newPtr H1
      let H2 := pushBox H1 63 z63
      bindV (evStore lo H2 5 t4 t12) fun H3 =>
      k (S.1, S.2.1, S.2.2.1, S.2.2.2.1, t4, t13, S.2.2.2.2.2.2.1, ()) H3)
  (seqE (leafE fun S H k =>
      bindV (evLoad H true 5 S.2.2.2.2.1) fun t15 =>
      bindVH (call lo 33 [t15] H) fun t16 H4 =>
      bindV (evComp t16 0) fun t17 =>
      bindV (evComp t16 1) fun t18 =>
      bindV (evComp t16 2) fun t19 =>
      k (S.1, S.2.1, S.2.2.1, S.2.2.2.1, S.2.2.2.2.1, S.2.2.2.2.2.1, t18, ()) H4)
  (seqE (leafE fun S H k =>
      k (S.1, S.2.1, S.2.2.2.2.2.2.1, S.2.2.2.2.2.1, S.2.2.2.2.1, S.2.2.2.2.2.1, S.2.2.2.2.2.2.1, ()) H)
  (doneE .ret)))))

def F49 (call : CallF) (lo : Nat) (args : List Value) (H : AH) : Option (Value × AH) :=
  leave .pure H (bindV (C49 call (lowOf .pure lo H) (argAt args 0, argAt args 1, argAt args 2, argAt args 3, argAt args 4, argAt args 5, argAt args 7, ()) H) fun p => resE p.1 (some (oneOf [p.2.1.2.2.1, p.2.1.2.2.2.1], p.2.2)))

theorem F49_eq (call : CallF) (lo : Nat) (args : List Value) (H : AH) : evFn P ctx call lo 49 args H = F49 call lo args H := by kernel_rfl

/-- novaculite/block.Bound -/
def C50 (call : CallF) (lo : Nat) : Piece (Value × Value × Value × Value × Value × Value × Unit) :=
  (seqE (leafE fun S H k =>
      let t1 := newPtr H
      let H0 := pushBox H 28 S.1
      k (S.1, t1, (.int .i64 (.ofNat 0)), (.slice none 0 0), (.int .i64 (.ofNat 0)), S.2.2.2.2.2.1, ()) H0)
  (seqE (leafE fun S H k =>
      bindV (evLoad H true 3 S.2.1) fun t6 =>
      bindVH (call lo 10 [t6] H) fun t7 H1 =>
      bindV (evComp t7 0) fun t8 =>
      bindV (evComp t7 1) fun t9 =>
      k (S.1, S.2.1, t8, S.2.2.2.1, t9, S.2.2.2.2.2.1, ()) H1)
  (seqE (seqE (leafE fun S H k =>
      bindV (evNeq .int S.2.2.2.2.1 (.int .i64 (.ofNat 0))) fun t11 =>
      k (S.1, S.2.1, S.2.2.1, S.2.2.2.1, S.2.2.2.2.1, t11, ()) H)
  (condE (fun S => some S.2.2.2.2.2.1)
   (seqE (leafE fun S H k =>
       k (S.1, S.2.1, (.int .i64 (.ofNat 0)), (.slice none 0 0), S.2.2.2.2.1, S.2.2.2.2.2.1, ()) H)
   (doneE .ret))
   (doneE .normal)))
  (seqE (leafE fun S H k =>
      bindV (evLoad H true 3 S.2.1) fun t14 =>
      bindV (evFill [(0, 1, S.2.2.1)] (zeros (cellsOf (.int .i64 (.ofNat 0))) 1)) fun c2 =>
      let t16 := newSlice H 1 1
      let H3 := H.push (.cells (Nat.mul 1 1) c2 3)
      bindVH (call lo 36 [t14, t16] H3) fun t17 H4 =>
      bindVH (call lo 71 [t17] H4) fun t18 H5 =>
      bindV (evComp t18 0) fun t19 =>
      bindV (evComp t18 1) fun t20 =>
      k (S.1, S.2.1, S.2.2.1, t19, t20, S.2.2.2.2.2.1, ()) H5)
  (seqE (leafE fun S H k =>
      k (S.1, S.2.1, S.2.2.1, S.2.2.2.1, S.2.2.2.2.1, S.2.2.2.2.2.1, ()) H)
  (doneE .ret))))))

def F50 (call : CallF) (lo : Nat) (args : List Value) (H : AH) : Option (Value × AH) :=
  leave .all H (bindV (C50 call (lowOf .all lo H) (argAt args 0, argAt args 1, argAt args 2, argAt args 3, argAt args 4, argAt args 11, ()) H) fun p => resE p.1 (some (oneOf [p.2.1.2.2.1, p.2.1.2.2.2.1, p.2.1.2.2.2.2.1], p.2.2)))

theorem F50_eq (call : CallF) (lo : Nat) (args : List Value) (H : AH) : evFn P ctx call lo 50 args H = F50 call lo args H := by kernel_rfl

/-- novaculite/seam.surveyed -/
def C51 (call : CallF) (lo : Nat) : Piece (Value × Value × Value × Value × Value × Value × Value × Value × Value × Value × Value × Value × Unit) :=
  (seqE (leafE fun S H k =>
      let t1 := newPtr H
      let H0 := pushBox H 56 S.1
      let t2 := newPtr H0
      let H1 := pushBox H0 93 z93
      k (S.1, t1, t2, (.int .i64 (.ofNat 0)), S.2.2.2.2.1, S.2.2.2.2.2.1, S.2.2.2.2.2.2.1, S.2.2.2.2.2.2.2.1, S.2.2.2.2.2.2.2.2.1, S.2.2.2.2.2.2.2.2.2.1, S.2.2.2.2.2.2.2.2.2.2.1, S.2.2.2.2.2.2.2.2.2.2.2.1, ()) H1)
  (seqE (seqE (leafE fun S H k =>
      bindV (evLoad H true 2 S.2.1) fun t8 =>
      bindVH (call lo 47 [t8] H) fun t9 H2 =>
      k (S.1, S.2.1, S.2.2.1, S.2.2.2.1, t9, S.2.2.2.2.2.1, S.2.2.2.2.2.2.1, S.2.2.2.2.2.2.2.1, S.2.2.2.2.2.2.2.2.1, S.2.2.2.2.2.2.2.2.2.1, S.2.2.2.2.2.2.2.2.2.2.1, S.2.2.2.2.2.2.2.2.2.2.2.1, ()) H2)
  (seqE (leafE fun S H k =>
      bindV (evNeq .int S.2.2.2.2.1 (.int .i64 (.ofNat 0))) fun t11 =>
      k (S.1, S.2.1, S.2.2.1, S.2.2.2.1, S.2.2.2.2.1, S.2.2.2.2.2.1, S.2.2.2.2.2.2.1, t11, S.2.2.2.2.2.2.2.2.1, S.2.2.2.2.2.2.2.2.2.1, S.2.2.2.2.2.2.2.2.2.2.1, S.2.2.2.2.2.2.2.2.2.2.2.1, ()) H)
  (condE (fun S => some S.2.2.2.2.2.2.2.1)
   (seqE (leafE fun S H k =>
       bindV (evAgg [] (cellsOf z93)) fun t12 =>
       bindV (evStore lo H 2 S.2.2.1 t12) fun H3 =>
       k (S.1, S.2.1, S.2.2.1, S.2.2.2.2.1, S.2.2.2.2.1, S.2.2.2.2.2.1, S.2.2.2.2.2.2.1, S.2.2.2.2.2.2.2.1, S.2.2.2.2.2.2.2.2.1, S.2.2.2.2.2.2.2.2.2.1, S.2.2.2.2.2.2.2.2.2.2.1, S.2.2.2.2.2.2.2.2.2.2.2.1, ()) H3)
   (doneE .ret))
   (doneE .normal))))
  (seqE (leafE fun S H k =>
      bindV (evShift S.2.1 0) fun t14 =>
      bindV (evLoad H false 1 t14) fun t15 =>
      bindVH (call lo 72 [t15] H) fun t16 H4 =>
      bindV (evAgg [(1, 1, t16)] (cellsOf z93)) fun t17 =>
      let t5 := newPtr H4
      let H5 := pushBox H4 93 z93
      bindV (evStore lo H5 2 t5 t17) fun H6 =>
      k (S.1, S.2.1, S.2.2.1, S.2.2.2.1, S.2.2.2.2.1, t5, S.2.2.2.2.2.2.1, S.2.2.2.2.2.2.2.1, S.2.2.2.2.2.2.2.2.1, S.2.2.2.2.2.2.2.2.2.1, S.2.2.2.2.2.2.2.2.2.2.1, S.2.2.2.2.2.2.2.2.2.2.2.1, ()) H6)
  (seqE (seqE (leafE fun S H k =>
      bindV (evShift S.2.1 1) fun t18 =>
      bindV (evLoad H false 1 t18) fun t19 =>
      bindV (evLenS t19) fun t20 =>
      k (S.1, S.2.1, S.2.2.1, S.2.2.2.1, S.2.2.2.2.1, S.2.2.2.2.2.1, S.2.2.2.2.2.2.1, S.2.2.2.2.2.2.2.1, t19, t20, (.int .i64 (.ofNat 0)), S.2.2.2.2.2.2.2.2.2.2.2.1, ()) H)
  (blockE 0 (loopE (seqE (leafE fun S H k =>
        bindV (evLss S.2.2.2.2.2.2.2.2.2.2.1 S.2.2.2.2.2.2.2.2.2.1) fun t22 =>
        k (S.1, S.2.1, S.2.2.1, S.2.2.2.1, S.2.2.2.2.1, S.2.2.2.2.2.1, S.2.2.2.2.2.2.1, S.2.2.2.2.2.2.2.1, S.2.2.2.2.2.2.2.2.1, S.2.2.2.2.2.2.2.2.2.1, S.2.2.2.2.2.2.2.2.2.2.1, t22, ()) H)
    (seqE (condE (fun S => some S.2.2.2.2.2.2.2.2.2.2.2.1)
     (doneE .normal)
     (doneE (.exit 0)))
    (seqE (blockE 1 (seqE (leafE fun S H k =>
         bindV (evIdxSlice 3 S.2.2.2.2.2.2.2.2.1 S.2.2.2.2.2.2.2.2.2.2.1) fun t23 =>
         bindV (evLoad H true 3 t23) fun t24 =>
         let t7 := newPtr H
         let H7 := pushBox H 42 z42
         bindV (evStore lo H7 3 t7 t24) fun H8 =>
         k (S.1, S.2.1, S.2.2.1, S.2.2.2.1, S.2.2.2.2.1, S.2.2.2.2.2.1, t7, S.2.2.2.2.2.2.2.1, S.2.2.2.2.2.2.2.2.1, S.2.2.2.2.2.2.2.2.2.1, S.2.2.2.2.2.2.2.2.2.2.1, S.2.2.2.2.2.2.2.2.2.2.2.1, ()) H8)
     (leafE fun S H k =>
         bindV (evShift S.2.2.2.2.2.1 0) fun t25 =>
         bindV (evLoad H false 1 t25) fun t26 =>
         bindV (evLoad H true 3 S.2.2.2.2.2.2.1) fun t27 =>
         need (Nat.ble lo H.next) <|
         bindVH (call H.next 73 [t27] H) fun t28 H9 =>
         bindV (evFill [(0, 1, t28)] (zeros (cellsOf (.int .u64 (.ofNat 0))) 1)) fun c10 =>
         let t29 := newSlice H9 1 1
         let H11 := H9.push (.cells (Nat.mul 1 1) c10 91)
         bindVH (evAppend lo H11 91 1 8 t26 t29) fun t30 H12 =>
         bindV (evShift S.2.2.2.2.2.1 0) fun t31 =>
         bindV (evStore lo H12 1 t31 t30) fun H13 =>
         k (S.1, S.2.1, S.2.2.1, S.2.2.2.1, S.2.2.2.2.1, S.2.2.2.2.2.1, S.2.2.2.2.2.2.1, S.2.2.2.2.2.2.2.1, S.2.2.2.2.2.2.2.2.1, S.2.2.2.2.2.2.2.2.2.1, S.2.2.2.2.2.2.2.2.2.2.1, S.2.2.2.2.2.2.2.2.2.2.2.1, ()) H13)))
    (leafE fun S H k =>
        bindV (evAdd S.2.2.2.2.2.2.2.2.2.2.1 (.int .i64 (.ofNat 1))) fun t32 =>
        k (S.1, S.2.1, S.2.2.1, S.2.2.2.1, S.2.2.2.2.1, S.2.2.2.2.2.1, S.2.2.2.2.2.2.1, S.2.2.2.2.2.2.2.1, S.2.2.2.2.2.2.2.2.1, S.2.2.2.2.2.2.2.2.2.1, t32, S.2.2.2.2.2.2.2.2.2.2.2.1, ()) H)))) fuel)))
  (seqE (leafE fun S H k =>
      bindV (evLoad H true 2 S.2.2.2.2.2.1) fun t33 =>
      bindV (evStore lo H 2 S.2.2.1 t33) fun H14 =>
      k (S.1, S.2.1, S.2.2.1, (.int .i64 (.ofNat 0)), S.2.2.2.2.1, S.2.2.2.2.2.1, S.2.2.2.2.2.2.1, S.2.2.2.2.2.2.2.1, S.2.2.2.2.2.2.2.2.1, S.2.2.2.2.2.2.2.2.2.1, S.2.2.2.2.2.2.2.2.2.2.1, S.2.2.2.2.2.2.2.2.2.2.2.1, ()) H14)
  (doneE .ret))))))

def F51 (call : CallF) (lo : Nat) (args : List Value) (H : AH) : Option (Value × AH) :=
  leave .all H (bindV (C51 call (lowOf .all lo H) (argAt args 0, argAt args 1, argAt args 2, argAt args 3, argAt args 4, argAt args 5, argAt args 7, argAt args 11, argAt args 19, argAt args 20, argAt args 21, argAt args 22, ()) H) fun p => resE p.1 (bindV (evLoad p.2.2 true 2 p.2.1.2.2.1) fun r0 => some (oneOf [r0, p.2.1.2.2.2.1], p.2.2)))

theorem F51_eq (call : CallF) (lo : Nat) (args : List Value) (H : AH) : evFn P ctx call lo 51 args H = F51 call lo args H := by kernel_rfl

/-- novaculite/seam.list -/
def C52 (call : CallF) (lo : Nat) : Piece (Value × Value × Value × Value × Unit) :=
  (seqE (leafE fun S H k =>
      k (S.1, (.slice none 0 0), S.2.2.1, S.2.2.2.1, ()) H)
  (seqE (leafE fun S H k =>
      k (S.1, S.2.1, (.slice none 0 0), S.2.2.2.1, ()) H)
  (seqE (blockE 0 (loopE (seqE (seqE (leafE fun S H k =>
        bindV (evNeq .int S.1 (.int .u64 (.ofNat 0))) fun t5 =>
        k (S.1, S.2.1, S.2.2.1, t5, ()) H)
    (condE (fun S => some S.2.2.2.1)
     (doneE .normal)
     (doneE (.exit 0))))
    (seqE (blockE 1 (leafE fun S H k =>
         bindVH (call lo 74 [S.1] H) fun t12 H0 =>
         bindV (evFill [(0, 1, t12)] (zeros (cellsOf (.int .i64 (.ofNat 0))) 1)) fun c1 =>
         let t13 := newSlice H0 1 1
         let H2 := H0.push (.cells (Nat.mul 1 1) c1 3)
         bindVH (evAppend lo H2 3 1 8 S.2.2.1 t13) fun t14 H3 =>
         k (S.1, S.2.1, t14, S.2.2.2.1, ()) H3))
    (leafE fun S H k =>
        bindV (evSub S.1 (.int .u64 (.ofNat 1))) fun t8 =>
        bindV (evAnd S.1 t8) fun t9 =>
        k (t9, S.2.1, S.2.2.1, S.2.2.2.1, ()) H))) fuel))
  (seqE (leafE fun S H k =>
      k (S.1, S.2.2.1, S.2.2.1, S.2.2.2.1, ()) H)
  (doneE .ret)))))

def F52 (call : CallF) (lo : Nat) (args : List Value) (H : AH) : Option (Value × AH) :=
  leave .all H (bindV (C52 call (lowOf .all lo H) (argAt args 0, argAt args 2, argAt args 3, argAt args 5, ()) H) fun p => resE p.1 (some (oneOf [p.2.1.2.1], p.2.2)))

theorem F52_eq (call : CallF) (lo : Nat) (args : List Value) (H : AH) : evFn P ctx call lo 52 args H = F52 call lo args H := by kernel_rfl

/-- (novaculite/seam.survey).region -/
def C53 (call : CallF) (lo : Nat) : Piece (Value × Value × Value × Value × Value × Value × Value × Value × Value × Value × Unit) :=
  (seqE (leafE fun S H k =>
      let t2 := newPtr H
      let H0 := pushBox H 93 S.1
      k (S.1, S.2.1, t2, (.int .u64 (.ofNat 0)), S.2.2.2.2.1, S.2.2.2.2.2.1, S.2.2.2.2.2.2.1, S.2.2.2.2.2.2.2.1, S.2.2.2.2.2.2.2.2.1, S.2.2.2.2.2.2.2.2.2.1, ()) H0)
  (seqE (leafE fun S H k =>
      bindV (evShift S.2.2.1 1) fun t8 =>
      bindV (evLoad H false 1 t8) fun t9 =>
      k (S.1, S.2.1, S.2.2.1, S.2.2.2.1, t9, S.2.2.2.2.2.1, S.2.2.2.2.2.2.1, S.2.2.2.2.2.2.2.1, S.2.2.2.2.2.2.2.2.1, S.2.2.2.2.2.2.2.2.2.1, ()) H)
  (seqE (seqE (leafE fun S H k =>
      bindVH (call lo 52 [S.2.1] H) fun t11 H1 =>
      bindV (evLenS t11) fun t12 =>
      k (S.1, S.2.1, S.2.2.1, S.2.2.2.1, S.2.2.2.2.1, S.2.2.2.2.2.1, t11, t12, (.int .i64 (.ofNat 0)), S.2.2.2.2.2.2.2.2.2.1, ()) H1)
  (blockE 0 (loopE (seqE (leafE fun S H k =>
        bindV (evLss S.2.2.2.2.2.2.2.2.1 S.2.2.2.2.2.2.2.1) fun t14 =>
        k (S.1, S.2.1, S.2.2.1, S.2.2.2.1, S.2.2.2.2.1, S.2.2.2.2.2.1, S.2.2.2.2.2.2.1, S.2.2.2.2.2.2.2.1, S.2.2.2.2.2.2.2.2.1, t14, ()) H)
    (seqE (condE (fun S => some S.2.2.2.2.2.2.2.2.2.1)
     (doneE .normal)
     (doneE (.exit 0)))
    (seqE (blockE 1 (seqE (leafE fun S H k =>
         bindV (evIdxSlice 1 S.2.2.2.2.2.2.1 S.2.2.2.2.2.2.2.2.1) fun t15 =>
         bindV (evLoad H false 1 t15) fun t16 =>
         k (S.1, S.2.1, S.2.2.1, S.2.2.2.1, S.2.2.2.2.1, t16, S.2.2.2.2.2.2.1, S.2.2.2.2.2.2.2.1, S.2.2.2.2.2.2.2.2.1, S.2.2.2.2.2.2.2.2.2.1, ()) H)
     (leafE fun S H k =>
         bindV (evShift S.2.2.1 0) fun t18 =>
         bindV (evLoad H false 1 t18) fun t19 =>
         bindV (evIdxSlice 1 t19 S.2.2.2.2.2.1) fun t21 =>
         bindV (evLoad H false 1 t21) fun t22 =>
         bindV (evAnd S.2.2.2.2.1 t22) fun t23 =>
         k (S.1, S.2.1, S.2.2.1, S.2.2.2.1, t23, S.2.2.2.2.2.1, S.2.2.2.2.2.2.1, S.2.2.2.2.2.2.2.1, S.2.2.2.2.2.2.2.2.1, S.2.2.2.2.2.2.2.2.2.1, ()) H)))
    (leafE fun S H k =>
        bindV (evAdd S.2.2.2.2.2.2.2.2.1 (.int .i64 (.ofNat 1))) fun t24 =>
        k (S.1, S.2.1, S.2.2.1, S.2.2.2.1, S.2.2.2.2.1, S.2.2.2.2.2.1, S.2.2.2.2.2.2.1, S.2.2.2.2.2.2.2.1, t24, S.2.2.2.2.2.2.2.2.2.1, ()) H)))) fuel)))
  (seqE (leafE fun S H k =>
      k (S.1, S.2.1, S.2.2.1, S.2.2.2.2.1, S.2.2.2.2.1, S.2.2.2.2.2.1, S.2.2.2.2.2.2.1, S.2.2.2.2.2.2.2.1, S.2.2.2.2.2.2.2.2.1, S.2.2.2.2.2.2.2.2.2.1, ()) H)
  (doneE .ret)))))

def F53 (call : CallF) (lo : Nat) (args : List Value) (H : AH) : Option (Value × AH) :=
  leave .all H (bindV (C53 call (lowOf .all lo H) (argAt args 0, argAt args 1, argAt args 2, argAt args 4, argAt args 5, argAt args 7, argAt args 11, argAt args 12, argAt args 13, argAt args 14, ()) H) fun p => resE p.1 (some (oneOf [p.2.1.2.2.2.1], p.2.2)))

theorem F53_eq (call : CallF) (lo : Nat) (args : List Value) (H : AH) : evFn P ctx call lo 53 args H = F53 call lo args H := by kernel_rfl

/-- (novaculite/seam.survey).full -/
def C54 (call : CallF) (lo : Nat) : Piece (Value × Value × Value × Unit) :=
  (seqE (leafE fun S H k =>
      let t1 := newPtr H
      let H0 := pushBox H 93 S.1
      k (S.1, t1, (.int .u64 (.ofNat 0)), ()) H0)
  (seqE (leafE fun S H k =>
      bindV (evShift S.2.1 0) fun t3 =>
      bindV (evLoad H false 1 t3) fun t4 =>
      bindV (evLenS t4) fun t5 =>
      bindV (evShl (.int .u64 (.ofNat 1)) t5) fun t6 =>
      bindV (evSub t6 (.int .u64 (.ofNat 1))) fun t7 =>
      k (S.1, S.2.1, t7, ()) H)
  (doneE .ret)))

def F54 (call : CallF) (lo : Nat) (args : List Value) (H : AH) : Option (Value × AH) :=
  leave .all H (bindV (C54 call (lowOf .all lo H) (argAt args 0, argAt args 1, argAt args 2, ()) H) fun p => resE p.1 (some (oneOf [p.2.1.2.2.1], p.2.2)))

theorem F54_eq (call : CallF) (lo : Nat) (args : List Value) (H : AH) : evFn P ctx call lo 54 args H = F54 call lo args H := by kernel_rfl

/-- slices.Concat[[]int,int] -/
def C55 (call : CallF) (lo : Nat) : Piece (Value × Value × Value × Value × Value × Value × Value × Value × Value × Value × Value × Value × Value × Value × Value × Unit) :=
  (seqE (leafE fun S H k =>
      k (S.1, (.slice none 0 0), S.2.2.1, S.2.2.2.1, S.2.2.2.2.1, S.2.2.2.2.2.1, S.2.2.2.2.2.2.1, S.2.2.2.2.2.2.2.1, S.2.2.2.2.2.2.2.2.1, S.2.2.2.2.2.2.2.2.2.1, S.2.2.2.2.2.2.2.2.2.2.1, S.2.2.2.2.2.2.2.2.2.2.2.1, S.2.2.2.2.2.2.2.2.2.2.2.2.1, S.2.2.2.2.2.2.2.2.2.2.2.2.2.1, S.2.2.2.2.2.2.2.2.2.2.2.2.2.2.1, ()) H)
  (seqE (leafE fun S H k =>
      k (S.1, S.2.1, (.int .i64 (.ofNat 0)), S.2.2.2.1, S.2.2.2.2.1, S.2.2.2.2.2.1, S.2.2.2.2.2.2.1, S.2.2.2.2.2.2.2.1, S.2.2.2.2.2.2.2.2.1, S.2.2.2.2.2.2.2.2.2.1, S.2.2.2.2.2.2.2.2.2.2.1, S.2.2.2.2.2.2.2.2.2.2.2.1, S.2.2.2.2.2.2.2.2.2.2.2.2.1, S.2.2.2.2.2.2.2.2.2.2.2.2.2.1, S.2.2.2.2.2.2.2.2.2.2.2.2.2.2.1, ()) H)
  (seqE (seqE (leafE fun S H k =>
      bindV (evLenS S.1) fun t10 =>
      k (S.1, S.2.1, S.2.2.1, S.2.2.2.1, S.2.2.2.2.1, S.2.2.2.2.2.1, S.1, t10, (.int .i64 (.ofNat 0)), S.2.2.2.2.2.2.2.2.2.1, S.2.2.2.2.2.2.2.2.2.2.1, S.2.2.2.2.2.2.2.2.2.2.2.1, S.2.2.2.2.2.2.2.2.2.2.2.2.1, S.2.2.2.2.2.2.2.2.2.2.2.2.2.1, S.2.2.2.2.2.2.2.2.2.2.2.2.2.2.1, ()) H)
  (blockE 0 (loopE (seqE (leafE fun S H k =>
        bindV (evLss S.2.2.2.2.2.2.2.2.1 S.2.2.2.2.2.2.2.1) fun t12 =>
        k (S.1, S.2.1, S.2.2.1, S.2.2.2.1, S.2.2.2.2.1, S.2.2.2.2.2.1, S.2.2.2.2.2.2.1, S.2.2.2.2.2.2.2.1, S.2.2.2.2.2.2.2.2.1, t12, S.2.2.2.2.2.2.2.2.2.2.1, S.2.2.2.2.2.2.2.2.2.2.2.1, S.2.2.2.2.2.2.2.2.2.2.2.2.1, S.2.2.2.2.2.2.2.2.2.2.2.2.2.1, S.2.2.2.2.2.2.2.2.2.2.2.2.2.2.1, ()) H)
    (seqE (condE (fun S => some S.2.2.2.2.2.2.2.2.2.1)
     (doneE .normal)
     (doneE (.exit 0)))
    (seqE (blockE 1 (seqE (leafE fun S H k =>
         bindV (evIdxSlice 1 S.2.2.2.2.2.2.1 S.2.2.2.2.2.2.2.2.1) fun t13 =>
         bindV (evLoad H false 1 t13) fun t14 =>
         k (S.1, S.2.1, S.2.2.1, t14, S.2.2.2.2.1, S.2.2.2.2.2.1, S.2.2.2.2.2.2.1, S.2.2.2.2.2.2.2.1, S.2.2.2.2.2.2.2.2.1, S.2.2.2.2.2.2.2.2.2.1, S.2.2.2.2.2.2.2.2.2.2.1, S.2.2.2.2.2.2.2.2.2.2.2.1, S.2.2.2.2.2.2.2.2.2.2.2.2.1, S.2.2.2.2.2.2.2.2.2.2.2.2.2.1, S.2.2.2.2.2.2.2.2.2.2.2.2.2.2.1, ()) H)
     (seqE (leafE fun S H k =>
         bindV (evLenS S.2.2.2.1) fun t17 =>
         bindV (evAdd S.2.2.1 t17) fun t18 =>
         k (S.1, S.2.1, t18, S.2.2.2.1, S.2.2.2.2.1, S.2.2.2.2.2.1, S.2.2.2.2.2.2.1, S.2.2.2.2.2.2.2.1, S.2.2.2.2.2.2.2.2.1, S.2.2.2.2.2.2.2.2.2.1, S.2.2.2.2.2.2.2.2.2.2.1, S.2.2.2.2.2.2.2.2.2.2.2.1, S.2.2.2.2.2.2.2.2.2.2.2.2.1, S.2.2.2.2.2.2.2.2.2.2.2.2.2.1, S.2.2.2.2.2.2.2.2.2.2.2.2.2.2.1, ()) H)
     (seqE (leafE fun S H k =>
         bindV (evLss S.2.2.1 (.int .i64 (.ofNat 0))) fun t20 =>
         k (S.1, S.2.1, S.2.2.1, S.2.2.2.1, S.2.2.2.2.1, S.2.2.2.2.2.1, S.2.2.2.2.2.2.1, S.2.2.2.2.2.2.2.1, S.2.2.2.2.2.2.2.2.1, S.2.2.2.2.2.2.2.2.2.1, t20, S.2.2.2.2.2.2.2.2.2.2.2.1, S.2.2.2.2.2.2.2.2.2.2.2.2.1, S.2.2.2.2.2.2.2.2.2.2.2.2.2.1, S.2.2.2.2.2.2.2.2.2.2.2.2.2.2.1, ()) H)
     (condE (fun S => some S.2.2.2.2.2.2.2.2.2.2.1)
      (leafE fun S H k =>
          bindV ((none : Option Value)) fun _ =>
          k (S.1, S.2.1, S.2.2.1, S.2.2.2.1, S.2.2.2.2.1, S.2.2.2.2.2.1, S.2.2.2.2.2.2.1, S.2.2.2.2.2.2.2.1, S.2.2.2.2.2.2.2.2.1, S.2.2.2.2.2.2.2.2.2.1, S.2.2.2.2.2.2.2.2.2.2.1, S.2.2.2.2.2.2.2.2.2.2.2.1, S.2.2.2.2.2.2.2.2.2.2.2.2.1, S.2.2.2.2.2.2.2.2.2.2.2.2.2.1, S.2.2.2.2.2.2.2.2.2.2.2.2.2.2.1, ()) H)
      (doneE .normal))))))
    (leafE fun S H k =>
        bindV (evAdd S.2.2.2.2.2.2.2.2.1 (.int .i64 (.ofNat 1))) fun t22 =>
        k (S.1, S.2.1, S.2.2.1, S.2.2.2.1, S.2.2.2.2.1, S.2.2.2.2.2.1, S.2.2.2.2.2.2.1, S.2.2.2.2.2.2.2.1, t22, S.2.2.2.2.2.2.2.2.2.1, S.2.2.2.2.2.2.2.2.2.2.1, S.2.2.2.2.2.2.2.2.2.2.2.1, S.2.2.2.2.2.2.2.2.2.2.2.2.1, S.2.2.2.2.2.2.2.2.2.2.2.2.2.1, S.2.2.2.2.2.2.2.2.2.2.2.2.2.2.1, ()) H)))) fuel)))
  (seqE (leafE fun S H k =>
      bindVH (call lo 75 [(.slice none 0 0), S.2.2.1] H) fun t24 H0 =>
      k (S.1, S.2.1, S.2.2.1, S.2.2.2.1, t24, S.2.2.2.2.2.1, S.2.2.2.2.2.2.1, S.2.2.2.2.2.2.2.1, S.2.2.2.2.2.2.2.2.1, S.2.2.2.2.2.2.2.2.2.1, S.2.2.2.2.2.2.2.2.2.2.1, S.2.2.2.2.2.2.2.2.2.2.2.1, S.2.2.2.2.2.2.2.2.2.2.2.2.1, S.2.2.2.2.2.2.2.2.2.2.2.2.2.1, S.2.2.2.2.2.2.2.2.2.2.2.2.2.2.1, ()) H0)
  (seqE (seqE (leafE fun S H k =>
      bindV (evLenS S.1) fun t26 =>
      k (S.1, S.2.1, S.2.2.1, S.2.2.2.1, S.2.2.2.2.1, S.2.2.2.2.2.1, S.2.2.2.2.2.2.1, S.2.2.2.2.2.2.2.1, S.2.2.2.2.2.2.2.2.1, S.2.2.2.2.2.2.2.2.2.1, S.2.2.2.2.2.2.2.2.2.2.1, S.1, t26, (.int .i64 (.ofNat 0)), S.2.2.2.2.2.2.2.2.2.2.2.2.2.2.1, ()) H)
  (blockE 2 (loopE (seqE (leafE fun S H k =>
        bindV (evLss S.2.2.2.2.2.2.2.2.2.2.2.2.2.1 S.2.2.2.2.2.2.2.2.2.2.2.2.1) fun t28 =>
        k (S.1, S.2.1, S.2.2.1, S.2.2.2.1, S.2.2.2.2.1, S.2.2.2.2.2.1, S.2.2.2.2.2.2.1, S.2.2.2.2.2.2.2.1, S.2.2.2.2.2.2.2.2.1, S.2.2.2.2.2.2.2.2.2.1, S.2.2.2.2.2.2.2.2.2.2.1, S.2.2.2.2.2.2.2.2.2.2.2.1, S.2.2.2.2.2.2.2.2.2.2.2.2.1, S.2.2.2.2.2.2.2.2.2.2.2.2.2.1, t28, ()) H)
    (seqE (condE (fun S => some S.2.2.2.2.2.2.2.2.2.2.2.2.2.2.1)
     (doneE .normal)
     (doneE (.exit 2)))
    (seqE (blockE 3 (seqE (leafE fun S H k =>
         bindV (evIdxSlice 1 S.2.2.2.2.2.2.2.2.2.2.2.1 S.2.2.2.2.2.2.2.2.2.2.2.2.2.1) fun t29 =>
         bindV (evLoad H false 1 t29) fun t30 =>
         k (S.1, S.2.1, S.2.2.1, S.2.2.2.1, S.2.2.2.2.1, t30, S.2.2.2.2.2.2.1, S.2.2.2.2.2.2.2.1, S.2.2.2.2.2.2.2.2.1, S.2.2.2.2.2.2.2.2.2.1, S.2.2.2.2.2.2.2.2.2.2.1, S.2.2.2.2.2.2.2.2.2.2.2.1, S.2.2.2.2.2.2.2.2.2.2.2.2.1, S.2.2.2.2.2.2.2.2.2.2.2.2.2.1, S.2.2.2.2.2.2.2.2.2.2.2.2.2.2.1, ()) H)
     (leafE fun S H k =>
         bindVH (evAppend lo H 3 1 8 S.2.2.2.2.1 S.2.2.2.2.2.1) fun t33 H1 =>
         k (S.1, S.2.1, S.2.2.1, S.2.2.2.1, t33, S.2.2.2.2.2.1, S.2.2.2.2.2.2.1, S.2.2.2.2.2.2.2.1, S.2.2.2.2.2.2.2.2.1, S.2.2.2.2.2.2.2.2.2.1, S.2.2.2.2.2.2.2.2.2.2.1, S.2.2.2.2.2.2.2.2.2.2.2.1, S.2.2.2.2.2.2.2.2.2.2.2.2.1, S.2.2.2.2.2.2.2.2.2.2.2.2.2.1, S.2.2.2.2.2.2.2.2.2.2.2.2.2.2.1, ()) H1)))
    (leafE fun S H k =>
        bindV (evAdd S.2.2.2.2.2.2.2.2.2.2.2.2.2.1 (.int .i64 (.ofNat 1))) fun t34 =>
        k (S.1, S.2.1, S.2.2.1, S.2.2.2.1, S.2.2.2.2.1, S.2.2.2.2.2.1, S.2.2.2.2.2.2.1, S.2.2.2.2.2.2.2.1, S.2.2.2.2.2.2.2.2.1, S.2.2.2.2.2.2.2.2.2.1, S.2.2.2.2.2.2.2.2.2.2.1, S.2.2.2.2.2.2.2.2.2.2.2.1, S.2.2.2.2.2.2.2.2.2.2.2.2.1, t34, S.2.2.2.2.2.2.2.2.2.2.2.2.2.2.1, ()) H)))) fuel)))
  (seqE (leafE fun S H k =>
      k (S.1, S.2.2.2.2.1, S.2.2.1, S.2.2.2.1, S.2.2.2.2.1, S.2.2.2.2.2.1, S.2.2.2.2.2.2.1, S.2.2.2.2.2.2.2.1, S.2.2.2.2.2.2.2.2.1, S.2.2.2.2.2.2.2.2.2.1, S.2.2.2.2.2.2.2.2.2.2.1, S.2.2.2.2.2.2.2.2.2.2.2.1, S.2.2.2.2.2.2.2.2.2.2.2.2.1, S.2.2.2.2.2.2.2.2.2.2.2.2.2.1, S.2.2.2.2.2.2.2.2.2.2.2.2.2.2.1, ()) H)
  (doneE .ret)))))))

def F55 (call : CallF) (lo : Nat) (args : List Value) (H : AH) : Option (Value × AH) :=
  leave .all H (bindV (C55 call (lowOf .all lo H) (argAt args 0, argAt args 2, argAt args 3, argAt args 5, argAt args 6, argAt args 8, argAt args 9, argAt args 10, argAt args 11, argAt args 12, argAt args 20, argAt args 25, argAt args 26, argAt args 27, argAt args 28, ()) H) fun p => resE p.1 (some (oneOf [p.2.1.2.1], p.2.2)))

theorem F55_eq (call : CallF) (lo : Nat) (args : List Value) (H : AH) : evFn P ctx call lo 55 args H = F55 call lo args H := by kernel_rfl

/-- slices.Sort[[]int,int] -/
def C56 (call : CallF) (lo : Nat) : Piece (Value × Value × Unit) :=
  (seqE (leafE fun S H k =>
      bindV (evLenS S.1) fun t4 =>
      k (S.1, t4, ()) H)
  (leafE fun S H k =>
      bindV (evConv .u64 S.2.1) fun t8 =>
      bindVH (call lo 77 [t8] H) fun t9 H0 =>
      bindVH (call lo 76 [S.1, (.int .i64 (.ofNat 0)), S.2.1, t9] H0) fun t10 H1 =>
      k (S.1, S.2.1, ()) H1))

def F56 (call : CallF) (lo : Nat) (args : List Value) (H : AH) : Option (Value × AH) :=
  leave .all H (bindV (C56 call (lowOf .all lo H) (argAt args 0, argAt args 2, ()) H) fun p => resE p.1 (some (oneOf [], p.2.2)))

theorem F56_eq (call : CallF) (lo : Nat) (args : List Value) (H : AH) : evFn P ctx call lo 56 args H = F56 call lo args H := by kernel_rfl

/-- slices.Compact[[]int,int] -/
def C57 (call : CallF) (lo : Nat) : Piece (Value × Value × Value × Value × Value × Value × Value × Value × Value × Value × Unit) :=
  (seqE (leafE fun S H k =>
      k (S.1, (.slice none 0 0), S.2.2.1, S.2.2.2.1, S.2.2.2.2.1, S.2.2.2.2.2.1, S.2.2.2.2.2.2.1, S.2.2.2.2.2.2.2.1, S.2.2.2.2.2.2.2.2.1, S.2.2.2.2.2.2.2.2.2.1, ()) H)
  (seqE (seqE (leafE fun S H k =>
      bindV (evLenS S.1) fun t7 =>
      bindV (evLss t7 (.int .i64 (.ofNat 2))) fun t8 =>
      k (S.1, S.2.1, S.2.2.1, S.2.2.2.1, S.2.2.2.2.1, t8, S.2.2.2.2.2.2.1, S.2.2.2.2.2.2.2.1, S.2.2.2.2.2.2.2.2.1, S.2.2.2.2.2.2.2.2.2.1, ()) H)
  (condE (fun S => some S.2.2.2.2.2.1)
   (seqE (leafE fun S H k =>
       k (S.1, S.1, S.2.2.1, S.2.2.2.1, S.2.2.2.2.1, S.2.2.2.2.2.1, S.2.2.2.2.2.2.1, S.2.2.2.2.2.2.2.1, S.2.2.2.2.2.2.2.2.1, S.2.2.2.2.2.2.2.2.2.1, ()) H)
   (doneE .ret))
   (doneE .normal)))
  (seqE (seqE (leafE fun S H k =>
      k (S.1, S.2.1, (.int .i64 (.ofNat 1)), S.2.2.2.1, S.2.2.2.2.1, S.2.2.2.2.2.1, S.2.2.2.2.2.2.1, S.2.2.2.2.2.2.2.1, S.2.2.2.2.2.2.2.2.1, S.2.2.2.2.2.2.2.2.2.1, ()) H)
  (blockE 0 (loopE (seqE (seqE (leafE fun S H k =>
        bindV (evLenS S.1) fun t12 =>
        bindV (evLss S.2.2.1 t12) fun t13 =>
        k (S.1, S.2.1, S.2.2.1, S.2.2.2.1, S.2.2.2.2.1, S.2.2.2.2.2.1, t13, S.2.2.2.2.2.2.2.1, S.2.2.2.2.2.2.2.2.1, S.2.2.2.2.2.2.2.2.2.1, ()) H)
    (condE (fun S => some S.2.2.2.2.2.2.1)
     (doneE .normal)
     (doneE (.exit 0))))
    (seqE (blockE 1 (seqE (leafE fun S H k =>
         bindV (evIdxSlice 1 S.1 S.2.2.1) fun t18 =>
         bindV (evLoad H false 1 t18) fun t19 =>
         bindV (evSub S.2.2.1 (.int .i64 (.ofNat 1))) fun t22 =>
         bindV (evIdxSlice 1 S.1 t22) fun t23 =>
         bindV (evLoad H false 1 t23) fun t24 =>
         bindV (evEql .int t19 t24) fun t25 =>
         k (S.1, S.2.1, S.2.2.1, S.2.2.2.1, S.2.2.2.2.1, S.2.2.2.2.2.1, S.2.2.2.2.2.2.1, t25, S.2.2.2.2.2.2.2.2.1, S.2.2.2.2.2.2.2.2.2.1, ()) H)
     (condE (fun S => some S.2.2.2.2.2.2.2.1)
      (seqE (leafE fun S H k =>
          bindV (evCut 1 S.1 (some S.2.2.1) none none) fun t28 =>
          k (S.1, S.2.1, S.2.2.1, t28, S.2.2.2.2.1, S.2.2.2.2.2.1, S.2.2.2.2.2.2.1, S.2.2.2.2.2.2.2.1, S.2.2.2.2.2.2.2.2.1, S.2.2.2.2.2.2.2.2.2.1, ()) H)
      (seqE (seqE (leafE fun S H k =>
          k (S.1, S.2.1, S.2.2.1, S.2.2.2.1, (.int .i64 (.ofNat 1)), S.2.2.2.2.2.1, S.2.2.2.2.2.2.1, S.2.2.2.2.2.2.2.1, S.2.2.2.2.2.2.2.2.1, S.2.2.2.2.2.2.2.2.2.1, ()) H)
      (blockE 2 (loopE (seqE (seqE (leafE fun S H k =>
            bindV (evLenS S.2.2.2.1) fun t31 =>
            bindV (evLss S.2.2.2.2.1 t31) fun t32 =>
            k (S.1, S.2.1, S.2.2.1, S.2.2.2.1, S.2.2.2.2.1, S.2.2.2.2.2.1, S.2.2.2.2.2.2.1, S.2.2.2.2.2.2.2.1, t32, S.2.2.2.2.2.2.2.2.2.1, ()) H)
        (condE (fun S => some S.2.2.2.2.2.2.2.2.1)
         (doneE .normal)
         (doneE (.exit 2))))
        (seqE (blockE 3 (seqE (leafE fun S H k =>
             bindV (evIdxSlice 1 S.2.2.2.1 S.2.2.2.2.1) fun t37 =>
             bindV (evLoad H false 1 t37) fun t38 =>
             bindV (evSub S.2.2.2.2.1 (.int .i64 (.ofNat 1))) fun t41 =>
             bindV (evIdxSlice 1 S.2.2.2.1 t41) fun t42 =>
             bindV (evLoad H false 1 t42) fun t43 =>
             bindV (evNeq .int t38 t43) fun t44 =>
             k (S.1, S.2.1, S.2.2.1, S.2.2.2.1, S.2.2.2.2.1, S.2.2.2.2.2.1, S.2.2.2.2.2.2.1, S.2.2.2.2.2.2.2.1, S.2.2.2.2.2.2.2.2.1, t44, ()) H)
         (condE (fun S => some S.2.2.2.2.2.2.2.2.2.1)
          (seqE (leafE fun S H k =>
              bindV (evIdxSlice 1 S.2.2.2.1 S.2.2.2.2.1) fun t49 =>
              bindV (evLoad H false 1 t49) fun t50 =>
              bindV (evIdxSlice 1 S.1 S.2.2.1) fun t51 =>
              bindV (evStore lo H 1 t51 t50) fun H0 =>
              k (S.1, S.2.1, S.2.2.1, S.2.2.2.1, S.2.2.2.2.1, S.2.2.2.2.2.1, S.2.2.2.2.2.2.1, S.2.2.2.2.2.2.2.1, S.2.2.2.2.2.2.2.2.1, S.2.2.2.2.2.2.2.2.2.1, ()) H0)
          (leafE fun S H k =>
              bindV (evAdd S.2.2.1 (.int .i64 (.ofNat 1))) fun t53 =>
              k (S.1, S.2.1, t53, S.2.2.2.1, S.2.2.2.2.1, S.2.2.2.2.2.1, S.2.2.2.2.2.2.1, S.2.2.2.2.2.2.2.1, S.2.2.2.2.2.2.2.2.1, S.2.2.2.2.2.2.2.2.2.1, ()) H))
          (doneE .normal))))
        (leafE fun S H k =>
            bindV (evAdd S.2.2.2.2.1 (.int .i64 (.ofNat 1))) fun t34 =>
            k (S.1, S.2.1, S.2.2.1, S.2.2.2.1, t34, S.2.2.2.2.2.1, S.2.2.2.2.2.2.1, S.2.2.2.2.2.2.2.1, S.2.2.2.2.2.2.2.2.1, S.2.2.2.2.2.2.2.2.2.1, ()) H))) fuel)))
      (seqE (leafE fun S H k =>
          bindV (evCut 1 S.1 (some S.2.2.1) none none) fun t56 =>
          bindV (evClear lo H 1 (cellsOf (.int .i64 (.ofNat 0))) t56) fun H1 =>
          k (S.1, S.2.1, S.2.2.1, S.2.2.2.1, S.2.2.2.2.1, S.2.2.2.2.2.1, S.2.2.2.2.2.2.1, S.2.2.2.2.2.2.2.1, S.2.2.2.2.2.2.2.2.1, S.2.2.2.2.2.2.2.2.2.1, ()) H1)
      (seqE (leafE fun S H k =>
          bindV (evCut 1 S.1 none (some S.2.2.1) none) fun t59 =>
          k (S.1, t59, S.2.2.1, S.2.2.2.1, S.2.2.2.2.1, S.2.2.2.2.2.1, S.2.2.2.2.2.2.1, S.2.2.2.2.2.2.2.1, S.2.2.2.2.2.2.2.2.1, S.2.2.2.2.2.2.2.2.2.1, ()) H)
      (doneE .ret)))))
      (doneE .normal))))
    (leafE fun S H k =>
        bindV (evAdd S.2.2.1 (.int .i64 (.ofNat 1))) fun t15 =>
        k (S.1, S.2.1, t15, S.2.2.2.1, S.2.2.2.2.1, S.2.2.2.2.2.1, S.2.2.2.2.2.2.1, S.2.2.2.2.2.2.2.1, S.2.2.2.2.2.2.2.2.1, S.2.2.2.2.2.2.2.2.2.1, ()) H))) fuel)))
  (seqE (leafE fun S H k =>
      k (S.1, S.1, S.2.2.1, S.2.2.2.1, S.2.2.2.2.1, S.2.2.2.2.2.1, S.2.2.2.2.2.2.1, S.2.2.2.2.2.2.2.1, S.2.2.2.2.2.2.2.2.1, S.2.2.2.2.2.2.2.2.2.1, ()) H)
  (doneE .ret)))))

def F57 (call : CallF) (lo : Nat) (args : List Value) (H : AH) : Option (Value × AH) :=
  leave .all H (bindV (C57 call (lowOf .all lo H) (argAt args 0, argAt args 2, argAt args 3, argAt args 4, argAt args 5, argAt args 8, argAt args 13, argAt args 25, argAt args 32, argAt args 44, ()) H) fun p => resE p.1 (some (oneOf [p.2.1.2.1], p.2.2)))

theorem F57_eq (call : CallF) (lo : Nat) (args : List Value) (H : AH) : evFn P ctx call lo 57 args H = F57 call lo args H := by kernel_rfl

/-- novaculite/block.blanks -/
def C58 (call : CallF) (lo : Nat) : Piece (Value × Value × Value × Value × Value × Unit) :=
  (seqE (leafE fun S H k =>
      let t2 := newPtr H
      let H0 := pushBox H 28 S.1
      k (S.1, S.2.1, t2, (.int .i64 (.ofNat 0)), S.2.2.2.2.1, ()) H0)
  (seqE (leafE fun S H k =>
      bindV (evLoad H true 3 S.2.2.1) fun t8 =>
      bindV (evFill [(0, 1, S.2.1)] (zeros (cellsOf (.int .i64 (.ofNat 0))) 1)) fun c1 =>
      let t10 := newSlice H 1 1
      let H2 := H.push (.cells (Nat.mul 1 1) c1 3)
      bindVH (call lo 36 [t8, t10] H2) fun t11 H3 =>
      bindVH (call lo 40 [t11] H3) fun t12 H4 =>
      bindV (evComp t12 0) fun t13 =>
      bindV (evComp t12 1) fun t14 =>
      k (S.1, S.2.1, S.2.2.1, S.2.2.2.1, t13, ()) H4)
  (seqE (leafE fun S H k =>
      k (S.1, S.2.1, S.2.2.1, S.2.2.2.2.1, S.2.2.2.2.1, ()) H)
  (doneE .ret))))

def F58 (call : CallF) (lo : Nat) (args : List Value) (H : AH) : Option (Value × AH) :=
  leave .pure H (bindV (C58 call (lowOf .pure lo H) (argAt args 0, argAt args 1, argAt args 2, argAt args 4, argAt args 5, ()) H) fun p => resE p.1 (some (oneOf [p.2.1.2.2.2.1], p.2.2)))

theorem F58_eq (call : CallF) (lo : Nat) (args : List Value) (H : AH) : evFn P ctx call lo 58 args H = F58 call lo args H := by kernel_rfl

/-- slices.Index[[]int,int] -/
def C59 (call : CallF) (lo : Nat) : Piece (Value × Value × Value × Value × Value × Value × Value × Value × Unit) :=
  (seqE (leafE fun S H k =>
      k (S.1, S.2.1, (.int .i64 (.ofNat 0)), S.2.2.2.1, S.2.2.2.2.1, S.2.2.2.2.2.1, S.2.2.2.2.2.2.1, S.2.2.2.2.2.2.2.1, ()) H)
  (seqE (seqE (leafE fun S H k =>
      bindV (evLenS S.1) fun t7 =>
      k (S.1, S.2.1, S.2.2.1, S.2.2.2.1, t7, (.int .i64 (.ofNat 0)), S.2.2.2.2.2.2.1, S.2.2.2.2.2.2.2.1, ()) H)
  (blockE 0 (loopE (seqE (leafE fun S H k =>
        bindV (evLss S.2.2.2.2.2.1 S.2.2.2.2.1) fun t9 =>
        k (S.1, S.2.1, S.2.2.1, S.2.2.2.1, S.2.2.2.2.1, S.2.2.2.2.2.1, t9, S.2.2.2.2.2.2.2.1, ()) H)
    (seqE (condE (fun S => some S.2.2.2.2.2.2.1)
     (doneE .normal)
     (doneE (.exit 0)))
    (seqE (blockE 1 (seqE (leafE fun S H k =>
         k (S.1, S.2.1, S.2.2.1, S.2.2.2.2.2.1, S.2.2.2.2.1, S.2.2.2.2.2.1, S.2.2.2.2.2.2.1, S.2.2.2.2.2.2.2.1, ()) H)
     (seqE (leafE fun S H k =>
         bindV (evIdxSlice 1 S.1 S.2.2.2.1) fun t14 =>
         bindV (evLoad H false 1 t14) fun t15 =>
         bindV (evEql .int S.2.1 t15) fun t16 =>
         k (S.1, S.2.1, S.2.2.1, S.2.2.2.1, S.2.2.2.2.1, S.2.2.2.2.2.1, S.2.2.2.2.2.2.1, t16, ()) H)
     (condE (fun S => some S.2.2.2.2.2.2.2.1)
      (seqE (leafE fun S H k =>
          k (S.1, S.2.1, S.2.2.2.1, S.2.2.2.1, S.2.2.2.2.1, S.2.2.2.2.2.1, S.2.2.2.2.2.2.1, S.2.2.2.2.2.2.2.1, ()) H)
      (doneE .ret))
      (doneE .normal)))))
    (leafE fun S H k =>
        bindV (evAdd S.2.2.2.2.2.1 (.int .i64 (.ofNat 1))) fun t18 =>
        k (S.1, S.2.1, S.2.2.1, S.2.2.2.1, S.2.2.2.2.1, t18, S.2.2.2.2.2.2.1, S.2.2.2.2.2.2.2.1, ()) H)))) fuel)))
  (seqE (leafE fun S H k =>
      k (S.1, S.2.1, (.int .i64 (.negSucc 0)), S.2.2.2.1, S.2.2.2.2.1, S.2.2.2.2.2.1, S.2.2.2.2.2.2.1, S.2.2.2.2.2.2.2.1, ()) H)
  (doneE .ret))))

def F59 (call : CallF) (lo : Nat) (args : List Value) (H : AH) : Option (Value × AH) :=
  leave .pure H (bindV (C59 call (lowOf .pure lo H) (argAt args 0, argAt args 1, argAt args 4, argAt args 5, argAt args 7, argAt args 8, argAt args 9, argAt args 16, ()) H) fun p => resE p.1 (some (oneOf [p.2.1.2.2.1], p.2.2)))

theorem F59_eq (call : CallF) (lo : Nat) (args : List Value) (H : AH) : evFn P ctx call lo 59 args H = F59 call lo args H := by kernel_rfl


end
end Go.Proofs.YtclepgonpdcibaaGreatDoor
