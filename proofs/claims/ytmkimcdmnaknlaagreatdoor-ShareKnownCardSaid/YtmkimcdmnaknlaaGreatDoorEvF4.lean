/- Shallow functions, each with the proof that the evaluator is it (printed by wip/ev/gen.lean), part 4.
   Conditions: none. -/
import Derived.Test.YtmkimcdmnaknlaaGreatDoorEvT
namespace Go.Proofs.YtmkimcdmnaknlaaGreatDoor
open Go Go.Ev
set_option maxRecDepth 1000000
set_option linter.unusedVariables false
noncomputable section

/-- slices.partitionOrdered[int] -/
def C112 (call : CallF) (lo : Nat) : Piece (Value × Value × Value × Value × Value × Value × Value × Value × Value × Value × Value × Value × Value × Value × Unit) :=
  (seqE (leafE fun S H k =>
      k (S.1, S.2.1, S.2.2.1, S.2.2.2.1, (.int .i64 (.ofNat 0)), (.bool false), S.2.2.2.2.2.2.1, S.2.2.2.2.2.2.2.1, S.2.2.2.2.2.2.2.2.1, S.2.2.2.2.2.2.2.2.2.1, S.2.2.2.2.2.2.2.2.2.2.1, S.2.2.2.2.2.2.2.2.2.2.2.1, S.2.2.2.2.2.2.2.2.2.2.2.2.1, S.2.2.2.2.2.2.2.2.2.2.2.2.2.1, ()) H)
  (seqE (leafE fun S H k =>
      bindV (evIdxSlice 1 S.1 S.2.2.2.1) fun t18 =>
      bindV (evLoad H false 1 t18) fun t19 =>
      bindV (evIdxSlice 1 S.1 S.2.1) fun t22 =>
      bindV (evLoad H false 1 t22) fun t23 =>
      bindV (evIdxSlice 1 S.1 S.2.1) fun t24 =>
      bindV (evStore lo H 1 t24 t19) fun H0 =>
      bindV (evIdxSlice 1 S.1 S.2.2.2.1) fun t25 =>
      bindV (evStore lo H0 1 t25 t23) fun H1 =>
      k (S.1, S.2.1, S.2.2.1, S.2.2.2.1, S.2.2.2.2.1, S.2.2.2.2.2.1, S.2.2.2.2.2.2.1, S.2.2.2.2.2.2.2.1, S.2.2.2.2.2.2.2.2.1, S.2.2.2.2.2.2.2.2.2.1, S.2.2.2.2.2.2.2.2.2.2.1, S.2.2.2.2.2.2.2.2.2.2.2.1, S.2.2.2.2.2.2.2.2.2.2.2.2.1, S.2.2.2.2.2.2.2.2.2.2.2.2.2.1, ()) H1)
  (seqE (leafE fun S H k =>
      bindV (evAdd S.2.1 (.int .i64 (.ofNat 1))) fun t27 =>
      bindV (evSub S.2.2.1 (.int .i64 (.ofNat 1))) fun t29 =>
      k (S.1, S.2.1, S.2.2.1, S.2.2.2.1, S.2.2.2.2.1, S.2.2.2.2.2.1, t27, t29, S.2.2.2.2.2.2.2.2.1, S.2.2.2.2.2.2.2.2.2.1, S.2.2.2.2.2.2.2.2.2.2.1, S.2.2.2.2.2.2.2.2.2.2.2.1, S.2.2.2.2.2.2.2.2.2.2.2.2.1, S.2.2.2.2.2.2.2.2.2.2.2.2.2.1, ()) H)
  (seqE (blockE 0 (loopE (seqE (seqE (leafE fun S H k =>
        bindV (evLeq S.2.2.2.2.2.2.1 S.2.2.2.2.2.2.2.1) fun t32 =>
        guarded t32 true ( pairVH S.1 H) H fun t34 H2 =>
        guarded t32 true ( pairVH S.2.2.2.2.2.2.1 H2) H2 fun t35 H3 =>
        guarded t32 true (bindV (evIdxSlice 1 t34 t35) fun t1000000 => pairVH t1000000 H3) H3 fun t36 H4 =>
        guarded t32 true (bindV (evLoad H4 false 1 t36) fun t1000000 => pairVH t1000000 H4) H4 fun t37 H5 =>
        guarded t32 true ( pairVH S.1 H5) H5 fun t38 H6 =>
        guarded t32 true ( pairVH S.2.1 H6) H6 fun t39 H7 =>
        guarded t32 true (bindV (evIdxSlice 1 t38 t39) fun t1000000 => pairVH t1000000 H7) H7 fun t40 H8 =>
        guarded t32 true (bindV (evLoad H8 false 1 t40) fun t1000000 => pairVH t1000000 H8) H8 fun t41 H9 =>
        guarded t32 true (bindVH (call lo 110 [t37, t41] H9) fun t1000000 H10 => pairVH t1000000 H10) H9 fun t42 H11 =>
        bindV (evPick t32 t42 (.bool false)) fun t43 =>
        k (S.1, S.2.1, S.2.2.1, S.2.2.2.1, S.2.2.2.2.1, S.2.2.2.2.2.1, S.2.2.2.2.2.2.1, S.2.2.2.2.2.2.2.1, t43, S.2.2.2.2.2.2.2.2.2.1, S.2.2.2.2.2.2.2.2.2.2.1, S.2.2.2.2.2.2.2.2.2.2.2.1, S.2.2.2.2.2.2.2.2.2.2.2.2.1, S.2.2.2.2.2.2.2.2.2.2.2.2.2.1, ()) H11)
    (condE (fun S => some S.2.2.2.2.2.2.2.2.1)
     (doneE .normal)
     (doneE (.exit 0))))
    (blockE 1 (leafE fun S H k =>
         bindV (evAdd S.2.2.2.2.2.2.1 (.int .i64 (.ofNat 1))) fun t45 =>
         k (S.1, S.2.1, S.2.2.1, S.2.2.2.1, S.2.2.2.2.1, S.2.2.2.2.2.1, t45, S.2.2.2.2.2.2.2.1, S.2.2.2.2.2.2.2.2.1, S.2.2.2.2.2.2.2.2.2.1, S.2.2.2.2.2.2.2.2.2.2.1, S.2.2.2.2.2.2.2.2.2.2.2.1, S.2.2.2.2.2.2.2.2.2.2.2.2.1, S.2.2.2.2.2.2.2.2.2.2.2.2.2.1, ()) H))) fuel))
  (seqE (blockE 2 (loopE (seqE (seqE (leafE fun S H k =>
        bindV (evLeq S.2.2.2.2.2.2.1 S.2.2.2.2.2.2.2.1) fun t48 =>
        guarded t48 true ( pairVH S.1 H) H fun t50 H12 =>
        guarded t48 true ( pairVH S.2.2.2.2.2.2.2.1 H12) H12 fun t51 H13 =>
        guarded t48 true (bindV (evIdxSlice 1 t50 t51) fun t1000000 => pairVH t1000000 H13) H13 fun t52 H14 =>
        guarded t48 true (bindV (evLoad H14 false 1 t52) fun t1000000 => pairVH t1000000 H14) H14 fun t53 H15 =>
        guarded t48 true ( pairVH S.1 H15) H15 fun t54 H16 =>
        guarded t48 true ( pairVH S.2.1 H16) H16 fun t55 H17 =>
        guarded t48 true (bindV (evIdxSlice 1 t54 t55) fun t1000000 => pairVH t1000000 H17) H17 fun t56 H18 =>
        guarded t48 true (bindV (evLoad H18 false 1 t56) fun t1000000 => pairVH t1000000 H18) H18 fun t57 H19 =>
        guarded t48 true (bindVH (call lo 110 [t53, t57] H19) fun t1000000 H20 => pairVH t1000000 H20) H19 fun t58 H21 =>
        guarded t48 true (bindV (evNot t58) fun t1000000 => pairVH t1000000 H21) H21 fun t59 H22 =>
        bindV (evPick t48 t59 (.bool false)) fun t60 =>
        k (S.1, S.2.1, S.2.2.1, S.2.2.2.1, S.2.2.2.2.1, S.2.2.2.2.2.1, S.2.2.2.2.2.2.1, S.2.2.2.2.2.2.2.1, S.2.2.2.2.2.2.2.2.1, t60, S.2.2.2.2.2.2.2.2.2.2.1, S.2.2.2.2.2.2.2.2.2.2.2.1, S.2.2.2.2.2.2.2.2.2.2.2.2.1, S.2.2.2.2.2.2.2.2.2.2.2.2.2.1, ()) H22)
    (condE (fun S => some S.2.2.2.2.2.2.2.2.2.1)
     (doneE .normal)
     (doneE (.exit 2))))
    (blockE 3 (leafE fun S H k =>
         bindV (evSub S.2.2.2.2.2.2.2.1 (.int .i64 (.ofNat 1))) fun t62 =>
         k (S.1, S.2.1, S.2.2.1, S.2.2.2.1, S.2.2.2.2.1, S.2.2.2.2.2.1, S.2.2.2.2.2.2.1, t62, S.2.2.2.2.2.2.2.2.1, S.2.2.2.2.2.2.2.2.2.1, S.2.2.2.2.2.2.2.2.2.2.1, S.2.2.2.2.2.2.2.2.2.2.2.1, S.2.2.2.2.2.2.2.2.2.2.2.2.1, S.2.2.2.2.2.2.2.2.2.2.2.2.2.1, ()) H))) fuel))
  (seqE (seqE (leafE fun S H k =>
      bindV (evGtr S.2.2.2.2.2.2.1 S.2.2.2.2.2.2.2.1) fun t65 =>
      k (S.1, S.2.1, S.2.2.1, S.2.2.2.1, S.2.2.2.2.1, S.2.2.2.2.2.1, S.2.2.2.2.2.2.1, S.2.2.2.2.2.2.2.1, S.2.2.2.2.2.2.2.2.1, S.2.2.2.2.2.2.2.2.2.1, t65, S.2.2.2.2.2.2.2.2.2.2.2.1, S.2.2.2.2.2.2.2.2.2.2.2.2.1, S.2.2.2.2.2.2.2.2.2.2.2.2.2.1, ()) H)
  (condE (fun S => some S.2.2.2.2.2.2.2.2.2.2.1)
   (seqE (leafE fun S H k =>
       bindV (evIdxSlice 1 S.1 S.2.1) fun t72 =>
       bindV (evLoad H false 1 t72) fun t73 =>
       bindV (evIdxSlice 1 S.1 S.2.2.2.2.2.2.2.1) fun t76 =>
       bindV (evLoad H false 1 t76) fun t77 =>
       bindV (evIdxSlice 1 S.1 S.2.2.2.2.2.2.2.1) fun t78 =>
       bindV (evStore lo H 1 t78 t73) fun H23 =>
       bindV (evIdxSlice 1 S.1 S.2.1) fun t79 =>
       bindV (evStore lo H23 1 t79 t77) fun H24 =>
       k (S.1, S.2.1, S.2.2.1, S.2.2.2.1, S.2.2.2.2.1, S.2.2.2.2.2.1, S.2.2.2.2.2.2.1, S.2.2.2.2.2.2.2.1, S.2.2.2.2.2.2.2.2.1, S.2.2.2.2.2.2.2.2.2.1, S.2.2.2.2.2.2.2.2.2.2.1, S.2.2.2.2.2.2.2.2.2.2.2.1, S.2.2.2.2.2.2.2.2.2.2.2.2.1, S.2.2.2.2.2.2.2.2.2.2.2.2.2.1, ()) H24)
   (seqE (leafE fun S H k =>
       k (S.1, S.2.1, S.2.2.1, S.2.2.2.1, S.2.2.2.2.2.2.2.1, (.bool true), S.2.2.2.2.2.2.1, S.2.2.2.2.2.2.2.1, S.2.2.2.2.2.2.2.2.1, S.2.2.2.2.2.2.2.2.2.1, S.2.2.2.2.2.2.2.2.2.2.1, S.2.2.2.2.2.2.2.2.2.2.2.1, S.2.2.2.2.2.2.2.2.2.2.2.2.1, S.2.2.2.2.2.2.2.2.2.2.2.2.2.1, ()) H)
   (doneE .ret)))
   (doneE .normal)))
  (seqE (leafE fun S H k =>
      bindV (evIdxSlice 1 S.1 S.2.2.2.2.2.2.2.1) fun t87 =>
      bindV (evLoad H false 1 t87) fun t88 =>
      bindV (evIdxSlice 1 S.1 S.2.2.2.2.2.2.1) fun t91 =>
      bindV (evLoad H false 1 t91) fun t92 =>
      bindV (evIdxSlice 1 S.1 S.2.2.2.2.2.2.1) fun t93 =>
      bindV (evStore lo H 1 t93 t88) fun H25 =>
      bindV (evIdxSlice 1 S.1 S.2.2.2.2.2.2.2.1) fun t94 =>
      bindV (evStore lo H25 1 t94 t92) fun H26 =>
      k (S.1, S.2.1, S.2.2.1, S.2.2.2.1, S.2.2.2.2.1, S.2.2.2.2.2.1, S.2.2.2.2.2.2.1, S.2.2.2.2.2.2.2.1, S.2.2.2.2.2.2.2.2.1, S.2.2.2.2.2.2.2.2.2.1, S.2.2.2.2.2.2.2.2.2.2.1, S.2.2.2.2.2.2.2.2.2.2.2.1, S.2.2.2.2.2.2.2.2.2.2.2.2.1, S.2.2.2.2.2.2.2.2.2.2.2.2.2.1, ()) H26)
  (seqE (leafE fun S H k =>
      bindV (evAdd S.2.2.2.2.2.2.1 (.int .i64 (.ofNat 1))) fun t96 =>
      k (S.1, S.2.1, S.2.2.1, S.2.2.2.1, S.2.2.2.2.1, S.2.2.2.2.2.1, t96, S.2.2.2.2.2.2.2.1, S.2.2.2.2.2.2.2.2.1, S.2.2.2.2.2.2.2.2.2.1, S.2.2.2.2.2.2.2.2.2.2.1, S.2.2.2.2.2.2.2.2.2.2.2.1, S.2.2.2.2.2.2.2.2.2.2.2.2.1, S.2.2.2.2.2.2.2.2.2.2.2.2.2.1, ()) H)
  (seqE (leafE fun S H k =>
      bindV (evSub S.2.2.2.2.2.2.2.1 (.int .i64 (.ofNat 1))) fun t98 =>
      k (S.1, S.2.1, S.2.2.1, S.2.2.2.1, S.2.2.2.2.1, S.2.2.2.2.2.1, S.2.2.2.2.2.2.1, t98, S.2.2.2.2.2.2.2.2.1, S.2.2.2.2.2.2.2.2.2.1, S.2.2.2.2.2.2.2.2.2.2.1, S.2.2.2.2.2.2.2.2.2.2.2.1, S.2.2.2.2.2.2.2.2.2.2.2.2.1, S.2.2.2.2.2.2.2.2.2.2.2.2.2.1, ()) H)
  (seqE (blockE 4 (loopE (blockE 5 (seqE (blockE 6 (loopE (seqE (seqE (leafE fun S H k =>
           bindV (evLeq S.2.2.2.2.2.2.1 S.2.2.2.2.2.2.2.1) fun t101 =>
           guarded t101 true ( pairVH S.1 H) H fun t103 H27 =>
           guarded t101 true ( pairVH S.2.2.2.2.2.2.1 H27) H27 fun t104 H28 =>
           guarded t101 true (bindV (evIdxSlice 1 t103 t104) fun t1000000 => pairVH t1000000 H28) H28 fun t105 H29 =>
           guarded t101 true (bindV (evLoad H29 false 1 t105) fun t1000000 => pairVH t1000000 H29) H29 fun t106 H30 =>
           guarded t101 true ( pairVH S.1 H30) H30 fun t107 H31 =>
           guarded t101 true ( pairVH S.2.1 H31) H31 fun t108 H32 =>
           guarded t101 true (bindV (evIdxSlice 1 t107 t108) fun t1000000 => pairVH t1000000 H32) H32 fun t109 H33 =>
           guarded t101 true (bindV (evLoad H33 false 1 t109) fun t1000000 => pairVH t1000000 H33) H33 fun t110 H34 =>
           guarded t101 true (bindVH (call lo 110 [t106, t110] H34) fun t1000000 H35 => pairVH t1000000 H35) H34 fun t111 H36 =>
           bindV (evPick t101 t111 (.bool false)) fun t112 =>
           k (S.1, S.2.1, S.2.2.1, S.2.2.2.1, S.2.2.2.2.1, S.2.2.2.2.2.1, S.2.2.2.2.2.2.1, S.2.2.2.2.2.2.2.1, S.2.2.2.2.2.2.2.2.1, S.2.2.2.2.2.2.2.2.2.1, S.2.2.2.2.2.2.2.2.2.2.1, t112, S.2.2.2.2.2.2.2.2.2.2.2.2.1, S.2.2.2.2.2.2.2.2.2.2.2.2.2.1, ()) H36)
       (condE (fun S => some S.2.2.2.2.2.2.2.2.2.2.2.1)
        (doneE .normal)
        (doneE (.exit 6))))
       (blockE 7 (leafE fun S H k =>
            bindV (evAdd S.2.2.2.2.2.2.1 (.int .i64 (.ofNat 1))) fun t114 =>
            k (S.1, S.2.1, S.2.2.1, S.2.2.2.1, S.2.2.2.2.1, S.2.2.2.2.2.1, t114, S.2.2.2.2.2.2.2.1, S.2.2.2.2.2.2.2.2.1, S.2.2.2.2.2.2.2.2.2.1, S.2.2.2.2.2.2.2.2.2.2.1, S.2.2.2.2.2.2.2.2.2.2.2.1, S.2.2.2.2.2.2.2.2.2.2.2.2.1, S.2.2.2.2.2.2.2.2.2.2.2.2.2.1, ()) H))) fuel))
     (seqE (blockE 8 (loopE (seqE (seqE (leafE fun S H k =>
           bindV (evLeq S.2.2.2.2.2.2.1 S.2.2.2.2.2.2.2.1) fun t117 =>
           guarded t117 true ( pairVH S.1 H) H fun t119 H37 =>
           guarded t117 true ( pairVH S.2.2.2.2.2.2.2.1 H37) H37 fun t120 H38 =>
           guarded t117 true (bindV (evIdxSlice 1 t119 t120) fun t1000000 => pairVH t1000000 H38) H38 fun t121 H39 =>
           guarded t117 true (bindV (evLoad H39 false 1 t121) fun t1000000 => pairVH t1000000 H39) H39 fun t122 H40 =>
           guarded t117 true ( pairVH S.1 H40) H40 fun t123 H41 =>
           guarded t117 true ( pairVH S.2.1 H41) H41 fun t124 H42 =>
           guarded t117 true (bindV (evIdxSlice 1 t123 t124) fun t1000000 => pairVH t1000000 H42) H42 fun t125 H43 =>
           guarded t117 true (bindV (evLoad H43 false 1 t125) fun t1000000 => pairVH t1000000 H43) H43 fun t126 H44 =>
           guarded t117 true (bindVH (call lo 110 [t122, t126] H44) fun t1000000 H45 => pairVH t1000000 H45) H44 fun t127 H46 =>
           guarded t117 true (bindV (evNot t127) fun t1000000 => pairVH t1000000 H46) H46 fun t128 H47 =>
           bindV (evPick t117 t128 (.bool false)) fun t129 =>
           k (S.1, S.2.1, S.2.2.1, S.2.2.2.1, S.2.2.2.2.1, S.2.2.2.2.2.1, S.2.2.2.2.2.2.1, S.2.2.2.2.2.2.2.1, S.2.2.2.2.2.2.2.2.1, S.2.2.2.2.2.2.2.2.2.1, S.2.2.2.2.2.2.2.2.2.2.1, S.2.2.2.2.2.2.2.2.2.2.2.1, t129, S.2.2.2.2.2.2.2.2.2.2.2.2.2.1, ()) H47)
       (condE (fun S => some S.2.2.2.2.2.2.2.2.2.2.2.2.1)
        (doneE .normal)
        (doneE (.exit 8))))
       (blockE 9 (leafE fun S H k =>
            bindV (evSub S.2.2.2.2.2.2.2.1 (.int .i64 (.ofNat 1))) fun t131 =>
            k (S.1, S.2.1, S.2.2.1, S.2.2.2.1, S.2.2.2.2.1, S.2.2.2.2.2.1, S.2.2.2.2.2.2.1, t131, S.2.2.2.2.2.2.2.2.1, S.2.2.2.2.2.2.2.2.2.1, S.2.2.2.2.2.2.2.2.2.2.1, S.2.2.2.2.2.2.2.2.2.2.2.1, S.2.2.2.2.2.2.2.2.2.2.2.2.1, S.2.2.2.2.2.2.2.2.2.2.2.2.2.1, ()) H))) fuel))
     (seqE (seqE (leafE fun S H k =>
         bindV (evGtr S.2.2.2.2.2.2.1 S.2.2.2.2.2.2.2.1) fun t134 =>
         k (S.1, S.2.1, S.2.2.1, S.2.2.2.1, S.2.2.2.2.1, S.2.2.2.2.2.1, S.2.2.2.2.2.2.1, S.2.2.2.2.2.2.2.1, S.2.2.2.2.2.2.2.2.1, S.2.2.2.2.2.2.2.2.2.1, S.2.2.2.2.2.2.2.2.2.2.1, S.2.2.2.2.2.2.2.2.2.2.2.1, S.2.2.2.2.2.2.2.2.2.2.2.2.1, t134, ()) H)
     (condE (fun S => some S.2.2.2.2.2.2.2.2.2.2.2.2.2.1)
      (doneE (.exit 4))
      (doneE .normal)))
     (seqE (leafE fun S H k =>
         bindV (evIdxSlice 1 S.1 S.2.2.2.2.2.2.2.1) fun t141 =>
         bindV (evLoad H false 1 t141) fun t142 =>
         bindV (evIdxSlice 1 S.1 S.2.2.2.2.2.2.1) fun t145 =>
         bindV (evLoad H false 1 t145) fun t146 =>
         bindV (evIdxSlice 1 S.1 S.2.2.2.2.2.2.1) fun t147 =>
         bindV (evStore lo H 1 t147 t142) fun H48 =>
         bindV (evIdxSlice 1 S.1 S.2.2.2.2.2.2.2.1) fun t148 =>
         bindV (evStore lo H48 1 t148 t146) fun H49 =>
         k (S.1, S.2.1, S.2.2.1, S.2.2.2.1, S.2.2.2.2.1, S.2.2.2.2.2.1, S.2.2.2.2.2.2.1, S.2.2.2.2.2.2.2.1, S.2.2.2.2.2.2.2.2.1, S.2.2.2.2.2.2.2.2.2.1, S.2.2.2.2.2.2.2.2.2.2.1, S.2.2.2.2.2.2.2.2.2.2.2.1, S.2.2.2.2.2.2.2.2.2.2.2.2.1, S.2.2.2.2.2.2.2.2.2.2.2.2.2.1, ()) H49)
     (seqE (leafE fun S H k =>
         bindV (evAdd S.2.2.2.2.2.2.1 (.int .i64 (.ofNat 1))) fun t150 =>
         k (S.1, S.2.1, S.2.2.1, S.2.2.2.1, S.2.2.2.2.1, S.2.2.2.2.2.1, t150, S.2.2.2.2.2.2.2.1, S.2.2.2.2.2.2.2.2.1, S.2.2.2.2.2.2.2.2.2.1, S.2.2.2.2.2.2.2.2.2.2.1, S.2.2.2.2.2.2.2.2.2.2.2.1, S.2.2.2.2.2.2.2.2.2.2.2.2.1, S.2.2.2.2.2.2.2.2.2.2.2.2.2.1, ()) H)
     (leafE fun S H k =>
         bindV (evSub S.2.2.2.2.2.2.2.1 (.int .i64 (.ofNat 1))) fun t152 =>
         k (S.1, S.2.1, S.2.2.1, S.2.2.2.1, S.2.2.2.2.1, S.2.2.2.2.2.1, S.2.2.2.2.2.2.1, t152, S.2.2.2.2.2.2.2.2.1, S.2.2.2.2.2.2.2.2.2.1, S.2.2.2.2.2.2.2.2.2.2.1, S.2.2.2.2.2.2.2.2.2.2.2.1, S.2.2.2.2.2.2.2.2.2.2.2.2.1, S.2.2.2.2.2.2.2.2.2.2.2.2.2.1, ()) H))))))) fuel))
  (seqE (leafE fun S H k =>
      bindV (evIdxSlice 1 S.1 S.2.1) fun t159 =>
      bindV (evLoad H false 1 t159) fun t160 =>
      bindV (evIdxSlice 1 S.1 S.2.2.2.2.2.2.2.1) fun t163 =>
      bindV (evLoad H false 1 t163) fun t164 =>
      bindV (evIdxSlice 1 S.1 S.2.2.2.2.2.2.2.1) fun t165 =>
      bindV (evStore lo H 1 t165 t160) fun H50 =>
      bindV (evIdxSlice 1 S.1 S.2.1) fun t166 =>
      bindV (evStore lo H50 1 t166 t164) fun H51 =>
      k (S.1, S.2.1, S.2.2.1, S.2.2.2.1, S.2.2.2.2.1, S.2.2.2.2.2.1, S.2.2.2.2.2.2.1, S.2.2.2.2.2.2.2.1, S.2.2.2.2.2.2.2.2.1, S.2.2.2.2.2.2.2.2.2.1, S.2.2.2.2.2.2.2.2.2.2.1, S.2.2.2.2.2.2.2.2.2.2.2.1, S.2.2.2.2.2.2.2.2.2.2.2.2.1, S.2.2.2.2.2.2.2.2.2.2.2.2.2.1, ()) H51)
  (seqE (leafE fun S H k =>
      k (S.1, S.2.1, S.2.2.1, S.2.2.2.1, S.2.2.2.2.2.2.2.1, (.bool false), S.2.2.2.2.2.2.1, S.2.2.2.2.2.2.2.1, S.2.2.2.2.2.2.2.2.1, S.2.2.2.2.2.2.2.2.2.1, S.2.2.2.2.2.2.2.2.2.2.1, S.2.2.2.2.2.2.2.2.2.2.2.1, S.2.2.2.2.2.2.2.2.2.2.2.2.1, S.2.2.2.2.2.2.2.2.2.2.2.2.2.1, ()) H)
  (doneE .ret)))))))))))))

def F112 (call : CallF) (lo : Nat) (args : List Value) (H : AH) : Option (Value × AH) :=
  leave .all H (bindV (C112 call (lowOf .all lo H) (argAt args 0, argAt args 1, argAt args 2, argAt args 3, argAt args 8, argAt args 9, argAt args 10, argAt args 11, argAt args 43, argAt args 60, argAt args 65, argAt args 112, argAt args 129, argAt args 134, ()) H) fun p => resE p.1 (some (oneOf [p.2.1.2.2.2.2.1, p.2.1.2.2.2.2.2.1], p.2.2)))

theorem F112_eq (call : CallF) (lo : Nat) (args : List Value) (H : AH) : evFn P ctx call lo 112 args H = F112 call lo args H := by kernel_rfl

/-- math/bits.Len32 -/
def C113 (call : CallF) (lo : Nat) : Piece (Value × Value × Value × Value × Unit) :=
  (seqE (leafE fun S H k =>
      k (S.1, (.int .i64 (.ofNat 0)), S.2.2.1, S.2.2.2.1, ()) H)
  (seqE (seqE (leafE fun S H k =>
      bindV (evGeq S.1 (.int .u32 (.ofNat 65536))) fun t4 =>
      k (S.1, S.2.1, t4, S.2.2.2.1, ()) H)
  (condE (fun S => some S.2.2.1)
   (seqE (leafE fun S H k =>
       bindV (evShr S.1 (.int .u64 (.ofNat 16))) fun t6 =>
       k (t6, S.2.1, S.2.2.1, S.2.2.2.1, ()) H)
   (leafE fun S H k =>
       k (S.1, (.int .i64 (.ofNat 16)), S.2.2.1, S.2.2.2.1, ()) H))
   (doneE .normal)))
  (seqE (seqE (leafE fun S H k =>
      bindV (evGeq S.1 (.int .u32 (.ofNat 256))) fun t8 =>
      k (S.1, S.2.1, S.2.2.1, t8, ()) H)
  (condE (fun S => some S.2.2.2.1)
   (seqE (leafE fun S H k =>
       bindV (evShr S.1 (.int .u64 (.ofNat 8))) fun t10 =>
       k (t10, S.2.1, S.2.2.1, S.2.2.2.1, ()) H)
   (leafE fun S H k =>
       bindV (evAdd S.2.1 (.int .i64 (.ofNat 8))) fun t12 =>
       k (S.1, t12, S.2.2.1, S.2.2.2.1, ()) H))
   (doneE .normal)))
  (seqE (leafE fun S H k =>
      bindV (evConv .u8 S.1) fun t15 =>
      bindV (evIdxStr str2 t15) fun t16 =>
      bindV (evConv .i64 t16) fun t17 =>
      bindV (evAdd S.2.1 t17) fun t18 =>
      k (S.1, t18, S.2.2.1, S.2.2.2.1, ()) H)
  (doneE .ret)))))

def F113 (call : CallF) (lo : Nat) (args : List Value) (H : AH) : Option (Value × AH) :=
  leave .all H (bindV (C113 call (lowOf .all lo H) (argAt args 0, argAt args 2, argAt args 4, argAt args 8, ()) H) fun p => resE p.1 (some (oneOf [p.2.1.2.1], p.2.2)))

theorem F113_eq (call : CallF) (lo : Nat) (args : List Value) (H : AH) : evFn P ctx call lo 113 args H = F113 call lo args H := by kernel_rfl

/-- math/bits.Len64 -/
def C114 (call : CallF) (lo : Nat) : Piece (Value × Value × Value × Value × Value × Unit) :=
  (seqE (leafE fun S H k =>
      k (S.1, (.int .i64 (.ofNat 0)), S.2.2.1, S.2.2.2.1, S.2.2.2.2.1, ()) H)
  (seqE (seqE (leafE fun S H k =>
      bindV (evGeq S.1 (.int .u64 (.ofNat 4294967296))) fun t4 =>
      k (S.1, S.2.1, t4, S.2.2.2.1, S.2.2.2.2.1, ()) H)
  (condE (fun S => some S.2.2.1)
   (seqE (leafE fun S H k =>
       bindV (evShr S.1 (.int .u64 (.ofNat 32))) fun t6 =>
       k (t6, S.2.1, S.2.2.1, S.2.2.2.1, S.2.2.2.2.1, ()) H)
   (leafE fun S H k =>
       k (S.1, (.int .i64 (.ofNat 32)), S.2.2.1, S.2.2.2.1, S.2.2.2.2.1, ()) H))
   (doneE .normal)))
  (seqE (seqE (leafE fun S H k =>
      bindV (evGeq S.1 (.int .u64 (.ofNat 65536))) fun t8 =>
      k (S.1, S.2.1, S.2.2.1, t8, S.2.2.2.2.1, ()) H)
  (condE (fun S => some S.2.2.2.1)
   (seqE (leafE fun S H k =>
       bindV (evShr S.1 (.int .u64 (.ofNat 16))) fun t10 =>
       k (t10, S.2.1, S.2.2.1, S.2.2.2.1, S.2.2.2.2.1, ()) H)
   (leafE fun S H k =>
       bindV (evAdd S.2.1 (.int .i64 (.ofNat 16))) fun t12 =>
       k (S.1, t12, S.2.2.1, S.2.2.2.1, S.2.2.2.2.1, ()) H))
   (doneE .normal)))
  (seqE (seqE (leafE fun S H k =>
      bindV (evGeq S.1 (.int .u64 (.ofNat 256))) fun t14 =>
      k (S.1, S.2.1, S.2.2.1, S.2.2.2.1, t14, ()) H)
  (condE (fun S => some S.2.2.2.2.1)
   (seqE (leafE fun S H k =>
       bindV (evShr S.1 (.int .u64 (.ofNat 8))) fun t16 =>
       k (t16, S.2.1, S.2.2.1, S.2.2.2.1, S.2.2.2.2.1, ()) H)
   (leafE fun S H k =>
       bindV (evAdd S.2.1 (.int .i64 (.ofNat 8))) fun t18 =>
       k (S.1, t18, S.2.2.1, S.2.2.2.1, S.2.2.2.2.1, ()) H))
   (doneE .normal)))
  (seqE (leafE fun S H k =>
      bindV (evConv .u8 S.1) fun t21 =>
      bindV (evIdxStr str2 t21) fun t22 =>
      bindV (evConv .i64 t22) fun t23 =>
      bindV (evAdd S.2.1 t23) fun t24 =>
      k (S.1, t24, S.2.2.1, S.2.2.2.1, S.2.2.2.2.1, ()) H)
  (doneE .ret))))))

def F114 (call : CallF) (lo : Nat) (args : List Value) (H : AH) : Option (Value × AH) :=
  leave .all H (bindV (C114 call (lowOf .all lo H) (argAt args 0, argAt args 2, argAt args 4, argAt args 8, argAt args 14, ()) H) fun p => resE p.1 (some (oneOf [p.2.1.2.1], p.2.2)))

theorem F114_eq (call : CallF) (lo : Nat) (args : List Value) (H : AH) : evFn P ctx call lo 114 args H = F114 call lo args H := by kernel_rfl

/-- (novaculite/drain.Hill).groups$1 -/
def C115 (call : CallF) (lo : Nat) : Piece (Value × Value × Value × Unit) :=
  (seqE (leafE fun S H k =>
      k (S.1, S.2.1, (.int .i64 (.ofNat 0)), ()) H)
  (seqE (leafE fun S H k =>
      bindVH (call lo 66 [S.1] H) fun t6 H0 =>
      bindVH (call lo 66 [S.2.1] H0) fun t8 H1 =>
      bindVH (call lo 50 [t6, t8] H1) fun t9 H2 =>
      k (S.1, S.2.1, t9, ()) H2)
  (doneE .ret)))

def F115 (call : CallF) (lo : Nat) (args : List Value) (H : AH) : Option (Value × AH) :=
  leave .all H (bindV (C115 call (lowOf .all lo H) (argAt args 0, argAt args 1, argAt args 4, ()) H) fun p => resE p.1 (some (oneOf [p.2.1.2.2.1], p.2.2)))

theorem F115_eq (call : CallF) (lo : Nat) (args : List Value) (H : AH) : evFn P ctx call lo 115 args H = F115 call lo args H := by kernel_rfl

/-- slices.IndexFunc[[]int,int] -/
def C116 (call : CallF) (lo : Nat) : Piece (Value × Value × Value × Value × Value × Value × Value × Value × Unit) :=
  (seqE (leafE fun S H k =>
      k (S.1, S.2.1, (.int .i64 (.ofNat 0)), S.2.2.2.1, S.2.2.2.2.1, S.2.2.2.2.2.1, S.2.2.2.2.2.2.1, S.2.2.2.2.2.2.2.1, ()) H)
  (seqE (seqE (leafE fun S H k =>
      bindV (evLenS S.1) fun t7 =>
      k (S.1, S.2.1, S.2.2.1, S.2.2.2.1, t7, (.int .i64 (.ofNat 0)), S.2.2.2.2.2.2.1, S.2.2.2.2.2.2.2.1, ()) H)
  (blockE 0 (loopE (seqE (leafE fun S H k =>
        bindV (evLss S.2.2.2.2.2.1 S.2.2.2.2.1) fun t9 =>
        k (S.1, S.2.1, S.2.2.1, S.2.2.2.1, S.2.2.2.2.1, S.2.2.2.2.2.1, t9, S.2.2.2.2.2.2.2.1, ()) H)
    (seqE (condE (fun S => some S.2.2.2.2.2.2.1)
     (doneE .normal)
     (doneE (.exit 0)))
    (seqE (blockE 1 (seqE (leafE fun S H k =>
         k (S.1, S.2.1, S.2.2.1, S.2.2.2.2.2.1, S.2.2.2.2.1, S.2.2.2.2.2.1, S.2.2.2.2.2.2.1, S.2.2.2.2.2.2.2.1, ()) H)
     (seqE (leafE fun S H k =>
         bindV (evIdxSlice 1 S.1 S.2.2.2.1) fun t14 =>
         bindV (evLoad H false 1 t14) fun t15 =>
         callVal call lo S.2.1 [t15] H fun t16 H0 =>
         k (S.1, S.2.1, S.2.2.1, S.2.2.2.1, S.2.2.2.2.1, S.2.2.2.2.2.1, S.2.2.2.2.2.2.1, t16, ()) H0)
     (condE (fun S => some S.2.2.2.2.2.2.2.1)
      (seqE (leafE fun S H k =>
          k (S.1, S.2.1, S.2.2.2.1, S.2.2.2.1, S.2.2.2.2.1, S.2.2.2.2.2.1, S.2.2.2.2.2.2.1, S.2.2.2.2.2.2.2.1, ()) H)
      (doneE .ret))
      (doneE .normal)))))
    (leafE fun S H k =>
        bindV (evAdd S.2.2.2.2.2.1 (.int .i64 (.ofNat 1))) fun t18 =>
        k (S.1, S.2.1, S.2.2.1, S.2.2.2.1, S.2.2.2.2.1, t18, S.2.2.2.2.2.2.1, S.2.2.2.2.2.2.2.1, ()) H)))) fuel)))
  (seqE (leafE fun S H k =>
      k (S.1, S.2.1, (.int .i64 (.negSucc 0)), S.2.2.2.1, S.2.2.2.2.1, S.2.2.2.2.2.1, S.2.2.2.2.2.2.1, S.2.2.2.2.2.2.2.1, ()) H)
  (doneE .ret))))

def F116 (call : CallF) (lo : Nat) (args : List Value) (H : AH) : Option (Value × AH) :=
  leave .all H (bindV (C116 call (lowOf .all lo H) (argAt args 0, argAt args 1, argAt args 4, argAt args 5, argAt args 7, argAt args 8, argAt args 9, argAt args 16, ()) H) fun p => resE p.1 (some (oneOf [p.2.1.2.2.1], p.2.2)))

theorem F116_eq (call : CallF) (lo : Nat) (args : List Value) (H : AH) : evFn P ctx call lo 116 args H = F116 call lo args H := by kernel_rfl

/-- slices.insertionSortCmpFunc[uint] -/
def C117 (call : CallF) (lo : Nat) : Piece (Value × Value × Value × Value × Value × Value × Value × Value × Unit) :=
  (seqE (leafE fun S H k =>
      bindV (evAdd S.2.1 (.int .i64 (.ofNat 1))) fun t11 =>
      k (S.1, S.2.1, S.2.2.1, S.2.2.2.1, t11, S.2.2.2.2.2.1, S.2.2.2.2.2.2.1, S.2.2.2.2.2.2.2.1, ()) H)
  (blockE 0 (loopE (seqE (seqE (leafE fun S H k =>
        bindV (evLss S.2.2.2.2.1 S.2.2.1) fun t14 =>
        k (S.1, S.2.1, S.2.2.1, S.2.2.2.1, S.2.2.2.2.1, S.2.2.2.2.2.1, t14, S.2.2.2.2.2.2.2.1, ()) H)
    (condE (fun S => some S.2.2.2.2.2.2.1)
     (doneE .normal)
     (doneE (.exit 0))))
    (seqE (blockE 1 (seqE (leafE fun S H k =>
         k (S.1, S.2.1, S.2.2.1, S.2.2.2.1, S.2.2.2.2.1, S.2.2.2.2.1, S.2.2.2.2.2.2.1, S.2.2.2.2.2.2.2.1, ()) H)
     (blockE 2 (loopE (seqE (seqE (leafE fun S H k =>
           bindV (evGtr S.2.2.2.2.2.1 S.2.1) fun t20 =>
           guarded t20 true ( pairVH S.2.2.2.1 H) H fun t22 H0 =>
           guarded t20 true ( pairVH S.1 H0) H0 fun t23 H1 =>
           guarded t20 true ( pairVH S.2.2.2.2.2.1 H1) H1 fun t24 H2 =>
           guarded t20 true (bindV (evIdxSlice 1 t23 t24) fun t1000000 => pairVH t1000000 H2) H2 fun t25 H3 =>
           guarded t20 true (bindV (evLoad H3 false 1 t25) fun t1000000 => pairVH t1000000 H3) H3 fun t26 H4 =>
           guarded t20 true ( pairVH S.1 H4) H4 fun t27 H5 =>
           guarded t20 true ( pairVH S.2.2.2.2.2.1 H5) H5 fun t28 H6 =>
           guarded t20 true (bindV (evSub t28 (.int .i64 (.ofNat 1))) fun t1000000 => pairVH t1000000 H6) H6 fun t29 H7 =>
           guarded t20 true (bindV (evIdxSlice 1 t27 t29) fun t1000000 => pairVH t1000000 H7) H7 fun t30 H8 =>
           guarded t20 true (bindV (evLoad H8 false 1 t30) fun t1000000 => pairVH t1000000 H8) H8 fun t31 H9 =>
           guarded t20 true (callVal call lo t22 [t26, t31] H9 fun t1000000 H10 => pairVH t1000000 H10) H9 fun t32 H11 =>
           guarded t20 true (bindV (evLss t32 (.int .i64 (.ofNat 0))) fun t1000000 => pairVH t1000000 H11) H11 fun t33 H12 =>
           bindV (evPick t20 t33 (.bool false)) fun t34 =>
           k (S.1, S.2.1, S.2.2.1, S.2.2.2.1, S.2.2.2.2.1, S.2.2.2.2.2.1, S.2.2.2.2.2.2.1, t34, ()) H12)
       (condE (fun S => some S.2.2.2.2.2.2.2.1)
        (doneE .normal)
        (doneE (.exit 2))))
       (seqE (blockE 3 (leafE fun S H k =>
            bindV (evSub S.2.2.2.2.2.1 (.int .i64 (.ofNat 1))) fun t41 =>
            bindV (evSub S.2.2.2.2.2.1 (.int .i64 (.ofNat 1))) fun t44 =>
            bindV (evIdxSlice 1 S.1 t44) fun t45 =>
            bindV (evLoad H false 1 t45) fun t46 =>
            bindV (evIdxSlice 1 S.1 S.2.2.2.2.2.1) fun t49 =>
            bindV (evLoad H false 1 t49) fun t50 =>
            bindV (evIdxSlice 1 S.1 S.2.2.2.2.2.1) fun t51 =>
            bindV (evStore lo H 1 t51 t46) fun H13 =>
            bindV (evIdxSlice 1 S.1 t41) fun t52 =>
            bindV (evStore lo H13 1 t52 t50) fun H14 =>
            k (S.1, S.2.1, S.2.2.1, S.2.2.2.1, S.2.2.2.2.1, S.2.2.2.2.2.1, S.2.2.2.2.2.2.1, S.2.2.2.2.2.2.2.1, ()) H14))
       (leafE fun S H k =>
           bindV (evSub S.2.2.2.2.2.1 (.int .i64 (.ofNat 1))) fun t36 =>
           k (S.1, S.2.1, S.2.2.1, S.2.2.2.1, S.2.2.2.2.1, t36, S.2.2.2.2.2.2.1, S.2.2.2.2.2.2.2.1, ()) H))) fuel))))
    (leafE fun S H k =>
        bindV (evAdd S.2.2.2.2.1 (.int .i64 (.ofNat 1))) fun t16 =>
        k (S.1, S.2.1, S.2.2.1, S.2.2.2.1, t16, S.2.2.2.2.2.1, S.2.2.2.2.2.2.1, S.2.2.2.2.2.2.2.1, ()) H))) fuel)))

def F117 (call : CallF) (lo : Nat) (args : List Value) (H : AH) : Option (Value × AH) :=
  leave .all H (bindV (C117 call (lowOf .all lo H) (argAt args 0, argAt args 1, argAt args 2, argAt args 3, argAt args 8, argAt args 9, argAt args 14, argAt args 34, ()) H) fun p => resE p.1 (some (oneOf [], p.2.2)))

theorem F117_eq (call : CallF) (lo : Nat) (args : List Value) (H : AH) : evFn P ctx call lo 117 args H = F117 call lo args H := by kernel_rfl

/-- slices.heapSortCmpFunc[uint] -/
def C118 (call : CallF) (lo : Nat) : Piece (Value × Value × Value × Value × Value × Value × Value × Value × Value × Value × Value × Unit) :=
  (seqE (leafE fun S H k =>
      k (S.1, S.2.1, S.2.2.1, S.2.2.2.1, S.2.1, S.2.2.2.2.2.1, S.2.2.2.2.2.2.1, S.2.2.2.2.2.2.2.1, S.2.2.2.2.2.2.2.2.1, S.2.2.2.2.2.2.2.2.2.1, S.2.2.2.2.2.2.2.2.2.2.1, ()) H)
  (seqE (leafE fun S H k =>
      k (S.1, S.2.1, S.2.2.1, S.2.2.2.1, S.2.2.2.2.1, (.int .i64 (.ofNat 0)), S.2.2.2.2.2.2.1, S.2.2.2.2.2.2.2.1, S.2.2.2.2.2.2.2.2.1, S.2.2.2.2.2.2.2.2.2.1, S.2.2.2.2.2.2.2.2.2.2.1, ()) H)
  (seqE (leafE fun S H k =>
      bindV (evSub S.2.2.1 S.2.1) fun t16 =>
      k (S.1, S.2.1, S.2.2.1, S.2.2.2.1, S.2.2.2.2.1, S.2.2.2.2.2.1, t16, S.2.2.2.2.2.2.2.1, S.2.2.2.2.2.2.2.2.1, S.2.2.2.2.2.2.2.2.2.1, S.2.2.2.2.2.2.2.2.2.2.1, ()) H)
  (seqE (seqE (leafE fun S H k =>
      bindV (evSub S.2.2.2.2.2.2.1 (.int .i64 (.ofNat 1))) fun t18 =>
      bindV (evQuo t18 (.int .i64 (.ofNat 2))) fun t19 =>
      k (S.1, S.2.1, S.2.2.1, S.2.2.2.1, S.2.2.2.2.1, S.2.2.2.2.2.1, S.2.2.2.2.2.2.1, t19, S.2.2.2.2.2.2.2.2.1, S.2.2.2.2.2.2.2.2.2.1, S.2.2.2.2.2.2.2.2.2.2.1, ()) H)
  (blockE 0 (loopE (seqE (seqE (leafE fun S H k =>
        bindV (evGeq S.2.2.2.2.2.2.2.1 (.int .i64 (.ofNat 0))) fun t21 =>
        k (S.1, S.2.1, S.2.2.1, S.2.2.2.1, S.2.2.2.2.1, S.2.2.2.2.2.1, S.2.2.2.2.2.2.1, S.2.2.2.2.2.2.2.1, S.2.2.2.2.2.2.2.2.1, t21, S.2.2.2.2.2.2.2.2.2.2.1, ()) H)
    (condE (fun S => some S.2.2.2.2.2.2.2.2.2.1)
     (doneE .normal)
     (doneE (.exit 0))))
    (seqE (blockE 1 (leafE fun S H k =>
         bindVH (call lo 131 [S.1, S.2.2.2.2.2.2.2.1, S.2.2.2.2.2.2.1, S.2.2.2.2.1, S.2.2.2.1] H) fun t29 H0 =>
         k (S.1, S.2.1, S.2.2.1, S.2.2.2.1, S.2.2.2.2.1, S.2.2.2.2.2.1, S.2.2.2.2.2.2.1, S.2.2.2.2.2.2.2.1, S.2.2.2.2.2.2.2.2.1, S.2.2.2.2.2.2.2.2.2.1, S.2.2.2.2.2.2.2.2.2.2.1, ()) H0))
    (leafE fun S H k =>
        bindV (evSub S.2.2.2.2.2.2.2.1 (.int .i64 (.ofNat 1))) fun t23 =>
        k (S.1, S.2.1, S.2.2.1, S.2.2.2.1, S.2.2.2.2.1, S.2.2.2.2.2.1, S.2.2.2.2.2.2.1, t23, S.2.2.2.2.2.2.2.2.1, S.2.2.2.2.2.2.2.2.2.1, S.2.2.2.2.2.2.2.2.2.2.1, ()) H))) fuel)))
  (seqE (leafE fun S H k =>
      bindV (evSub S.2.2.2.2.2.2.1 (.int .i64 (.ofNat 1))) fun t31 =>
      k (S.1, S.2.1, S.2.2.1, S.2.2.2.1, S.2.2.2.2.1, S.2.2.2.2.2.1, S.2.2.2.2.2.2.1, S.2.2.2.2.2.2.2.1, t31, S.2.2.2.2.2.2.2.2.2.1, S.2.2.2.2.2.2.2.2.2.2.1, ()) H)
  (blockE 2 (loopE (seqE (seqE (leafE fun S H k =>
        bindV (evGeq S.2.2.2.2.2.2.2.2.1 (.int .i64 (.ofNat 0))) fun t33 =>
        k (S.1, S.2.1, S.2.2.1, S.2.2.2.1, S.2.2.2.2.1, S.2.2.2.2.2.1, S.2.2.2.2.2.2.1, S.2.2.2.2.2.2.2.1, S.2.2.2.2.2.2.2.2.1, S.2.2.2.2.2.2.2.2.2.1, t33, ()) H)
    (condE (fun S => some S.2.2.2.2.2.2.2.2.2.2.1)
     (doneE .normal)
     (doneE (.exit 2))))
    (seqE (blockE 3 (seqE (leafE fun S H k =>
         bindV (evAdd S.2.2.2.2.1 S.2.2.2.2.2.2.2.2.1) fun t41 =>
         bindV (evAdd S.2.2.2.2.1 S.2.2.2.2.2.2.2.2.1) fun t45 =>
         bindV (evIdxSlice 1 S.1 t45) fun t46 =>
         bindV (evLoad H false 1 t46) fun t47 =>
         bindV (evIdxSlice 1 S.1 S.2.2.2.2.1) fun t50 =>
         bindV (evLoad H false 1 t50) fun t51 =>
         bindV (evIdxSlice 1 S.1 S.2.2.2.2.1) fun t52 =>
         bindV (evStore lo H 1 t52 t47) fun H1 =>
         bindV (evIdxSlice 1 S.1 t41) fun t53 =>
         bindV (evStore lo H1 1 t53 t51) fun H2 =>
         k (S.1, S.2.1, S.2.2.1, S.2.2.2.1, S.2.2.2.2.1, S.2.2.2.2.2.1, S.2.2.2.2.2.2.1, S.2.2.2.2.2.2.2.1, S.2.2.2.2.2.2.2.2.1, S.2.2.2.2.2.2.2.2.2.1, S.2.2.2.2.2.2.2.2.2.2.1, ()) H2)
     (leafE fun S H k =>
         bindVH (call lo 131 [S.1, S.2.2.2.2.2.1, S.2.2.2.2.2.2.2.2.1, S.2.2.2.2.1, S.2.2.2.1] H) fun t59 H3 =>
         k (S.1, S.2.1, S.2.2.1, S.2.2.2.1, S.2.2.2.2.1, S.2.2.2.2.2.1, S.2.2.2.2.2.2.1, S.2.2.2.2.2.2.2.1, S.2.2.2.2.2.2.2.2.1, S.2.2.2.2.2.2.2.2.2.1, S.2.2.2.2.2.2.2.2.2.2.1, ()) H3)))
    (leafE fun S H k =>
        bindV (evSub S.2.2.2.2.2.2.2.2.1 (.int .i64 (.ofNat 1))) fun t35 =>
        k (S.1, S.2.1, S.2.2.1, S.2.2.2.1, S.2.2.2.2.1, S.2.2.2.2.2.1, S.2.2.2.2.2.2.1, S.2.2.2.2.2.2.2.1, t35, S.2.2.2.2.2.2.2.2.2.1, S.2.2.2.2.2.2.2.2.2.2.1, ()) H))) fuel)))))))

def F118 (call : CallF) (lo : Nat) (args : List Value) (H : AH) : Option (Value × AH) :=
  leave .all H (bindV (C118 call (lowOf .all lo H) (argAt args 0, argAt args 1, argAt args 2, argAt args 3, argAt args 8, argAt args 9, argAt args 10, argAt args 11, argAt args 12, argAt args 21, argAt args 33, ()) H) fun p => resE p.1 (some (oneOf [], p.2.2)))

theorem F118_eq (call : CallF) (lo : Nat) (args : List Value) (H : AH) : evFn P ctx call lo 118 args H = F118 call lo args H := by kernel_rfl

/-- slices.breakPatternsCmpFunc[uint] -/
def C119 (call : CallF) (lo : Nat) : Piece (Value × Value × Value × Value × Value × Value × Value × Value × Value × Value × Value × Unit) :=
  (seqE (leafE fun S H k =>
      bindV (evSub S.2.2.1 S.2.1) fun t15 =>
      k (S.1, S.2.1, S.2.2.1, t15, S.2.2.2.2.1, S.2.2.2.2.2.1, S.2.2.2.2.2.2.1, S.2.2.2.2.2.2.2.1, S.2.2.2.2.2.2.2.2.1, S.2.2.2.2.2.2.2.2.2.1, S.2.2.2.2.2.2.2.2.2.2.1, ()) H)
  (seqE (leafE fun S H k =>
      bindV (evGeq S.2.2.2.1 (.int .i64 (.ofNat 8))) fun t17 =>
      k (S.1, S.2.1, S.2.2.1, S.2.2.2.1, S.2.2.2.2.1, S.2.2.2.2.2.1, S.2.2.2.2.2.2.1, S.2.2.2.2.2.2.2.1, t17, S.2.2.2.2.2.2.2.2.2.1, S.2.2.2.2.2.2.2.2.2.2.1, ()) H)
  (condE (fun S => some S.2.2.2.2.2.2.2.2.1)
   (seqE (leafE fun S H k =>
       bindV (evConv .u64 S.2.2.2.1) fun t19 =>
       let t9 := newPtr H
       let H0 := pushBox H 165 (.int .u64 (.ofNat 0))
       bindV (evStore lo H0 1 t9 t19) fun H1 =>
       k (S.1, S.2.1, S.2.2.1, S.2.2.2.1, t9, S.2.2.2.2.2.1, S.2.2.2.2.2.2.1, S.2.2.2.2.2.2.2.1, S.2.2.2.2.2.2.2.2.1, S.2.2.2.2.2.2.2.2.2.1, S.2.2.2.2.2.2.2.2.2.2.1, ()) H1)
   (seqE (leafE fun S H k =>
       bindVH (call lo 127 [S.2.2.2.1] H) fun t21 H2 =>
       k (S.1, S.2.1, S.2.2.1, S.2.2.2.1, S.2.2.2.2.1, t21, S.2.2.2.2.2.2.1, S.2.2.2.2.2.2.2.1, S.2.2.2.2.2.2.2.2.1, S.2.2.2.2.2.2.2.2.2.1, S.2.2.2.2.2.2.2.2.2.2.1, ()) H2)
   (seqE (leafE fun S H k =>
       bindV (evQuo S.2.2.2.1 (.int .i64 (.ofNat 4))) fun t24 =>
       bindV (evMul t24 (.int .i64 (.ofNat 2))) fun t25 =>
       bindV (evAdd S.2.1 t25) fun t26 =>
       bindV (evSub t26 (.int .i64 (.ofNat 1))) fun t27 =>
       k (S.1, S.2.1, S.2.2.1, S.2.2.2.1, S.2.2.2.2.1, S.2.2.2.2.2.1, t27, S.2.2.2.2.2.2.2.1, S.2.2.2.2.2.2.2.2.1, S.2.2.2.2.2.2.2.2.2.1, S.2.2.2.2.2.2.2.2.2.2.1, ()) H)
   (blockE 0 (loopE (seqE (seqE (leafE fun S H k =>
         bindV (evQuo S.2.2.2.1 (.int .i64 (.ofNat 4))) fun t31 =>
         bindV (evMul t31 (.int .i64 (.ofNat 2))) fun t32 =>
         bindV (evAdd S.2.1 t32) fun t33 =>
         bindV (evAdd t33 (.int .i64 (.ofNat 1))) fun t34 =>
         bindV (evLeq S.2.2.2.2.2.2.1 t34) fun t35 =>
         k (S.1, S.2.1, S.2.2.1, S.2.2.2.1, S.2.2.2.2.1, S.2.2.2.2.2.1, S.2.2.2.2.2.2.1, S.2.2.2.2.2.2.2.1, S.2.2.2.2.2.2.2.2.1, t35, S.2.2.2.2.2.2.2.2.2.2.1, ()) H)
     (condE (fun S => some S.2.2.2.2.2.2.2.2.2.1)
      (doneE .normal)
      (doneE (.exit 0))))
     (seqE (blockE 1 (seqE (leafE fun S H k =>
          bindVH (call lo 128 [S.2.2.2.2.1] H) fun t38 H3 =>
          bindV (evSub S.2.2.2.2.2.1 (.int .u64 (.ofNat 1))) fun t40 =>
          bindV (evAnd t38 t40) fun t41 =>
          bindV (evConv .i64 t41) fun t42 =>
          k (S.1, S.2.1, S.2.2.1, S.2.2.2.1, S.2.2.2.2.1, S.2.2.2.2.2.1, S.2.2.2.2.2.2.1, t42, S.2.2.2.2.2.2.2.2.1, S.2.2.2.2.2.2.2.2.2.1, S.2.2.2.2.2.2.2.2.2.2.1, ()) H3)
      (seqE (seqE (leafE fun S H k =>
          bindV (evGeq S.2.2.2.2.2.2.2.1 S.2.2.2.1) fun t45 =>
          k (S.1, S.2.1, S.2.2.1, S.2.2.2.1, S.2.2.2.2.1, S.2.2.2.2.2.1, S.2.2.2.2.2.2.1, S.2.2.2.2.2.2.2.1, S.2.2.2.2.2.2.2.2.1, S.2.2.2.2.2.2.2.2.2.1, t45, ()) H)
      (condE (fun S => some S.2.2.2.2.2.2.2.2.2.2.1)
       (leafE fun S H k =>
           bindV (evSub S.2.2.2.2.2.2.2.1 S.2.2.2.1) fun t48 =>
           k (S.1, S.2.1, S.2.2.1, S.2.2.2.1, S.2.2.2.2.1, S.2.2.2.2.2.1, S.2.2.2.2.2.2.1, t48, S.2.2.2.2.2.2.2.2.1, S.2.2.2.2.2.2.2.2.2.1, S.2.2.2.2.2.2.2.2.2.2.1, ()) H)
       (doneE .normal)))
      (leafE fun S H k =>
          bindV (evAdd S.2.1 S.2.2.2.2.2.2.2.1) fun t54 =>
          bindV (evAdd S.2.1 S.2.2.2.2.2.2.2.1) fun t58 =>
          bindV (evIdxSlice 1 S.1 t58) fun t59 =>
          bindV (evLoad H false 1 t59) fun t60 =>
          bindV (evIdxSlice 1 S.1 S.2.2.2.2.2.2.1) fun t63 =>
          bindV (evLoad H false 1 t63) fun t64 =>
          bindV (evIdxSlice 1 S.1 S.2.2.2.2.2.2.1) fun t65 =>
          bindV (evStore lo H 1 t65 t60) fun H4 =>
          bindV (evIdxSlice 1 S.1 t54) fun t66 =>
          bindV (evStore lo H4 1 t66 t64) fun H5 =>
          k (S.1, S.2.1, S.2.2.1, S.2.2.2.1, S.2.2.2.2.1, S.2.2.2.2.2.1, S.2.2.2.2.2.2.1, S.2.2.2.2.2.2.2.1, S.2.2.2.2.2.2.2.2.1, S.2.2.2.2.2.2.2.2.2.1, S.2.2.2.2.2.2.2.2.2.2.1, ()) H5))))
     (leafE fun S H k =>
         bindV (evAdd S.2.2.2.2.2.2.1 (.int .i64 (.ofNat 1))) fun t37 =>
         k (S.1, S.2.1, S.2.2.1, S.2.2.2.1, S.2.2.2.2.1, S.2.2.2.2.2.1, t37, S.2.2.2.2.2.2.2.1, S.2.2.2.2.2.2.2.2.1, S.2.2.2.2.2.2.2.2.2.1, S.2.2.2.2.2.2.2.2.2.2.1, ()) H))) fuel)))))
   (doneE .normal))))

def F119 (call : CallF) (lo : Nat) (args : List Value) (H : AH) : Option (Value × AH) :=
  leave .all H (bindV (C119 call (lowOf .all lo H) (argAt args 0, argAt args 1, argAt args 2, argAt args 8, argAt args 9, argAt args 10, argAt args 11, argAt args 12, argAt args 17, argAt args 35, argAt args 45, ()) H) fun p => resE p.1 (some (oneOf [], p.2.2)))

theorem F119_eq (call : CallF) (lo : Nat) (args : List Value) (H : AH) : evFn P ctx call lo 119 args H = F119 call lo args H := by kernel_rfl

/-- slices.choosePivotCmpFunc[uint] -/
def C120 (call : CallF) (lo : Nat) : Piece (Value × Value × Value × Value × Value × Value × Value × Value × Value × Value × Value × Value × Value × Value × Value × Value × Unit) :=
  (seqE (leafE fun S H k =>
      k (S.1, S.2.1, S.2.2.1, S.2.2.2.1, (.int .i64 (.ofNat 0)), (.int .i64 (.ofNat 0)), S.2.2.2.2.2.2.1, S.2.2.2.2.2.2.2.1, S.2.2.2.2.2.2.2.2.1, S.2.2.2.2.2.2.2.2.2.1, S.2.2.2.2.2.2.2.2.2.2.1, S.2.2.2.2.2.2.2.2.2.2.2.1, S.2.2.2.2.2.2.2.2.2.2.2.2.1, S.2.2.2.2.2.2.2.2.2.2.2.2.2.1, S.2.2.2.2.2.2.2.2.2.2.2.2.2.2.1, S.2.2.2.2.2.2.2.2.2.2.2.2.2.2.2.1, ()) H)
  (seqE (leafE fun S H k =>
      bindV (evSub S.2.2.1 S.2.1) fun t17 =>
      k (S.1, S.2.1, S.2.2.1, S.2.2.2.1, S.2.2.2.2.1, S.2.2.2.2.2.1, t17, S.2.2.2.2.2.2.2.1, S.2.2.2.2.2.2.2.2.1, S.2.2.2.2.2.2.2.2.2.1, S.2.2.2.2.2.2.2.2.2.2.1, S.2.2.2.2.2.2.2.2.2.2.2.1, S.2.2.2.2.2.2.2.2.2.2.2.2.1, S.2.2.2.2.2.2.2.2.2.2.2.2.2.1, S.2.2.2.2.2.2.2.2.2.2.2.2.2.2.1, S.2.2.2.2.2.2.2.2.2.2.2.2.2.2.2.1, ()) H)
  (seqE (leafE fun S H k =>
      let t11 := newPtr H
      let H0 := pushBox H 3 (.int .i64 (.ofNat 0))
      k (S.1, S.2.1, S.2.2.1, S.2.2.2.1, S.2.2.2.2.1, S.2.2.2.2.2.1, S.2.2.2.2.2.2.1, t11, S.2.2.2.2.2.2.2.2.1, S.2.2.2.2.2.2.2.2.2.1, S.2.2.2.2.2.2.2.2.2.2.1, S.2.2.2.2.2.2.2.2.2.2.2.1, S.2.2.2.2.2.2.2.2.2.2.2.2.1, S.2.2.2.2.2.2.2.2.2.2.2.2.2.1, S.2.2.2.2.2.2.2.2.2.2.2.2.2.2.1, S.2.2.2.2.2.2.2.2.2.2.2.2.2.2.2.1, ()) H0)
  (seqE (leafE fun S H k =>
      bindV (evQuo S.2.2.2.2.2.2.1 (.int .i64 (.ofNat 4))) fun t20 =>
      bindV (evMul t20 (.int .i64 (.ofNat 1))) fun t21 =>
      bindV (evAdd S.2.1 t21) fun t22 =>
      k (S.1, S.2.1, S.2.2.1, S.2.2.2.1, S.2.2.2.2.1, S.2.2.2.2.2.1, S.2.2.2.2.2.2.1, S.2.2.2.2.2.2.2.1, t22, S.2.2.2.2.2.2.2.2.2.1, S.2.2.2.2.2.2.2.2.2.2.1, S.2.2.2.2.2.2.2.2.2.2.2.1, S.2.2.2.2.2.2.2.2.2.2.2.2.1, S.2.2.2.2.2.2.2.2.2.2.2.2.2.1, S.2.2.2.2.2.2.2.2.2.2.2.2.2.2.1, S.2.2.2.2.2.2.2.2.2.2.2.2.2.2.2.1, ()) H)
  (seqE (leafE fun S H k =>
      bindV (evQuo S.2.2.2.2.2.2.1 (.int .i64 (.ofNat 4))) fun t25 =>
      bindV (evMul t25 (.int .i64 (.ofNat 2))) fun t26 =>
      bindV (evAdd S.2.1 t26) fun t27 =>
      k (S.1, S.2.1, S.2.2.1, S.2.2.2.1, S.2.2.2.2.1, S.2.2.2.2.2.1, S.2.2.2.2.2.2.1, S.2.2.2.2.2.2.2.1, S.2.2.2.2.2.2.2.2.1, t27, S.2.2.2.2.2.2.2.2.2.2.1, S.2.2.2.2.2.2.2.2.2.2.2.1, S.2.2.2.2.2.2.2.2.2.2.2.2.1, S.2.2.2.2.2.2.2.2.2.2.2.2.2.1, S.2.2.2.2.2.2.2.2.2.2.2.2.2.2.1, S.2.2.2.2.2.2.2.2.2.2.2.2.2.2.2.1, ()) H)
  (seqE (leafE fun S H k =>
      bindV (evQuo S.2.2.2.2.2.2.1 (.int .i64 (.ofNat 4))) fun t30 =>
      bindV (evMul t30 (.int .i64 (.ofNat 3))) fun t31 =>
      bindV (evAdd S.2.1 t31) fun t32 =>
      k (S.1, S.2.1, S.2.2.1, S.2.2.2.1, S.2.2.2.2.1, S.2.2.2.2.2.1, S.2.2.2.2.2.2.1, S.2.2.2.2.2.2.2.1, S.2.2.2.2.2.2.2.2.1, S.2.2.2.2.2.2.2.2.2.1, t32, S.2.2.2.2.2.2.2.2.2.2.2.1, S.2.2.2.2.2.2.2.2.2.2.2.2.1, S.2.2.2.2.2.2.2.2.2.2.2.2.2.1, S.2.2.2.2.2.2.2.2.2.2.2.2.2.2.1, S.2.2.2.2.2.2.2.2.2.2.2.2.2.2.2.1, ()) H)
  (seqE (seqE (leafE fun S H k =>
      bindV (evGeq S.2.2.2.2.2.2.1 (.int .i64 (.ofNat 8))) fun t34 =>
      k (S.1, S.2.1, S.2.2.1, S.2.2.2.1, S.2.2.2.2.1, S.2.2.2.2.2.1, S.2.2.2.2.2.2.1, S.2.2.2.2.2.2.2.1, S.2.2.2.2.2.2.2.2.1, S.2.2.2.2.2.2.2.2.2.1, S.2.2.2.2.2.2.2.2.2.2.1, t34, S.2.2.2.2.2.2.2.2.2.2.2.2.1, S.2.2.2.2.2.2.2.2.2.2.2.2.2.1, S.2.2.2.2.2.2.2.2.2.2.2.2.2.2.1, S.2.2.2.2.2.2.2.2.2.2.2.2.2.2.2.1, ()) H)
  (condE (fun S => some S.2.2.2.2.2.2.2.2.2.2.2.1)
   (seqE (seqE (leafE fun S H k =>
       bindV (evGeq S.2.2.2.2.2.2.1 (.int .i64 (.ofNat 50))) fun t36 =>
       k (S.1, S.2.1, S.2.2.1, S.2.2.2.1, S.2.2.2.2.1, S.2.2.2.2.2.1, S.2.2.2.2.2.2.1, S.2.2.2.2.2.2.2.1, S.2.2.2.2.2.2.2.2.1, S.2.2.2.2.2.2.2.2.2.1, S.2.2.2.2.2.2.2.2.2.2.1, S.2.2.2.2.2.2.2.2.2.2.2.1, t36, S.2.2.2.2.2.2.2.2.2.2.2.2.2.1, S.2.2.2.2.2.2.2.2.2.2.2.2.2.2.1, S.2.2.2.2.2.2.2.2.2.2.2.2.2.2.2.1, ()) H)
   (condE (fun S => some S.2.2.2.2.2.2.2.2.2.2.2.2.1)
    (seqE (leafE fun S H k =>
        bindVH (call lo 132 [S.1, S.2.2.2.2.2.2.2.2.1, S.2.2.2.2.2.2.2.1, S.2.2.2.1] H) fun t40 H1 =>
        k (S.1, S.2.1, S.2.2.1, S.2.2.2.1, S.2.2.2.2.1, S.2.2.2.2.2.1, S.2.2.2.2.2.2.1, S.2.2.2.2.2.2.2.1, t40, S.2.2.2.2.2.2.2.2.2.1, S.2.2.2.2.2.2.2.2.2.2.1, S.2.2.2.2.2.2.2.2.2.2.2.1, S.2.2.2.2.2.2.2.2.2.2.2.2.1, S.2.2.2.2.2.2.2.2.2.2.2.2.2.1, S.2.2.2.2.2.2.2.2.2.2.2.2.2.2.1, S.2.2.2.2.2.2.2.2.2.2.2.2.2.2.2.1, ()) H1)
    (seqE (leafE fun S H k =>
        bindVH (call lo 132 [S.1, S.2.2.2.2.2.2.2.2.2.1, S.2.2.2.2.2.2.2.1, S.2.2.2.1] H) fun t44 H2 =>
        k (S.1, S.2.1, S.2.2.1, S.2.2.2.1, S.2.2.2.2.1, S.2.2.2.2.2.1, S.2.2.2.2.2.2.1, S.2.2.2.2.2.2.2.1, S.2.2.2.2.2.2.2.2.1, t44, S.2.2.2.2.2.2.2.2.2.2.1, S.2.2.2.2.2.2.2.2.2.2.2.1, S.2.2.2.2.2.2.2.2.2.2.2.2.1, S.2.2.2.2.2.2.2.2.2.2.2.2.2.1, S.2.2.2.2.2.2.2.2.2.2.2.2.2.2.1, S.2.2.2.2.2.2.2.2.2.2.2.2.2.2.2.1, ()) H2)
    (leafE fun S H k =>
        bindVH (call lo 132 [S.1, S.2.2.2.2.2.2.2.2.2.2.1, S.2.2.2.2.2.2.2.1, S.2.2.2.1] H) fun t48 H3 =>
        k (S.1, S.2.1, S.2.2.1, S.2.2.2.1, S.2.2.2.2.1, S.2.2.2.2.2.1, S.2.2.2.2.2.2.1, S.2.2.2.2.2.2.2.1, S.2.2.2.2.2.2.2.2.1, S.2.2.2.2.2.2.2.2.2.1, t48, S.2.2.2.2.2.2.2.2.2.2.2.1, S.2.2.2.2.2.2.2.2.2.2.2.2.1, S.2.2.2.2.2.2.2.2.2.2.2.2.2.1, S.2.2.2.2.2.2.2.2.2.2.2.2.2.2.1, S.2.2.2.2.2.2.2.2.2.2.2.2.2.2.2.1, ()) H3)))
    (doneE .normal)))
   (leafE fun S H k =>
       bindVH (call lo 133 [S.1, S.2.2.2.2.2.2.2.2.1, S.2.2.2.2.2.2.2.2.2.1, S.2.2.2.2.2.2.2.2.2.2.1, S.2.2.2.2.2.2.2.1, S.2.2.2.1] H) fun t54 H4 =>
       k (S.1, S.2.1, S.2.2.1, S.2.2.2.1, S.2.2.2.2.1, S.2.2.2.2.2.1, S.2.2.2.2.2.2.1, S.2.2.2.2.2.2.2.1, S.2.2.2.2.2.2.2.2.1, t54, S.2.2.2.2.2.2.2.2.2.2.1, S.2.2.2.2.2.2.2.2.2.2.2.1, S.2.2.2.2.2.2.2.2.2.2.2.2.1, S.2.2.2.2.2.2.2.2.2.2.2.2.2.1, S.2.2.2.2.2.2.2.2.2.2.2.2.2.2.1, S.2.2.2.2.2.2.2.2.2.2.2.2.2.2.2.1, ()) H4))
   (doneE .normal)))
  (seqE (leafE fun S H k =>
      bindV (evLoad H false 1 S.2.2.2.2.2.2.2.1) fun t55 =>
      k (S.1, S.2.1, S.2.2.1, S.2.2.2.1, S.2.2.2.2.1, S.2.2.2.2.2.1, S.2.2.2.2.2.2.1, S.2.2.2.2.2.2.2.1, S.2.2.2.2.2.2.2.2.1, S.2.2.2.2.2.2.2.2.2.1, S.2.2.2.2.2.2.2.2.2.2.1, S.2.2.2.2.2.2.2.2.2.2.2.1, S.2.2.2.2.2.2.2.2.2.2.2.2.1, t55, S.2.2.2.2.2.2.2.2.2.2.2.2.2.2.1, S.2.2.2.2.2.2.2.2.2.2.2.2.2.2.2.1, ()) H)
  (blockE 0 (seqE (leafE fun S H k =>
       bindV (evEql .int S.2.2.2.2.2.2.2.2.2.2.2.2.2.1 (.int .i64 (.ofNat 0))) fun t58 =>
       k (S.1, S.2.1, S.2.2.1, S.2.2.2.1, S.2.2.2.2.1, S.2.2.2.2.2.1, S.2.2.2.2.2.2.1, S.2.2.2.2.2.2.2.1, S.2.2.2.2.2.2.2.2.1, S.2.2.2.2.2.2.2.2.2.1, S.2.2.2.2.2.2.2.2.2.2.1, S.2.2.2.2.2.2.2.2.2.2.2.1, S.2.2.2.2.2.2.2.2.2.2.2.2.1, S.2.2.2.2.2.2.2.2.2.2.2.2.2.1, t58, S.2.2.2.2.2.2.2.2.2.2.2.2.2.2.2.1, ()) H)
   (condE (fun S => some S.2.2.2.2.2.2.2.2.2.2.2.2.2.2.1)
    (seqE (leafE fun S H k =>
        k (S.1, S.2.1, S.2.2.1, S.2.2.2.1, S.2.2.2.2.2.2.2.2.2.1, (.int .i64 (.ofNat 1)), S.2.2.2.2.2.2.1, S.2.2.2.2.2.2.2.1, S.2.2.2.2.2.2.2.2.1, S.2.2.2.2.2.2.2.2.2.1, S.2.2.2.2.2.2.2.2.2.2.1, S.2.2.2.2.2.2.2.2.2.2.2.1, S.2.2.2.2.2.2.2.2.2.2.2.2.1, S.2.2.2.2.2.2.2.2.2.2.2.2.2.1, S.2.2.2.2.2.2.2.2.2.2.2.2.2.2.1, S.2.2.2.2.2.2.2.2.2.2.2.2.2.2.2.1, ()) H)
    (doneE .ret))
    (seqE (leafE fun S H k =>
        bindV (evEql .int S.2.2.2.2.2.2.2.2.2.2.2.2.2.1 (.int .i64 (.ofNat 12))) fun t61 =>
        k (S.1, S.2.1, S.2.2.1, S.2.2.2.1, S.2.2.2.2.1, S.2.2.2.2.2.1, S.2.2.2.2.2.2.1, S.2.2.2.2.2.2.2.1, S.2.2.2.2.2.2.2.2.1, S.2.2.2.2.2.2.2.2.2.1, S.2.2.2.2.2.2.2.2.2.2.1, S.2.2.2.2.2.2.2.2.2.2.2.1, S.2.2.2.2.2.2.2.2.2.2.2.2.1, S.2.2.2.2.2.2.2.2.2.2.2.2.2.1, S.2.2.2.2.2.2.2.2.2.2.2.2.2.2.1, t61, ()) H)
    (condE (fun S => some S.2.2.2.2.2.2.2.2.2.2.2.2.2.2.2.1)
     (seqE (leafE fun S H k =>
         k (S.1, S.2.1, S.2.2.1, S.2.2.2.1, S.2.2.2.2.2.2.2.2.2.1, (.int .i64 (.ofNat 2)), S.2.2.2.2.2.2.1, S.2.2.2.2.2.2.2.1, S.2.2.2.2.2.2.2.2.1, S.2.2.2.2.2.2.2.2.2.1, S.2.2.2.2.2.2.2.2.2.2.1, S.2.2.2.2.2.2.2.2.2.2.2.1, S.2.2.2.2.2.2.2.2.2.2.2.2.1, S.2.2.2.2.2.2.2.2.2.2.2.2.2.1, S.2.2.2.2.2.2.2.2.2.2.2.2.2.2.1, S.2.2.2.2.2.2.2.2.2.2.2.2.2.2.2.1, ()) H)
     (doneE .ret))
     (seqE (leafE fun S H k =>
         k (S.1, S.2.1, S.2.2.1, S.2.2.2.1, S.2.2.2.2.2.2.2.2.2.1, (.int .i64 (.ofNat 0)), S.2.2.2.2.2.2.1, S.2.2.2.2.2.2.2.1, S.2.2.2.2.2.2.2.2.1, S.2.2.2.2.2.2.2.2.2.1, S.2.2.2.2.2.2.2.2.2.2.1, S.2.2.2.2.2.2.2.2.2.2.2.1, S.2.2.2.2.2.2.2.2.2.2.2.2.1, S.2.2.2.2.2.2.2.2.2.2.2.2.2.1, S.2.2.2.2.2.2.2.2.2.2.2.2.2.2.1, S.2.2.2.2.2.2.2.2.2.2.2.2.2.2.2.1, ()) H)
     (doneE .ret)))))))))))))))

def F120 (call : CallF) (lo : Nat) (args : List Value) (H : AH) : Option (Value × AH) :=
  leave .all H (bindV (C120 call (lowOf .all lo H) (argAt args 0, argAt args 1, argAt args 2, argAt args 3, argAt args 8, argAt args 9, argAt args 10, argAt args 11, argAt args 12, argAt args 13, argAt args 14, argAt args 34, argAt args 36, argAt args 55, argAt args 57, argAt args 60, ()) H) fun p => resE p.1 (some (oneOf [p.2.1.2.2.2.2.1, p.2.1.2.2.2.2.2.1], p.2.2)))

theorem F120_eq (call : CallF) (lo : Nat) (args : List Value) (H : AH) : evFn P ctx call lo 120 args H = F120 call lo args H := by kernel_rfl

/-- slices.reverseRangeCmpFunc[uint] -/
def C121 (call : CallF) (lo : Nat) : Piece (Value × Value × Value × Value × Value × Value × Unit) :=
  (seqE (leafE fun S H k =>
      k (S.1, S.2.1, S.2.2.1, S.2.1, S.2.2.2.2.1, S.2.2.2.2.2.1, ()) H)
  (seqE (leafE fun S H k =>
      bindV (evSub S.2.2.1 (.int .i64 (.ofNat 1))) fun t12 =>
      k (S.1, S.2.1, S.2.2.1, S.2.2.2.1, t12, S.2.2.2.2.2.1, ()) H)
  (blockE 0 (loopE (seqE (seqE (leafE fun S H k =>
        bindV (evLss S.2.2.2.1 S.2.2.2.2.1) fun t15 =>
        k (S.1, S.2.1, S.2.2.1, S.2.2.2.1, S.2.2.2.2.1, t15, ()) H)
    (condE (fun S => some S.2.2.2.2.2.1)
     (doneE .normal)
     (doneE (.exit 0))))
    (blockE 1 (seqE (leafE fun S H k =>
         bindV (evIdxSlice 1 S.1 S.2.2.2.2.1) fun t22 =>
         bindV (evLoad H false 1 t22) fun t23 =>
         bindV (evIdxSlice 1 S.1 S.2.2.2.1) fun t26 =>
         bindV (evLoad H false 1 t26) fun t27 =>
         bindV (evIdxSlice 1 S.1 S.2.2.2.1) fun t28 =>
         bindV (evStore lo H 1 t28 t23) fun H0 =>
         bindV (evIdxSlice 1 S.1 S.2.2.2.2.1) fun t29 =>
         bindV (evStore lo H0 1 t29 t27) fun H1 =>
         k (S.1, S.2.1, S.2.2.1, S.2.2.2.1, S.2.2.2.2.1, S.2.2.2.2.2.1, ()) H1)
     (seqE (leafE fun S H k =>
         bindV (evAdd S.2.2.2.1 (.int .i64 (.ofNat 1))) fun t31 =>
         k (S.1, S.2.1, S.2.2.1, t31, S.2.2.2.2.1, S.2.2.2.2.2.1, ()) H)
     (leafE fun S H k =>
         bindV (evSub S.2.2.2.2.1 (.int .i64 (.ofNat 1))) fun t33 =>
         k (S.1, S.2.1, S.2.2.1, S.2.2.2.1, t33, S.2.2.2.2.2.1, ()) H))))) fuel))))

def F121 (call : CallF) (lo : Nat) (args : List Value) (H : AH) : Option (Value × AH) :=
  leave .all H (bindV (C121 call (lowOf .all lo H) (argAt args 0, argAt args 1, argAt args 2, argAt args 8, argAt args 9, argAt args 15, ()) H) fun p => resE p.1 (some (oneOf [], p.2.2)))

theorem F121_eq (call : CallF) (lo : Nat) (args : List Value) (H : AH) : evFn P ctx call lo 121 args H = F121 call lo args H := by kernel_rfl

/-- slices.partialInsertionSortCmpFunc[uint] -/
def C122 (call : CallF) (lo : Nat) : Piece (Value × Value × Value × Value × Value × Value × Value × Value × Value × Value × Value × Value × Value × Value × Value × Value × Value × Value × Value × Unit) :=
  (seqE (leafE fun S H k =>
      k (S.1, S.2.1, S.2.2.1, S.2.2.2.1, (.bool false), S.2.2.2.2.2.1, S.2.2.2.2.2.2.1, S.2.2.2.2.2.2.2.1, S.2.2.2.2.2.2.2.2.1, S.2.2.2.2.2.2.2.2.2.1, S.2.2.2.2.2.2.2.2.2.2.1, S.2.2.2.2.2.2.2.2.2.2.2.1, S.2.2.2.2.2.2.2.2.2.2.2.2.1, S.2.2.2.2.2.2.2.2.2.2.2.2.2.1, S.2.2.2.2.2.2.2.2.2.2.2.2.2.2.1, S.2.2.2.2.2.2.2.2.2.2.2.2.2.2.2.1, S.2.2.2.2.2.2.2.2.2.2.2.2.2.2.2.2.1, S.2.2.2.2.2.2.2.2.2.2.2.2.2.2.2.2.2.1, S.2.2.2.2.2.2.2.2.2.2.2.2.2.2.2.2.2.2.1, ()) H)
  (seqE (leafE fun S H k =>
      bindV (evAdd S.2.1 (.int .i64 (.ofNat 1))) fun t14 =>
      k (S.1, S.2.1, S.2.2.1, S.2.2.2.1, S.2.2.2.2.1, t14, S.2.2.2.2.2.2.1, S.2.2.2.2.2.2.2.1, S.2.2.2.2.2.2.2.2.1, S.2.2.2.2.2.2.2.2.2.1, S.2.2.2.2.2.2.2.2.2.2.1, S.2.2.2.2.2.2.2.2.2.2.2.1, S.2.2.2.2.2.2.2.2.2.2.2.2.1, S.2.2.2.2.2.2.2.2.2.2.2.2.2.1, S.2.2.2.2.2.2.2.2.2.2.2.2.2.2.1, S.2.2.2.2.2.2.2.2.2.2.2.2.2.2.2.1, S.2.2.2.2.2.2.2.2.2.2.2.2.2.2.2.2.1, S.2.2.2.2.2.2.2.2.2.2.2.2.2.2.2.2.2.1, S.2.2.2.2.2.2.2.2.2.2.2.2.2.2.2.2.2.2.1, ()) H)
  (seqE (seqE (leafE fun S H k =>
      k (S.1, S.2.1, S.2.2.1, S.2.2.2.1, S.2.2.2.2.1, S.2.2.2.2.2.1, (.int .i64 (.ofNat 0)), S.2.2.2.2.2.2.2.1, S.2.2.2.2.2.2.2.2.1, S.2.2.2.2.2.2.2.2.2.1, S.2.2.2.2.2.2.2.2.2.2.1, S.2.2.2.2.2.2.2.2.2.2.2.1, S.2.2.2.2.2.2.2.2.2.2.2.2.1, S.2.2.2.2.2.2.2.2.2.2.2.2.2.1, S.2.2.2.2.2.2.2.2.2.2.2.2.2.2.1, S.2.2.2.2.2.2.2.2.2.2.2.2.2.2.2.1, S.2.2.2.2.2.2.2.2.2.2.2.2.2.2.2.2.1, S.2.2.2.2.2.2.2.2.2.2.2.2.2.2.2.2.2.1, S.2.2.2.2.2.2.2.2.2.2.2.2.2.2.2.2.2.2.1, ()) H)
  (blockE 0 (loopE (seqE (seqE (leafE fun S H k =>
        bindV (evLss S.2.2.2.2.2.2.1 (.int .i64 (.ofNat 5))) fun t16 =>
        k (S.1, S.2.1, S.2.2.1, S.2.2.2.1, S.2.2.2.2.1, S.2.2.2.2.2.1, S.2.2.2.2.2.2.1, S.2.2.2.2.2.2.2.1, S.2.2.2.2.2.2.2.2.1, t16, S.2.2.2.2.2.2.2.2.2.2.1, S.2.2.2.2.2.2.2.2.2.2.2.1, S.2.2.2.2.2.2.2.2.2.2.2.2.1, S.2.2.2.2.2.2.2.2.2.2.2.2.2.1, S.2.2.2.2.2.2.2.2.2.2.2.2.2.2.1, S.2.2.2.2.2.2.2.2.2.2.2.2.2.2.2.1, S.2.2.2.2.2.2.2.2.2.2.2.2.2.2.2.2.1, S.2.2.2.2.2.2.2.2.2.2.2.2.2.2.2.2.2.1, S.2.2.2.2.2.2.2.2.2.2.2.2.2.2.2.2.2.2.1, ()) H)
    (condE (fun S => some S.2.2.2.2.2.2.2.2.2.1)
     (doneE .normal)
     (doneE (.exit 0))))
    (seqE (blockE 1 (seqE (blockE 2 (loopE (seqE (seqE (leafE fun S H k =>
           bindV (evLss S.2.2.2.2.2.1 S.2.2.1) fun t21 =>
           guarded t21 true ( pairVH S.2.2.2.1 H) H fun t23 H0 =>
           guarded t21 true ( pairVH S.1 H0) H0 fun t24 H1 =>
           guarded t21 true ( pairVH S.2.2.2.2.2.1 H1) H1 fun t25 H2 =>
           guarded t21 true (bindV (evIdxSlice 1 t24 t25) fun t1000000 => pairVH t1000000 H2) H2 fun t26 H3 =>
           guarded t21 true (bindV (evLoad H3 false 1 t26) fun t1000000 => pairVH t1000000 H3) H3 fun t27 H4 =>
           guarded t21 true ( pairVH S.1 H4) H4 fun t28 H5 =>
           guarded t21 true ( pairVH S.2.2.2.2.2.1 H5) H5 fun t29 H6 =>
           guarded t21 true (bindV (evSub t29 (.int .i64 (.ofNat 1))) fun t1000000 => pairVH t1000000 H6) H6 fun t30 H7 =>
           guarded t21 true (bindV (evIdxSlice 1 t28 t30) fun t1000000 => pairVH t1000000 H7) H7 fun t31 H8 =>
           guarded t21 true (bindV (evLoad H8 false 1 t31) fun t1000000 => pairVH t1000000 H8) H8 fun t32 H9 =>
           guarded t21 true (callVal call lo t23 [t27, t32] H9 fun t1000000 H10 => pairVH t1000000 H10) H9 fun t33 H11 =>
           guarded t21 true (bindV (evLss t33 (.int .i64 (.ofNat 0))) fun t1000000 => pairVH t1000000 H11) H11 fun t34 H12 =>
           guarded t21 true (bindV (evNot t34) fun t1000000 => pairVH t1000000 H12) H12 fun t35 H13 =>
           bindV (evPick t21 t35 (.bool false)) fun t36 =>
           k (S.1, S.2.1, S.2.2.1, S.2.2.2.1, S.2.2.2.2.1, S.2.2.2.2.2.1, S.2.2.2.2.2.2.1, S.2.2.2.2.2.2.2.1, S.2.2.2.2.2.2.2.2.1, S.2.2.2.2.2.2.2.2.2.1, t36, S.2.2.2.2.2.2.2.2.2.2.2.1, S.2.2.2.2.2.2.2.2.2.2.2.2.1, S.2.2.2.2.2.2.2.2.2.2.2.2.2.1, S.2.2.2.2.2.2.2.2.2.2.2.2.2.2.1, S.2.2.2.2.2.2.2.2.2.2.2.2.2.2.2.1, S.2.2.2.2.2.2.2.2.2.2.2.2.2.2.2.2.1, S.2.2.2.2.2.2.2.2.2.2.2.2.2.2.2.2.2.1, S.2.2.2.2.2.2.2.2.2.2.2.2.2.2.2.2.2.2.1, ()) H13)
       (condE (fun S => some S.2.2.2.2.2.2.2.2.2.2.1)
        (doneE .normal)
        (doneE (.exit 2))))
       (blockE 3 (leafE fun S H k =>
            bindV (evAdd S.2.2.2.2.2.1 (.int .i64 (.ofNat 1))) fun t38 =>
            k (S.1, S.2.1, S.2.2.1, S.2.2.2.1, S.2.2.2.2.1, t38, S.2.2.2.2.2.2.1, S.2.2.2.2.2.2.2.1, S.2.2.2.2.2.2.2.2.1, S.2.2.2.2.2.2.2.2.2.1, S.2.2.2.2.2.2.2.2.2.2.1, S.2.2.2.2.2.2.2.2.2.2.2.1, S.2.2.2.2.2.2.2.2.2.2.2.2.1, S.2.2.2.2.2.2.2.2.2.2.2.2.2.1, S.2.2.2.2.2.2.2.2.2.2.2.2.2.2.1, S.2.2.2.2.2.2.2.2.2.2.2.2.2.2.2.1, S.2.2.2.2.2.2.2.2.2.2.2.2.2.2.2.2.1, S.2.2.2.2.2.2.2.2.2.2.2.2.2.2.2.2.2.1, S.2.2.2.2.2.2.2.2.2.2.2.2.2.2.2.2.2.2.1, ()) H))) fuel))
     (seqE (seqE (leafE fun S H k =>
         bindV (evEql .int S.2.2.2.2.2.1 S.2.2.1) fun t41 =>
         k (S.1, S.2.1, S.2.2.1, S.2.2.2.1, S.2.2.2.2.1, S.2.2.2.2.2.1, S.2.2.2.2.2.2.1, S.2.2.2.2.2.2.2.1, S.2.2.2.2.2.2.2.2.1, S.2.2.2.2.2.2.2.2.2.1, S.2.2.2.2.2.2.2.2.2.2.1, t41, S.2.2.2.2.2.2.2.2.2.2.2.2.1, S.2.2.2.2.2.2.2.2.2.2.2.2.2.1, S.2.2.2.2.2.2.2.2.2.2.2.2.2.2.1, S.2.2.2.2.2.2.2.2.2.2.2.2.2.2.2.1, S.2.2.2.2.2.2.2.2.2.2.2.2.2.2.2.2.1, S.2.2.2.2.2.2.2.2.2.2.2.2.2.2.2.2.2.1, S.2.2.2.2.2.2.2.2.2.2.2.2.2.2.2.2.2.2.1, ()) H)
     (condE (fun S => some S.2.2.2.2.2.2.2.2.2.2.2.1)
      (seqE (leafE fun S H k =>
          k (S.1, S.2.1, S.2.2.1, S.2.2.2.1, (.bool true), S.2.2.2.2.2.1, S.2.2.2.2.2.2.1, S.2.2.2.2.2.2.2.1, S.2.2.2.2.2.2.2.2.1, S.2.2.2.2.2.2.2.2.2.1, S.2.2.2.2.2.2.2.2.2.2.1, S.2.2.2.2.2.2.2.2.2.2.2.1, S.2.2.2.2.2.2.2.2.2.2.2.2.1, S.2.2.2.2.2.2.2.2.2.2.2.2.2.1, S.2.2.2.2.2.2.2.2.2.2.2.2.2.2.1, S.2.2.2.2.2.2.2.2.2.2.2.2.2.2.2.1, S.2.2.2.2.2.2.2.2.2.2.2.2.2.2.2.2.1, S.2.2.2.2.2.2.2.2.2.2.2.2.2.2.2.2.2.1, S.2.2.2.2.2.2.2.2.2.2.2.2.2.2.2.2.2.2.1, ()) H)
      (doneE .ret))
      (doneE .normal)))
     (seqE (seqE (leafE fun S H k =>
         bindV (evSub S.2.2.1 S.2.1) fun t44 =>
         bindV (evLss t44 (.int .i64 (.ofNat 50))) fun t45 =>
         k (S.1, S.2.1, S.2.2.1, S.2.2.2.1, S.2.2.2.2.1, S.2.2.2.2.2.1, S.2.2.2.2.2.2.1, S.2.2.2.2.2.2.2.1, S.2.2.2.2.2.2.2.2.1, S.2.2.2.2.2.2.2.2.2.1, S.2.2.2.2.2.2.2.2.2.2.1, S.2.2.2.2.2.2.2.2.2.2.2.1, t45, S.2.2.2.2.2.2.2.2.2.2.2.2.2.1, S.2.2.2.2.2.2.2.2.2.2.2.2.2.2.1, S.2.2.2.2.2.2.2.2.2.2.2.2.2.2.2.1, S.2.2.2.2.2.2.2.2.2.2.2.2.2.2.2.2.1, S.2.2.2.2.2.2.2.2.2.2.2.2.2.2.2.2.2.1, S.2.2.2.2.2.2.2.2.2.2.2.2.2.2.2.2.2.2.1, ()) H)
     (condE (fun S => some S.2.2.2.2.2.2.2.2.2.2.2.2.1)
      (seqE (leafE fun S H k =>
          k (S.1, S.2.1, S.2.2.1, S.2.2.2.1, (.bool false), S.2.2.2.2.2.1, S.2.2.2.2.2.2.1, S.2.2.2.2.2.2.2.1, S.2.2.2.2.2.2.2.2.1, S.2.2.2.2.2.2.2.2.2.1, S.2.2.2.2.2.2.2.2.2.2.1, S.2.2.2.2.2.2.2.2.2.2.2.1, S.2.2.2.2.2.2.2.2.2.2.2.2.1, S.2.2.2.2.2.2.2.2.2.2.2.2.2.1, S.2.2.2.2.2.2.2.2.2.2.2.2.2.2.1, S.2.2.2.2.2.2.2.2.2.2.2.2.2.2.2.1, S.2.2.2.2.2.2.2.2.2.2.2.2.2.2.2.2.1, S.2.2.2.2.2.2.2.2.2.2.2.2.2.2.2.2.2.1, S.2.2.2.2.2.2.2.2.2.2.2.2.2.2.2.2.2.2.1, ()) H)
      (doneE .ret))
      (doneE .normal)))
     (seqE (leafE fun S H k =>
         bindV (evSub S.2.2.2.2.2.1 (.int .i64 (.ofNat 1))) fun t50 =>
         bindV (evSub S.2.2.2.2.2.1 (.int .i64 (.ofNat 1))) fun t53 =>
         bindV (evIdxSlice 1 S.1 t53) fun t54 =>
         bindV (evLoad H false 1 t54) fun t55 =>
         bindV (evIdxSlice 1 S.1 S.2.2.2.2.2.1) fun t58 =>
         bindV (evLoad H false 1 t58) fun t59 =>
         bindV (evIdxSlice 1 S.1 S.2.2.2.2.2.1) fun t60 =>
         bindV (evStore lo H 1 t60 t55) fun H14 =>
         bindV (evIdxSlice 1 S.1 t50) fun t61 =>
         bindV (evStore lo H14 1 t61 t59) fun H15 =>
         k (S.1, S.2.1, S.2.2.1, S.2.2.2.1, S.2.2.2.2.1, S.2.2.2.2.2.1, S.2.2.2.2.2.2.1, S.2.2.2.2.2.2.2.1, S.2.2.2.2.2.2.2.2.1, S.2.2.2.2.2.2.2.2.2.1, S.2.2.2.2.2.2.2.2.2.2.1, S.2.2.2.2.2.2.2.2.2.2.2.1, S.2.2.2.2.2.2.2.2.2.2.2.2.1, S.2.2.2.2.2.2.2.2.2.2.2.2.2.1, S.2.2.2.2.2.2.2.2.2.2.2.2.2.2.1, S.2.2.2.2.2.2.2.2.2.2.2.2.2.2.2.1, S.2.2.2.2.2.2.2.2.2.2.2.2.2.2.2.2.1, S.2.2.2.2.2.2.2.2.2.2.2.2.2.2.2.2.2.1, S.2.2.2.2.2.2.2.2.2.2.2.2.2.2.2.2.2.2.1, ()) H15)
     (seqE (seqE (leafE fun S H k =>
         bindV (evSub S.2.2.2.2.2.1 S.2.1) fun t64 =>
         bindV (evGeq t64 (.int .i64 (.ofNat 2))) fun t65 =>
         k (S.1, S.2.1, S.2.2.1, S.2.2.2.1, S.2.2.2.2.1, S.2.2.2.2.2.1, S.2.2.2.2.2.2.1, S.2.2.2.2.2.2.2.1, S.2.2.2.2.2.2.2.2.1, S.2.2.2.2.2.2.2.2.2.1, S.2.2.2.2.2.2.2.2.2.2.1, S.2.2.2.2.2.2.2.2.2.2.2.1, S.2.2.2.2.2.2.2.2.2.2.2.2.1, t65, S.2.2.2.2.2.2.2.2.2.2.2.2.2.2.1, S.2.2.2.2.2.2.2.2.2.2.2.2.2.2.2.1, S.2.2.2.2.2.2.2.2.2.2.2.2.2.2.2.2.1, S.2.2.2.2.2.2.2.2.2.2.2.2.2.2.2.2.2.1, S.2.2.2.2.2.2.2.2.2.2.2.2.2.2.2.2.2.2.1, ()) H)
     (condE (fun S => some S.2.2.2.2.2.2.2.2.2.2.2.2.2.1)
      (seqE (leafE fun S H k =>
          bindV (evSub S.2.2.2.2.2.1 (.int .i64 (.ofNat 1))) fun t67 =>
          k (S.1, S.2.1, S.2.2.1, S.2.2.2.1, S.2.2.2.2.1, S.2.2.2.2.2.1, S.2.2.2.2.2.2.1, t67, S.2.2.2.2.2.2.2.2.1, S.2.2.2.2.2.2.2.2.2.1, S.2.2.2.2.2.2.2.2.2.2.1, S.2.2.2.2.2.2.2.2.2.2.2.1, S.2.2.2.2.2.2.2.2.2.2.2.2.1, S.2.2.2.2.2.2.2.2.2.2.2.2.2.1, S.2.2.2.2.2.2.2.2.2.2.2.2.2.2.1, S.2.2.2.2.2.2.2.2.2.2.2.2.2.2.2.1, S.2.2.2.2.2.2.2.2.2.2.2.2.2.2.2.2.1, S.2.2.2.2.2.2.2.2.2.2.2.2.2.2.2.2.2.1, S.2.2.2.2.2.2.2.2.2.2.2.2.2.2.2.2.2.2.1, ()) H)
      (blockE 4 (loopE (seqE (seqE (leafE fun S H k =>
            bindV (evGeq S.2.2.2.2.2.2.2.1 (.int .i64 (.ofNat 1))) fun t69 =>
            k (S.1, S.2.1, S.2.2.1, S.2.2.2.1, S.2.2.2.2.1, S.2.2.2.2.2.1, S.2.2.2.2.2.2.1, S.2.2.2.2.2.2.2.1, S.2.2.2.2.2.2.2.2.1, S.2.2.2.2.2.2.2.2.2.1, S.2.2.2.2.2.2.2.2.2.2.1, S.2.2.2.2.2.2.2.2.2.2.2.1, S.2.2.2.2.2.2.2.2.2.2.2.2.1, S.2.2.2.2.2.2.2.2.2.2.2.2.2.1, t69, S.2.2.2.2.2.2.2.2.2.2.2.2.2.2.2.1, S.2.2.2.2.2.2.2.2.2.2.2.2.2.2.2.2.1, S.2.2.2.2.2.2.2.2.2.2.2.2.2.2.2.2.2.1, S.2.2.2.2.2.2.2.2.2.2.2.2.2.2.2.2.2.2.1, ()) H)
        (condE (fun S => some S.2.2.2.2.2.2.2.2.2.2.2.2.2.2.1)
         (doneE .normal)
         (doneE (.exit 4))))
        (seqE (blockE 5 (seqE (seqE (leafE fun S H k =>
             bindV (evIdxSlice 1 S.1 S.2.2.2.2.2.2.2.1) fun t75 =>
             bindV (evLoad H false 1 t75) fun t76 =>
             bindV (evSub S.2.2.2.2.2.2.2.1 (.int .i64 (.ofNat 1))) fun t79 =>
             bindV (evIdxSlice 1 S.1 t79) fun t80 =>
             bindV (evLoad H false 1 t80) fun t81 =>
             callVal call lo S.2.2.2.1 [t76, t81] H fun t82 H16 =>
             bindV (evLss t82 (.int .i64 (.ofNat 0))) fun t83 =>
             bindV (evNot t83) fun t84 =>
             k (S.1, S.2.1, S.2.2.1, S.2.2.2.1, S.2.2.2.2.1, S.2.2.2.2.2.1, S.2.2.2.2.2.2.1, S.2.2.2.2.2.2.2.1, S.2.2.2.2.2.2.2.2.1, S.2.2.2.2.2.2.2.2.2.1, S.2.2.2.2.2.2.2.2.2.2.1, S.2.2.2.2.2.2.2.2.2.2.2.1, S.2.2.2.2.2.2.2.2.2.2.2.2.1, S.2.2.2.2.2.2.2.2.2.2.2.2.2.1, S.2.2.2.2.2.2.2.2.2.2.2.2.2.2.1, t84, S.2.2.2.2.2.2.2.2.2.2.2.2.2.2.2.2.1, S.2.2.2.2.2.2.2.2.2.2.2.2.2.2.2.2.2.1, S.2.2.2.2.2.2.2.2.2.2.2.2.2.2.2.2.2.2.1, ()) H16)
         (condE (fun S => some S.2.2.2.2.2.2.2.2.2.2.2.2.2.2.2.1)
          (doneE (.exit 4))
          (doneE .normal)))
         (leafE fun S H k =>
             bindV (evSub S.2.2.2.2.2.2.2.1 (.int .i64 (.ofNat 1))) fun t89 =>
             bindV (evSub S.2.2.2.2.2.2.2.1 (.int .i64 (.ofNat 1))) fun t92 =>
             bindV (evIdxSlice 1 S.1 t92) fun t93 =>
             bindV (evLoad H false 1 t93) fun t94 =>
             bindV (evIdxSlice 1 S.1 S.2.2.2.2.2.2.2.1) fun t97 =>
             bindV (evLoad H false 1 t97) fun t98 =>
             bindV (evIdxSlice 1 S.1 S.2.2.2.2.2.2.2.1) fun t99 =>
             bindV (evStore lo H 1 t99 t94) fun H17 =>
             bindV (evIdxSlice 1 S.1 t89) fun t100 =>
             bindV (evStore lo H17 1 t100 t98) fun H18 =>
             k (S.1, S.2.1, S.2.2.1, S.2.2.2.1, S.2.2.2.2.1, S.2.2.2.2.2.1, S.2.2.2.2.2.2.1, S.2.2.2.2.2.2.2.1, S.2.2.2.2.2.2.2.2.1, S.2.2.2.2.2.2.2.2.2.1, S.2.2.2.2.2.2.2.2.2.2.1, S.2.2.2.2.2.2.2.2.2.2.2.1, S.2.2.2.2.2.2.2.2.2.2.2.2.1, S.2.2.2.2.2.2.2.2.2.2.2.2.2.1, S.2.2.2.2.2.2.2.2.2.2.2.2.2.2.1, S.2.2.2.2.2.2.2.2.2.2.2.2.2.2.2.1, S.2.2.2.2.2.2.2.2.2.2.2.2.2.2.2.2.1, S.2.2.2.2.2.2.2.2.2.2.2.2.2.2.2.2.2.1, S.2.2.2.2.2.2.2.2.2.2.2.2.2.2.2.2.2.2.1, ()) H18)))
        (leafE fun S H k =>
            bindV (evSub S.2.2.2.2.2.2.2.1 (.int .i64 (.ofNat 1))) fun t71 =>
            k (S.1, S.2.1, S.2.2.1, S.2.2.2.1, S.2.2.2.2.1, S.2.2.2.2.2.1, S.2.2.2.2.2.2.1, t71, S.2.2.2.2.2.2.2.2.1, S.2.2.2.2.2.2.2.2.2.1, S.2.2.2.2.2.2.2.2.2.2.1, S.2.2.2.2.2.2.2.2.2.2.2.1, S.2.2.2.2.2.2.2.2.2.2.2.2.1, S.2.2.2.2.2.2.2.2.2.2.2.2.2.1, S.2.2.2.2.2.2.2.2.2.2.2.2.2.2.1, S.2.2.2.2.2.2.2.2.2.2.2.2.2.2.2.1, S.2.2.2.2.2.2.2.2.2.2.2.2.2.2.2.2.1, S.2.2.2.2.2.2.2.2.2.2.2.2.2.2.2.2.2.1, S.2.2.2.2.2.2.2.2.2.2.2.2.2.2.2.2.2.2.1, ()) H))) fuel)))
      (doneE .normal)))
     (seqE (leafE fun S H k =>
         bindV (evSub S.2.2.1 S.2.2.2.2.2.1) fun t103 =>
         bindV (evGeq t103 (.int .i64 (.ofNat 2))) fun t104 =>
         k (S.1, S.2.1, S.2.2.1, S.2.2.2.1, S.2.2.2.2.1, S.2.2.2.2.2.1, S.2.2.2.2.2.2.1, S.2.2.2.2.2.2.2.1, S.2.2.2.2.2.2.2.2.1, S.2.2.2.2.2.2.2.2.2.1, S.2.2.2.2.2.2.2.2.2.2.1, S.2.2.2.2.2.2.2.2.2.2.2.1, S.2.2.2.2.2.2.2.2.2.2.2.2.1, S.2.2.2.2.2.2.2.2.2.2.2.2.2.1, S.2.2.2.2.2.2.2.2.2.2.2.2.2.2.1, S.2.2.2.2.2.2.2.2.2.2.2.2.2.2.2.1, t104, S.2.2.2.2.2.2.2.2.2.2.2.2.2.2.2.2.2.1, S.2.2.2.2.2.2.2.2.2.2.2.2.2.2.2.2.2.2.1, ()) H)
     (condE (fun S => some S.2.2.2.2.2.2.2.2.2.2.2.2.2.2.2.2.1)
      (seqE (leafE fun S H k =>
          bindV (evAdd S.2.2.2.2.2.1 (.int .i64 (.ofNat 1))) fun t106 =>
          k (S.1, S.2.1, S.2.2.1, S.2.2.2.1, S.2.2.2.2.1, S.2.2.2.2.2.1, S.2.2.2.2.2.2.1, S.2.2.2.2.2.2.2.1, t106, S.2.2.2.2.2.2.2.2.2.1, S.2.2.2.2.2.2.2.2.2.2.1, S.2.2.2.2.2.2.2.2.2.2.2.1, S.2.2.2.2.2.2.2.2.2.2.2.2.1, S.2.2.2.2.2.2.2.2.2.2.2.2.2.1, S.2.2.2.2.2.2.2.2.2.2.2.2.2.2.1, S.2.2.2.2.2.2.2.2.2.2.2.2.2.2.2.1, S.2.2.2.2.2.2.2.2.2.2.2.2.2.2.2.2.1, S.2.2.2.2.2.2.2.2.2.2.2.2.2.2.2.2.2.1, S.2.2.2.2.2.2.2.2.2.2.2.2.2.2.2.2.2.2.1, ()) H)
      (blockE 6 (loopE (seqE (seqE (leafE fun S H k =>
            bindV (evLss S.2.2.2.2.2.2.2.2.1 S.2.2.1) fun t109 =>
            k (S.1, S.2.1, S.2.2.1, S.2.2.2.1, S.2.2.2.2.1, S.2.2.2.2.2.1, S.2.2.2.2.2.2.1, S.2.2.2.2.2.2.2.1, S.2.2.2.2.2.2.2.2.1, S.2.2.2.2.2.2.2.2.2.1, S.2.2.2.2.2.2.2.2.2.2.1, S.2.2.2.2.2.2.2.2.2.2.2.1, S.2.2.2.2.2.2.2.2.2.2.2.2.1, S.2.2.2.2.2.2.2.2.2.2.2.2.2.1, S.2.2.2.2.2.2.2.2.2.2.2.2.2.2.1, S.2.2.2.2.2.2.2.2.2.2.2.2.2.2.2.1, S.2.2.2.2.2.2.2.2.2.2.2.2.2.2.2.2.1, t109, S.2.2.2.2.2.2.2.2.2.2.2.2.2.2.2.2.2.2.1, ()) H)
        (condE (fun S => some S.2.2.2.2.2.2.2.2.2.2.2.2.2.2.2.2.2.1)
         (doneE .normal)
         (doneE (.exit 6))))
        (seqE (blockE 7 (seqE (seqE (leafE fun S H k =>
             bindV (evIdxSlice 1 S.1 S.2.2.2.2.2.2.2.2.1) fun t115 =>
             bindV (evLoad H false 1 t115) fun t116 =>
             bindV (evSub S.2.2.2.2.2.2.2.2.1 (.int .i64 (.ofNat 1))) fun t119 =>
             bindV (evIdxSlice 1 S.1 t119) fun t120 =>
             bindV (evLoad H false 1 t120) fun t121 =>
             callVal call lo S.2.2.2.1 [t116, t121] H fun t122 H19 =>
             bindV (evLss t122 (.int .i64 (.ofNat 0))) fun t123 =>
             bindV (evNot t123) fun t124 =>
             k (S.1, S.2.1, S.2.2.1, S.2.2.2.1, S.2.2.2.2.1, S.2.2.2.2.2.1, S.2.2.2.2.2.2.1, S.2.2.2.2.2.2.2.1, S.2.2.2.2.2.2.2.2.1, S.2.2.2.2.2.2.2.2.2.1, S.2.2.2.2.2.2.2.2.2.2.1, S.2.2.2.2.2.2.2.2.2.2.2.1, S.2.2.2.2.2.2.2.2.2.2.2.2.1, S.2.2.2.2.2.2.2.2.2.2.2.2.2.1, S.2.2.2.2.2.2.2.2.2.2.2.2.2.2.1, S.2.2.2.2.2.2.2.2.2.2.2.2.2.2.2.1, S.2.2.2.2.2.2.2.2.2.2.2.2.2.2.2.2.1, S.2.2.2.2.2.2.2.2.2.2.2.2.2.2.2.2.2.1, t124, ()) H19)
         (condE (fun S => some S.2.2.2.2.2.2.2.2.2.2.2.2.2.2.2.2.2.2.1)
          (doneE (.exit 6))
          (doneE .normal)))
         (leafE fun S H k =>
             bindV (evSub S.2.2.2.2.2.2.2.2.1 (.int .i64 (.ofNat 1))) fun t129 =>
             bindV (evSub S.2.2.2.2.2.2.2.2.1 (.int .i64 (.ofNat 1))) fun t132 =>
             bindV (evIdxSlice 1 S.1 t132) fun t133 =>
             bindV (evLoad H false 1 t133) fun t134 =>
             bindV (evIdxSlice 1 S.1 S.2.2.2.2.2.2.2.2.1) fun t137 =>
             bindV (evLoad H false 1 t137) fun t138 =>
             bindV (evIdxSlice 1 S.1 S.2.2.2.2.2.2.2.2.1) fun t139 =>
             bindV (evStore lo H 1 t139 t134) fun H20 =>
             bindV (evIdxSlice 1 S.1 t129) fun t140 =>
             bindV (evStore lo H20 1 t140 t138) fun H21 =>
             k (S.1, S.2.1, S.2.2.1, S.2.2.2.1, S.2.2.2.2.1, S.2.2.2.2.2.1, S.2.2.2.2.2.2.1, S.2.2.2.2.2.2.2.1, S.2.2.2.2.2.2.2.2.1, S.2.2.2.2.2.2.2.2.2.1, S.2.2.2.2.2.2.2.2.2.2.1, S.2.2.2.2.2.2.2.2.2.2.2.1, S.2.2.2.2.2.2.2.2.2.2.2.2.1, S.2.2.2.2.2.2.2.2.2.2.2.2.2.1, S.2.2.2.2.2.2.2.2.2.2.2.2.2.2.1, S.2.2.2.2.2.2.2.2.2.2.2.2.2.2.2.1, S.2.2.2.2.2.2.2.2.2.2.2.2.2.2.2.2.1, S.2.2.2.2.2.2.2.2.2.2.2.2.2.2.2.2.2.1, S.2.2.2.2.2.2.2.2.2.2.2.2.2.2.2.2.2.2.1, ()) H21)))
        (leafE fun S H k =>
            bindV (evAdd S.2.2.2.2.2.2.2.2.1 (.int .i64 (.ofNat 1))) fun t111 =>
            k (S.1, S.2.1, S.2.2.1, S.2.2.2.1, S.2.2.2.2.1, S.2.2.2.2.2.1, S.2.2.2.2.2.2.1, S.2.2.2.2.2.2.2.1, t111, S.2.2.2.2.2.2.2.2.2.1, S.2.2.2.2.2.2.2.2.2.2.1, S.2.2.2.2.2.2.2.2.2.2.2.1, S.2.2.2.2.2.2.2.2.2.2.2.2.1, S.2.2.2.2.2.2.2.2.2.2.2.2.2.1, S.2.2.2.2.2.2.2.2.2.2.2.2.2.2.1, S.2.2.2.2.2.2.2.2.2.2.2.2.2.2.2.1, S.2.2.2.2.2.2.2.2.2.2.2.2.2.2.2.2.1, S.2.2.2.2.2.2.2.2.2.2.2.2.2.2.2.2.2.1, S.2.2.2.2.2.2.2.2.2.2.2.2.2.2.2.2.2.2.1, ()) H))) fuel)))
      (doneE .normal)))))))))
    (leafE fun S H k =>
        bindV (evAdd S.2.2.2.2.2.2.1 (.int .i64 (.ofNat 1))) fun t18 =>
        k (S.1, S.2.1, S.2.2.1, S.2.2.2.1, S.2.2.2.2.1, S.2.2.2.2.2.1, t18, S.2.2.2.2.2.2.2.1, S.2.2.2.2.2.2.2.2.1, S.2.2.2.2.2.2.2.2.2.1, S.2.2.2.2.2.2.2.2.2.2.1, S.2.2.2.2.2.2.2.2.2.2.2.1, S.2.2.2.2.2.2.2.2.2.2.2.2.1, S.2.2.2.2.2.2.2.2.2.2.2.2.2.1, S.2.2.2.2.2.2.2.2.2.2.2.2.2.2.1, S.2.2.2.2.2.2.2.2.2.2.2.2.2.2.2.1, S.2.2.2.2.2.2.2.2.2.2.2.2.2.2.2.2.1, S.2.2.2.2.2.2.2.2.2.2.2.2.2.2.2.2.2.1, S.2.2.2.2.2.2.2.2.2.2.2.2.2.2.2.2.2.2.1, ()) H))) fuel)))
  (seqE (leafE fun S H k =>
      k (S.1, S.2.1, S.2.2.1, S.2.2.2.1, (.bool false), S.2.2.2.2.2.1, S.2.2.2.2.2.2.1, S.2.2.2.2.2.2.2.1, S.2.2.2.2.2.2.2.2.1, S.2.2.2.2.2.2.2.2.2.1, S.2.2.2.2.2.2.2.2.2.2.1, S.2.2.2.2.2.2.2.2.2.2.2.1, S.2.2.2.2.2.2.2.2.2.2.2.2.1, S.2.2.2.2.2.2.2.2.2.2.2.2.2.1, S.2.2.2.2.2.2.2.2.2.2.2.2.2.2.1, S.2.2.2.2.2.2.2.2.2.2.2.2.2.2.2.1, S.2.2.2.2.2.2.2.2.2.2.2.2.2.2.2.2.1, S.2.2.2.2.2.2.2.2.2.2.2.2.2.2.2.2.2.1, S.2.2.2.2.2.2.2.2.2.2.2.2.2.2.2.2.2.2.1, ()) H)
  (doneE .ret)))))

def F122 (call : CallF) (lo : Nat) (args : List Value) (H : AH) : Option (Value × AH) :=
  leave .all H (bindV (C122 call (lowOf .all lo H) (argAt args 0, argAt args 1, argAt args 2, argAt args 3, argAt args 8, argAt args 9, argAt args 10, argAt args 11, argAt args 12, argAt args 16, argAt args 36, argAt args 41, argAt args 45, argAt args 65, argAt args 69, argAt args 84, argAt args 104, argAt args 109, argAt args 124, ()) H) fun p => resE p.1 (some (oneOf [p.2.1.2.2.2.2.1], p.2.2)))

theorem F122_eq (call : CallF) (lo : Nat) (args : List Value) (H : AH) : evFn P ctx call lo 122 args H = F122 call lo args H := by kernel_rfl

/-- slices.partitionEqualCmpFunc[uint] -/
def C123 (call : CallF) (lo : Nat) : Piece (Value × Value × Value × Value × Value × Value × Value × Value × Value × Value × Value × Unit) :=
  (seqE (leafE fun S H k =>
      k (S.1, S.2.1, S.2.2.1, S.2.2.2.1, S.2.2.2.2.1, (.int .i64 (.ofNat 0)), S.2.2.2.2.2.2.1, S.2.2.2.2.2.2.2.1, S.2.2.2.2.2.2.2.2.1, S.2.2.2.2.2.2.2.2.2.1, S.2.2.2.2.2.2.2.2.2.2.1, ()) H)
  (seqE (leafE fun S H k =>
      bindV (evIdxSlice 1 S.1 S.2.2.2.1) fun t19 =>
      bindV (evLoad H false 1 t19) fun t20 =>
      bindV (evIdxSlice 1 S.1 S.2.1) fun t23 =>
      bindV (evLoad H false 1 t23) fun t24 =>
      bindV (evIdxSlice 1 S.1 S.2.1) fun t25 =>
      bindV (evStore lo H 1 t25 t20) fun H0 =>
      bindV (evIdxSlice 1 S.1 S.2.2.2.1) fun t26 =>
      bindV (evStore lo H0 1 t26 t24) fun H1 =>
      k (S.1, S.2.1, S.2.2.1, S.2.2.2.1, S.2.2.2.2.1, S.2.2.2.2.2.1, S.2.2.2.2.2.2.1, S.2.2.2.2.2.2.2.1, S.2.2.2.2.2.2.2.2.1, S.2.2.2.2.2.2.2.2.2.1, S.2.2.2.2.2.2.2.2.2.2.1, ()) H1)
  (seqE (leafE fun S H k =>
      bindV (evAdd S.2.1 (.int .i64 (.ofNat 1))) fun t28 =>
      bindV (evSub S.2.2.1 (.int .i64 (.ofNat 1))) fun t30 =>
      k (S.1, S.2.1, S.2.2.1, S.2.2.2.1, S.2.2.2.2.1, S.2.2.2.2.2.1, t28, t30, S.2.2.2.2.2.2.2.2.1, S.2.2.2.2.2.2.2.2.2.1, S.2.2.2.2.2.2.2.2.2.2.1, ()) H)
  (seqE (blockE 0 (loopE (blockE 1 (seqE (blockE 2 (loopE (seqE (seqE (leafE fun S H k =>
           bindV (evLeq S.2.2.2.2.2.2.1 S.2.2.2.2.2.2.2.1) fun t33 =>
           guarded t33 true ( pairVH S.2.2.2.2.1 H) H fun t35 H2 =>
           guarded t33 true ( pairVH S.1 H2) H2 fun t36 H3 =>
           guarded t33 true ( pairVH S.2.1 H3) H3 fun t37 H4 =>
           guarded t33 true (bindV (evIdxSlice 1 t36 t37) fun t1000000 => pairVH t1000000 H4) H4 fun t38 H5 =>
           guarded t33 true (bindV (evLoad H5 false 1 t38) fun t1000000 => pairVH t1000000 H5) H5 fun t39 H6 =>
           guarded t33 true ( pairVH S.1 H6) H6 fun t40 H7 =>
           guarded t33 true ( pairVH S.2.2.2.2.2.2.1 H7) H7 fun t41 H8 =>
           guarded t33 true (bindV (evIdxSlice 1 t40 t41) fun t1000000 => pairVH t1000000 H8) H8 fun t42 H9 =>
           guarded t33 true (bindV (evLoad H9 false 1 t42) fun t1000000 => pairVH t1000000 H9) H9 fun t43 H10 =>
           guarded t33 true (callVal call lo t35 [t39, t43] H10 fun t1000000 H11 => pairVH t1000000 H11) H10 fun t44 H12 =>
           guarded t33 true (bindV (evLss t44 (.int .i64 (.ofNat 0))) fun t1000000 => pairVH t1000000 H12) H12 fun t45 H13 =>
           guarded t33 true (bindV (evNot t45) fun t1000000 => pairVH t1000000 H13) H13 fun t46 H14 =>
           bindV (evPick t33 t46 (.bool false)) fun t47 =>
           k (S.1, S.2.1, S.2.2.1, S.2.2.2.1, S.2.2.2.2.1, S.2.2.2.2.2.1, S.2.2.2.2.2.2.1, S.2.2.2.2.2.2.2.1, t47, S.2.2.2.2.2.2.2.2.2.1, S.2.2.2.2.2.2.2.2.2.2.1, ()) H14)
       (condE (fun S => some S.2.2.2.2.2.2.2.2.1)
        (doneE .normal)
        (doneE (.exit 2))))
       (blockE 3 (leafE fun S H k =>
            bindV (evAdd S.2.2.2.2.2.2.1 (.int .i64 (.ofNat 1))) fun t49 =>
            k (S.1, S.2.1, S.2.2.1, S.2.2.2.1, S.2.2.2.2.1, S.2.2.2.2.2.1, t49, S.2.2.2.2.2.2.2.1, S.2.2.2.2.2.2.2.2.1, S.2.2.2.2.2.2.2.2.2.1, S.2.2.2.2.2.2.2.2.2.2.1, ()) H))) fuel))
     (seqE (blockE 4 (loopE (seqE (seqE (leafE fun S H k =>
           bindV (evLeq S.2.2.2.2.2.2.1 S.2.2.2.2.2.2.2.1) fun t52 =>
           guarded t52 true ( pairVH S.2.2.2.2.1 H) H fun t54 H15 =>
           guarded t52 true ( pairVH S.1 H15) H15 fun t55 H16 =>
           guarded t52 true ( pairVH S.2.1 H16) H16 fun t56 H17 =>
           guarded t52 true (bindV (evIdxSlice 1 t55 t56) fun t1000000 => pairVH t1000000 H17) H17 fun t57 H18 =>
           guarded t52 true (bindV (evLoad H18 false 1 t57) fun t1000000 => pairVH t1000000 H18) H18 fun t58 H19 =>
           guarded t52 true ( pairVH S.1 H19) H19 fun t59 H20 =>
           guarded t52 true ( pairVH S.2.2.2.2.2.2.2.1 H20) H20 fun t60 H21 =>
           guarded t52 true (bindV (evIdxSlice 1 t59 t60) fun t1000000 => pairVH t1000000 H21) H21 fun t61 H22 =>
           guarded t52 true (bindV (evLoad H22 false 1 t61) fun t1000000 => pairVH t1000000 H22) H22 fun t62 H23 =>
           guarded t52 true (callVal call lo t54 [t58, t62] H23 fun t1000000 H24 => pairVH t1000000 H24) H23 fun t63 H25 =>
           guarded t52 true (bindV (evLss t63 (.int .i64 (.ofNat 0))) fun t1000000 => pairVH t1000000 H25) H25 fun t64 H26 =>
           bindV (evPick t52 t64 (.bool false)) fun t65 =>
           k (S.1, S.2.1, S.2.2.1, S.2.2.2.1, S.2.2.2.2.1, S.2.2.2.2.2.1, S.2.2.2.2.2.2.1, S.2.2.2.2.2.2.2.1, S.2.2.2.2.2.2.2.2.1, t65, S.2.2.2.2.2.2.2.2.2.2.1, ()) H26)
       (condE (fun S => some S.2.2.2.2.2.2.2.2.2.1)
        (doneE .normal)
        (doneE (.exit 4))))
       (blockE 5 (leafE fun S H k =>
            bindV (evSub S.2.2.2.2.2.2.2.1 (.int .i64 (.ofNat 1))) fun t67 =>
            k (S.1, S.2.1, S.2.2.1, S.2.2.2.1, S.2.2.2.2.1, S.2.2.2.2.2.1, S.2.2.2.2.2.2.1, t67, S.2.2.2.2.2.2.2.2.1, S.2.2.2.2.2.2.2.2.2.1, S.2.2.2.2.2.2.2.2.2.2.1, ()) H))) fuel))
     (seqE (seqE (leafE fun S H k =>
         bindV (evGtr S.2.2.2.2.2.2.1 S.2.2.2.2.2.2.2.1) fun t70 =>
         k (S.1, S.2.1, S.2.2.1, S.2.2.2.1, S.2.2.2.2.1, S.2.2.2.2.2.1, S.2.2.2.2.2.2.1, S.2.2.2.2.2.2.2.1, S.2.2.2.2.2.2.2.2.1, S.2.2.2.2.2.2.2.2.2.1, t70, ()) H)
     (condE (fun S => some S.2.2.2.2.2.2.2.2.2.2.1)
      (doneE (.exit 0))
      (doneE .normal)))
     (seqE (leafE fun S H k =>
         bindV (evIdxSlice 1 S.1 S.2.2.2.2.2.2.2.1) fun t77 =>
         bindV (evLoad H false 1 t77) fun t78 =>
         bindV (evIdxSlice 1 S.1 S.2.2.2.2.2.2.1) fun t81 =>
         bindV (evLoad H false 1 t81) fun t82 =>
         bindV (evIdxSlice 1 S.1 S.2.2.2.2.2.2.1) fun t83 =>
         bindV (evStore lo H 1 t83 t78) fun H27 =>
         bindV (evIdxSlice 1 S.1 S.2.2.2.2.2.2.2.1) fun t84 =>
         bindV (evStore lo H27 1 t84 t82) fun H28 =>
         k (S.1, S.2.1, S.2.2.1, S.2.2.2.1, S.2.2.2.2.1, S.2.2.2.2.2.1, S.2.2.2.2.2.2.1, S.2.2.2.2.2.2.2.1, S.2.2.2.2.2.2.2.2.1, S.2.2.2.2.2.2.2.2.2.1, S.2.2.2.2.2.2.2.2.2.2.1, ()) H28)
     (seqE (leafE fun S H k =>
         bindV (evAdd S.2.2.2.2.2.2.1 (.int .i64 (.ofNat 1))) fun t86 =>
         k (S.1, S.2.1, S.2.2.1, S.2.2.2.1, S.2.2.2.2.1, S.2.2.2.2.2.1, t86, S.2.2.2.2.2.2.2.1, S.2.2.2.2.2.2.2.2.1, S.2.2.2.2.2.2.2.2.2.1, S.2.2.2.2.2.2.2.2.2.2.1, ()) H)
     (leafE fun S H k =>
         bindV (evSub S.2.2.2.2.2.2.2.1 (.int .i64 (.ofNat 1))) fun t88 =>
         k (S.1, S.2.1, S.2.2.1, S.2.2.2.1, S.2.2.2.2.1, S.2.2.2.2.2.1, S.2.2.2.2.2.2.1, t88, S.2.2.2.2.2.2.2.2.1, S.2.2.2.2.2.2.2.2.2.1, S.2.2.2.2.2.2.2.2.2.2.1, ()) H))))))) fuel))
  (seqE (leafE fun S H k =>
      k (S.1, S.2.1, S.2.2.1, S.2.2.2.1, S.2.2.2.2.1, S.2.2.2.2.2.2.1, S.2.2.2.2.2.2.1, S.2.2.2.2.2.2.2.1, S.2.2.2.2.2.2.2.2.1, S.2.2.2.2.2.2.2.2.2.1, S.2.2.2.2.2.2.2.2.2.2.1, ()) H)
  (doneE .ret))))))

def F123 (call : CallF) (lo : Nat) (args : List Value) (H : AH) : Option (Value × AH) :=
  leave .all H (bindV (C123 call (lowOf .all lo H) (argAt args 0, argAt args 1, argAt args 2, argAt args 3, argAt args 4, argAt args 10, argAt args 11, argAt args 12, argAt args 47, argAt args 65, argAt args 70, ()) H) fun p => resE p.1 (some (oneOf [p.2.1.2.2.2.2.2.1], p.2.2)))

theorem F123_eq (call : CallF) (lo : Nat) (args : List Value) (H : AH) : evFn P ctx call lo 123 args H = F123 call lo args H := by kernel_rfl

/-- slices.partitionCmpFunc[uint] -/
def C124 (call : CallF) (lo : Nat) : Piece (Value × Value × Value × Value × Value × Value × Value × Value × Value × Value × Value × Value × Value × Value × Value × Unit) :=
  (seqE (leafE fun S H k =>
      k (S.1, S.2.1, S.2.2.1, S.2.2.2.1, S.2.2.2.2.1, (.int .i64 (.ofNat 0)), (.bool false), S.2.2.2.2.2.2.2.1, S.2.2.2.2.2.2.2.2.1, S.2.2.2.2.2.2.2.2.2.1, S.2.2.2.2.2.2.2.2.2.2.1, S.2.2.2.2.2.2.2.2.2.2.2.1, S.2.2.2.2.2.2.2.2.2.2.2.2.1, S.2.2.2.2.2.2.2.2.2.2.2.2.2.1, S.2.2.2.2.2.2.2.2.2.2.2.2.2.2.1, ()) H)
  (seqE (leafE fun S H k =>
      bindV (evIdxSlice 1 S.1 S.2.2.2.1) fun t20 =>
      bindV (evLoad H false 1 t20) fun t21 =>
      bindV (evIdxSlice 1 S.1 S.2.1) fun t24 =>
      bindV (evLoad H false 1 t24) fun t25 =>
      bindV (evIdxSlice 1 S.1 S.2.1) fun t26 =>
      bindV (evStore lo H 1 t26 t21) fun H0 =>
      bindV (evIdxSlice 1 S.1 S.2.2.2.1) fun t27 =>
      bindV (evStore lo H0 1 t27 t25) fun H1 =>
      k (S.1, S.2.1, S.2.2.1, S.2.2.2.1, S.2.2.2.2.1, S.2.2.2.2.2.1, S.2.2.2.2.2.2.1, S.2.2.2.2.2.2.2.1, S.2.2.2.2.2.2.2.2.1, S.2.2.2.2.2.2.2.2.2.1, S.2.2.2.2.2.2.2.2.2.2.1, S.2.2.2.2.2.2.2.2.2.2.2.1, S.2.2.2.2.2.2.2.2.2.2.2.2.1, S.2.2.2.2.2.2.2.2.2.2.2.2.2.1, S.2.2.2.2.2.2.2.2.2.2.2.2.2.2.1, ()) H1)
  (seqE (leafE fun S H k =>
      bindV (evAdd S.2.1 (.int .i64 (.ofNat 1))) fun t29 =>
      bindV (evSub S.2.2.1 (.int .i64 (.ofNat 1))) fun t31 =>
      k (S.1, S.2.1, S.2.2.1, S.2.2.2.1, S.2.2.2.2.1, S.2.2.2.2.2.1, S.2.2.2.2.2.2.1, t29, t31, S.2.2.2.2.2.2.2.2.2.1, S.2.2.2.2.2.2.2.2.2.2.1, S.2.2.2.2.2.2.2.2.2.2.2.1, S.2.2.2.2.2.2.2.2.2.2.2.2.1, S.2.2.2.2.2.2.2.2.2.2.2.2.2.1, S.2.2.2.2.2.2.2.2.2.2.2.2.2.2.1, ()) H)
  (seqE (blockE 0 (loopE (seqE (seqE (leafE fun S H k =>
        bindV (evLeq S.2.2.2.2.2.2.2.1 S.2.2.2.2.2.2.2.2.1) fun t34 =>
        guarded t34 true ( pairVH S.2.2.2.2.1 H) H fun t36 H2 =>
        guarded t34 true ( pairVH S.1 H2) H2 fun t37 H3 =>
        guarded t34 true ( pairVH S.2.2.2.2.2.2.2.1 H3) H3 fun t38 H4 =>
        guarded t34 true (bindV (evIdxSlice 1 t37 t38) fun t1000000 => pairVH t1000000 H4) H4 fun t39 H5 =>
        guarded t34 true (bindV (evLoad H5 false 1 t39) fun t1000000 => pairVH t1000000 H5) H5 fun t40 H6 =>
        guarded t34 true ( pairVH S.1 H6) H6 fun t41 H7 =>
        guarded t34 true ( pairVH S.2.1 H7) H7 fun t42 H8 =>
        guarded t34 true (bindV (evIdxSlice 1 t41 t42) fun t1000000 => pairVH t1000000 H8) H8 fun t43 H9 =>
        guarded t34 true (bindV (evLoad H9 false 1 t43) fun t1000000 => pairVH t1000000 H9) H9 fun t44 H10 =>
        guarded t34 true (callVal call lo t36 [t40, t44] H10 fun t1000000 H11 => pairVH t1000000 H11) H10 fun t45 H12 =>
        guarded t34 true (bindV (evLss t45 (.int .i64 (.ofNat 0))) fun t1000000 => pairVH t1000000 H12) H12 fun t46 H13 =>
        bindV (evPick t34 t46 (.bool false)) fun t47 =>
        k (S.1, S.2.1, S.2.2.1, S.2.2.2.1, S.2.2.2.2.1, S.2.2.2.2.2.1, S.2.2.2.2.2.2.1, S.2.2.2.2.2.2.2.1, S.2.2.2.2.2.2.2.2.1, t47, S.2.2.2.2.2.2.2.2.2.2.1, S.2.2.2.2.2.2.2.2.2.2.2.1, S.2.2.2.2.2.2.2.2.2.2.2.2.1, S.2.2.2.2.2.2.2.2.2.2.2.2.2.1, S.2.2.2.2.2.2.2.2.2.2.2.2.2.2.1, ()) H13)
    (condE (fun S => some S.2.2.2.2.2.2.2.2.2.1)
     (doneE .normal)
     (doneE (.exit 0))))
    (blockE 1 (leafE fun S H k =>
         bindV (evAdd S.2.2.2.2.2.2.2.1 (.int .i64 (.ofNat 1))) fun t49 =>
         k (S.1, S.2.1, S.2.2.1, S.2.2.2.1, S.2.2.2.2.1, S.2.2.2.2.2.1, S.2.2.2.2.2.2.1, t49, S.2.2.2.2.2.2.2.2.1, S.2.2.2.2.2.2.2.2.2.1, S.2.2.2.2.2.2.2.2.2.2.1, S.2.2.2.2.2.2.2.2.2.2.2.1, S.2.2.2.2.2.2.2.2.2.2.2.2.1, S.2.2.2.2.2.2.2.2.2.2.2.2.2.1, S.2.2.2.2.2.2.2.2.2.2.2.2.2.2.1, ()) H))) fuel))
  (seqE (blockE 2 (loopE (seqE (seqE (leafE fun S H k =>
        bindV (evLeq S.2.2.2.2.2.2.2.1 S.2.2.2.2.2.2.2.2.1) fun t52 =>
        guarded t52 true ( pairVH S.2.2.2.2.1 H) H fun t54 H14 =>
        guarded t52 true ( pairVH S.1 H14) H14 fun t55 H15 =>
        guarded t52 true ( pairVH S.2.2.2.2.2.2.2.2.1 H15) H15 fun t56 H16 =>
        guarded t52 true (bindV (evIdxSlice 1 t55 t56) fun t1000000 => pairVH t1000000 H16) H16 fun t57 H17 =>
        guarded t52 true (bindV (evLoad H17 false 1 t57) fun t1000000 => pairVH t1000000 H17) H17 fun t58 H18 =>
        guarded t52 true ( pairVH S.1 H18) H18 fun t59 H19 =>
        guarded t52 true ( pairVH S.2.1 H19) H19 fun t60 H20 =>
        guarded t52 true (bindV (evIdxSlice 1 t59 t60) fun t1000000 => pairVH t1000000 H20) H20 fun t61 H21 =>
        guarded t52 true (bindV (evLoad H21 false 1 t61) fun t1000000 => pairVH t1000000 H21) H21 fun t62 H22 =>
        guarded t52 true (callVal call lo t54 [t58, t62] H22 fun t1000000 H23 => pairVH t1000000 H23) H22 fun t63 H24 =>
        guarded t52 true (bindV (evLss t63 (.int .i64 (.ofNat 0))) fun t1000000 => pairVH t1000000 H24) H24 fun t64 H25 =>
        guarded t52 true (bindV (evNot t64) fun t1000000 => pairVH t1000000 H25) H25 fun t65 H26 =>
        bindV (evPick t52 t65 (.bool false)) fun t66 =>
        k (S.1, S.2.1, S.2.2.1, S.2.2.2.1, S.2.2.2.2.1, S.2.2.2.2.2.1, S.2.2.2.2.2.2.1, S.2.2.2.2.2.2.2.1, S.2.2.2.2.2.2.2.2.1, S.2.2.2.2.2.2.2.2.2.1, t66, S.2.2.2.2.2.2.2.2.2.2.2.1, S.2.2.2.2.2.2.2.2.2.2.2.2.1, S.2.2.2.2.2.2.2.2.2.2.2.2.2.1, S.2.2.2.2.2.2.2.2.2.2.2.2.2.2.1, ()) H26)
    (condE (fun S => some S.2.2.2.2.2.2.2.2.2.2.1)
     (doneE .normal)
     (doneE (.exit 2))))
    (blockE 3 (leafE fun S H k =>
         bindV (evSub S.2.2.2.2.2.2.2.2.1 (.int .i64 (.ofNat 1))) fun t68 =>
         k (S.1, S.2.1, S.2.2.1, S.2.2.2.1, S.2.2.2.2.1, S.2.2.2.2.2.1, S.2.2.2.2.2.2.1, S.2.2.2.2.2.2.2.1, t68, S.2.2.2.2.2.2.2.2.2.1, S.2.2.2.2.2.2.2.2.2.2.1, S.2.2.2.2.2.2.2.2.2.2.2.1, S.2.2.2.2.2.2.2.2.2.2.2.2.1, S.2.2.2.2.2.2.2.2.2.2.2.2.2.1, S.2.2.2.2.2.2.2.2.2.2.2.2.2.2.1, ()) H))) fuel))
  (seqE (seqE (leafE fun S H k =>
      bindV (evGtr S.2.2.2.2.2.2.2.1 S.2.2.2.2.2.2.2.2.1) fun t71 =>
      k (S.1, S.2.1, S.2.2.1, S.2.2.2.1, S.2.2.2.2.1, S.2.2.2.2.2.1, S.2.2.2.2.2.2.1, S.2.2.2.2.2.2.2.1, S.2.2.2.2.2.2.2.2.1, S.2.2.2.2.2.2.2.2.2.1, S.2.2.2.2.2.2.2.2.2.2.1, t71, S.2.2.2.2.2.2.2.2.2.2.2.2.1, S.2.2.2.2.2.2.2.2.2.2.2.2.2.1, S.2.2.2.2.2.2.2.2.2.2.2.2.2.2.1, ()) H)
  (condE (fun S => some S.2.2.2.2.2.2.2.2.2.2.2.1)
   (seqE (leafE fun S H k =>
       bindV (evIdxSlice 1 S.1 S.2.1) fun t78 =>
       bindV (evLoad H false 1 t78) fun t79 =>
       bindV (evIdxSlice 1 S.1 S.2.2.2.2.2.2.2.2.1) fun t82 =>
       bindV (evLoad H false 1 t82) fun t83 =>
       bindV (evIdxSlice 1 S.1 S.2.2.2.2.2.2.2.2.1) fun t84 =>
       bindV (evStore lo H 1 t84 t79) fun H27 =>
       bindV (evIdxSlice 1 S.1 S.2.1) fun t85 =>
       bindV (evStore lo H27 1 t85 t83) fun H28 =>
       k (S.1, S.2.1, S.2.2.1, S.2.2.2.1, S.2.2.2.2.1, S.2.2.2.2.2.1, S.2.2.2.2.2.2.1, S.2.2.2.2.2.2.2.1, S.2.2.2.2.2.2.2.2.1, S.2.2.2.2.2.2.2.2.2.1, S.2.2.2.2.2.2.2.2.2.2.1, S.2.2.2.2.2.2.2.2.2.2.2.1, S.2.2.2.2.2.2.2.2.2.2.2.2.1, S.2.2.2.2.2.2.2.2.2.2.2.2.2.1, S.2.2.2.2.2.2.2.2.2.2.2.2.2.2.1, ()) H28)
   (seqE (leafE fun S H k =>
       k (S.1, S.2.1, S.2.2.1, S.2.2.2.1, S.2.2.2.2.1, S.2.2.2.2.2.2.2.2.1, (.bool true), S.2.2.2.2.2.2.2.1, S.2.2.2.2.2.2.2.2.1, S.2.2.2.2.2.2.2.2.2.1, S.2.2.2.2.2.2.2.2.2.2.1, S.2.2.2.2.2.2.2.2.2.2.2.1, S.2.2.2.2.2.2.2.2.2.2.2.2.1, S.2.2.2.2.2.2.2.2.2.2.2.2.2.1, S.2.2.2.2.2.2.2.2.2.2.2.2.2.2.1, ()) H)
   (doneE .ret)))
   (doneE .normal)))
  (seqE (leafE fun S H k =>
      bindV (evIdxSlice 1 S.1 S.2.2.2.2.2.2.2.2.1) fun t93 =>
      bindV (evLoad H false 1 t93) fun t94 =>
      bindV (evIdxSlice 1 S.1 S.2.2.2.2.2.2.2.1) fun t97 =>
      bindV (evLoad H false 1 t97) fun t98 =>
      bindV (evIdxSlice 1 S.1 S.2.2.2.2.2.2.2.1) fun t99 =>
      bindV (evStore lo H 1 t99 t94) fun H29 =>
      bindV (evIdxSlice 1 S.1 S.2.2.2.2.2.2.2.2.1) fun t100 =>
      bindV (evStore lo H29 1 t100 t98) fun H30 =>
      k (S.1, S.2.1, S.2.2.1, S.2.2.2.1, S.2.2.2.2.1, S.2.2.2.2.2.1, S.2.2.2.2.2.2.1, S.2.2.2.2.2.2.2.1, S.2.2.2.2.2.2.2.2.1, S.2.2.2.2.2.2.2.2.2.1, S.2.2.2.2.2.2.2.2.2.2.1, S.2.2.2.2.2.2.2.2.2.2.2.1, S.2.2.2.2.2.2.2.2.2.2.2.2.1, S.2.2.2.2.2.2.2.2.2.2.2.2.2.1, S.2.2.2.2.2.2.2.2.2.2.2.2.2.2.1, ()) H30)
  (seqE (leafE fun S H k =>
      bindV (evAdd S.2.2.2.2.2.2.2.1 (.int .i64 (.ofNat 1))) fun t102 =>
      k (S.1, S.2.1, S.2.2.1, S.2.2.2.1, S.2.2.2.2.1, S.2.2.2.2.2.1, S.2.2.2.2.2.2.1, t102, S.2.2.2.2.2.2.2.2.1, S.2.2.2.2.2.2.2.2.2.1, S.2.2.2.2.2.2.2.2.2.2.1, S.2.2.2.2.2.2.2.2.2.2.2.1, S.2.2.2.2.2.2.2.2.2.2.2.2.1, S.2.2.2.2.2.2.2.2.2.2.2.2.2.1, S.2.2.2.2.2.2.2.2.2.2.2.2.2.2.1, ()) H)
  (seqE (leafE fun S H k =>
      bindV (evSub S.2.2.2.2.2.2.2.2.1 (.int .i64 (.ofNat 1))) fun t104 =>
      k (S.1, S.2.1, S.2.2.1, S.2.2.2.1, S.2.2.2.2.1, S.2.2.2.2.2.1, S.2.2.2.2.2.2.1, S.2.2.2.2.2.2.2.1, t104, S.2.2.2.2.2.2.2.2.2.1, S.2.2.2.2.2.2.2.2.2.2.1, S.2.2.2.2.2.2.2.2.2.2.2.1, S.2.2.2.2.2.2.2.2.2.2.2.2.1, S.2.2.2.2.2.2.2.2.2.2.2.2.2.1, S.2.2.2.2.2.2.2.2.2.2.2.2.2.2.1, ()) H)
  (seqE (blockE 4 (loopE (blockE 5 (seqE (blockE 6 (loopE (seqE (seqE (leafE fun S H k =>
           bindV (evLeq S.2.2.2.2.2.2.2.1 S.2.2.2.2.2.2.2.2.1) fun t107 =>
           guarded t107 true ( pairVH S.2.2.2.2.1 H) H fun t109 H31 =>
           guarded t107 true ( pairVH S.1 H31) H31 fun t110 H32 =>
           guarded t107 true ( pairVH S.2.2.2.2.2.2.2.1 H32) H32 fun t111 H33 =>
           guarded t107 true (bindV (evIdxSlice 1 t110 t111) fun t1000000 => pairVH t1000000 H33) H33 fun t112 H34 =>
           guarded t107 true (bindV (evLoad H34 false 1 t112) fun t1000000 => pairVH t1000000 H34) H34 fun t113 H35 =>
           guarded t107 true ( pairVH S.1 H35) H35 fun t114 H36 =>
           guarded t107 true ( pairVH S.2.1 H36) H36 fun t115 H37 =>
           guarded t107 true (bindV (evIdxSlice 1 t114 t115) fun t1000000 => pairVH t1000000 H37) H37 fun t116 H38 =>
           guarded t107 true (bindV (evLoad H38 false 1 t116) fun t1000000 => pairVH t1000000 H38) H38 fun t117 H39 =>
           guarded t107 true (callVal call lo t109 [t113, t117] H39 fun t1000000 H40 => pairVH t1000000 H40) H39 fun t118 H41 =>
           guarded t107 true (bindV (evLss t118 (.int .i64 (.ofNat 0))) fun t1000000 => pairVH t1000000 H41) H41 fun t119 H42 =>
           bindV (evPick t107 t119 (.bool false)) fun t120 =>
           k (S.1, S.2.1, S.2.2.1, S.2.2.2.1, S.2.2.2.2.1, S.2.2.2.2.2.1, S.2.2.2.2.2.2.1, S.2.2.2.2.2.2.2.1, S.2.2.2.2.2.2.2.2.1, S.2.2.2.2.2.2.2.2.2.1, S.2.2.2.2.2.2.2.2.2.2.1, S.2.2.2.2.2.2.2.2.2.2.2.1, t120, S.2.2.2.2.2.2.2.2.2.2.2.2.2.1, S.2.2.2.2.2.2.2.2.2.2.2.2.2.2.1, ()) H42)
       (condE (fun S => some S.2.2.2.2.2.2.2.2.2.2.2.2.1)
        (doneE .normal)
        (doneE (.exit 6))))
       (blockE 7 (leafE fun S H k =>
            bindV (evAdd S.2.2.2.2.2.2.2.1 (.int .i64 (.ofNat 1))) fun t122 =>
            k (S.1, S.2.1, S.2.2.1, S.2.2.2.1, S.2.2.2.2.1, S.2.2.2.2.2.1, S.2.2.2.2.2.2.1, t122, S.2.2.2.2.2.2.2.2.1, S.2.2.2.2.2.2.2.2.2.1, S.2.2.2.2.2.2.2.2.2.2.1, S.2.2.2.2.2.2.2.2.2.2.2.1, S.2.2.2.2.2.2.2.2.2.2.2.2.1, S.2.2.2.2.2.2.2.2.2.2.2.2.2.1, S.2.2.2.2.2.2.2.2.2.2.2.2.2.2.1, ()) H))) fuel))
     (seqE (blockE 8 (loopE (seqE (seqE (leafE fun S H k =>
           bindV (evLeq S.2.2.2.2.2.2.2.1 S.2.2.2.2.2.2.2.2.1) fun t125 =>
           guarded t125 true ( pairVH S.2.2.2.2.1 H) H fun t127 H43 =>
           guarded t125 true ( pairVH S.1 H43) H43 fun t128 H44 =>
           guarded t125 true ( pairVH S.2.2.2.2.2.2.2.2.1 H44) H44 fun t129 H45 =>
           guarded t125 true (bindV (evIdxSlice 1 t128 t129) fun t1000000 => pairVH t1000000 H45) H45 fun t130 H46 =>
           guarded t125 true (bindV (evLoad H46 false 1 t130) fun t1000000 => pairVH t1000000 H46) H46 fun t131 H47 =>
           guarded t125 true ( pairVH S.1 H47) H47 fun t132 H48 =>
           guarded t125 true ( pairVH S.2.1 H48) H48 fun t133 H49 =>
           guarded t125 true (bindV (evIdxSlice 1 t132 t133) fun t1000000 => pairVH t1000000 H49) H49 fun t134 H50 =>
           guarded t125 true (bindV (evLoad H50 false 1 t134) fun t1000000 => pairVH t1000000 H50) H50 fun t135 H51 =>
           guarded t125 true (callVal call lo t127 [t131, t135] H51 fun t1000000 H52 => pairVH t1000000 H52) H51 fun t136 H53 =>
           guarded t125 true (bindV (evLss t136 (.int .i64 (.ofNat 0))) fun t1000000 => pairVH t1000000 H53) H53 fun t137 H54 =>
           guarded t125 true (bindV (evNot t137) fun t1000000 => pairVH t1000000 H54) H54 fun t138 H55 =>
           bindV (evPick t125 t138 (.bool false)) fun t139 =>
           k (S.1, S.2.1, S.2.2.1, S.2.2.2.1, S.2.2.2.2.1, S.2.2.2.2.2.1, S.2.2.2.2.2.2.1, S.2.2.2.2.2.2.2.1, S.2.2.2.2.2.2.2.2.1, S.2.2.2.2.2.2.2.2.2.1, S.2.2.2.2.2.2.2.2.2.2.1, S.2.2.2.2.2.2.2.2.2.2.2.1, S.2.2.2.2.2.2.2.2.2.2.2.2.1, t139, S.2.2.2.2.2.2.2.2.2.2.2.2.2.2.1, ()) H55)
       (condE (fun S => some S.2.2.2.2.2.2.2.2.2.2.2.2.2.1)
        (doneE .normal)
        (doneE (.exit 8))))
       (blockE 9 (leafE fun S H k =>
            bindV (evSub S.2.2.2.2.2.2.2.2.1 (.int .i64 (.ofNat 1))) fun t141 =>
            k (S.1, S.2.1, S.2.2.1, S.2.2.2.1, S.2.2.2.2.1, S.2.2.2.2.2.1, S.2.2.2.2.2.2.1, S.2.2.2.2.2.2.2.1, t141, S.2.2.2.2.2.2.2.2.2.1, S.2.2.2.2.2.2.2.2.2.2.1, S.2.2.2.2.2.2.2.2.2.2.2.1, S.2.2.2.2.2.2.2.2.2.2.2.2.1, S.2.2.2.2.2.2.2.2.2.2.2.2.2.1, S.2.2.2.2.2.2.2.2.2.2.2.2.2.2.1, ()) H))) fuel))
     (seqE (seqE (leafE fun S H k =>
         bindV (evGtr S.2.2.2.2.2.2.2.1 S.2.2.2.2.2.2.2.2.1) fun t144 =>
         k (S.1, S.2.1, S.2.2.1, S.2.2.2.1, S.2.2.2.2.1, S.2.2.2.2.2.1, S.2.2.2.2.2.2.1, S.2.2.2.2.2.2.2.1, S.2.2.2.2.2.2.2.2.1, S.2.2.2.2.2.2.2.2.2.1, S.2.2.2.2.2.2.2.2.2.2.1, S.2.2.2.2.2.2.2.2.2.2.2.1, S.2.2.2.2.2.2.2.2.2.2.2.2.1, S.2.2.2.2.2.2.2.2.2.2.2.2.2.1, t144, ()) H)
     (condE (fun S => some S.2.2.2.2.2.2.2.2.2.2.2.2.2.2.1)
      (doneE (.exit 4))
      (doneE .normal)))
     (seqE (leafE fun S H k =>
         bindV (evIdxSlice 1 S.1 S.2.2.2.2.2.2.2.2.1) fun t151 =>
         bindV (evLoad H false 1 t151) fun t152 =>
         bindV (evIdxSlice 1 S.1 S.2.2.2.2.2.2.2.1) fun t155 =>
         bindV (evLoad H false 1 t155) fun t156 =>
         bindV (evIdxSlice 1 S.1 S.2.2.2.2.2.2.2.1) fun t157 =>
         bindV (evStore lo H 1 t157 t152) fun H56 =>
         bindV (evIdxSlice 1 S.1 S.2.2.2.2.2.2.2.2.1) fun t158 =>
         bindV (evStore lo H56 1 t158 t156) fun H57 =>
         k (S.1, S.2.1, S.2.2.1, S.2.2.2.1, S.2.2.2.2.1, S.2.2.2.2.2.1, S.2.2.2.2.2.2.1, S.2.2.2.2.2.2.2.1, S.2.2.2.2.2.2.2.2.1, S.2.2.2.2.2.2.2.2.2.1, S.2.2.2.2.2.2.2.2.2.2.1, S.2.2.2.2.2.2.2.2.2.2.2.1, S.2.2.2.2.2.2.2.2.2.2.2.2.1, S.2.2.2.2.2.2.2.2.2.2.2.2.2.1, S.2.2.2.2.2.2.2.2.2.2.2.2.2.2.1, ()) H57)
     (seqE (leafE fun S H k =>
         bindV (evAdd S.2.2.2.2.2.2.2.1 (.int .i64 (.ofNat 1))) fun t160 =>
         k (S.1, S.2.1, S.2.2.1, S.2.2.2.1, S.2.2.2.2.1, S.2.2.2.2.2.1, S.2.2.2.2.2.2.1, t160, S.2.2.2.2.2.2.2.2.1, S.2.2.2.2.2.2.2.2.2.1, S.2.2.2.2.2.2.2.2.2.2.1, S.2.2.2.2.2.2.2.2.2.2.2.1, S.2.2.2.2.2.2.2.2.2.2.2.2.1, S.2.2.2.2.2.2.2.2.2.2.2.2.2.1, S.2.2.2.2.2.2.2.2.2.2.2.2.2.2.1, ()) H)
     (leafE fun S H k =>
         bindV (evSub S.2.2.2.2.2.2.2.2.1 (.int .i64 (.ofNat 1))) fun t162 =>
         k (S.1, S.2.1, S.2.2.1, S.2.2.2.1, S.2.2.2.2.1, S.2.2.2.2.2.1, S.2.2.2.2.2.2.1, S.2.2.2.2.2.2.2.1, t162, S.2.2.2.2.2.2.2.2.2.1, S.2.2.2.2.2.2.2.2.2.2.1, S.2.2.2.2.2.2.2.2.2.2.2.1, S.2.2.2.2.2.2.2.2.2.2.2.2.1, S.2.2.2.2.2.2.2.2.2.2.2.2.2.1, S.2.2.2.2.2.2.2.2.2.2.2.2.2.2.1, ()) H))))))) fuel))
  (seqE (leafE fun S H k =>
      bindV (evIdxSlice 1 S.1 S.2.1) fun t169 =>
      bindV (evLoad H false 1 t169) fun t170 =>
      bindV (evIdxSlice 1 S.1 S.2.2.2.2.2.2.2.2.1) fun t173 =>
      bindV (evLoad H false 1 t173) fun t174 =>
      bindV (evIdxSlice 1 S.1 S.2.2.2.2.2.2.2.2.1) fun t175 =>
      bindV (evStore lo H 1 t175 t170) fun H58 =>
      bindV (evIdxSlice 1 S.1 S.2.1) fun t176 =>
      bindV (evStore lo H58 1 t176 t174) fun H59 =>
      k (S.1, S.2.1, S.2.2.1, S.2.2.2.1, S.2.2.2.2.1, S.2.2.2.2.2.1, S.2.2.2.2.2.2.1, S.2.2.2.2.2.2.2.1, S.2.2.2.2.2.2.2.2.1, S.2.2.2.2.2.2.2.2.2.1, S.2.2.2.2.2.2.2.2.2.2.1, S.2.2.2.2.2.2.2.2.2.2.2.1, S.2.2.2.2.2.2.2.2.2.2.2.2.1, S.2.2.2.2.2.2.2.2.2.2.2.2.2.1, S.2.2.2.2.2.2.2.2.2.2.2.2.2.2.1, ()) H59)
  (seqE (leafE fun S H k =>
      k (S.1, S.2.1, S.2.2.1, S.2.2.2.1, S.2.2.2.2.1, S.2.2.2.2.2.2.2.2.1, (.bool false), S.2.2.2.2.2.2.2.1, S.2.2.2.2.2.2.2.2.1, S.2.2.2.2.2.2.2.2.2.1, S.2.2.2.2.2.2.2.2.2.2.1, S.2.2.2.2.2.2.2.2.2.2.2.1, S.2.2.2.2.2.2.2.2.2.2.2.2.1, S.2.2.2.2.2.2.2.2.2.2.2.2.2.1, S.2.2.2.2.2.2.2.2.2.2.2.2.2.2.1, ()) H)
  (doneE .ret)))))))))))))

def F124 (call : CallF) (lo : Nat) (args : List Value) (H : AH) : Option (Value × AH) :=
  leave .all H (bindV (C124 call (lowOf .all lo H) (argAt args 0, argAt args 1, argAt args 2, argAt args 3, argAt args 4, argAt args 10, argAt args 11, argAt args 12, argAt args 13, argAt args 47, argAt args 66, argAt args 71, argAt args 120, argAt args 139, argAt args 144, ()) H) fun p => resE p.1 (some (oneOf [p.2.1.2.2.2.2.2.1, p.2.1.2.2.2.2.2.2.1], p.2.2)))

theorem F124_eq (call : CallF) (lo : Nat) (args : List Value) (H : AH) : evFn P ctx call lo 124 args H = F124 call lo args H := by kernel_rfl

/-- slices.pdqsortCmpFunc[[]int] -/
def C125 (call : CallF) (lo : Nat) : Piece (Value × Value × Value × Value × Value × Value × Value × Value × Value × Value × Value × Value × Value × Value × Value × Value × Value × Value × Value × Value × Value × Value × Value × Value × Unit) :=
  (seqE (leafE fun S H k =>
      k (S.1, S.2.1, S.2.2.1, S.2.2.2.1, S.2.2.2.2.1, (.bool true), S.2.2.2.2.2.2.1, S.2.2.2.2.2.2.2.1, S.2.2.2.2.2.2.2.2.1, S.2.2.2.2.2.2.2.2.2.1, S.2.2.2.2.2.2.2.2.2.2.1, S.2.2.2.2.2.2.2.2.2.2.2.1, S.2.2.2.2.2.2.2.2.2.2.2.2.1, S.2.2.2.2.2.2.2.2.2.2.2.2.2.1, S.2.2.2.2.2.2.2.2.2.2.2.2.2.2.1, S.2.2.2.2.2.2.2.2.2.2.2.2.2.2.2.1, S.2.2.2.2.2.2.2.2.2.2.2.2.2.2.2.2.1, S.2.2.2.2.2.2.2.2.2.2.2.2.2.2.2.2.2.1, S.2.2.2.2.2.2.2.2.2.2.2.2.2.2.2.2.2.2.1, S.2.2.2.2.2.2.2.2.2.2.2.2.2.2.2.2.2.2.2.1, S.2.2.2.2.2.2.2.2.2.2.2.2.2.2.2.2.2.2.2.2.1, S.2.2.2.2.2.2.2.2.2.2.2.2.2.2.2.2.2.2.2.2.2.1, S.2.2.2.2.2.2.2.2.2.2.2.2.2.2.2.2.2.2.2.2.2.2.1, S.2.2.2.2.2.2.2.2.2.2.2.2.2.2.2.2.2.2.2.2.2.2.2.1, ()) H)
  (seqE (leafE fun S H k =>
      k (S.1, S.2.1, S.2.2.1, S.2.2.2.1, S.2.2.2.2.1, S.2.2.2.2.2.1, (.bool true), S.2.2.2.2.2.2.2.1, S.2.2.2.2.2.2.2.2.1, S.2.2.2.2.2.2.2.2.2.1, S.2.2.2.2.2.2.2.2.2.2.1, S.2.2.2.2.2.2.2.2.2.2.2.1, S.2.2.2.2.2.2.2.2.2.2.2.2.1, S.2.2.2.2.2.2.2.2.2.2.2.2.2.1, S.2.2.2.2.2.2.2.2.2.2.2.2.2.2.1, S.2.2.2.2.2.2.2.2.2.2.2.2.2.2.2.1, S.2.2.2.2.2.2.2.2.2.2.2.2.2.2.2.2.1, S.2.2.2.2.2.2.2.2.2.2.2.2.2.2.2.2.2.1, S.2.2.2.2.2.2.2.2.2.2.2.2.2.2.2.2.2.2.1, S.2.2.2.2.2.2.2.2.2.2.2.2.2.2.2.2.2.2.2.1, S.2.2.2.2.2.2.2.2.2.2.2.2.2.2.2.2.2.2.2.2.1, S.2.2.2.2.2.2.2.2.2.2.2.2.2.2.2.2.2.2.2.2.2.1, S.2.2.2.2.2.2.2.2.2.2.2.2.2.2.2.2.2.2.2.2.2.2.1, S.2.2.2.2.2.2.2.2.2.2.2.2.2.2.2.2.2.2.2.2.2.2.2.1, ()) H)
  (blockE 0 (loopE (blockE 1 (seqE (leafE fun S H k =>
         bindV (evSub S.2.2.1 S.2.1) fun t23 =>
         k (S.1, S.2.1, S.2.2.1, S.2.2.2.1, S.2.2.2.2.1, S.2.2.2.2.2.1, S.2.2.2.2.2.2.1, t23, S.2.2.2.2.2.2.2.2.1, S.2.2.2.2.2.2.2.2.2.1, S.2.2.2.2.2.2.2.2.2.2.1, S.2.2.2.2.2.2.2.2.2.2.2.1, S.2.2.2.2.2.2.2.2.2.2.2.2.1, S.2.2.2.2.2.2.2.2.2.2.2.2.2.1, S.2.2.2.2.2.2.2.2.2.2.2.2.2.2.1, S.2.2.2.2.2.2.2.2.2.2.2.2.2.2.2.1, S.2.2.2.2.2.2.2.2.2.2.2.2.2.2.2.2.1, S.2.2.2.2.2.2.2.2.2.2.2.2.2.2.2.2.2.1, S.2.2.2.2.2.2.2.2.2.2.2.2.2.2.2.2.2.2.1, S.2.2.2.2.2.2.2.2.2.2.2.2.2.2.2.2.2.2.2.1, S.2.2.2.2.2.2.2.2.2.2.2.2.2.2.2.2.2.2.2.2.1, S.2.2.2.2.2.2.2.2.2.2.2.2.2.2.2.2.2.2.2.2.2.1, S.2.2.2.2.2.2.2.2.2.2.2.2.2.2.2.2.2.2.2.2.2.2.1, S.2.2.2.2.2.2.2.2.2.2.2.2.2.2.2.2.2.2.2.2.2.2.2.1, ()) H)
     (seqE (seqE (leafE fun S H k =>
         bindV (evLeq S.2.2.2.2.2.2.2.1 (.int .i64 (.ofNat 12))) fun t25 =>
         k (S.1, S.2.1, S.2.2.1, S.2.2.2.1, S.2.2.2.2.1, S.2.2.2.2.2.1, S.2.2.2.2.2.2.1, S.2.2.2.2.2.2.2.1, S.2.2.2.2.2.2.2.2.1, S.2.2.2.2.2.2.2.2.2.1, S.2.2.2.2.2.2.2.2.2.2.1, S.2.2.2.2.2.2.2.2.2.2.2.1, S.2.2.2.2.2.2.2.2.2.2.2.2.1, S.2.2.2.2.2.2.2.2.2.2.2.2.2.1, S.2.2.2.2.2.2.2.2.2.2.2.2.2.2.1, S.2.2.2.2.2.2.2.2.2.2.2.2.2.2.2.1, t25, S.2.2.2.2.2.2.2.2.2.2.2.2.2.2.2.2.2.1, S.2.2.2.2.2.2.2.2.2.2.2.2.2.2.2.2.2.2.1, S.2.2.2.2.2.2.2.2.2.2.2.2.2.2.2.2.2.2.2.1, S.2.2.2.2.2.2.2.2.2.2.2.2.2.2.2.2.2.2.2.2.1, S.2.2.2.2.2.2.2.2.2.2.2.2.2.2.2.2.2.2.2.2.2.1, S.2.2.2.2.2.2.2.2.2.2.2.2.2.2.2.2.2.2.2.2.2.2.1, S.2.2.2.2.2.2.2.2.2.2.2.2.2.2.2.2.2.2.2.2.2.2.2.1, ()) H)
     (condE (fun S => some S.2.2.2.2.2.2.2.2.2.2.2.2.2.2.2.2.1)
      (seqE (leafE fun S H k =>
          bindVH (call lo 134 [S.1, S.2.1, S.2.2.1, S.2.2.2.2.1] H) fun t30 H0 =>
          k (S.1, S.2.1, S.2.2.1, S.2.2.2.1, S.2.2.2.2.1, S.2.2.2.2.2.1, S.2.2.2.2.2.2.1, S.2.2.2.2.2.2.2.1, S.2.2.2.2.2.2.2.2.1, S.2.2.2.2.2.2.2.2.2.1, S.2.2.2.2.2.2.2.2.2.2.1, S.2.2.2.2.2.2.2.2.2.2.2.1, S.2.2.2.2.2.2.2.2.2.2.2.2.1, S.2.2.2.2.2.2.2.2.2.2.2.2.2.1, S.2.2.2.2.2.2.2.2.2.2.2.2.2.2.1, S.2.2.2.2.2.2.2.2.2.2.2.2.2.2.2.1, S.2.2.2.2.2.2.2.2.2.2.2.2.2.2.2.2.1, S.2.2.2.2.2.2.2.2.2.2.2.2.2.2.2.2.2.1, S.2.2.2.2.2.2.2.2.2.2.2.2.2.2.2.2.2.2.1, S.2.2.2.2.2.2.2.2.2.2.2.2.2.2.2.2.2.2.2.1, S.2.2.2.2.2.2.2.2.2.2.2.2.2.2.2.2.2.2.2.2.1, S.2.2.2.2.2.2.2.2.2.2.2.2.2.2.2.2.2.2.2.2.2.1, S.2.2.2.2.2.2.2.2.2.2.2.2.2.2.2.2.2.2.2.2.2.2.1, S.2.2.2.2.2.2.2.2.2.2.2.2.2.2.2.2.2.2.2.2.2.2.2.1, ()) H0)
      (doneE .ret))
      (doneE .normal)))
     (seqE (seqE (leafE fun S H k =>
         bindV (evEql .int S.2.2.2.1 (.int .i64 (.ofNat 0))) fun t32 =>
         k (S.1, S.2.1, S.2.2.1, S.2.2.2.1, S.2.2.2.2.1, S.2.2.2.2.2.1, S.2.2.2.2.2.2.1, S.2.2.2.2.2.2.2.1, S.2.2.2.2.2.2.2.2.1, S.2.2.2.2.2.2.2.2.2.1, S.2.2.2.2.2.2.2.2.2.2.1, S.2.2.2.2.2.2.2.2.2.2.2.1, S.2.2.2.2.2.2.2.2.2.2.2.2.1, S.2.2.2.2.2.2.2.2.2.2.2.2.2.1, S.2.2.2.2.2.2.2.2.2.2.2.2.2.2.1, S.2.2.2.2.2.2.2.2.2.2.2.2.2.2.2.1, S.2.2.2.2.2.2.2.2.2.2.2.2.2.2.2.2.1, t32, S.2.2.2.2.2.2.2.2.2.2.2.2.2.2.2.2.2.2.1, S.2.2.2.2.2.2.2.2.2.2.2.2.2.2.2.2.2.2.2.1, S.2.2.2.2.2.2.2.2.2.2.2.2.2.2.2.2.2.2.2.2.1, S.2.2.2.2.2.2.2.2.2.2.2.2.2.2.2.2.2.2.2.2.2.1, S.2.2.2.2.2.2.2.2.2.2.2.2.2.2.2.2.2.2.2.2.2.2.1, S.2.2.2.2.2.2.2.2.2.2.2.2.2.2.2.2.2.2.2.2.2.2.2.1, ()) H)
     (condE (fun S => some S.2.2.2.2.2.2.2.2.2.2.2.2.2.2.2.2.2.1)
      (seqE (leafE fun S H k =>
          bindVH (call lo 135 [S.1, S.2.1, S.2.2.1, S.2.2.2.2.1] H) fun t37 H1 =>
          k (S.1, S.2.1, S.2.2.1, S.2.2.2.1, S.2.2.2.2.1, S.2.2.2.2.2.1, S.2.2.2.2.2.2.1, S.2.2.2.2.2.2.2.1, S.2.2.2.2.2.2.2.2.1, S.2.2.2.2.2.2.2.2.2.1, S.2.2.2.2.2.2.2.2.2.2.1, S.2.2.2.2.2.2.2.2.2.2.2.1, S.2.2.2.2.2.2.2.2.2.2.2.2.1, S.2.2.2.2.2.2.2.2.2.2.2.2.2.1, S.2.2.2.2.2.2.2.2.2.2.2.2.2.2.1, S.2.2.2.2.2.2.2.2.2.2.2.2.2.2.2.1, S.2.2.2.2.2.2.2.2.2.2.2.2.2.2.2.2.1, S.2.2.2.2.2.2.2.2.2.2.2.2.2.2.2.2.2.1, S.2.2.2.2.2.2.2.2.2.2.2.2.2.2.2.2.2.2.1, S.2.2.2.2.2.2.2.2.2.2.2.2.2.2.2.2.2.2.2.1, S.2.2.2.2.2.2.2.2.2.2.2.2.2.2.2.2.2.2.2.2.1, S.2.2.2.2.2.2.2.2.2.2.2.2.2.2.2.2.2.2.2.2.2.1, S.2.2.2.2.2.2.2.2.2.2.2.2.2.2.2.2.2.2.2.2.2.2.1, S.2.2.2.2.2.2.2.2.2.2.2.2.2.2.2.2.2.2.2.2.2.2.2.1, ()) H1)
      (doneE .ret))
      (doneE .normal)))
     (seqE (seqE (leafE fun S H k =>
         bindV (evNot S.2.2.2.2.2.1) fun t39 =>
         k (S.1, S.2.1, S.2.2.1, S.2.2.2.1, S.2.2.2.2.1, S.2.2.2.2.2.1, S.2.2.2.2.2.2.1, S.2.2.2.2.2.2.2.1, S.2.2.2.2.2.2.2.2.1, S.2.2.2.2.2.2.2.2.2.1, S.2.2.2.2.2.2.2.2.2.2.1, S.2.2.2.2.2.2.2.2.2.2.2.1, S.2.2.2.2.2.2.2.2.2.2.2.2.1, S.2.2.2.2.2.2.2.2.2.2.2.2.2.1, S.2.2.2.2.2.2.2.2.2.2.2.2.2.2.1, S.2.2.2.2.2.2.2.2.2.2.2.2.2.2.2.1, S.2.2.2.2.2.2.2.2.2.2.2.2.2.2.2.2.1, S.2.2.2.2.2.2.2.2.2.2.2.2.2.2.2.2.2.1, t39, S.2.2.2.2.2.2.2.2.2.2.2.2.2.2.2.2.2.2.2.1, S.2.2.2.2.2.2.2.2.2.2.2.2.2.2.2.2.2.2.2.2.1, S.2.2.2.2.2.2.2.2.2.2.2.2.2.2.2.2.2.2.2.2.2.1, S.2.2.2.2.2.2.2.2.2.2.2.2.2.2.2.2.2.2.2.2.2.2.1, S.2.2.2.2.2.2.2.2.2.2.2.2.2.2.2.2.2.2.2.2.2.2.2.1, ()) H)
     (condE (fun S => some S.2.2.2.2.2.2.2.2.2.2.2.2.2.2.2.2.2.2.1)
      (seqE (leafE fun S H k =>
          bindVH (call lo 136 [S.1, S.2.1, S.2.2.1, S.2.2.2.2.1] H) fun t44 H2 =>
          k (S.1, S.2.1, S.2.2.1, S.2.2.2.1, S.2.2.2.2.1, S.2.2.2.2.2.1, S.2.2.2.2.2.2.1, S.2.2.2.2.2.2.2.1, S.2.2.2.2.2.2.2.2.1, S.2.2.2.2.2.2.2.2.2.1, S.2.2.2.2.2.2.2.2.2.2.1, S.2.2.2.2.2.2.2.2.2.2.2.1, S.2.2.2.2.2.2.2.2.2.2.2.2.1, S.2.2.2.2.2.2.2.2.2.2.2.2.2.1, S.2.2.2.2.2.2.2.2.2.2.2.2.2.2.1, S.2.2.2.2.2.2.2.2.2.2.2.2.2.2.2.1, S.2.2.2.2.2.2.2.2.2.2.2.2.2.2.2.2.1, S.2.2.2.2.2.2.2.2.2.2.2.2.2.2.2.2.2.1, S.2.2.2.2.2.2.2.2.2.2.2.2.2.2.2.2.2.2.1, S.2.2.2.2.2.2.2.2.2.2.2.2.2.2.2.2.2.2.2.1, S.2.2.2.2.2.2.2.2.2.2.2.2.2.2.2.2.2.2.2.2.1, S.2.2.2.2.2.2.2.2.2.2.2.2.2.2.2.2.2.2.2.2.2.1, S.2.2.2.2.2.2.2.2.2.2.2.2.2.2.2.2.2.2.2.2.2.2.1, S.2.2.2.2.2.2.2.2.2.2.2.2.2.2.2.2.2.2.2.2.2.2.2.1, ()) H2)
      (leafE fun S H k =>
          bindV (evSub S.2.2.2.1 (.int .i64 (.ofNat 1))) fun t46 =>
          k (S.1, S.2.1, S.2.2.1, t46, S.2.2.2.2.1, S.2.2.2.2.2.1, S.2.2.2.2.2.2.1, S.2.2.2.2.2.2.2.1, S.2.2.2.2.2.2.2.2.1, S.2.2.2.2.2.2.2.2.2.1, S.2.2.2.2.2.2.2.2.2.2.1, S.2.2.2.2.2.2.2.2.2.2.2.1, S.2.2.2.2.2.2.2.2.2.2.2.2.1, S.2.2.2.2.2.2.2.2.2.2.2.2.2.1, S.2.2.2.2.2.2.2.2.2.2.2.2.2.2.1, S.2.2.2.2.2.2.2.2.2.2.2.2.2.2.2.1, S.2.2.2.2.2.2.2.2.2.2.2.2.2.2.2.2.1, S.2.2.2.2.2.2.2.2.2.2.2.2.2.2.2.2.2.1, S.2.2.2.2.2.2.2.2.2.2.2.2.2.2.2.2.2.2.1, S.2.2.2.2.2.2.2.2.2.2.2.2.2.2.2.2.2.2.2.1, S.2.2.2.2.2.2.2.2.2.2.2.2.2.2.2.2.2.2.2.2.1, S.2.2.2.2.2.2.2.2.2.2.2.2.2.2.2.2.2.2.2.2.2.1, S.2.2.2.2.2.2.2.2.2.2.2.2.2.2.2.2.2.2.2.2.2.2.1, S.2.2.2.2.2.2.2.2.2.2.2.2.2.2.2.2.2.2.2.2.2.2.2.1, ()) H))
      (doneE .normal)))
     (seqE (leafE fun S H k =>
         bindVH (call lo 137 [S.1, S.2.1, S.2.2.1, S.2.2.2.2.1] H) fun t52 H3 =>
         bindV (evComp t52 0) fun t53 =>
         bindV (evComp t52 1) fun t54 =>
         k (S.1, S.2.1, S.2.2.1, S.2.2.2.1, S.2.2.2.2.1, S.2.2.2.2.2.1, S.2.2.2.2.2.2.1, S.2.2.2.2.2.2.2.1, t53, t54, S.2.2.2.2.2.2.2.2.2.2.1, S.2.2.2.2.2.2.2.2.2.2.2.1, S.2.2.2.2.2.2.2.2.2.2.2.2.1, S.2.2.2.2.2.2.2.2.2.2.2.2.2.1, S.2.2.2.2.2.2.2.2.2.2.2.2.2.2.1, S.2.2.2.2.2.2.2.2.2.2.2.2.2.2.2.1, S.2.2.2.2.2.2.2.2.2.2.2.2.2.2.2.2.1, S.2.2.2.2.2.2.2.2.2.2.2.2.2.2.2.2.2.1, S.2.2.2.2.2.2.2.2.2.2.2.2.2.2.2.2.2.2.1, S.2.2.2.2.2.2.2.2.2.2.2.2.2.2.2.2.2.2.2.1, S.2.2.2.2.2.2.2.2.2.2.2.2.2.2.2.2.2.2.2.2.1, S.2.2.2.2.2.2.2.2.2.2.2.2.2.2.2.2.2.2.2.2.2.1, S.2.2.2.2.2.2.2.2.2.2.2.2.2.2.2.2.2.2.2.2.2.2.1, S.2.2.2.2.2.2.2.2.2.2.2.2.2.2.2.2.2.2.2.2.2.2.2.1, ()) H3)
     (seqE (seqE (leafE fun S H k =>
         bindV (evEql .int S.2.2.2.2.2.2.2.2.2.1 (.int .i64 (.ofNat 2))) fun t56 =>
         k (S.1, S.2.1, S.2.2.1, S.2.2.2.1, S.2.2.2.2.1, S.2.2.2.2.2.1, S.2.2.2.2.2.2.1, S.2.2.2.2.2.2.2.1, S.2.2.2.2.2.2.2.2.1, S.2.2.2.2.2.2.2.2.2.1, S.2.2.2.2.2.2.2.2.2.2.1, S.2.2.2.2.2.2.2.2.2.2.2.1, S.2.2.2.2.2.2.2.2.2.2.2.2.1, S.2.2.2.2.2.2.2.2.2.2.2.2.2.1, S.2.2.2.2.2.2.2.2.2.2.2.2.2.2.1, S.2.2.2.2.2.2.2.2.2.2.2.2.2.2.2.1, S.2.2.2.2.2.2.2.2.2.2.2.2.2.2.2.2.1, S.2.2.2.2.2.2.2.2.2.2.2.2.2.2.2.2.2.1, S.2.2.2.2.2.2.2.2.2.2.2.2.2.2.2.2.2.2.1, t56, S.2.2.2.2.2.2.2.2.2.2.2.2.2.2.2.2.2.2.2.2.1, S.2.2.2.2.2.2.2.2.2.2.2.2.2.2.2.2.2.2.2.2.2.1, S.2.2.2.2.2.2.2.2.2.2.2.2.2.2.2.2.2.2.2.2.2.2.1, S.2.2.2.2.2.2.2.2.2.2.2.2.2.2.2.2.2.2.2.2.2.2.2.1, ()) H)
     (condE (fun S => some S.2.2.2.2.2.2.2.2.2.2.2.2.2.2.2.2.2.2.2.1)
      (seqE (leafE fun S H k =>
          bindVH (call lo 138 [S.1, S.2.1, S.2.2.1, S.2.2.2.2.1] H) fun t61 H4 =>
          k (S.1, S.2.1, S.2.2.1, S.2.2.2.1, S.2.2.2.2.1, S.2.2.2.2.2.1, S.2.2.2.2.2.2.1, S.2.2.2.2.2.2.2.1, S.2.2.2.2.2.2.2.2.1, S.2.2.2.2.2.2.2.2.2.1, S.2.2.2.2.2.2.2.2.2.2.1, S.2.2.2.2.2.2.2.2.2.2.2.1, S.2.2.2.2.2.2.2.2.2.2.2.2.1, S.2.2.2.2.2.2.2.2.2.2.2.2.2.1, S.2.2.2.2.2.2.2.2.2.2.2.2.2.2.1, S.2.2.2.2.2.2.2.2.2.2.2.2.2.2.2.1, S.2.2.2.2.2.2.2.2.2.2.2.2.2.2.2.2.1, S.2.2.2.2.2.2.2.2.2.2.2.2.2.2.2.2.2.1, S.2.2.2.2.2.2.2.2.2.2.2.2.2.2.2.2.2.2.1, S.2.2.2.2.2.2.2.2.2.2.2.2.2.2.2.2.2.2.2.1, S.2.2.2.2.2.2.2.2.2.2.2.2.2.2.2.2.2.2.2.2.1, S.2.2.2.2.2.2.2.2.2.2.2.2.2.2.2.2.2.2.2.2.2.1, S.2.2.2.2.2.2.2.2.2.2.2.2.2.2.2.2.2.2.2.2.2.2.1, S.2.2.2.2.2.2.2.2.2.2.2.2.2.2.2.2.2.2.2.2.2.2.2.1, ()) H4)
      (seqE (leafE fun S H k =>
          bindV (evSub S.2.2.1 (.int .i64 (.ofNat 1))) fun t63 =>
          bindV (evSub S.2.2.2.2.2.2.2.2.1 S.2.1) fun t66 =>
          bindV (evSub t63 t66) fun t67 =>
          k (S.1, S.2.1, S.2.2.1, S.2.2.2.1, S.2.2.2.2.1, S.2.2.2.2.2.1, S.2.2.2.2.2.2.1, S.2.2.2.2.2.2.2.1, t67, S.2.2.2.2.2.2.2.2.2.1, S.2.2.2.2.2.2.2.2.2.2.1, S.2.2.2.2.2.2.2.2.2.2.2.1, S.2.2.2.2.2.2.2.2.2.2.2.2.1, S.2.2.2.2.2.2.2.2.2.2.2.2.2.1, S.2.2.2.2.2.2.2.2.2.2.2.2.2.2.1, S.2.2.2.2.2.2.2.2.2.2.2.2.2.2.2.1, S.2.2.2.2.2.2.2.2.2.2.2.2.2.2.2.2.1, S.2.2.2.2.2.2.2.2.2.2.2.2.2.2.2.2.2.1, S.2.2.2.2.2.2.2.2.2.2.2.2.2.2.2.2.2.2.1, S.2.2.2.2.2.2.2.2.2.2.2.2.2.2.2.2.2.2.2.1, S.2.2.2.2.2.2.2.2.2.2.2.2.2.2.2.2.2.2.2.2.1, S.2.2.2.2.2.2.2.2.2.2.2.2.2.2.2.2.2.2.2.2.2.1, S.2.2.2.2.2.2.2.2.2.2.2.2.2.2.2.2.2.2.2.2.2.2.1, S.2.2.2.2.2.2.2.2.2.2.2.2.2.2.2.2.2.2.2.2.2.2.2.1, ()) H)
      (leafE fun S H k =>
          k (S.1, S.2.1, S.2.2.1, S.2.2.2.1, S.2.2.2.2.1, S.2.2.2.2.2.1, S.2.2.2.2.2.2.1, S.2.2.2.2.2.2.2.1, S.2.2.2.2.2.2.2.2.1, (.int .i64 (.ofNat 1)), S.2.2.2.2.2.2.2.2.2.2.1, S.2.2.2.2.2.2.2.2.2.2.2.1, S.2.2.2.2.2.2.2.2.2.2.2.2.1, S.2.2.2.2.2.2.2.2.2.2.2.2.2.1, S.2.2.2.2.2.2.2.2.2.2.2.2.2.2.1, S.2.2.2.2.2.2.2.2.2.2.2.2.2.2.2.1, S.2.2.2.2.2.2.2.2.2.2.2.2.2.2.2.2.1, S.2.2.2.2.2.2.2.2.2.2.2.2.2.2.2.2.2.1, S.2.2.2.2.2.2.2.2.2.2.2.2.2.2.2.2.2.2.1, S.2.2.2.2.2.2.2.2.2.2.2.2.2.2.2.2.2.2.2.1, S.2.2.2.2.2.2.2.2.2.2.2.2.2.2.2.2.2.2.2.2.1, S.2.2.2.2.2.2.2.2.2.2.2.2.2.2.2.2.2.2.2.2.2.1, S.2.2.2.2.2.2.2.2.2.2.2.2.2.2.2.2.2.2.2.2.2.2.1, S.2.2.2.2.2.2.2.2.2.2.2.2.2.2.2.2.2.2.2.2.2.2.2.1, ()) H)))
      (doneE .normal)))
     (seqE (seqE (leafE fun S H k =>
         guarded S.2.2.2.2.2.1 true ( pairVH S.2.2.2.2.2.2.1 H) H fun t70 H5 =>
         bindV (evPick S.2.2.2.2.2.1 t70 (.bool false)) fun t71 =>
         guarded t71 true ( pairVH S.2.2.2.2.2.2.2.2.2.1 H5) H5 fun t73 H6 =>
         guarded t71 true (bindV (evEql .int t73 (.int .i64 (.ofNat 1))) fun t1000000 => pairVH t1000000 H6) H6 fun t74 H7 =>
         bindV (evPick t71 t74 (.bool false)) fun t75 =>
         k (S.1, S.2.1, S.2.2.1, S.2.2.2.1, S.2.2.2.2.1, S.2.2.2.2.2.1, S.2.2.2.2.2.2.1, S.2.2.2.2.2.2.2.1, S.2.2.2.2.2.2.2.2.1, S.2.2.2.2.2.2.2.2.2.1, S.2.2.2.2.2.2.2.2.2.2.1, S.2.2.2.2.2.2.2.2.2.2.2.1, S.2.2.2.2.2.2.2.2.2.2.2.2.1, S.2.2.2.2.2.2.2.2.2.2.2.2.2.1, S.2.2.2.2.2.2.2.2.2.2.2.2.2.2.1, S.2.2.2.2.2.2.2.2.2.2.2.2.2.2.2.1, S.2.2.2.2.2.2.2.2.2.2.2.2.2.2.2.2.1, S.2.2.2.2.2.2.2.2.2.2.2.2.2.2.2.2.2.1, S.2.2.2.2.2.2.2.2.2.2.2.2.2.2.2.2.2.2.1, S.2.2.2.2.2.2.2.2.2.2.2.2.2.2.2.2.2.2.2.1, t75, S.2.2.2.2.2.2.2.2.2.2.2.2.2.2.2.2.2.2.2.2.2.1, S.2.2.2.2.2.2.2.2.2.2.2.2.2.2.2.2.2.2.2.2.2.2.1, S.2.2.2.2.2.2.2.2.2.2.2.2.2.2.2.2.2.2.2.2.2.2.2.1, ()) H7)
     (condE (fun S => some S.2.2.2.2.2.2.2.2.2.2.2.2.2.2.2.2.2.2.2.2.1)
      (seqE (leafE fun S H k =>
          bindVH (call lo 139 [S.1, S.2.1, S.2.2.1, S.2.2.2.2.1] H) fun t80 H8 =>
          k (S.1, S.2.1, S.2.2.1, S.2.2.2.1, S.2.2.2.2.1, S.2.2.2.2.2.1, S.2.2.2.2.2.2.1, S.2.2.2.2.2.2.2.1, S.2.2.2.2.2.2.2.2.1, S.2.2.2.2.2.2.2.2.2.1, S.2.2.2.2.2.2.2.2.2.2.1, S.2.2.2.2.2.2.2.2.2.2.2.1, S.2.2.2.2.2.2.2.2.2.2.2.2.1, S.2.2.2.2.2.2.2.2.2.2.2.2.2.1, S.2.2.2.2.2.2.2.2.2.2.2.2.2.2.1, S.2.2.2.2.2.2.2.2.2.2.2.2.2.2.2.1, S.2.2.2.2.2.2.2.2.2.2.2.2.2.2.2.2.1, S.2.2.2.2.2.2.2.2.2.2.2.2.2.2.2.2.2.1, S.2.2.2.2.2.2.2.2.2.2.2.2.2.2.2.2.2.2.1, S.2.2.2.2.2.2.2.2.2.2.2.2.2.2.2.2.2.2.2.1, S.2.2.2.2.2.2.2.2.2.2.2.2.2.2.2.2.2.2.2.2.1, t80, S.2.2.2.2.2.2.2.2.2.2.2.2.2.2.2.2.2.2.2.2.2.2.1, S.2.2.2.2.2.2.2.2.2.2.2.2.2.2.2.2.2.2.2.2.2.2.2.1, ()) H8)
      (condE (fun S => some S.2.2.2.2.2.2.2.2.2.2.2.2.2.2.2.2.2.2.2.2.2.1)
       (doneE .ret)
       (doneE .normal)))
      (doneE .normal)))
     (seqE (seqE (leafE fun S H k =>
         bindV (evGtr S.2.1 (.int .i64 (.ofNat 0))) fun t82 =>
         guarded t82 true ( pairVH S.2.2.2.2.1 H) H fun t84 H9 =>
         guarded t82 true ( pairVH S.1 H9) H9 fun t85 H10 =>
         guarded t82 true ( pairVH S.2.1 H10) H10 fun t86 H11 =>
         guarded t82 true (bindV (evSub t86 (.int .i64 (.ofNat 1))) fun t1000000 => pairVH t1000000 H11) H11 fun t87 H12 =>
         guarded t82 true (bindV (evIdxSlice 1 t85 t87) fun t1000000 => pairVH t1000000 H12) H12 fun t88 H13 =>
         guarded t82 true (bindV (evLoad H13 false 1 t88) fun t1000000 => pairVH t1000000 H13) H13 fun t89 H14 =>
         guarded t82 true ( pairVH S.1 H14) H14 fun t90 H15 =>
         guarded t82 true ( pairVH S.2.2.2.2.2.2.2.2.1 H15) H15 fun t91 H16 =>
         guarded t82 true (bindV (evIdxSlice 1 t90 t91) fun t1000000 => pairVH t1000000 H16) H16 fun t92 H17 =>
         guarded t82 true (bindV (evLoad H17 false 1 t92) fun t1000000 => pairVH t1000000 H17) H17 fun t93 H18 =>
         guarded t82 true (callVal call lo t84 [t89, t93] H18 fun t1000000 H19 => pairVH t1000000 H19) H18 fun t94 H20 =>
         guarded t82 true (bindV (evLss t94 (.int .i64 (.ofNat 0))) fun t1000000 => pairVH t1000000 H20) H20 fun t95 H21 =>
         guarded t82 true (bindV (evNot t95) fun t1000000 => pairVH t1000000 H21) H21 fun t96 H22 =>
         bindV (evPick t82 t96 (.bool false)) fun t97 =>
         k (S.1, S.2.1, S.2.2.1, S.2.2.2.1, S.2.2.2.2.1, S.2.2.2.2.2.1, S.2.2.2.2.2.2.1, S.2.2.2.2.2.2.2.1, S.2.2.2.2.2.2.2.2.1, S.2.2.2.2.2.2.2.2.2.1, S.2.2.2.2.2.2.2.2.2.2.1, S.2.2.2.2.2.2.2.2.2.2.2.1, S.2.2.2.2.2.2.2.2.2.2.2.2.1, S.2.2.2.2.2.2.2.2.2.2.2.2.2.1, S.2.2.2.2.2.2.2.2.2.2.2.2.2.2.1, S.2.2.2.2.2.2.2.2.2.2.2.2.2.2.2.1, S.2.2.2.2.2.2.2.2.2.2.2.2.2.2.2.2.1, S.2.2.2.2.2.2.2.2.2.2.2.2.2.2.2.2.2.1, S.2.2.2.2.2.2.2.2.2.2.2.2.2.2.2.2.2.2.1, S.2.2.2.2.2.2.2.2.2.2.2.2.2.2.2.2.2.2.2.1, S.2.2.2.2.2.2.2.2.2.2.2.2.2.2.2.2.2.2.2.2.1, S.2.2.2.2.2.2.2.2.2.2.2.2.2.2.2.2.2.2.2.2.2.1, t97, S.2.2.2.2.2.2.2.2.2.2.2.2.2.2.2.2.2.2.2.2.2.2.2.1, ()) H22)
     (condE (fun S => some S.2.2.2.2.2.2.2.2.2.2.2.2.2.2.2.2.2.2.2.2.2.2.1)
      (seqE (leafE fun S H k =>
          bindVH (call lo 140 [S.1, S.2.1, S.2.2.1, S.2.2.2.2.2.2.2.2.1, S.2.2.2.2.1] H) fun t103 H23 =>
          k (S.1, S.2.1, S.2.2.1, S.2.2.2.1, S.2.2.2.2.1, S.2.2.2.2.2.1, S.2.2.2.2.2.2.1, S.2.2.2.2.2.2.2.1, S.2.2.2.2.2.2.2.2.1, S.2.2.2.2.2.2.2.2.2.1, t103, S.2.2.2.2.2.2.2.2.2.2.2.1, S.2.2.2.2.2.2.2.2.2.2.2.2.1, S.2.2.2.2.2.2.2.2.2.2.2.2.2.1, S.2.2.2.2.2.2.2.2.2.2.2.2.2.2.1, S.2.2.2.2.2.2.2.2.2.2.2.2.2.2.2.1, S.2.2.2.2.2.2.2.2.2.2.2.2.2.2.2.2.1, S.2.2.2.2.2.2.2.2.2.2.2.2.2.2.2.2.2.1, S.2.2.2.2.2.2.2.2.2.2.2.2.2.2.2.2.2.2.1, S.2.2.2.2.2.2.2.2.2.2.2.2.2.2.2.2.2.2.2.1, S.2.2.2.2.2.2.2.2.2.2.2.2.2.2.2.2.2.2.2.2.1, S.2.2.2.2.2.2.2.2.2.2.2.2.2.2.2.2.2.2.2.2.2.1, S.2.2.2.2.2.2.2.2.2.2.2.2.2.2.2.2.2.2.2.2.2.2.1, S.2.2.2.2.2.2.2.2.2.2.2.2.2.2.2.2.2.2.2.2.2.2.2.1, ()) H23)
      (seqE (leafE fun S H k =>
          k (S.1, S.2.2.2.2.2.2.2.2.2.2.1, S.2.2.1, S.2.2.2.1, S.2.2.2.2.1, S.2.2.2.2.2.1, S.2.2.2.2.2.2.1, S.2.2.2.2.2.2.2.1, S.2.2.2.2.2.2.2.2.1, S.2.2.2.2.2.2.2.2.2.1, S.2.2.2.2.2.2.2.2.2.2.1, S.2.2.2.2.2.2.2.2.2.2.2.1, S.2.2.2.2.2.2.2.2.2.2.2.2.1, S.2.2.2.2.2.2.2.2.2.2.2.2.2.1, S.2.2.2.2.2.2.2.2.2.2.2.2.2.2.1, S.2.2.2.2.2.2.2.2.2.2.2.2.2.2.2.1, S.2.2.2.2.2.2.2.2.2.2.2.2.2.2.2.2.1, S.2.2.2.2.2.2.2.2.2.2.2.2.2.2.2.2.2.1, S.2.2.2.2.2.2.2.2.2.2.2.2.2.2.2.2.2.2.1, S.2.2.2.2.2.2.2.2.2.2.2.2.2.2.2.2.2.2.2.1, S.2.2.2.2.2.2.2.2.2.2.2.2.2.2.2.2.2.2.2.2.1, S.2.2.2.2.2.2.2.2.2.2.2.2.2.2.2.2.2.2.2.2.2.1, S.2.2.2.2.2.2.2.2.2.2.2.2.2.2.2.2.2.2.2.2.2.2.1, S.2.2.2.2.2.2.2.2.2.2.2.2.2.2.2.2.2.2.2.2.2.2.2.1, ()) H)
      (doneE (.exit 1))))
      (doneE .normal)))
     (seqE (leafE fun S H k =>
         bindVH (call lo 141 [S.1, S.2.1, S.2.2.1, S.2.2.2.2.2.2.2.2.1, S.2.2.2.2.1] H) fun t111 H24 =>
         bindV (evComp t111 0) fun t112 =>
         bindV (evComp t111 1) fun t113 =>
         k (S.1, S.2.1, S.2.2.1, S.2.2.2.1, S.2.2.2.2.1, S.2.2.2.2.2.1, S.2.2.2.2.2.2.1, S.2.2.2.2.2.2.2.1, S.2.2.2.2.2.2.2.2.1, S.2.2.2.2.2.2.2.2.2.1, S.2.2.2.2.2.2.2.2.2.2.1, t112, t113, S.2.2.2.2.2.2.2.2.2.2.2.2.2.1, S.2.2.2.2.2.2.2.2.2.2.2.2.2.2.1, S.2.2.2.2.2.2.2.2.2.2.2.2.2.2.2.1, S.2.2.2.2.2.2.2.2.2.2.2.2.2.2.2.2.1, S.2.2.2.2.2.2.2.2.2.2.2.2.2.2.2.2.2.1, S.2.2.2.2.2.2.2.2.2.2.2.2.2.2.2.2.2.2.1, S.2.2.2.2.2.2.2.2.2.2.2.2.2.2.2.2.2.2.2.1, S.2.2.2.2.2.2.2.2.2.2.2.2.2.2.2.2.2.2.2.2.1, S.2.2.2.2.2.2.2.2.2.2.2.2.2.2.2.2.2.2.2.2.2.1, S.2.2.2.2.2.2.2.2.2.2.2.2.2.2.2.2.2.2.2.2.2.2.1, S.2.2.2.2.2.2.2.2.2.2.2.2.2.2.2.2.2.2.2.2.2.2.2.1, ()) H24)
     (seqE (leafE fun S H k =>
         k (S.1, S.2.1, S.2.2.1, S.2.2.2.1, S.2.2.2.2.1, S.2.2.2.2.2.1, S.2.2.2.2.2.2.2.2.2.2.2.2.1, S.2.2.2.2.2.2.2.1, S.2.2.2.2.2.2.2.2.1, S.2.2.2.2.2.2.2.2.2.1, S.2.2.2.2.2.2.2.2.2.2.1, S.2.2.2.2.2.2.2.2.2.2.2.1, S.2.2.2.2.2.2.2.2.2.2.2.2.1, S.2.2.2.2.2.2.2.2.2.2.2.2.2.1, S.2.2.2.2.2.2.2.2.2.2.2.2.2.2.1, S.2.2.2.2.2.2.2.2.2.2.2.2.2.2.2.1, S.2.2.2.2.2.2.2.2.2.2.2.2.2.2.2.2.1, S.2.2.2.2.2.2.2.2.2.2.2.2.2.2.2.2.2.1, S.2.2.2.2.2.2.2.2.2.2.2.2.2.2.2.2.2.2.1, S.2.2.2.2.2.2.2.2.2.2.2.2.2.2.2.2.2.2.2.1, S.2.2.2.2.2.2.2.2.2.2.2.2.2.2.2.2.2.2.2.2.1, S.2.2.2.2.2.2.2.2.2.2.2.2.2.2.2.2.2.2.2.2.2.1, S.2.2.2.2.2.2.2.2.2.2.2.2.2.2.2.2.2.2.2.2.2.2.1, S.2.2.2.2.2.2.2.2.2.2.2.2.2.2.2.2.2.2.2.2.2.2.2.1, ()) H)
     (seqE (leafE fun S H k =>
         bindV (evSub S.2.2.2.2.2.2.2.2.2.2.2.1 S.2.1) fun t117 =>
         bindV (evSub S.2.2.1 S.2.2.2.2.2.2.2.2.2.2.2.1) fun t120 =>
         k (S.1, S.2.1, S.2.2.1, S.2.2.2.1, S.2.2.2.2.1, S.2.2.2.2.2.1, S.2.2.2.2.2.2.1, S.2.2.2.2.2.2.2.1, S.2.2.2.2.2.2.2.2.1, S.2.2.2.2.2.2.2.2.2.1, S.2.2.2.2.2.2.2.2.2.2.1, S.2.2.2.2.2.2.2.2.2.2.2.1, S.2.2.2.2.2.2.2.2.2.2.2.2.1, t117, t120, S.2.2.2.2.2.2.2.2.2.2.2.2.2.2.2.1, S.2.2.2.2.2.2.2.2.2.2.2.2.2.2.2.2.1, S.2.2.2.2.2.2.2.2.2.2.2.2.2.2.2.2.2.1, S.2.2.2.2.2.2.2.2.2.2.2.2.2.2.2.2.2.2.1, S.2.2.2.2.2.2.2.2.2.2.2.2.2.2.2.2.2.2.2.1, S.2.2.2.2.2.2.2.2.2.2.2.2.2.2.2.2.2.2.2.2.1, S.2.2.2.2.2.2.2.2.2.2.2.2.2.2.2.2.2.2.2.2.2.1, S.2.2.2.2.2.2.2.2.2.2.2.2.2.2.2.2.2.2.2.2.2.2.1, S.2.2.2.2.2.2.2.2.2.2.2.2.2.2.2.2.2.2.2.2.2.2.2.1, ()) H)
     (seqE (leafE fun S H k =>
         bindV (evQuo S.2.2.2.2.2.2.2.1 (.int .i64 (.ofNat 8))) fun t122 =>
         k (S.1, S.2.1, S.2.2.1, S.2.2.2.1, S.2.2.2.2.1, S.2.2.2.2.2.1, S.2.2.2.2.2.2.1, S.2.2.2.2.2.2.2.1, S.2.2.2.2.2.2.2.2.1, S.2.2.2.2.2.2.2.2.2.1, S.2.2.2.2.2.2.2.2.2.2.1, S.2.2.2.2.2.2.2.2.2.2.2.1, S.2.2.2.2.2.2.2.2.2.2.2.2.1, S.2.2.2.2.2.2.2.2.2.2.2.2.2.1, S.2.2.2.2.2.2.2.2.2.2.2.2.2.2.1, t122, S.2.2.2.2.2.2.2.2.2.2.2.2.2.2.2.2.1, S.2.2.2.2.2.2.2.2.2.2.2.2.2.2.2.2.2.1, S.2.2.2.2.2.2.2.2.2.2.2.2.2.2.2.2.2.2.1, S.2.2.2.2.2.2.2.2.2.2.2.2.2.2.2.2.2.2.2.1, S.2.2.2.2.2.2.2.2.2.2.2.2.2.2.2.2.2.2.2.2.1, S.2.2.2.2.2.2.2.2.2.2.2.2.2.2.2.2.2.2.2.2.2.1, S.2.2.2.2.2.2.2.2.2.2.2.2.2.2.2.2.2.2.2.2.2.2.1, S.2.2.2.2.2.2.2.2.2.2.2.2.2.2.2.2.2.2.2.2.2.2.2.1, ()) H)
     (seqE (leafE fun S H k =>
         bindV (evLss S.2.2.2.2.2.2.2.2.2.2.2.2.2.1 S.2.2.2.2.2.2.2.2.2.2.2.2.2.2.1) fun t125 =>
         k (S.1, S.2.1, S.2.2.1, S.2.2.2.1, S.2.2.2.2.1, S.2.2.2.2.2.1, S.2.2.2.2.2.2.1, S.2.2.2.2.2.2.2.1, S.2.2.2.2.2.2.2.2.1, S.2.2.2.2.2.2.2.2.2.1, S.2.2.2.2.2.2.2.2.2.2.1, S.2.2.2.2.2.2.2.2.2.2.2.1, S.2.2.2.2.2.2.2.2.2.2.2.2.1, S.2.2.2.2.2.2.2.2.2.2.2.2.2.1, S.2.2.2.2.2.2.2.2.2.2.2.2.2.2.1, S.2.2.2.2.2.2.2.2.2.2.2.2.2.2.2.1, S.2.2.2.2.2.2.2.2.2.2.2.2.2.2.2.2.1, S.2.2.2.2.2.2.2.2.2.2.2.2.2.2.2.2.2.1, S.2.2.2.2.2.2.2.2.2.2.2.2.2.2.2.2.2.2.1, S.2.2.2.2.2.2.2.2.2.2.2.2.2.2.2.2.2.2.2.1, S.2.2.2.2.2.2.2.2.2.2.2.2.2.2.2.2.2.2.2.2.1, S.2.2.2.2.2.2.2.2.2.2.2.2.2.2.2.2.2.2.2.2.2.1, S.2.2.2.2.2.2.2.2.2.2.2.2.2.2.2.2.2.2.2.2.2.2.1, t125, ()) H)
     (condE (fun S => some S.2.2.2.2.2.2.2.2.2.2.2.2.2.2.2.2.2.2.2.2.2.2.2.1)
      (seqE (leafE fun S H k =>
          bindV (evGeq S.2.2.2.2.2.2.2.2.2.2.2.2.2.1 S.2.2.2.2.2.2.2.2.2.2.2.2.2.2.2.1) fun t128 =>
          k (S.1, S.2.1, S.2.2.1, S.2.2.2.1, S.2.2.2.2.1, t128, S.2.2.2.2.2.2.1, S.2.2.2.2.2.2.2.1, S.2.2.2.2.2.2.2.2.1, S.2.2.2.2.2.2.2.2.2.1, S.2.2.2.2.2.2.2.2.2.2.1, S.2.2.2.2.2.2.2.2.2.2.2.1, S.2.2.2.2.2.2.2.2.2.2.2.2.1, S.2.2.2.2.2.2.2.2.2.2.2.2.2.1, S.2.2.2.2.2.2.2.2.2.2.2.2.2.2.1, S.2.2.2.2.2.2.2.2.2.2.2.2.2.2.2.1, S.2.2.2.2.2.2.2.2.2.2.2.2.2.2.2.2.1, S.2.2.2.2.2.2.2.2.2.2.2.2.2.2.2.2.2.1, S.2.2.2.2.2.2.2.2.2.2.2.2.2.2.2.2.2.2.1, S.2.2.2.2.2.2.2.2.2.2.2.2.2.2.2.2.2.2.2.1, S.2.2.2.2.2.2.2.2.2.2.2.2.2.2.2.2.2.2.2.2.1, S.2.2.2.2.2.2.2.2.2.2.2.2.2.2.2.2.2.2.2.2.2.1, S.2.2.2.2.2.2.2.2.2.2.2.2.2.2.2.2.2.2.2.2.2.2.1, S.2.2.2.2.2.2.2.2.2.2.2.2.2.2.2.2.2.2.2.2.2.2.2.1, ()) H)
      (seqE (leafE fun S H k =>
          bindVH (call lo 125 [S.1, S.2.1, S.2.2.2.2.2.2.2.2.2.2.2.1, S.2.2.2.1, S.2.2.2.2.1] H) fun t134 H25 =>
          k (S.1, S.2.1, S.2.2.1, S.2.2.2.1, S.2.2.2.2.1, S.2.2.2.2.2.1, S.2.2.2.2.2.2.1, S.2.2.2.2.2.2.2.1, S.2.2.2.2.2.2.2.2.1, S.2.2.2.2.2.2.2.2.2.1, S.2.2.2.2.2.2.2.2.2.2.1, S.2.2.2.2.2.2.2.2.2.2.2.1, S.2.2.2.2.2.2.2.2.2.2.2.2.1, S.2.2.2.2.2.2.2.2.2.2.2.2.2.1, S.2.2.2.2.2.2.2.2.2.2.2.2.2.2.1, S.2.2.2.2.2.2.2.2.2.2.2.2.2.2.2.1, S.2.2.2.2.2.2.2.2.2.2.2.2.2.2.2.2.1, S.2.2.2.2.2.2.2.2.2.2.2.2.2.2.2.2.2.1, S.2.2.2.2.2.2.2.2.2.2.2.2.2.2.2.2.2.2.1, S.2.2.2.2.2.2.2.2.2.2.2.2.2.2.2.2.2.2.2.1, S.2.2.2.2.2.2.2.2.2.2.2.2.2.2.2.2.2.2.2.2.1, S.2.2.2.2.2.2.2.2.2.2.2.2.2.2.2.2.2.2.2.2.2.1, S.2.2.2.2.2.2.2.2.2.2.2.2.2.2.2.2.2.2.2.2.2.2.1, S.2.2.2.2.2.2.2.2.2.2.2.2.2.2.2.2.2.2.2.2.2.2.2.1, ()) H25)
      (leafE fun S H k =>
          bindV (evAdd S.2.2.2.2.2.2.2.2.2.2.2.1 (.int .i64 (.ofNat 1))) fun t136 =>
          k (S.1, t136, S.2.2.1, S.2.2.2.1, S.2.2.2.2.1, S.2.2.2.2.2.1, S.2.2.2.2.2.2.1, S.2.2.2.2.2.2.2.1, S.2.2.2.2.2.2.2.2.1, S.2.2.2.2.2.2.2.2.2.1, S.2.2.2.2.2.2.2.2.2.2.1, S.2.2.2.2.2.2.2.2.2.2.2.1, S.2.2.2.2.2.2.2.2.2.2.2.2.1, S.2.2.2.2.2.2.2.2.2.2.2.2.2.1, S.2.2.2.2.2.2.2.2.2.2.2.2.2.2.1, S.2.2.2.2.2.2.2.2.2.2.2.2.2.2.2.1, S.2.2.2.2.2.2.2.2.2.2.2.2.2.2.2.2.1, S.2.2.2.2.2.2.2.2.2.2.2.2.2.2.2.2.2.1, S.2.2.2.2.2.2.2.2.2.2.2.2.2.2.2.2.2.2.1, S.2.2.2.2.2.2.2.2.2.2.2.2.2.2.2.2.2.2.2.1, S.2.2.2.2.2.2.2.2.2.2.2.2.2.2.2.2.2.2.2.2.1, S.2.2.2.2.2.2.2.2.2.2.2.2.2.2.2.2.2.2.2.2.2.1, S.2.2.2.2.2.2.2.2.2.2.2.2.2.2.2.2.2.2.2.2.2.2.1, S.2.2.2.2.2.2.2.2.2.2.2.2.2.2.2.2.2.2.2.2.2.2.2.1, ()) H)))
      (seqE (leafE fun S H k =>
          bindV (evGeq S.2.2.2.2.2.2.2.2.2.2.2.2.2.2.1 S.2.2.2.2.2.2.2.2.2.2.2.2.2.2.2.1) fun t139 =>
          k (S.1, S.2.1, S.2.2.1, S.2.2.2.1, S.2.2.2.2.1, t139, S.2.2.2.2.2.2.1, S.2.2.2.2.2.2.2.1, S.2.2.2.2.2.2.2.2.1, S.2.2.2.2.2.2.2.2.2.1, S.2.2.2.2.2.2.2.2.2.2.1, S.2.2.2.2.2.2.2.2.2.2.2.1, S.2.2.2.2.2.2.2.2.2.2.2.2.1, S.2.2.2.2.2.2.2.2.2.2.2.2.2.1, S.2.2.2.2.2.2.2.2.2.2.2.2.2.2.1, S.2.2.2.2.2.2.2.2.2.2.2.2.2.2.2.1, S.2.2.2.2.2.2.2.2.2.2.2.2.2.2.2.2.1, S.2.2.2.2.2.2.2.2.2.2.2.2.2.2.2.2.2.1, S.2.2.2.2.2.2.2.2.2.2.2.2.2.2.2.2.2.2.1, S.2.2.2.2.2.2.2.2.2.2.2.2.2.2.2.2.2.2.2.1, S.2.2.2.2.2.2.2.2.2.2.2.2.2.2.2.2.2.2.2.2.1, S.2.2.2.2.2.2.2.2.2.2.2.2.2.2.2.2.2.2.2.2.2.1, S.2.2.2.2.2.2.2.2.2.2.2.2.2.2.2.2.2.2.2.2.2.2.1, S.2.2.2.2.2.2.2.2.2.2.2.2.2.2.2.2.2.2.2.2.2.2.2.1, ()) H)
      (seqE (leafE fun S H k =>
          bindV (evAdd S.2.2.2.2.2.2.2.2.2.2.2.1 (.int .i64 (.ofNat 1))) fun t142 =>
          bindVH (call lo 125 [S.1, t142, S.2.2.1, S.2.2.2.1, S.2.2.2.2.1] H) fun t146 H26 =>
          k (S.1, S.2.1, S.2.2.1, S.2.2.2.1, S.2.2.2.2.1, S.2.2.2.2.2.1, S.2.2.2.2.2.2.1, S.2.2.2.2.2.2.2.1, S.2.2.2.2.2.2.2.2.1, S.2.2.2.2.2.2.2.2.2.1, S.2.2.2.2.2.2.2.2.2.2.1, S.2.2.2.2.2.2.2.2.2.2.2.1, S.2.2.2.2.2.2.2.2.2.2.2.2.1, S.2.2.2.2.2.2.2.2.2.2.2.2.2.1, S.2.2.2.2.2.2.2.2.2.2.2.2.2.2.1, S.2.2.2.2.2.2.2.2.2.2.2.2.2.2.2.1, S.2.2.2.2.2.2.2.2.2.2.2.2.2.2.2.2.1, S.2.2.2.2.2.2.2.2.2.2.2.2.2.2.2.2.2.1, S.2.2.2.2.2.2.2.2.2.2.2.2.2.2.2.2.2.2.1, S.2.2.2.2.2.2.2.2.2.2.2.2.2.2.2.2.2.2.2.1, S.2.2.2.2.2.2.2.2.2.2.2.2.2.2.2.2.2.2.2.2.1, S.2.2.2.2.2.2.2.2.2.2.2.2.2.2.2.2.2.2.2.2.2.1, S.2.2.2.2.2.2.2.2.2.2.2.2.2.2.2.2.2.2.2.2.2.2.1, S.2.2.2.2.2.2.2.2.2.2.2.2.2.2.2.2.2.2.2.2.2.2.2.1, ()) H26)
      (leafE fun S H k =>
          k (S.1, S.2.1, S.2.2.2.2.2.2.2.2.2.2.2.1, S.2.2.2.1, S.2.2.2.2.1, S.2.2.2.2.2.1, S.2.2.2.2.2.2.1, S.2.2.2.2.2.2.2.1, S.2.2.2.2.2.2.2.2.1, S.2.2.2.2.2.2.2.2.2.1, S.2.2.2.2.2.2.2.2.2.2.1, S.2.2.2.2.2.2.2.2.2.2.2.1, S.2.2.2.2.2.2.2.2.2.2.2.2.1, S.2.2.2.2.2.2.2.2.2.2.2.2.2.1, S.2.2.2.2.2.2.2.2.2.2.2.2.2.2.1, S.2.2.2.2.2.2.2.2.2.2.2.2.2.2.2.1, S.2.2.2.2.2.2.2.2.2.2.2.2.2.2.2.2.1, S.2.2.2.2.2.2.2.2.2.2.2.2.2.2.2.2.2.1, S.2.2.2.2.2.2.2.2.2.2.2.2.2.2.2.2.2.2.1, S.2.2.2.2.2.2.2.2.2.2.2.2.2.2.2.2.2.2.2.1, S.2.2.2.2.2.2.2.2.2.2.2.2.2.2.2.2.2.2.2.2.1, S.2.2.2.2.2.2.2.2.2.2.2.2.2.2.2.2.2.2.2.2.2.1, S.2.2.2.2.2.2.2.2.2.2.2.2.2.2.2.2.2.2.2.2.2.2.1, S.2.2.2.2.2.2.2.2.2.2.2.2.2.2.2.2.2.2.2.2.2.2.2.1, ()) H)))))))))))))))))) fuel))))

def F125 (call : CallF) (lo : Nat) (args : List Value) (H : AH) : Option (Value × AH) :=
  leave .all H (bindV (C125 call (lowOf .all lo H) (argAt args 0, argAt args 1, argAt args 2, argAt args 3, argAt args 4, argAt args 10, argAt args 11, argAt args 12, argAt args 13, argAt args 14, argAt args 15, argAt args 16, argAt args 17, argAt args 18, argAt args 19, argAt args 20, argAt args 25, argAt args 32, argAt args 39, argAt args 56, argAt args 75, argAt args 80, argAt args 97, argAt args 125, ()) H) fun p => resE p.1 (some (oneOf [], p.2.2)))

theorem F125_eq (call : CallF) (lo : Nat) (args : List Value) (H : AH) : evFn P ctx call lo 125 args H = F125 call lo args H := by kernel_rfl

/-- slices.siftDownOrdered[int] -/
def C126 (call : CallF) (lo : Nat) : Piece (Value × Value × Value × Value × Value × Value × Value × Value × Value × Unit) :=
  (seqE (leafE fun S H k =>
      k (S.1, S.2.1, S.2.2.1, S.2.2.2.1, S.2.1, S.2.2.2.2.2.1, S.2.2.2.2.2.2.1, S.2.2.2.2.2.2.2.1, S.2.2.2.2.2.2.2.2.1, ()) H)
  (blockE 0 (loopE (blockE 1 (seqE (leafE fun S H k =>
         bindV (evMul (.int .i64 (.ofNat 2)) S.2.2.2.2.1) fun t12 =>
         bindV (evAdd t12 (.int .i64 (.ofNat 1))) fun t13 =>
         k (S.1, S.2.1, S.2.2.1, S.2.2.2.1, S.2.2.2.2.1, t13, S.2.2.2.2.2.2.1, S.2.2.2.2.2.2.2.1, S.2.2.2.2.2.2.2.2.1, ()) H)
     (seqE (seqE (leafE fun S H k =>
         bindV (evGeq S.2.2.2.2.2.1 S.2.2.1) fun t16 =>
         k (S.1, S.2.1, S.2.2.1, S.2.2.2.1, S.2.2.2.2.1, S.2.2.2.2.2.1, t16, S.2.2.2.2.2.2.2.1, S.2.2.2.2.2.2.2.2.1, ()) H)
     (condE (fun S => some S.2.2.2.2.2.2.1)
      (doneE (.exit 0))
      (doneE .normal)))
     (seqE (seqE (leafE fun S H k =>
         bindV (evAdd S.2.2.2.2.2.1 (.int .i64 (.ofNat 1))) fun t18 =>
         bindV (evLss t18 S.2.2.1) fun t20 =>
         guarded t20 true ( pairVH S.1 H) H fun t22 H0 =>
         guarded t20 true ( pairVH S.2.2.2.1 H0) H0 fun t23 H1 =>
         guarded t20 true ( pairVH S.2.2.2.2.2.1 H1) H1 fun t24 H2 =>
         guarded t20 true (bindV (evAdd t23 t24) fun t1000000 => pairVH t1000000 H2) H2 fun t25 H3 =>
         guarded t20 true (bindV (evIdxSlice 1 t22 t25) fun t1000000 => pairVH t1000000 H3) H3 fun t26 H4 =>
         guarded t20 true (bindV (evLoad H4 false 1 t26) fun t1000000 => pairVH t1000000 H4) H4 fun t27 H5 =>
         guarded t20 true ( pairVH S.1 H5) H5 fun t28 H6 =>
         guarded t20 true ( pairVH S.2.2.2.1 H6) H6 fun t29 H7 =>
         guarded t20 true ( pairVH S.2.2.2.2.2.1 H7) H7 fun t30 H8 =>
         guarded t20 true (bindV (evAdd t29 t30) fun t1000000 => pairVH t1000000 H8) H8 fun t31 H9 =>
         guarded t20 true (bindV (evAdd t31 (.int .i64 (.ofNat 1))) fun t1000000 => pairVH t1000000 H9) H9 fun t32 H10 =>
         guarded t20 true (bindV (evIdxSlice 1 t28 t32) fun t1000000 => pairVH t1000000 H10) H10 fun t33 H11 =>
         guarded t20 true (bindV (evLoad H11 false 1 t33) fun t1000000 => pairVH t1000000 H11) H11 fun t34 H12 =>
         guarded t20 true (bindVH (call lo 110 [t27, t34] H12) fun t1000000 H13 => pairVH t1000000 H13) H12 fun t35 H14 =>
         bindV (evPick t20 t35 (.bool false)) fun t36 =>
         k (S.1, S.2.1, S.2.2.1, S.2.2.2.1, S.2.2.2.2.1, S.2.2.2.2.2.1, S.2.2.2.2.2.2.1, t36, S.2.2.2.2.2.2.2.2.1, ()) H14)
     (condE (fun S => some S.2.2.2.2.2.2.2.1)
      (leafE fun S H k =>
          bindV (evAdd S.2.2.2.2.2.1 (.int .i64 (.ofNat 1))) fun t38 =>
          k (S.1, S.2.1, S.2.2.1, S.2.2.2.1, S.2.2.2.2.1, t38, S.2.2.2.2.2.2.1, S.2.2.2.2.2.2.2.1, S.2.2.2.2.2.2.2.2.1, ()) H)
      (doneE .normal)))
     (seqE (seqE (leafE fun S H k =>
         bindV (evAdd S.2.2.2.1 S.2.2.2.2.1) fun t42 =>
         bindV (evIdxSlice 1 S.1 t42) fun t43 =>
         bindV (evLoad H false 1 t43) fun t44 =>
         bindV (evAdd S.2.2.2.1 S.2.2.2.2.2.1) fun t48 =>
         bindV (evIdxSlice 1 S.1 t48) fun t49 =>
         bindV (evLoad H false 1 t49) fun t50 =>
         bindVH (call lo 110 [t44, t50] H) fun t51 H15 =>
         bindV (evNot t51) fun t52 =>
         k (S.1, S.2.1, S.2.2.1, S.2.2.2.1, S.2.2.2.2.1, S.2.2.2.2.2.1, S.2.2.2.2.2.2.1, S.2.2.2.2.2.2.2.1, t52, ()) H15)
     (condE (fun S => some S.2.2.2.2.2.2.2.2.1)
      (doneE .ret)
      (doneE .normal)))
     (seqE (leafE fun S H k =>
         bindV (evAdd S.2.2.2.1 S.2.2.2.2.1) fun t56 =>
         bindV (evAdd S.2.2.2.1 S.2.2.2.2.2.1) fun t60 =>
         bindV (evAdd S.2.2.2.1 S.2.2.2.2.2.1) fun t64 =>
         bindV (evIdxSlice 1 S.1 t64) fun t65 =>
         bindV (evLoad H false 1 t65) fun t66 =>
         bindV (evAdd S.2.2.2.1 S.2.2.2.2.1) fun t70 =>
         bindV (evIdxSlice 1 S.1 t70) fun t71 =>
         bindV (evLoad H false 1 t71) fun t72 =>
         bindV (evIdxSlice 1 S.1 t56) fun t73 =>
         bindV (evStore lo H 1 t73 t66) fun H16 =>
         bindV (evIdxSlice 1 S.1 t60) fun t74 =>
         bindV (evStore lo H16 1 t74 t72) fun H17 =>
         k (S.1, S.2.1, S.2.2.1, S.2.2.2.1, S.2.2.2.2.1, S.2.2.2.2.2.1, S.2.2.2.2.2.2.1, S.2.2.2.2.2.2.2.1, S.2.2.2.2.2.2.2.2.1, ()) H17)
     (leafE fun S H k =>
         k (S.1, S.2.1, S.2.2.1, S.2.2.2.1, S.2.2.2.2.2.1, S.2.2.2.2.2.1, S.2.2.2.2.2.2.1, S.2.2.2.2.2.2.2.1, S.2.2.2.2.2.2.2.2.1, ()) H))))))) fuel)))

def F126 (call : CallF) (lo : Nat) (args : List Value) (H : AH) : Option (Value × AH) :=
  leave .all H (bindV (C126 call (lowOf .all lo H) (argAt args 0, argAt args 1, argAt args 2, argAt args 3, argAt args 8, argAt args 9, argAt args 16, argAt args 36, argAt args 52, ()) H) fun p => resE p.1 (some (oneOf [], p.2.2)))

theorem F126_eq (call : CallF) (lo : Nat) (args : List Value) (H : AH) : evFn P ctx call lo 126 args H = F126 call lo args H := by kernel_rfl

/-- slices.nextPowerOfTwo -/
def C127 (call : CallF) (lo : Nat) : Piece (Value × Value × Unit) :=
  (seqE (leafE fun S H k =>
      k (S.1, (.int .u64 (.ofNat 0)), ()) H)
  (seqE (leafE fun S H k =>
      bindV (evConv .u64 S.1) fun t4 =>
      bindVH (call lo 82 [t4] H) fun t5 H0 =>
      bindV (evShl (.int .u64 (.ofNat 1)) t5) fun t6 =>
      k (S.1, t6, ()) H0)
  (doneE .ret)))

def F127 (call : CallF) (lo : Nat) (args : List Value) (H : AH) : Option (Value × AH) :=
  leave .all H (bindV (C127 call (lowOf .all lo H) (argAt args 0, argAt args 2, ()) H) fun p => resE p.1 (some (oneOf [p.2.1.2.1], p.2.2)))

theorem F127_eq (call : CallF) (lo : Nat) (args : List Value) (H : AH) : evFn P ctx call lo 127 args H = F127 call lo args H := by kernel_rfl

/-- (*slices.xorshift).Next -/
def C128 (call : CallF) (lo : Nat) : Piece (Value × Value × Unit) :=
  (seqE (leafE fun S H k =>
      k (S.1, (.int .u64 (.ofNat 0)), ()) H)
  (seqE (leafE fun S H k =>
      bindV (evNil S.1) fun t4 =>
      bindV (evLoad H false 1 t4) fun t5 =>
      bindV (evNil S.1) fun t7 =>
      bindV (evLoad H false 1 t7) fun t8 =>
      bindV (evShl t8 (.int .u64 (.ofNat 13))) fun t9 =>
      bindV (evXor t5 t9) fun t10 =>
      bindV (evNil S.1) fun t11 =>
      bindV (evStore lo H 1 t11 t10) fun H0 =>
      k (S.1, S.2.1, ()) H0)
  (seqE (leafE fun S H k =>
      bindV (evNil S.1) fun t13 =>
      bindV (evLoad H false 1 t13) fun t14 =>
      bindV (evNil S.1) fun t16 =>
      bindV (evLoad H false 1 t16) fun t17 =>
      bindV (evShr t17 (.int .u64 (.ofNat 7))) fun t18 =>
      bindV (evXor t14 t18) fun t19 =>
      bindV (evNil S.1) fun t20 =>
      bindV (evStore lo H 1 t20 t19) fun H1 =>
      k (S.1, S.2.1, ()) H1)
  (seqE (leafE fun S H k =>
      bindV (evNil S.1) fun t22 =>
      bindV (evLoad H false 1 t22) fun t23 =>
      bindV (evNil S.1) fun t25 =>
      bindV (evLoad H false 1 t25) fun t26 =>
      bindV (evShl t26 (.int .u64 (.ofNat 17))) fun t27 =>
      bindV (evXor t23 t27) fun t28 =>
      bindV (evNil S.1) fun t29 =>
      bindV (evStore lo H 1 t29 t28) fun H2 =>
      k (S.1, S.2.1, ()) H2)
  (seqE (leafE fun S H k =>
      bindV (evNil S.1) fun t31 =>
      bindV (evLoad H false 1 t31) fun t32 =>
      k (S.1, t32, ()) H)
  (doneE .ret))))))

def F128 (call : CallF) (lo : Nat) (args : List Value) (H : AH) : Option (Value × AH) :=
  leave .all H (bindV (C128 call (lowOf .all lo H) (argAt args 0, argAt args 2, ()) H) fun p => resE p.1 (some (oneOf [p.2.1.2.1], p.2.2)))

theorem F128_eq (call : CallF) (lo : Nat) (args : List Value) (H : AH) : evFn P ctx call lo 128 args H = F128 call lo args H := by kernel_rfl

/-- slices.medianAdjacentOrdered[int] -/
def C129 (call : CallF) (lo : Nat) : Piece (Value × Value × Value × Value × Unit) :=
  (seqE (leafE fun S H k =>
      k (S.1, S.2.1, S.2.2.1, (.int .i64 (.ofNat 0)), ()) H)
  (seqE (leafE fun S H k =>
      bindV (evSub S.2.1 (.int .i64 (.ofNat 1))) fun t9 =>
      bindV (evAdd S.2.1 (.int .i64 (.ofNat 1))) fun t12 =>
      bindVH (call lo 130 [S.1, t9, S.2.1, t12, S.2.2.1] H) fun t14 H0 =>
      k (S.1, S.2.1, S.2.2.1, t14, ()) H0)
  (doneE .ret)))

def F129 (call : CallF) (lo : Nat) (args : List Value) (H : AH) : Option (Value × AH) :=
  leave .all H (bindV (C129 call (lowOf .all lo H) (argAt args 0, argAt args 1, argAt args 2, argAt args 6, ()) H) fun p => resE p.1 (some (oneOf [p.2.1.2.2.2.1], p.2.2)))

theorem F129_eq (call : CallF) (lo : Nat) (args : List Value) (H : AH) : evFn P ctx call lo 129 args H = F129 call lo args H := by kernel_rfl

/-- slices.medianOrdered[int] -/
def C130 (call : CallF) (lo : Nat) : Piece (Value × Value × Value × Value × Value × Value × Unit) :=
  (seqE (leafE fun S H k =>
      k (S.1, S.2.1, S.2.2.1, S.2.2.2.1, S.2.2.2.2.1, (.int .i64 (.ofNat 0)), ()) H)
  (seqE (leafE fun S H k =>
      bindVH (call lo 142 [S.1, S.2.1, S.2.2.1, S.2.2.2.2.1] H) fun t16 H0 =>
      bindV (evComp t16 0) fun t17 =>
      bindV (evComp t16 1) fun t18 =>
      k (S.1, t17, t18, S.2.2.2.1, S.2.2.2.2.1, S.2.2.2.2.2.1, ()) H0)
  (seqE (leafE fun S H k =>
      bindVH (call lo 142 [S.1, S.2.2.1, S.2.2.2.1, S.2.2.2.2.1] H) fun t24 H1 =>
      bindV (evComp t24 0) fun t25 =>
      bindV (evComp t24 1) fun t26 =>
      k (S.1, S.2.1, t25, t26, S.2.2.2.2.1, S.2.2.2.2.2.1, ()) H1)
  (seqE (leafE fun S H k =>
      bindVH (call lo 142 [S.1, S.2.1, S.2.2.1, S.2.2.2.2.1] H) fun t32 H2 =>
      bindV (evComp t32 0) fun t33 =>
      bindV (evComp t32 1) fun t34 =>
      k (S.1, t33, t34, S.2.2.2.1, S.2.2.2.2.1, S.2.2.2.2.2.1, ()) H2)
  (seqE (leafE fun S H k =>
      k (S.1, S.2.1, S.2.2.1, S.2.2.2.1, S.2.2.2.2.1, S.2.2.1, ()) H)
  (doneE .ret))))))

def F130 (call : CallF) (lo : Nat) (args : List Value) (H : AH) : Option (Value × AH) :=
  leave .all H (bindV (C130 call (lowOf .all lo H) (argAt args 0, argAt args 1, argAt args 2, argAt args 3, argAt args 4, argAt args 10, ()) H) fun p => resE p.1 (some (oneOf [p.2.1.2.2.2.2.2.1], p.2.2)))

theorem F130_eq (call : CallF) (lo : Nat) (args : List Value) (H : AH) : evFn P ctx call lo 130 args H = F130 call lo args H := by kernel_rfl

/-- slices.siftDownCmpFunc[uint] -/
def C131 (call : CallF) (lo : Nat) : Piece (Value × Value × Value × Value × Value × Value × Value × Value × Value × Value × Unit) :=
  (seqE (leafE fun S H k =>
      k (S.1, S.2.1, S.2.2.1, S.2.2.2.1, S.2.2.2.2.1, S.2.1, S.2.2.2.2.2.2.1, S.2.2.2.2.2.2.2.1, S.2.2.2.2.2.2.2.2.1, S.2.2.2.2.2.2.2.2.2.1, ()) H)
  (blockE 0 (loopE (blockE 1 (seqE (leafE fun S H k =>
         bindV (evMul (.int .i64 (.ofNat 2)) S.2.2.2.2.2.1) fun t14 =>
         bindV (evAdd t14 (.int .i64 (.ofNat 1))) fun t15 =>
         k (S.1, S.2.1, S.2.2.1, S.2.2.2.1, S.2.2.2.2.1, S.2.2.2.2.2.1, t15, S.2.2.2.2.2.2.2.1, S.2.2.2.2.2.2.2.2.1, S.2.2.2.2.2.2.2.2.2.1, ()) H)
     (seqE (seqE (leafE fun S H k =>
         bindV (evGeq S.2.2.2.2.2.2.1 S.2.2.1) fun t18 =>
         k (S.1, S.2.1, S.2.2.1, S.2.2.2.1, S.2.2.2.2.1, S.2.2.2.2.2.1, S.2.2.2.2.2.2.1, t18, S.2.2.2.2.2.2.2.2.1, S.2.2.2.2.2.2.2.2.2.1, ()) H)
     (condE (fun S => some S.2.2.2.2.2.2.2.1)
      (doneE (.exit 0))
      (doneE .normal)))
     (seqE (seqE (leafE fun S H k =>
         bindV (evAdd S.2.2.2.2.2.2.1 (.int .i64 (.ofNat 1))) fun t20 =>
         bindV (evLss t20 S.2.2.1) fun t22 =>
         guarded t22 true ( pairVH S.2.2.2.2.1 H) H fun t24 H0 =>
         guarded t22 true ( pairVH S.1 H0) H0 fun t25 H1 =>
         guarded t22 true ( pairVH S.2.2.2.1 H1) H1 fun t26 H2 =>
         guarded t22 true ( pairVH S.2.2.2.2.2.2.1 H2) H2 fun t27 H3 =>
         guarded t22 true (bindV (evAdd t26 t27) fun t1000000 => pairVH t1000000 H3) H3 fun t28 H4 =>
         guarded t22 true (bindV (evIdxSlice 1 t25 t28) fun t1000000 => pairVH t1000000 H4) H4 fun t29 H5 =>
         guarded t22 true (bindV (evLoad H5 false 1 t29) fun t1000000 => pairVH t1000000 H5) H5 fun t30 H6 =>
         guarded t22 true ( pairVH S.1 H6) H6 fun t31 H7 =>
         guarded t22 true ( pairVH S.2.2.2.1 H7) H7 fun t32 H8 =>
         guarded t22 true ( pairVH S.2.2.2.2.2.2.1 H8) H8 fun t33 H9 =>
         guarded t22 true (bindV (evAdd t32 t33) fun t1000000 => pairVH t1000000 H9) H9 fun t34 H10 =>
         guarded t22 true (bindV (evAdd t34 (.int .i64 (.ofNat 1))) fun t1000000 => pairVH t1000000 H10) H10 fun t35 H11 =>
         guarded t22 true (bindV (evIdxSlice 1 t31 t35) fun t1000000 => pairVH t1000000 H11) H11 fun t36 H12 =>
         guarded t22 true (bindV (evLoad H12 false 1 t36) fun t1000000 => pairVH t1000000 H12) H12 fun t37 H13 =>
         guarded t22 true (callVal call lo t24 [t30, t37] H13 fun t1000000 H14 => pairVH t1000000 H14) H13 fun t38 H15 =>
         guarded t22 true (bindV (evLss t38 (.int .i64 (.ofNat 0))) fun t1000000 => pairVH t1000000 H15) H15 fun t39 H16 =>
         bindV (evPick t22 t39 (.bool false)) fun t40 =>
         k (S.1, S.2.1, S.2.2.1, S.2.2.2.1, S.2.2.2.2.1, S.2.2.2.2.2.1, S.2.2.2.2.2.2.1, S.2.2.2.2.2.2.2.1, t40, S.2.2.2.2.2.2.2.2.2.1, ()) H16)
     (condE (fun S => some S.2.2.2.2.2.2.2.2.1)
      (leafE fun S H k =>
          bindV (evAdd S.2.2.2.2.2.2.1 (.int .i64 (.ofNat 1))) fun t42 =>
          k (S.1, S.2.1, S.2.2.1, S.2.2.2.1, S.2.2.2.2.1, S.2.2.2.2.2.1, t42, S.2.2.2.2.2.2.2.1, S.2.2.2.2.2.2.2.2.1, S.2.2.2.2.2.2.2.2.2.1, ()) H)
      (doneE .normal)))
     (seqE (seqE (leafE fun S H k =>
         bindV (evAdd S.2.2.2.1 S.2.2.2.2.2.1) fun t47 =>
         bindV (evIdxSlice 1 S.1 t47) fun t48 =>
         bindV (evLoad H false 1 t48) fun t49 =>
         bindV (evAdd S.2.2.2.1 S.2.2.2.2.2.2.1) fun t53 =>
         bindV (evIdxSlice 1 S.1 t53) fun t54 =>
         bindV (evLoad H false 1 t54) fun t55 =>
         callVal call lo S.2.2.2.2.1 [t49, t55] H fun t56 H17 =>
         bindV (evLss t56 (.int .i64 (.ofNat 0))) fun t57 =>
         bindV (evNot t57) fun t58 =>
         k (S.1, S.2.1, S.2.2.1, S.2.2.2.1, S.2.2.2.2.1, S.2.2.2.2.2.1, S.2.2.2.2.2.2.1, S.2.2.2.2.2.2.2.1, S.2.2.2.2.2.2.2.2.1, t58, ()) H17)
     (condE (fun S => some S.2.2.2.2.2.2.2.2.2.1)
      (doneE .ret)
      (doneE .normal)))
     (seqE (leafE fun S H k =>
         bindV (evAdd S.2.2.2.1 S.2.2.2.2.2.1) fun t62 =>
         bindV (evAdd S.2.2.2.1 S.2.2.2.2.2.2.1) fun t66 =>
         bindV (evAdd S.2.2.2.1 S.2.2.2.2.2.2.1) fun t70 =>
         bindV (evIdxSlice 1 S.1 t70) fun t71 =>
         bindV (evLoad H false 1 t71) fun t72 =>
         bindV (evAdd S.2.2.2.1 S.2.2.2.2.2.1) fun t76 =>
         bindV (evIdxSlice 1 S.1 t76) fun t77 =>
         bindV (evLoad H false 1 t77) fun t78 =>
         bindV (evIdxSlice 1 S.1 t62) fun t79 =>
         bindV (evStore lo H 1 t79 t72) fun H18 =>
         bindV (evIdxSlice 1 S.1 t66) fun t80 =>
         bindV (evStore lo H18 1 t80 t78) fun H19 =>
         k (S.1, S.2.1, S.2.2.1, S.2.2.2.1, S.2.2.2.2.1, S.2.2.2.2.2.1, S.2.2.2.2.2.2.1, S.2.2.2.2.2.2.2.1, S.2.2.2.2.2.2.2.2.1, S.2.2.2.2.2.2.2.2.2.1, ()) H19)
     (leafE fun S H k =>
         k (S.1, S.2.1, S.2.2.1, S.2.2.2.1, S.2.2.2.2.1, S.2.2.2.2.2.2.1, S.2.2.2.2.2.2.1, S.2.2.2.2.2.2.2.1, S.2.2.2.2.2.2.2.2.1, S.2.2.2.2.2.2.2.2.2.1, ()) H))))))) fuel)))

def F131 (call : CallF) (lo : Nat) (args : List Value) (H : AH) : Option (Value × AH) :=
  leave .all H (bindV (C131 call (lowOf .all lo H) (argAt args 0, argAt args 1, argAt args 2, argAt args 3, argAt args 4, argAt args 10, argAt args 11, argAt args 18, argAt args 40, argAt args 58, ()) H) fun p => resE p.1 (some (oneOf [], p.2.2)))

theorem F131_eq (call : CallF) (lo : Nat) (args : List Value) (H : AH) : evFn P ctx call lo 131 args H = F131 call lo args H := by kernel_rfl

/-- slices.medianAdjacentCmpFunc[uint] -/
def C132 (call : CallF) (lo : Nat) : Piece (Value × Value × Value × Value × Value × Unit) :=
  (seqE (leafE fun S H k =>
      k (S.1, S.2.1, S.2.2.1, S.2.2.2.1, (.int .i64 (.ofNat 0)), ()) H)
  (seqE (leafE fun S H k =>
      bindV (evSub S.2.1 (.int .i64 (.ofNat 1))) fun t11 =>
      bindV (evAdd S.2.1 (.int .i64 (.ofNat 1))) fun t14 =>
      bindVH (call lo 133 [S.1, t11, S.2.1, t14, S.2.2.1, S.2.2.2.1] H) fun t17 H0 =>
      k (S.1, S.2.1, S.2.2.1, S.2.2.2.1, t17, ()) H0)
  (doneE .ret)))

def F132 (call : CallF) (lo : Nat) (args : List Value) (H : AH) : Option (Value × AH) :=
  leave .all H (bindV (C132 call (lowOf .all lo H) (argAt args 0, argAt args 1, argAt args 2, argAt args 3, argAt args 8, ()) H) fun p => resE p.1 (some (oneOf [p.2.1.2.2.2.2.1], p.2.2)))

theorem F132_eq (call : CallF) (lo : Nat) (args : List Value) (H : AH) : evFn P ctx call lo 132 args H = F132 call lo args H := by kernel_rfl

/-- slices.medianCmpFunc[uint] -/
def C133 (call : CallF) (lo : Nat) : Piece (Value × Value × Value × Value × Value × Value × Value × Unit) :=
  (seqE (leafE fun S H k =>
      k (S.1, S.2.1, S.2.2.1, S.2.2.2.1, S.2.2.2.2.1, S.2.2.2.2.2.1, (.int .i64 (.ofNat 0)), ()) H)
  (seqE (leafE fun S H k =>
      bindVH (call lo 143 [S.1, S.2.1, S.2.2.1, S.2.2.2.2.1, S.2.2.2.2.2.1] H) fun t19 H0 =>
      bindV (evComp t19 0) fun t20 =>
      bindV (evComp t19 1) fun t21 =>
      k (S.1, t20, t21, S.2.2.2.1, S.2.2.2.2.1, S.2.2.2.2.2.1, S.2.2.2.2.2.2.1, ()) H0)
  (seqE (leafE fun S H k =>
      bindVH (call lo 143 [S.1, S.2.2.1, S.2.2.2.1, S.2.2.2.2.1, S.2.2.2.2.2.1] H) fun t28 H1 =>
      bindV (evComp t28 0) fun t29 =>
      bindV (evComp t28 1) fun t30 =>
      k (S.1, S.2.1, t29, t30, S.2.2.2.2.1, S.2.2.2.2.2.1, S.2.2.2.2.2.2.1, ()) H1)
  (seqE (leafE fun S H k =>
      bindVH (call lo 143 [S.1, S.2.1, S.2.2.1, S.2.2.2.2.1, S.2.2.2.2.2.1] H) fun t37 H2 =>
      bindV (evComp t37 0) fun t38 =>
      bindV (evComp t37 1) fun t39 =>
      k (S.1, t38, t39, S.2.2.2.1, S.2.2.2.2.1, S.2.2.2.2.2.1, S.2.2.2.2.2.2.1, ()) H2)
  (seqE (leafE fun S H k =>
      k (S.1, S.2.1, S.2.2.1, S.2.2.2.1, S.2.2.2.2.1, S.2.2.2.2.2.1, S.2.2.1, ()) H)
  (doneE .ret))))))

def F133 (call : CallF) (lo : Nat) (args : List Value) (H : AH) : Option (Value × AH) :=
  leave .all H (bindV (C133 call (lowOf .all lo H) (argAt args 0, argAt args 1, argAt args 2, argAt args 3, argAt args 4, argAt args 5, argAt args 12, ()) H) fun p => resE p.1 (some (oneOf [p.2.1.2.2.2.2.2.2.1], p.2.2)))

theorem F133_eq (call : CallF) (lo : Nat) (args : List Value) (H : AH) : evFn P ctx call lo 133 args H = F133 call lo args H := by kernel_rfl

/-- slices.insertionSortCmpFunc[[]int] -/
def C134 (call : CallF) (lo : Nat) : Piece (Value × Value × Value × Value × Value × Value × Value × Value × Unit) :=
  (seqE (leafE fun S H k =>
      bindV (evAdd S.2.1 (.int .i64 (.ofNat 1))) fun t11 =>
      k (S.1, S.2.1, S.2.2.1, S.2.2.2.1, t11, S.2.2.2.2.2.1, S.2.2.2.2.2.2.1, S.2.2.2.2.2.2.2.1, ()) H)
  (blockE 0 (loopE (seqE (seqE (leafE fun S H k =>
        bindV (evLss S.2.2.2.2.1 S.2.2.1) fun t14 =>
        k (S.1, S.2.1, S.2.2.1, S.2.2.2.1, S.2.2.2.2.1, S.2.2.2.2.2.1, t14, S.2.2.2.2.2.2.2.1, ()) H)
    (condE (fun S => some S.2.2.2.2.2.2.1)
     (doneE .normal)
     (doneE (.exit 0))))
    (seqE (blockE 1 (seqE (leafE fun S H k =>
         k (S.1, S.2.1, S.2.2.1, S.2.2.2.1, S.2.2.2.2.1, S.2.2.2.2.1, S.2.2.2.2.2.2.1, S.2.2.2.2.2.2.2.1, ()) H)
     (blockE 2 (loopE (seqE (seqE (leafE fun S H k =>
           bindV (evGtr S.2.2.2.2.2.1 S.2.1) fun t20 =>
           guarded t20 true ( pairVH S.2.2.2.1 H) H fun t22 H0 =>
           guarded t20 true ( pairVH S.1 H0) H0 fun t23 H1 =>
           guarded t20 true ( pairVH S.2.2.2.2.2.1 H1) H1 fun t24 H2 =>
           guarded t20 true (bindV (evIdxSlice 1 t23 t24) fun t1000000 => pairVH t1000000 H2) H2 fun t25 H3 =>
           guarded t20 true (bindV (evLoad H3 false 1 t25) fun t1000000 => pairVH t1000000 H3) H3 fun t26 H4 =>
           guarded t20 true ( pairVH S.1 H4) H4 fun t27 H5 =>
           guarded t20 true ( pairVH S.2.2.2.2.2.1 H5) H5 fun t28 H6 =>
           guarded t20 true (bindV (evSub t28 (.int .i64 (.ofNat 1))) fun t1000000 => pairVH t1000000 H6) H6 fun t29 H7 =>
           guarded t20 true (bindV (evIdxSlice 1 t27 t29) fun t1000000 => pairVH t1000000 H7) H7 fun t30 H8 =>
           guarded t20 true (bindV (evLoad H8 false 1 t30) fun t1000000 => pairVH t1000000 H8) H8 fun t31 H9 =>
           guarded t20 true (callVal call lo t22 [t26, t31] H9 fun t1000000 H10 => pairVH t1000000 H10) H9 fun t32 H11 =>
           guarded t20 true (bindV (evLss t32 (.int .i64 (.ofNat 0))) fun t1000000 => pairVH t1000000 H11) H11 fun t33 H12 =>
           bindV (evPick t20 t33 (.bool false)) fun t34 =>
           k (S.1, S.2.1, S.2.2.1, S.2.2.2.1, S.2.2.2.2.1, S.2.2.2.2.2.1, S.2.2.2.2.2.2.1, t34, ()) H12)
       (condE (fun S => some S.2.2.2.2.2.2.2.1)
        (doneE .normal)
        (doneE (.exit 2))))
       (seqE (blockE 3 (leafE fun S H k =>
            bindV (evSub S.2.2.2.2.2.1 (.int .i64 (.ofNat 1))) fun t41 =>
            bindV (evSub S.2.2.2.2.2.1 (.int .i64 (.ofNat 1))) fun t44 =>
            bindV (evIdxSlice 1 S.1 t44) fun t45 =>
            bindV (evLoad H false 1 t45) fun t46 =>
            bindV (evIdxSlice 1 S.1 S.2.2.2.2.2.1) fun t49 =>
            bindV (evLoad H false 1 t49) fun t50 =>
            bindV (evIdxSlice 1 S.1 S.2.2.2.2.2.1) fun t51 =>
            bindV (evStore lo H 1 t51 t46) fun H13 =>
            bindV (evIdxSlice 1 S.1 t41) fun t52 =>
            bindV (evStore lo H13 1 t52 t50) fun H14 =>
            k (S.1, S.2.1, S.2.2.1, S.2.2.2.1, S.2.2.2.2.1, S.2.2.2.2.2.1, S.2.2.2.2.2.2.1, S.2.2.2.2.2.2.2.1, ()) H14))
       (leafE fun S H k =>
           bindV (evSub S.2.2.2.2.2.1 (.int .i64 (.ofNat 1))) fun t36 =>
           k (S.1, S.2.1, S.2.2.1, S.2.2.2.1, S.2.2.2.2.1, t36, S.2.2.2.2.2.2.1, S.2.2.2.2.2.2.2.1, ()) H))) fuel))))
    (leafE fun S H k =>
        bindV (evAdd S.2.2.2.2.1 (.int .i64 (.ofNat 1))) fun t16 =>
        k (S.1, S.2.1, S.2.2.1, S.2.2.2.1, t16, S.2.2.2.2.2.1, S.2.2.2.2.2.2.1, S.2.2.2.2.2.2.2.1, ()) H))) fuel)))

def F134 (call : CallF) (lo : Nat) (args : List Value) (H : AH) : Option (Value × AH) :=
  leave .all H (bindV (C134 call (lowOf .all lo H) (argAt args 0, argAt args 1, argAt args 2, argAt args 3, argAt args 8, argAt args 9, argAt args 14, argAt args 34, ()) H) fun p => resE p.1 (some (oneOf [], p.2.2)))

theorem F134_eq (call : CallF) (lo : Nat) (args : List Value) (H : AH) : evFn P ctx call lo 134 args H = F134 call lo args H := by kernel_rfl

/-- slices.heapSortCmpFunc[[]int] -/
def C135 (call : CallF) (lo : Nat) : Piece (Value × Value × Value × Value × Value × Value × Value × Value × Value × Value × Value × Unit) :=
  (seqE (leafE fun S H k =>
      k (S.1, S.2.1, S.2.2.1, S.2.2.2.1, S.2.1, S.2.2.2.2.2.1, S.2.2.2.2.2.2.1, S.2.2.2.2.2.2.2.1, S.2.2.2.2.2.2.2.2.1, S.2.2.2.2.2.2.2.2.2.1, S.2.2.2.2.2.2.2.2.2.2.1, ()) H)
  (seqE (leafE fun S H k =>
      k (S.1, S.2.1, S.2.2.1, S.2.2.2.1, S.2.2.2.2.1, (.int .i64 (.ofNat 0)), S.2.2.2.2.2.2.1, S.2.2.2.2.2.2.2.1, S.2.2.2.2.2.2.2.2.1, S.2.2.2.2.2.2.2.2.2.1, S.2.2.2.2.2.2.2.2.2.2.1, ()) H)
  (seqE (leafE fun S H k =>
      bindV (evSub S.2.2.1 S.2.1) fun t16 =>
      k (S.1, S.2.1, S.2.2.1, S.2.2.2.1, S.2.2.2.2.1, S.2.2.2.2.2.1, t16, S.2.2.2.2.2.2.2.1, S.2.2.2.2.2.2.2.2.1, S.2.2.2.2.2.2.2.2.2.1, S.2.2.2.2.2.2.2.2.2.2.1, ()) H)
  (seqE (seqE (leafE fun S H k =>
      bindV (evSub S.2.2.2.2.2.2.1 (.int .i64 (.ofNat 1))) fun t18 =>
      bindV (evQuo t18 (.int .i64 (.ofNat 2))) fun t19 =>
      k (S.1, S.2.1, S.2.2.1, S.2.2.2.1, S.2.2.2.2.1, S.2.2.2.2.2.1, S.2.2.2.2.2.2.1, t19, S.2.2.2.2.2.2.2.2.1, S.2.2.2.2.2.2.2.2.2.1, S.2.2.2.2.2.2.2.2.2.2.1, ()) H)
  (blockE 0 (loopE (seqE (seqE (leafE fun S H k =>
        bindV (evGeq S.2.2.2.2.2.2.2.1 (.int .i64 (.ofNat 0))) fun t21 =>
        k (S.1, S.2.1, S.2.2.1, S.2.2.2.1, S.2.2.2.2.1, S.2.2.2.2.2.1, S.2.2.2.2.2.2.1, S.2.2.2.2.2.2.2.1, S.2.2.2.2.2.2.2.2.1, t21, S.2.2.2.2.2.2.2.2.2.2.1, ()) H)
    (condE (fun S => some S.2.2.2.2.2.2.2.2.2.1)
     (doneE .normal)
     (doneE (.exit 0))))
    (seqE (blockE 1 (leafE fun S H k =>
         bindVH (call lo 144 [S.1, S.2.2.2.2.2.2.2.1, S.2.2.2.2.2.2.1, S.2.2.2.2.1, S.2.2.2.1] H) fun t29 H0 =>
         k (S.1, S.2.1, S.2.2.1, S.2.2.2.1, S.2.2.2.2.1, S.2.2.2.2.2.1, S.2.2.2.2.2.2.1, S.2.2.2.2.2.2.2.1, S.2.2.2.2.2.2.2.2.1, S.2.2.2.2.2.2.2.2.2.1, S.2.2.2.2.2.2.2.2.2.2.1, ()) H0))
    (leafE fun S H k =>
        bindV (evSub S.2.2.2.2.2.2.2.1 (.int .i64 (.ofNat 1))) fun t23 =>
        k (S.1, S.2.1, S.2.2.1, S.2.2.2.1, S.2.2.2.2.1, S.2.2.2.2.2.1, S.2.2.2.2.2.2.1, t23, S.2.2.2.2.2.2.2.2.1, S.2.2.2.2.2.2.2.2.2.1, S.2.2.2.2.2.2.2.2.2.2.1, ()) H))) fuel)))
  (seqE (leafE fun S H k =>
      bindV (evSub S.2.2.2.2.2.2.1 (.int .i64 (.ofNat 1))) fun t31 =>
      k (S.1, S.2.1, S.2.2.1, S.2.2.2.1, S.2.2.2.2.1, S.2.2.2.2.2.1, S.2.2.2.2.2.2.1, S.2.2.2.2.2.2.2.1, t31, S.2.2.2.2.2.2.2.2.2.1, S.2.2.2.2.2.2.2.2.2.2.1, ()) H)
  (blockE 2 (loopE (seqE (seqE (leafE fun S H k =>
        bindV (evGeq S.2.2.2.2.2.2.2.2.1 (.int .i64 (.ofNat 0))) fun t33 =>
        k (S.1, S.2.1, S.2.2.1, S.2.2.2.1, S.2.2.2.2.1, S.2.2.2.2.2.1, S.2.2.2.2.2.2.1, S.2.2.2.2.2.2.2.1, S.2.2.2.2.2.2.2.2.1, S.2.2.2.2.2.2.2.2.2.1, t33, ()) H)
    (condE (fun S => some S.2.2.2.2.2.2.2.2.2.2.1)
     (doneE .normal)
     (doneE (.exit 2))))
    (seqE (blockE 3 (seqE (leafE fun S H k =>
         bindV (evAdd S.2.2.2.2.1 S.2.2.2.2.2.2.2.2.1) fun t41 =>
         bindV (evAdd S.2.2.2.2.1 S.2.2.2.2.2.2.2.2.1) fun t45 =>
         bindV (evIdxSlice 1 S.1 t45) fun t46 =>
         bindV (evLoad H false 1 t46) fun t47 =>
         bindV (evIdxSlice 1 S.1 S.2.2.2.2.1) fun t50 =>
         bindV (evLoad H false 1 t50) fun t51 =>
         bindV (evIdxSlice 1 S.1 S.2.2.2.2.1) fun t52 =>
         bindV (evStore lo H 1 t52 t47) fun H1 =>
         bindV (evIdxSlice 1 S.1 t41) fun t53 =>
         bindV (evStore lo H1 1 t53 t51) fun H2 =>
         k (S.1, S.2.1, S.2.2.1, S.2.2.2.1, S.2.2.2.2.1, S.2.2.2.2.2.1, S.2.2.2.2.2.2.1, S.2.2.2.2.2.2.2.1, S.2.2.2.2.2.2.2.2.1, S.2.2.2.2.2.2.2.2.2.1, S.2.2.2.2.2.2.2.2.2.2.1, ()) H2)
     (leafE fun S H k =>
         bindVH (call lo 144 [S.1, S.2.2.2.2.2.1, S.2.2.2.2.2.2.2.2.1, S.2.2.2.2.1, S.2.2.2.1] H) fun t59 H3 =>
         k (S.1, S.2.1, S.2.2.1, S.2.2.2.1, S.2.2.2.2.1, S.2.2.2.2.2.1, S.2.2.2.2.2.2.1, S.2.2.2.2.2.2.2.1, S.2.2.2.2.2.2.2.2.1, S.2.2.2.2.2.2.2.2.2.1, S.2.2.2.2.2.2.2.2.2.2.1, ()) H3)))
    (leafE fun S H k =>
        bindV (evSub S.2.2.2.2.2.2.2.2.1 (.int .i64 (.ofNat 1))) fun t35 =>
        k (S.1, S.2.1, S.2.2.1, S.2.2.2.1, S.2.2.2.2.1, S.2.2.2.2.2.1, S.2.2.2.2.2.2.1, S.2.2.2.2.2.2.2.1, t35, S.2.2.2.2.2.2.2.2.2.1, S.2.2.2.2.2.2.2.2.2.2.1, ()) H))) fuel)))))))

def F135 (call : CallF) (lo : Nat) (args : List Value) (H : AH) : Option (Value × AH) :=
  leave .all H (bindV (C135 call (lowOf .all lo H) (argAt args 0, argAt args 1, argAt args 2, argAt args 3, argAt args 8, argAt args 9, argAt args 10, argAt args 11, argAt args 12, argAt args 21, argAt args 33, ()) H) fun p => resE p.1 (some (oneOf [], p.2.2)))

theorem F135_eq (call : CallF) (lo : Nat) (args : List Value) (H : AH) : evFn P ctx call lo 135 args H = F135 call lo args H := by kernel_rfl


end
end Go.Proofs.YtmkimcdmnaknlaaGreatDoor
