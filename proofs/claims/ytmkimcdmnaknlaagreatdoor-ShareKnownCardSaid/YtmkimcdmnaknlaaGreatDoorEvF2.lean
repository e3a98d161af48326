/- Shallow functions, each with the proof that the evaluator is it (printed by wip/ev/gen.lean), part 2.
   Conditions: none. -/
import Derived.Test.YtmkimcdmnaknlaaGreatDoorEvT
namespace Go.Proofs.YtmkimcdmnaknlaaGreatDoor
open Go Go.Ev
set_option maxRecDepth 1000000
set_option linter.unusedVariables false
noncomputable section

/-- (*novaculite/share.table).find -/
def C43 (call : CallF) (lo : Nat) : Piece (Value × Value × Value × Value × Value × Value × Value × Value × Value × Value × Value × Value × Value × Value × Value × Value × Value × Value × Unit) :=
  (seqE (leafE fun S H k =>
      k (S.1, (.slice none 0 0), (.slice none 0 0), (.bool false), S.2.2.2.2.1, S.2.2.2.2.2.1, S.2.2.2.2.2.2.1, S.2.2.2.2.2.2.2.1, S.2.2.2.2.2.2.2.2.1, S.2.2.2.2.2.2.2.2.2.1, S.2.2.2.2.2.2.2.2.2.2.1, S.2.2.2.2.2.2.2.2.2.2.2.1, S.2.2.2.2.2.2.2.2.2.2.2.2.1, S.2.2.2.2.2.2.2.2.2.2.2.2.2.1, S.2.2.2.2.2.2.2.2.2.2.2.2.2.2.1, S.2.2.2.2.2.2.2.2.2.2.2.2.2.2.2.1, S.2.2.2.2.2.2.2.2.2.2.2.2.2.2.2.2.1, S.2.2.2.2.2.2.2.2.2.2.2.2.2.2.2.2.2.1, ()) H)
  (seqE (leafE fun S H k =>
      k (S.1, S.2.1, S.2.2.1, S.2.2.2.1, (.slice none 0 0), S.2.2.2.2.2.1, S.2.2.2.2.2.2.1, S.2.2.2.2.2.2.2.1, S.2.2.2.2.2.2.2.2.1, S.2.2.2.2.2.2.2.2.2.1, S.2.2.2.2.2.2.2.2.2.2.1, S.2.2.2.2.2.2.2.2.2.2.2.1, S.2.2.2.2.2.2.2.2.2.2.2.2.1, S.2.2.2.2.2.2.2.2.2.2.2.2.2.1, S.2.2.2.2.2.2.2.2.2.2.2.2.2.2.1, S.2.2.2.2.2.2.2.2.2.2.2.2.2.2.2.1, S.2.2.2.2.2.2.2.2.2.2.2.2.2.2.2.2.1, S.2.2.2.2.2.2.2.2.2.2.2.2.2.2.2.2.2.1, ()) H)
  (seqE (seqE (leafE fun S H k =>
      k (S.1, S.2.1, S.2.2.1, S.2.2.2.1, S.2.2.2.2.1, (.int .u64 (.ofNat 1)), S.2.2.2.2.2.2.1, S.2.2.2.2.2.2.2.1, S.2.2.2.2.2.2.2.2.1, S.2.2.2.2.2.2.2.2.2.1, S.2.2.2.2.2.2.2.2.2.2.1, S.2.2.2.2.2.2.2.2.2.2.2.1, S.2.2.2.2.2.2.2.2.2.2.2.2.1, S.2.2.2.2.2.2.2.2.2.2.2.2.2.1, S.2.2.2.2.2.2.2.2.2.2.2.2.2.2.1, S.2.2.2.2.2.2.2.2.2.2.2.2.2.2.2.1, S.2.2.2.2.2.2.2.2.2.2.2.2.2.2.2.2.1, S.2.2.2.2.2.2.2.2.2.2.2.2.2.2.2.2.2.1, ()) H)
  (blockE 0 (loopE (seqE (seqE (leafE fun S H k =>
        bindV (evNil S.1) fun t13 =>
        bindV (evShift t13 0) fun t14 =>
        bindV (evShift t14 0) fun t15 =>
        bindV (evLoad H false 1 t15) fun t16 =>
        bindV (evShl (.int .u64 (.ofNat 1)) t16) fun t17 =>
        bindV (evLss S.2.2.2.2.2.1 t17) fun t18 =>
        k (S.1, S.2.1, S.2.2.1, S.2.2.2.1, S.2.2.2.2.1, S.2.2.2.2.2.1, S.2.2.2.2.2.2.1, S.2.2.2.2.2.2.2.1, t18, S.2.2.2.2.2.2.2.2.2.1, S.2.2.2.2.2.2.2.2.2.2.1, S.2.2.2.2.2.2.2.2.2.2.2.1, S.2.2.2.2.2.2.2.2.2.2.2.2.1, S.2.2.2.2.2.2.2.2.2.2.2.2.2.1, S.2.2.2.2.2.2.2.2.2.2.2.2.2.2.1, S.2.2.2.2.2.2.2.2.2.2.2.2.2.2.2.1, S.2.2.2.2.2.2.2.2.2.2.2.2.2.2.2.2.1, S.2.2.2.2.2.2.2.2.2.2.2.2.2.2.2.2.2.1, ()) H)
    (condE (fun S => some S.2.2.2.2.2.2.2.2.1)
     (doneE .normal)
     (doneE (.exit 0))))
    (seqE (blockE 1 (leafE fun S H k =>
         bindV (evFill [(0, 1, S.2.2.2.2.2.1)] (zeros (cellsOf (.int .u64 (.ofNat 0))) 1)) fun c0 =>
         let t23 := newSlice H 1 1
         let H1 := H.push (.cells (Nat.mul 1 1) c0 49)
         bindVH (evAppend lo H1 49 1 8 S.2.2.2.2.1 t23) fun t24 H2 =>
         k (S.1, S.2.1, S.2.2.1, S.2.2.2.1, t24, S.2.2.2.2.2.1, S.2.2.2.2.2.2.1, S.2.2.2.2.2.2.2.1, S.2.2.2.2.2.2.2.2.1, S.2.2.2.2.2.2.2.2.2.1, S.2.2.2.2.2.2.2.2.2.2.1, S.2.2.2.2.2.2.2.2.2.2.2.1, S.2.2.2.2.2.2.2.2.2.2.2.2.1, S.2.2.2.2.2.2.2.2.2.2.2.2.2.1, S.2.2.2.2.2.2.2.2.2.2.2.2.2.2.1, S.2.2.2.2.2.2.2.2.2.2.2.2.2.2.2.1, S.2.2.2.2.2.2.2.2.2.2.2.2.2.2.2.2.1, S.2.2.2.2.2.2.2.2.2.2.2.2.2.2.2.2.2.1, ()) H2))
    (leafE fun S H k =>
        bindV (evAdd S.2.2.2.2.2.1 (.int .u64 (.ofNat 1))) fun t20 =>
        k (S.1, S.2.1, S.2.2.1, S.2.2.2.1, S.2.2.2.2.1, t20, S.2.2.2.2.2.2.1, S.2.2.2.2.2.2.2.1, S.2.2.2.2.2.2.2.2.1, S.2.2.2.2.2.2.2.2.2.1, S.2.2.2.2.2.2.2.2.2.2.1, S.2.2.2.2.2.2.2.2.2.2.2.1, S.2.2.2.2.2.2.2.2.2.2.2.2.1, S.2.2.2.2.2.2.2.2.2.2.2.2.2.1, S.2.2.2.2.2.2.2.2.2.2.2.2.2.2.1, S.2.2.2.2.2.2.2.2.2.2.2.2.2.2.2.1, S.2.2.2.2.2.2.2.2.2.2.2.2.2.2.2.2.1, S.2.2.2.2.2.2.2.2.2.2.2.2.2.2.2.2.2.1, ()) H))) fuel)))
  (seqE (leafE fun S H k =>
      bindVH (call lo 62 [S.2.2.2.2.1, (.func (.func 63) #[] #[])] H) fun t26 H3 =>
      k (S.1, S.2.1, S.2.2.1, S.2.2.2.1, S.2.2.2.2.1, S.2.2.2.2.2.1, S.2.2.2.2.2.2.1, S.2.2.2.2.2.2.2.1, S.2.2.2.2.2.2.2.2.1, S.2.2.2.2.2.2.2.2.2.1, S.2.2.2.2.2.2.2.2.2.2.1, S.2.2.2.2.2.2.2.2.2.2.2.1, S.2.2.2.2.2.2.2.2.2.2.2.2.1, S.2.2.2.2.2.2.2.2.2.2.2.2.2.1, S.2.2.2.2.2.2.2.2.2.2.2.2.2.2.1, S.2.2.2.2.2.2.2.2.2.2.2.2.2.2.2.1, S.2.2.2.2.2.2.2.2.2.2.2.2.2.2.2.2.1, S.2.2.2.2.2.2.2.2.2.2.2.2.2.2.2.2.2.1, ()) H3)
  (seqE (seqE (leafE fun S H k =>
      bindV (evLenS S.2.2.2.2.1) fun t28 =>
      k (S.1, S.2.1, S.2.2.1, S.2.2.2.1, S.2.2.2.2.1, S.2.2.2.2.2.1, S.2.2.2.2.2.2.1, S.2.2.2.2.2.2.2.1, S.2.2.2.2.2.2.2.2.1, S.2.2.2.2.1, t28, (.int .i64 (.ofNat 0)), S.2.2.2.2.2.2.2.2.2.2.2.2.1, S.2.2.2.2.2.2.2.2.2.2.2.2.2.1, S.2.2.2.2.2.2.2.2.2.2.2.2.2.2.1, S.2.2.2.2.2.2.2.2.2.2.2.2.2.2.2.1, S.2.2.2.2.2.2.2.2.2.2.2.2.2.2.2.2.1, S.2.2.2.2.2.2.2.2.2.2.2.2.2.2.2.2.2.1, ()) H)
  (blockE 2 (loopE (seqE (leafE fun S H k =>
        bindV (evLss S.2.2.2.2.2.2.2.2.2.2.2.1 S.2.2.2.2.2.2.2.2.2.2.1) fun t30 =>
        k (S.1, S.2.1, S.2.2.1, S.2.2.2.1, S.2.2.2.2.1, S.2.2.2.2.2.1, S.2.2.2.2.2.2.1, S.2.2.2.2.2.2.2.1, S.2.2.2.2.2.2.2.2.1, S.2.2.2.2.2.2.2.2.2.1, S.2.2.2.2.2.2.2.2.2.2.1, S.2.2.2.2.2.2.2.2.2.2.2.1, t30, S.2.2.2.2.2.2.2.2.2.2.2.2.2.1, S.2.2.2.2.2.2.2.2.2.2.2.2.2.2.1, S.2.2.2.2.2.2.2.2.2.2.2.2.2.2.2.1, S.2.2.2.2.2.2.2.2.2.2.2.2.2.2.2.2.1, S.2.2.2.2.2.2.2.2.2.2.2.2.2.2.2.2.2.1, ()) H)
    (seqE (condE (fun S => some S.2.2.2.2.2.2.2.2.2.2.2.2.1)
     (doneE .normal)
     (doneE (.exit 2)))
    (seqE (blockE 3 (seqE (leafE fun S H k =>
         bindV (evIdxSlice 1 S.2.2.2.2.2.2.2.2.2.1 S.2.2.2.2.2.2.2.2.2.2.2.1) fun t31 =>
         bindV (evLoad H false 1 t31) fun t32 =>
         k (S.1, S.2.1, S.2.2.1, S.2.2.2.1, S.2.2.2.2.1, S.2.2.2.2.2.1, t32, S.2.2.2.2.2.2.2.1, S.2.2.2.2.2.2.2.2.1, S.2.2.2.2.2.2.2.2.2.1, S.2.2.2.2.2.2.2.2.2.2.1, S.2.2.2.2.2.2.2.2.2.2.2.1, S.2.2.2.2.2.2.2.2.2.2.2.2.1, S.2.2.2.2.2.2.2.2.2.2.2.2.2.1, S.2.2.2.2.2.2.2.2.2.2.2.2.2.2.1, S.2.2.2.2.2.2.2.2.2.2.2.2.2.2.2.1, S.2.2.2.2.2.2.2.2.2.2.2.2.2.2.2.2.1, S.2.2.2.2.2.2.2.2.2.2.2.2.2.2.2.2.2.1, ()) H)
     (seqE (leafE fun S H k =>
         bindV (evLenS S.2.2.2.2.1) fun t34 =>
         k (S.1, S.2.1, S.2.2.1, S.2.2.2.1, S.2.2.2.2.1, S.2.2.2.2.2.1, S.2.2.2.2.2.2.1, S.2.2.2.2.2.2.2.1, S.2.2.2.2.2.2.2.2.1, S.2.2.2.2.2.2.2.2.2.1, S.2.2.2.2.2.2.2.2.2.2.1, S.2.2.2.2.2.2.2.2.2.2.2.1, S.2.2.2.2.2.2.2.2.2.2.2.2.1, S.2.2.2.2.1, t34, (.int .i64 (.ofNat 0)), S.2.2.2.2.2.2.2.2.2.2.2.2.2.2.2.2.1, S.2.2.2.2.2.2.2.2.2.2.2.2.2.2.2.2.2.1, ()) H)
     (blockE 4 (loopE (seqE (leafE fun S H k =>
           bindV (evLss S.2.2.2.2.2.2.2.2.2.2.2.2.2.2.2.1 S.2.2.2.2.2.2.2.2.2.2.2.2.2.2.1) fun t36 =>
           k (S.1, S.2.1, S.2.2.1, S.2.2.2.1, S.2.2.2.2.1, S.2.2.2.2.2.1, S.2.2.2.2.2.2.1, S.2.2.2.2.2.2.2.1, S.2.2.2.2.2.2.2.2.1, S.2.2.2.2.2.2.2.2.2.1, S.2.2.2.2.2.2.2.2.2.2.1, S.2.2.2.2.2.2.2.2.2.2.2.1, S.2.2.2.2.2.2.2.2.2.2.2.2.1, S.2.2.2.2.2.2.2.2.2.2.2.2.2.1, S.2.2.2.2.2.2.2.2.2.2.2.2.2.2.1, S.2.2.2.2.2.2.2.2.2.2.2.2.2.2.2.1, t36, S.2.2.2.2.2.2.2.2.2.2.2.2.2.2.2.2.2.1, ()) H)
       (seqE (condE (fun S => some S.2.2.2.2.2.2.2.2.2.2.2.2.2.2.2.2.1)
        (doneE .normal)
        (doneE (.exit 4)))
       (seqE (blockE 5 (seqE (leafE fun S H k =>
            bindV (evIdxSlice 1 S.2.2.2.2.2.2.2.2.2.2.2.2.2.1 S.2.2.2.2.2.2.2.2.2.2.2.2.2.2.2.1) fun t37 =>
            bindV (evLoad H false 1 t37) fun t38 =>
            k (S.1, S.2.1, S.2.2.1, S.2.2.2.1, S.2.2.2.2.1, S.2.2.2.2.2.1, S.2.2.2.2.2.2.1, t38, S.2.2.2.2.2.2.2.2.1, S.2.2.2.2.2.2.2.2.2.1, S.2.2.2.2.2.2.2.2.2.2.1, S.2.2.2.2.2.2.2.2.2.2.2.1, S.2.2.2.2.2.2.2.2.2.2.2.2.1, S.2.2.2.2.2.2.2.2.2.2.2.2.2.1, S.2.2.2.2.2.2.2.2.2.2.2.2.2.2.1, S.2.2.2.2.2.2.2.2.2.2.2.2.2.2.2.1, S.2.2.2.2.2.2.2.2.2.2.2.2.2.2.2.2.1, S.2.2.2.2.2.2.2.2.2.2.2.2.2.2.2.2.2.1, ()) H)
        (seqE (leafE fun S H k =>
            bindVH (call lo 64 [S.1, S.2.2.2.2.2.2.1, S.2.2.2.2.2.2.2.1] H) fun t42 H4 =>
            k (S.1, S.2.1, S.2.2.1, S.2.2.2.1, S.2.2.2.2.1, S.2.2.2.2.2.1, S.2.2.2.2.2.2.1, S.2.2.2.2.2.2.2.1, S.2.2.2.2.2.2.2.2.1, S.2.2.2.2.2.2.2.2.2.1, S.2.2.2.2.2.2.2.2.2.2.1, S.2.2.2.2.2.2.2.2.2.2.2.1, S.2.2.2.2.2.2.2.2.2.2.2.2.1, S.2.2.2.2.2.2.2.2.2.2.2.2.2.1, S.2.2.2.2.2.2.2.2.2.2.2.2.2.2.1, S.2.2.2.2.2.2.2.2.2.2.2.2.2.2.2.1, S.2.2.2.2.2.2.2.2.2.2.2.2.2.2.2.2.1, t42, ()) H4)
        (condE (fun S => some S.2.2.2.2.2.2.2.2.2.2.2.2.2.2.2.2.2.1)
         (seqE (leafE fun S H k =>
             bindVH (call lo 49 [S.2.2.2.2.2.2.1] H) fun t44 H5 =>
             bindVH (call lo 49 [S.2.2.2.2.2.2.2.1] H5) fun t46 H6 =>
             k (S.1, t44, t46, (.bool true), S.2.2.2.2.1, S.2.2.2.2.2.1, S.2.2.2.2.2.2.1, S.2.2.2.2.2.2.2.1, S.2.2.2.2.2.2.2.2.1, S.2.2.2.2.2.2.2.2.2.1, S.2.2.2.2.2.2.2.2.2.2.1, S.2.2.2.2.2.2.2.2.2.2.2.1, S.2.2.2.2.2.2.2.2.2.2.2.2.1, S.2.2.2.2.2.2.2.2.2.2.2.2.2.1, S.2.2.2.2.2.2.2.2.2.2.2.2.2.2.1, S.2.2.2.2.2.2.2.2.2.2.2.2.2.2.2.1, S.2.2.2.2.2.2.2.2.2.2.2.2.2.2.2.2.1, S.2.2.2.2.2.2.2.2.2.2.2.2.2.2.2.2.2.1, ()) H6)
         (doneE .ret))
         (doneE .normal)))))
       (leafE fun S H k =>
           bindV (evAdd S.2.2.2.2.2.2.2.2.2.2.2.2.2.2.2.1 (.int .i64 (.ofNat 1))) fun t47 =>
           k (S.1, S.2.1, S.2.2.1, S.2.2.2.1, S.2.2.2.2.1, S.2.2.2.2.2.1, S.2.2.2.2.2.2.1, S.2.2.2.2.2.2.2.1, S.2.2.2.2.2.2.2.2.1, S.2.2.2.2.2.2.2.2.2.1, S.2.2.2.2.2.2.2.2.2.2.1, S.2.2.2.2.2.2.2.2.2.2.2.1, S.2.2.2.2.2.2.2.2.2.2.2.2.1, S.2.2.2.2.2.2.2.2.2.2.2.2.2.1, S.2.2.2.2.2.2.2.2.2.2.2.2.2.2.1, t47, S.2.2.2.2.2.2.2.2.2.2.2.2.2.2.2.2.1, S.2.2.2.2.2.2.2.2.2.2.2.2.2.2.2.2.2.1, ()) H)))) fuel)))))
    (leafE fun S H k =>
        bindV (evAdd S.2.2.2.2.2.2.2.2.2.2.2.1 (.int .i64 (.ofNat 1))) fun t48 =>
        k (S.1, S.2.1, S.2.2.1, S.2.2.2.1, S.2.2.2.2.1, S.2.2.2.2.2.1, S.2.2.2.2.2.2.1, S.2.2.2.2.2.2.2.1, S.2.2.2.2.2.2.2.2.1, S.2.2.2.2.2.2.2.2.2.1, S.2.2.2.2.2.2.2.2.2.2.1, t48, S.2.2.2.2.2.2.2.2.2.2.2.2.1, S.2.2.2.2.2.2.2.2.2.2.2.2.2.1, S.2.2.2.2.2.2.2.2.2.2.2.2.2.2.1, S.2.2.2.2.2.2.2.2.2.2.2.2.2.2.2.1, S.2.2.2.2.2.2.2.2.2.2.2.2.2.2.2.2.1, S.2.2.2.2.2.2.2.2.2.2.2.2.2.2.2.2.2.1, ()) H)))) fuel)))
  (seqE (leafE fun S H k =>
      k (S.1, (.slice none 0 0), (.slice none 0 0), (.bool false), S.2.2.2.2.1, S.2.2.2.2.2.1, S.2.2.2.2.2.2.1, S.2.2.2.2.2.2.2.1, S.2.2.2.2.2.2.2.2.1, S.2.2.2.2.2.2.2.2.2.1, S.2.2.2.2.2.2.2.2.2.2.1, S.2.2.2.2.2.2.2.2.2.2.2.1, S.2.2.2.2.2.2.2.2.2.2.2.2.1, S.2.2.2.2.2.2.2.2.2.2.2.2.2.1, S.2.2.2.2.2.2.2.2.2.2.2.2.2.2.1, S.2.2.2.2.2.2.2.2.2.2.2.2.2.2.2.1, S.2.2.2.2.2.2.2.2.2.2.2.2.2.2.2.2.1, S.2.2.2.2.2.2.2.2.2.2.2.2.2.2.2.2.2.1, ()) H)
  (doneE .ret)))))))

def F43 (call : CallF) (lo : Nat) (args : List Value) (H : AH) : Option (Value × AH) :=
  leave .all H (bindV (C43 call (lowOf .all lo H) (argAt args 0, argAt args 2, argAt args 3, argAt args 4, argAt args 5, argAt args 6, argAt args 8, argAt args 10, argAt args 18, argAt args 27, argAt args 28, argAt args 29, argAt args 30, argAt args 33, argAt args 34, argAt args 35, argAt args 36, argAt args 42, ()) H) fun p => resE p.1 (some (oneOf [p.2.1.2.1, p.2.1.2.2.1, p.2.1.2.2.2.1], p.2.2)))

theorem F43_eq (call : CallF) (lo : Nat) (args : List Value) (H : AH) : evFn P ctx call lo 43 args H = F43 call lo args H := by kernel_rfl

/-- novaculite/share.Sub -/
def C44 (call : CallF) (lo : Nat) : Piece (Value × Value × Value × Value × Value × Value × Value × Value × Unit) :=
  (seqE (leafE fun S H k =>
      let t2 := newPtr H
      let H0 := pushBox H 27 S.1
      let t4 := newPtr H0
      let H1 := pushBox H0 27 z27
      k (S.1, S.2.1, t2, t4, (.int .i64 (.ofNat 0)), S.2.2.2.2.2.1, S.2.2.2.2.2.2.1, S.2.2.2.2.2.2.2.1, ()) H1)
  (seqE (leafE fun S H k =>
      bindV (evLoad H true 2 S.2.2.1) fun t9 =>
      bindVH (call lo 24 [t9, S.2.1] H) fun t11 H2 =>
      bindV (evComp t11 0) fun t12 =>
      bindV (evComp t11 1) fun t13 =>
      k (S.1, S.2.1, S.2.2.1, S.2.2.2.1, S.2.2.2.2.1, t12, t13, S.2.2.2.2.2.2.2.1, ()) H2)
  (seqE (seqE (leafE fun S H k =>
      bindV (evNeq .int S.2.2.2.2.2.2.1 (.int .i64 (.ofNat 0))) fun t15 =>
      k (S.1, S.2.1, S.2.2.1, S.2.2.2.1, S.2.2.2.2.1, S.2.2.2.2.2.1, S.2.2.2.2.2.2.1, t15, ()) H)
  (condE (fun S => some S.2.2.2.2.2.2.2.1)
   (seqE (leafE fun S H k =>
       bindV (evAgg [] (cellsOf z27)) fun t16 =>
       bindV (evStore lo H 2 S.2.2.2.1 t16) fun H3 =>
       k (S.1, S.2.1, S.2.2.1, S.2.2.2.1, S.2.2.2.2.2.2.1, S.2.2.2.2.2.1, S.2.2.2.2.2.2.1, S.2.2.2.2.2.2.2.1, ()) H3)
   (doneE .ret))
   (doneE .normal)))
  (seqE (leafE fun S H k =>
      bindV (evLoad H true 2 S.2.2.1) fun t18 =>
      bindV (evShift S.2.2.1 0) fun t20 =>
      bindV (evLoad H false 1 t20) fun t21 =>
      need (Nat.ble lo H.next) <|
      bindVH (call H.next 26 [S.2.2.2.2.2.1, t21] H) fun t22 H4 =>
      bindVH (call lo 48 [t18, t22] H4) fun t23 H5 =>
      bindV (evStore lo H5 2 S.2.2.2.1 t23) fun H6 =>
      k (S.1, S.2.1, S.2.2.1, S.2.2.2.1, (.int .i64 (.ofNat 0)), S.2.2.2.2.2.1, S.2.2.2.2.2.2.1, S.2.2.2.2.2.2.2.1, ()) H6)
  (doneE .ret)))))

def F44 (call : CallF) (lo : Nat) (args : List Value) (H : AH) : Option (Value × AH) :=
  leave .all H (bindV (C44 call (lowOf .all lo H) (argAt args 0, argAt args 1, argAt args 2, argAt args 4, argAt args 5, argAt args 6, argAt args 7, argAt args 15, ()) H) fun p => resE p.1 (bindV (evLoad p.2.2 true 2 p.2.1.2.2.2.1) fun r0 => some (oneOf [r0, p.2.1.2.2.2.2.1], p.2.2)))

theorem F44_eq (call : CallF) (lo : Nat) (args : List Value) (H : AH) : evFn P ctx call lo 44 args H = F44 call lo args H := by kernel_rfl

/-- novaculite/share.Smooth -/
def C45 (call : CallF) (lo : Nat) : Piece (Value × Value × Value × Value × Value × Value × Value × Unit) :=
  (seqE (leafE fun S H k =>
      let t1 := newPtr H
      let H0 := pushBox H 27 S.1
      k (S.1, t1, (.bool false), (.int .i64 (.ofNat 0)), S.2.2.2.2.1, S.2.2.2.2.2.1, S.2.2.2.2.2.2.1, ()) H0)
  (seqE (seqE (leafE fun S H k =>
      bindV (evLoad H true 2 S.2.1) fun t10 =>
      bindVH (call lo 33 [t10] H) fun t11 H1 =>
      bindV (evComp t11 0) fun t12 =>
      bindV (evComp t11 1) fun t13 =>
      k (S.1, S.2.1, S.2.2.1, S.2.2.2.1, t13, S.2.2.2.2.2.1, S.2.2.2.2.2.2.1, ()) H1)
  (seqE (leafE fun S H k =>
      bindV (evNeq .int S.2.2.2.2.1 (.int .i64 (.ofNat 0))) fun t15 =>
      k (S.1, S.2.1, S.2.2.1, S.2.2.2.1, S.2.2.2.2.1, S.2.2.2.2.2.1, t15, ()) H)
  (condE (fun S => some S.2.2.2.2.2.2.1)
   (seqE (leafE fun S H k =>
       k (S.1, S.2.1, (.bool false), S.2.2.2.2.1, S.2.2.2.2.1, S.2.2.2.2.2.1, S.2.2.2.2.2.2.1, ()) H)
   (doneE .ret))
   (doneE .normal))))
  (seqE (leafE fun S H k =>
      bindV (evLoad H true 2 S.2.1) fun t18 =>
      bindVH (call lo 29 [t18] H) fun t19 H2 =>
      bindVH (call lo 43 [t19] H2) fun t20 H3 =>
      bindV (evComp t20 0) fun t21 =>
      bindV (evComp t20 1) fun t22 =>
      bindV (evComp t20 2) fun t23 =>
      k (S.1, S.2.1, S.2.2.1, S.2.2.2.1, S.2.2.2.2.1, t23, S.2.2.2.2.2.2.1, ()) H3)
  (seqE (leafE fun S H k =>
      bindV (evNot S.2.2.2.2.2.1) fun t25 =>
      k (S.1, S.2.1, t25, (.int .i64 (.ofNat 0)), S.2.2.2.2.1, S.2.2.2.2.2.1, S.2.2.2.2.2.2.1, ()) H)
  (doneE .ret)))))

def F45 (call : CallF) (lo : Nat) (args : List Value) (H : AH) : Option (Value × AH) :=
  leave .all H (bindV (C45 call (lowOf .all lo H) (argAt args 0, argAt args 1, argAt args 2, argAt args 3, argAt args 5, argAt args 8, argAt args 15, ()) H) fun p => resE p.1 (some (oneOf [p.2.1.2.2.1, p.2.1.2.2.2.1], p.2.2)))

theorem F45_eq (call : CallF) (lo : Nat) (args : List Value) (H : AH) : evFn P ctx call lo 45 args H = F45 call lo args H := by kernel_rfl

/-- novaculite/novaculitelaw10.alike -/
def C46 (call : CallF) (lo : Nat) : Piece (Value × Value × Value × Value × Value × Value × Value × Unit) :=
  (seqE (leafE fun S H k =>
      k (S.1, S.2.1, (.bool false), S.2.2.2.1, S.2.2.2.2.1, S.2.2.2.2.2.1, S.2.2.2.2.2.2.1, ()) H)
  (seqE (seqE (leafE fun S H k =>
      bindV (evLenS S.1) fun t7 =>
      bindV (evLenS S.2.1) fun t9 =>
      bindV (evNeq .int t7 t9) fun t10 =>
      k (S.1, S.2.1, S.2.2.1, S.2.2.2.1, t10, S.2.2.2.2.2.1, S.2.2.2.2.2.2.1, ()) H)
  (condE (fun S => some S.2.2.2.2.1)
   (seqE (leafE fun S H k =>
       k (S.1, S.2.1, (.bool false), S.2.2.2.1, S.2.2.2.2.1, S.2.2.2.2.2.1, S.2.2.2.2.2.2.1, ()) H)
   (doneE .ret))
   (doneE .normal)))
  (seqE (seqE (leafE fun S H k =>
      k (S.1, S.2.1, S.2.2.1, (.int .i64 (.ofNat 0)), S.2.2.2.2.1, S.2.2.2.2.2.1, S.2.2.2.2.2.2.1, ()) H)
  (blockE 0 (loopE (seqE (seqE (leafE fun S H k =>
        bindV (evLenS S.1) fun t13 =>
        bindV (evLss S.2.2.2.1 t13) fun t14 =>
        k (S.1, S.2.1, S.2.2.1, S.2.2.2.1, S.2.2.2.2.1, t14, S.2.2.2.2.2.2.1, ()) H)
    (condE (fun S => some S.2.2.2.2.2.1)
     (doneE .normal)
     (doneE (.exit 0))))
    (seqE (blockE 1 (seqE (leafE fun S H k =>
         bindV (evIdxSlice 3 S.1 S.2.2.2.1) fun t19 =>
         bindV (evLoad H true 3 t19) fun t20 =>
         bindV (evIdxSlice 3 S.2.1 S.2.2.2.1) fun t23 =>
         bindV (evLoad H true 3 t23) fun t24 =>
         bindV (evNeq (.ints 3) t20 t24) fun t25 =>
         k (S.1, S.2.1, S.2.2.1, S.2.2.2.1, S.2.2.2.2.1, S.2.2.2.2.2.1, t25, ()) H)
     (condE (fun S => some S.2.2.2.2.2.2.1)
      (seqE (leafE fun S H k =>
          k (S.1, S.2.1, (.bool false), S.2.2.2.1, S.2.2.2.2.1, S.2.2.2.2.2.1, S.2.2.2.2.2.2.1, ()) H)
      (doneE .ret))
      (doneE .normal))))
    (leafE fun S H k =>
        bindV (evAdd S.2.2.2.1 (.int .i64 (.ofNat 1))) fun t16 =>
        k (S.1, S.2.1, S.2.2.1, t16, S.2.2.2.2.1, S.2.2.2.2.2.1, S.2.2.2.2.2.2.1, ()) H))) fuel)))
  (seqE (leafE fun S H k =>
      k (S.1, S.2.1, (.bool true), S.2.2.2.1, S.2.2.2.2.1, S.2.2.2.2.2.1, S.2.2.2.2.2.2.1, ()) H)
  (doneE .ret)))))

def F46 (call : CallF) (lo : Nat) (args : List Value) (H : AH) : Option (Value × AH) :=
  leave .all H (bindV (C46 call (lowOf .all lo H) (argAt args 0, argAt args 1, argAt args 4, argAt args 5, argAt args 10, argAt args 14, argAt args 25, ()) H) fun p => resE p.1 (some (oneOf [p.2.1.2.2.1], p.2.2)))

theorem F46_eq (call : CallF) (lo : Nat) (args : List Value) (H : AH) : evFn P ctx call lo 46 args H = F46 call lo args H := by kernel_rfl

/-- novaculite/drain.Leaves -/
def C47 (call : CallF) (lo : Nat) : Piece (Value × Value × Value × Value × Value × Value × Value × Value × Value × Value × Unit) :=
  (seqE (leafE fun S H k =>
      let t2 := newPtr H
      let H0 := pushBox H 27 S.1
      k (S.1, S.2.1, t2, (.slice none 0 0), (.int .i64 (.ofNat 0)), S.2.2.2.2.2.1, S.2.2.2.2.2.2.1, S.2.2.2.2.2.2.2.1, S.2.2.2.2.2.2.2.2.1, S.2.2.2.2.2.2.2.2.2.1, ()) H0)
  (seqE (seqE (leafE fun S H k =>
      bindV (evLoad H true 2 S.2.2.1) fun t9 =>
      bindVH (call lo 28 [t9] H) fun t10 H1 =>
      k (S.1, S.2.1, S.2.2.1, S.2.2.2.1, S.2.2.2.2.1, t10, S.2.2.2.2.2.2.1, S.2.2.2.2.2.2.2.1, S.2.2.2.2.2.2.2.2.1, S.2.2.2.2.2.2.2.2.2.1, ()) H1)
  (seqE (leafE fun S H k =>
      bindV (evNeq .int S.2.2.2.2.2.1 (.int .i64 (.ofNat 0))) fun t12 =>
      k (S.1, S.2.1, S.2.2.1, S.2.2.2.1, S.2.2.2.2.1, S.2.2.2.2.2.1, S.2.2.2.2.2.2.1, S.2.2.2.2.2.2.2.1, t12, S.2.2.2.2.2.2.2.2.2.1, ()) H)
  (condE (fun S => some S.2.2.2.2.2.2.2.2.1)
   (seqE (leafE fun S H k =>
       k (S.1, S.2.1, S.2.2.1, (.slice none 0 0), S.2.2.2.2.2.1, S.2.2.2.2.2.1, S.2.2.2.2.2.2.1, S.2.2.2.2.2.2.2.1, S.2.2.2.2.2.2.2.2.1, S.2.2.2.2.2.2.2.2.2.1, ()) H)
   (doneE .ret))
   (doneE .normal))))
  (seqE (leafE fun S H k =>
      bindV (evLoad H true 2 S.2.2.1) fun t15 =>
      bindVH (call lo 65 [t15, S.2.1] H) fun t17 H2 =>
      bindV (evComp t17 0) fun t18 =>
      bindV (evComp t17 1) fun t19 =>
      k (S.1, S.2.1, S.2.2.1, S.2.2.2.1, S.2.2.2.2.1, S.2.2.2.2.2.1, t18, t19, S.2.2.2.2.2.2.2.2.1, S.2.2.2.2.2.2.2.2.2.1, ()) H2)
  (seqE (seqE (leafE fun S H k =>
      bindV (evNeq .int S.2.2.2.2.2.2.2.1 (.int .i64 (.ofNat 0))) fun t21 =>
      k (S.1, S.2.1, S.2.2.1, S.2.2.2.1, S.2.2.2.2.1, S.2.2.2.2.2.1, S.2.2.2.2.2.2.1, S.2.2.2.2.2.2.2.1, S.2.2.2.2.2.2.2.2.1, t21, ()) H)
  (condE (fun S => some S.2.2.2.2.2.2.2.2.2.1)
   (seqE (leafE fun S H k =>
       k (S.1, S.2.1, S.2.2.1, (.slice none 0 0), S.2.2.2.2.2.2.2.1, S.2.2.2.2.2.1, S.2.2.2.2.2.2.1, S.2.2.2.2.2.2.2.1, S.2.2.2.2.2.2.2.2.1, S.2.2.2.2.2.2.2.2.2.1, ()) H)
   (doneE .ret))
   (doneE .normal)))
  (seqE (leafE fun S H k =>
      bindV (evLoad H true 2 S.2.2.1) fun t23 =>
      bindVH (call lo 67 [t23, S.2.2.2.2.2.2.1] H) fun t25 H3 =>
      bindVH (call lo 66 [t25] H3) fun t26 H4 =>
      k (S.1, S.2.1, S.2.2.1, t26, (.int .i64 (.ofNat 0)), S.2.2.2.2.2.1, S.2.2.2.2.2.2.1, S.2.2.2.2.2.2.2.1, S.2.2.2.2.2.2.2.2.1, S.2.2.2.2.2.2.2.2.2.1, ()) H4)
  (doneE .ret))))))

def F47 (call : CallF) (lo : Nat) (args : List Value) (H : AH) : Option (Value × AH) :=
  leave .all H (bindV (C47 call (lowOf .all lo H) (argAt args 0, argAt args 1, argAt args 2, argAt args 4, argAt args 5, argAt args 6, argAt args 7, argAt args 8, argAt args 12, argAt args 21, ()) H) fun p => resE p.1 (some (oneOf [p.2.1.2.2.2.1, p.2.1.2.2.2.2.1], p.2.2)))

theorem F47_eq (call : CallF) (lo : Nat) (args : List Value) (H : AH) : evFn P ctx call lo 47 args H = F47 call lo args H := by kernel_rfl

/-- novaculite/share.left -/
def C48 (call : CallF) (lo : Nat) : Piece (Value × Value × Value × Value × Value × Value × Value × Value × Value × Value × Value × Value × Value × Value × Value × Unit) :=
  (seqE (leafE fun S H k =>
      let t2 := newPtr H
      let H0 := pushBox H 27 S.1
      let t4 := newPtr H0
      let H1 := pushBox H0 27 z27
      k (S.1, S.2.1, t2, t4, S.2.2.2.2.1, S.2.2.2.2.2.1, S.2.2.2.2.2.2.1, S.2.2.2.2.2.2.2.1, S.2.2.2.2.2.2.2.2.1, S.2.2.2.2.2.2.2.2.2.1, S.2.2.2.2.2.2.2.2.2.2.1, S.2.2.2.2.2.2.2.2.2.2.2.1, S.2.2.2.2.2.2.2.2.2.2.2.2.1, S.2.2.2.2.2.2.2.2.2.2.2.2.2.1, S.2.2.2.2.2.2.2.2.2.2.2.2.2.2.1, ()) H1)
  (seqE (leafE fun S H k =>
      bindV (evAssert 80 (.int .u64 (.ofNat 0)) S.2.1 true) fun t13 =>
      bindV (evComp t13 0) fun t14 =>
      bindV (evComp t13 1) fun t15 =>
      let t5 := newPtr H
      let H2 := pushBox H 80 (.int .u64 (.ofNat 0))
      bindV (evStore lo H2 1 t5 t14) fun H3 =>
      k (S.1, S.2.1, S.2.2.1, S.2.2.2.1, t5, t15, S.2.2.2.2.2.2.1, S.2.2.2.2.2.2.2.1, S.2.2.2.2.2.2.2.2.1, S.2.2.2.2.2.2.2.2.2.1, S.2.2.2.2.2.2.2.2.2.2.1, S.2.2.2.2.2.2.2.2.2.2.2.1, S.2.2.2.2.2.2.2.2.2.2.2.2.1, S.2.2.2.2.2.2.2.2.2.2.2.2.2.1, S.2.2.2.2.2.2.2.2.2.2.2.2.2.2.1, ()) H3)
  (seqE (seqE (leafE fun S H k =>
      bindV (evNot S.2.2.2.2.2.1) fun t17 =>
      k (S.1, S.2.1, S.2.2.1, S.2.2.2.1, S.2.2.2.2.1, S.2.2.2.2.2.1, S.2.2.2.2.2.2.1, S.2.2.2.2.2.2.2.1, S.2.2.2.2.2.2.2.2.1, t17, S.2.2.2.2.2.2.2.2.2.2.1, S.2.2.2.2.2.2.2.2.2.2.2.1, S.2.2.2.2.2.2.2.2.2.2.2.2.1, S.2.2.2.2.2.2.2.2.2.2.2.2.2.1, S.2.2.2.2.2.2.2.2.2.2.2.2.2.2.1, ()) H)
  (condE (fun S => some S.2.2.2.2.2.2.2.2.2.1)
   (seqE (leafE fun S H k =>
       bindV (evShift S.2.2.1 0) fun t18 =>
       bindV (evLoad H false 1 t18) fun t19 =>
       bindV (evShift S.2.2.1 1) fun t20 =>
       bindV (evLoad H false 1 t20) fun t21 =>
       need (Nat.ble lo H.next) <|
       bindVH (call H.next 68 [t21] H) fun t22 H4 =>
       bindV (evAgg [(0, 1, t19), (1, 1, t22)] (cellsOf z27)) fun t23 =>
       bindV (evStore lo H4 2 S.2.2.2.1 t23) fun H5 =>
       k (S.1, S.2.1, S.2.2.1, S.2.2.2.1, S.2.2.2.2.1, S.2.2.2.2.2.1, S.2.2.2.2.2.2.1, S.2.2.2.2.2.2.2.1, S.2.2.2.2.2.2.2.2.1, S.2.2.2.2.2.2.2.2.2.1, S.2.2.2.2.2.2.2.2.2.2.1, S.2.2.2.2.2.2.2.2.2.2.2.1, S.2.2.2.2.2.2.2.2.2.2.2.2.1, S.2.2.2.2.2.2.2.2.2.2.2.2.2.1, S.2.2.2.2.2.2.2.2.2.2.2.2.2.2.1, ()) H5)
   (doneE .ret))
   (doneE .normal)))
  (seqE (leafE fun S H k =>
      k (S.1, S.2.1, S.2.2.1, S.2.2.2.1, S.2.2.2.2.1, S.2.2.2.2.2.1, (.func (.func 69) ⟨[]⟩ ⟨[S.2.2.2.2.1]⟩), S.2.2.2.2.2.2.2.1, S.2.2.2.2.2.2.2.2.1, S.2.2.2.2.2.2.2.2.2.1, S.2.2.2.2.2.2.2.2.2.2.1, S.2.2.2.2.2.2.2.2.2.2.2.1, S.2.2.2.2.2.2.2.2.2.2.2.2.1, S.2.2.2.2.2.2.2.2.2.2.2.2.2.1, S.2.2.2.2.2.2.2.2.2.2.2.2.2.2.1, ()) H)
  (seqE (leafE fun S H k =>
      bindV (evLoad H false 1 S.2.2.2.2.1) fun t25 =>
      bindVH (call lo 41 [t25] H) fun t26 H6 =>
      bindV (evAgg [(0, 1, t26)] (cellsOf z27)) fun t27 =>
      let t8 := newPtr H6
      let H7 := pushBox H6 27 z27
      bindV (evStore lo H7 2 t8 t27) fun H8 =>
      k (S.1, S.2.1, S.2.2.1, S.2.2.2.1, S.2.2.2.2.1, S.2.2.2.2.2.1, S.2.2.2.2.2.2.1, t8, S.2.2.2.2.2.2.2.2.1, S.2.2.2.2.2.2.2.2.2.1, S.2.2.2.2.2.2.2.2.2.2.1, S.2.2.2.2.2.2.2.2.2.2.2.1, S.2.2.2.2.2.2.2.2.2.2.2.2.1, S.2.2.2.2.2.2.2.2.2.2.2.2.2.1, S.2.2.2.2.2.2.2.2.2.2.2.2.2.2.1, ()) H8)
  (seqE (seqE (leafE fun S H k =>
      bindV (evShift S.2.2.1 1) fun t28 =>
      bindV (evLoad H false 1 t28) fun t29 =>
      bindV (evLenS t29) fun t30 =>
      k (S.1, S.2.1, S.2.2.1, S.2.2.2.1, S.2.2.2.2.1, S.2.2.2.2.2.1, S.2.2.2.2.2.2.1, S.2.2.2.2.2.2.2.1, S.2.2.2.2.2.2.2.2.1, S.2.2.2.2.2.2.2.2.2.1, t29, t30, (.int .i64 (.ofNat 0)), S.2.2.2.2.2.2.2.2.2.2.2.2.2.1, S.2.2.2.2.2.2.2.2.2.2.2.2.2.2.1, ()) H)
  (blockE 0 (loopE (seqE (leafE fun S H k =>
        bindV (evLss S.2.2.2.2.2.2.2.2.2.2.2.2.1 S.2.2.2.2.2.2.2.2.2.2.2.1) fun t32 =>
        k (S.1, S.2.1, S.2.2.1, S.2.2.2.1, S.2.2.2.2.1, S.2.2.2.2.2.1, S.2.2.2.2.2.2.1, S.2.2.2.2.2.2.2.1, S.2.2.2.2.2.2.2.2.1, S.2.2.2.2.2.2.2.2.2.1, S.2.2.2.2.2.2.2.2.2.2.1, S.2.2.2.2.2.2.2.2.2.2.2.1, S.2.2.2.2.2.2.2.2.2.2.2.2.1, t32, S.2.2.2.2.2.2.2.2.2.2.2.2.2.2.1, ()) H)
    (seqE (condE (fun S => some S.2.2.2.2.2.2.2.2.2.2.2.2.2.1)
     (doneE .normal)
     (doneE (.exit 0)))
    (seqE (blockE 1 (seqE (leafE fun S H k =>
         bindV (evIdxSlice 3 S.2.2.2.2.2.2.2.2.2.2.1 S.2.2.2.2.2.2.2.2.2.2.2.2.1) fun t33 =>
         bindV (evLoad H true 3 t33) fun t34 =>
         let t10 := newPtr H
         let H9 := pushBox H 65 z65
         bindV (evStore lo H9 3 t10 t34) fun H10 =>
         k (S.1, S.2.1, S.2.2.1, S.2.2.2.1, S.2.2.2.2.1, S.2.2.2.2.2.1, S.2.2.2.2.2.2.1, S.2.2.2.2.2.2.2.1, t10, S.2.2.2.2.2.2.2.2.2.1, S.2.2.2.2.2.2.2.2.2.2.1, S.2.2.2.2.2.2.2.2.2.2.2.1, S.2.2.2.2.2.2.2.2.2.2.2.2.1, S.2.2.2.2.2.2.2.2.2.2.2.2.2.1, S.2.2.2.2.2.2.2.2.2.2.2.2.2.2.1, ()) H10)
     (seqE (leafE fun S H k =>
         bindV (evLoad H false 1 S.2.2.2.2.1) fun t35 =>
         bindV (evIdxArr 3 1 S.2.2.2.2.2.2.2.2.1 (.int .i64 (.ofNat 0))) fun t36 =>
         bindV (evLoad H false 1 t36) fun t37 =>
         bindV (evShr t35 t37) fun t38 =>
         bindV (evAnd t38 (.int .u64 (.ofNat 1))) fun t39 =>
         bindV (evEql .int t39 (.int .u64 (.ofNat 1))) fun t40 =>
         guarded t40 true (bindV (evIdxArr 3 1 S.2.2.2.2.2.2.2.2.1 (.int .i64 (.ofNat 1))) fun t1000000 => pairVH t1000000 H) H fun t42 H11 =>
         guarded t40 true (bindV (evLoad H11 false 1 t42) fun t1000000 => pairVH t1000000 H11) H11 fun t43 H12 =>
         guarded t40 true (bindV (evShift S.2.2.1 0) fun t1000000 => pairVH t1000000 H12) H12 fun t44 H13 =>
         guarded t40 true (bindV (evLoad H13 false 1 t44) fun t1000000 => pairVH t1000000 H13) H13 fun t45 H14 =>
         guarded t40 true (bindV (evEql .int t43 t45) fun t1000000 => pairVH t1000000 H14) H14 fun t46 H15 =>
         guarded t40 true ( pairVH t46 H15) H15 fun t47 H16 =>
         guarded t47 false (bindV (evLoad H16 false 1 S.2.2.2.2.1) fun t1000000 => pairVH t1000000 H16) H16 fun t48 H17 =>
         guarded t47 false (bindV (evIdxArr 3 1 S.2.2.2.2.2.2.2.2.1 (.int .i64 (.ofNat 1))) fun t1000000 => pairVH t1000000 H17) H17 fun t49 H18 =>
         guarded t47 false (bindV (evLoad H18 false 1 t49) fun t1000000 => pairVH t1000000 H18) H18 fun t50 H19 =>
         guarded t47 false (bindV (evShr t48 t50) fun t1000000 => pairVH t1000000 H19) H19 fun t51 H20 =>
         guarded t47 false (bindV (evAnd t51 (.int .u64 (.ofNat 1))) fun t1000000 => pairVH t1000000 H20) H20 fun t52 H21 =>
         guarded t47 false (bindV (evEql .int t52 (.int .u64 (.ofNat 1))) fun t1000000 => pairVH t1000000 H21) H21 fun t53 H22 =>
         guarded t40 true (bindV (evPick t47 (.bool true) t53) fun t1000000 => pairVH t1000000 H22) H22 fun t54 H23 =>
         bindV (evPick t40 t54 (.bool false)) fun t55 =>
         k (S.1, S.2.1, S.2.2.1, S.2.2.2.1, S.2.2.2.2.1, S.2.2.2.2.2.1, S.2.2.2.2.2.2.1, S.2.2.2.2.2.2.2.1, S.2.2.2.2.2.2.2.2.1, S.2.2.2.2.2.2.2.2.2.1, S.2.2.2.2.2.2.2.2.2.2.1, S.2.2.2.2.2.2.2.2.2.2.2.1, S.2.2.2.2.2.2.2.2.2.2.2.2.1, S.2.2.2.2.2.2.2.2.2.2.2.2.2.1, t55, ()) H23)
     (condE (fun S => some S.2.2.2.2.2.2.2.2.2.2.2.2.2.2.1)
      (leafE fun S H k =>
          bindV (evShift S.2.2.2.2.2.2.2.1 1) fun t56 =>
          bindV (evLoad H false 1 t56) fun t57 =>
          bindV (evIdxArr 3 1 S.2.2.2.2.2.2.2.2.1 (.int .i64 (.ofNat 0))) fun t59 =>
          bindV (evLoad H false 1 t59) fun t60 =>
          need (Nat.ble lo H.next) <|
          callVal call H.next S.2.2.2.2.2.2.1 [t60] H fun t61 H24 =>
          bindV (evIdxArr 3 1 S.2.2.2.2.2.2.2.2.1 (.int .i64 (.ofNat 1))) fun t63 =>
          bindV (evLoad H24 false 1 t63) fun t64 =>
          need (Nat.ble lo H24.next) <|
          callVal call H24.next S.2.2.2.2.2.2.1 [t64] H24 fun t65 H25 =>
          bindV (evIdxArr 3 1 S.2.2.2.2.2.2.2.2.1 (.int .i64 (.ofNat 2))) fun t66 =>
          bindV (evLoad H25 false 1 t66) fun t67 =>
          bindV (evAgg [(0, 1, t61), (1, 1, t65), (2, 1, t67)] (cellsOf z65)) fun t68 =>
          bindV (evFill [(0, 3, t68)] (zeros (cellsOf z65) 1)) fun c26 =>
          let t69 := newSlice H25 1 1
          let H27 := H25.push (.cells (Nat.mul 1 3) c26 65)
          bindVH (evAppend lo H27 65 3 24 t57 t69) fun t70 H28 =>
          bindV (evShift S.2.2.2.2.2.2.2.1 1) fun t71 =>
          bindV (evStore lo H28 1 t71 t70) fun H29 =>
          k (S.1, S.2.1, S.2.2.1, S.2.2.2.1, S.2.2.2.2.1, S.2.2.2.2.2.1, S.2.2.2.2.2.2.1, S.2.2.2.2.2.2.2.1, S.2.2.2.2.2.2.2.2.1, S.2.2.2.2.2.2.2.2.2.1, S.2.2.2.2.2.2.2.2.2.2.1, S.2.2.2.2.2.2.2.2.2.2.2.1, S.2.2.2.2.2.2.2.2.2.2.2.2.1, S.2.2.2.2.2.2.2.2.2.2.2.2.2.1, S.2.2.2.2.2.2.2.2.2.2.2.2.2.2.1, ()) H29)
      (doneE .normal)))))
    (leafE fun S H k =>
        bindV (evAdd S.2.2.2.2.2.2.2.2.2.2.2.2.1 (.int .i64 (.ofNat 1))) fun t72 =>
        k (S.1, S.2.1, S.2.2.1, S.2.2.2.1, S.2.2.2.2.1, S.2.2.2.2.2.1, S.2.2.2.2.2.2.1, S.2.2.2.2.2.2.2.1, S.2.2.2.2.2.2.2.2.1, S.2.2.2.2.2.2.2.2.2.1, S.2.2.2.2.2.2.2.2.2.2.1, S.2.2.2.2.2.2.2.2.2.2.2.1, t72, S.2.2.2.2.2.2.2.2.2.2.2.2.2.1, S.2.2.2.2.2.2.2.2.2.2.2.2.2.2.1, ()) H)))) fuel)))
  (seqE (leafE fun S H k =>
      bindV (evLoad H true 2 S.2.2.2.2.2.2.2.1) fun t73 =>
      bindV (evStore lo H 2 S.2.2.2.1 t73) fun H30 =>
      k (S.1, S.2.1, S.2.2.1, S.2.2.2.1, S.2.2.2.2.1, S.2.2.2.2.2.1, S.2.2.2.2.2.2.1, S.2.2.2.2.2.2.2.1, S.2.2.2.2.2.2.2.2.1, S.2.2.2.2.2.2.2.2.2.1, S.2.2.2.2.2.2.2.2.2.2.1, S.2.2.2.2.2.2.2.2.2.2.2.1, S.2.2.2.2.2.2.2.2.2.2.2.2.1, S.2.2.2.2.2.2.2.2.2.2.2.2.2.1, S.2.2.2.2.2.2.2.2.2.2.2.2.2.2.1, ()) H30)
  (doneE .ret))))))))

def F48 (call : CallF) (lo : Nat) (args : List Value) (H : AH) : Option (Value × AH) :=
  leave .all H (bindV (C48 call (lowOf .all lo H) (argAt args 0, argAt args 1, argAt args 2, argAt args 4, argAt args 5, argAt args 6, argAt args 7, argAt args 8, argAt args 10, argAt args 17, argAt args 29, argAt args 30, argAt args 31, argAt args 32, argAt args 55, ()) H) fun p => resE p.1 (bindV (evLoad p.2.2 true 2 p.2.1.2.2.2.1) fun r0 => some (oneOf [r0], p.2.2)))

theorem F48_eq (call : CallF) (lo : Nat) (args : List Value) (H : AH) : evFn P ctx call lo 48 args H = F48 call lo args H := by kernel_rfl

/-- novaculite/share.list -/
def C49 (call : CallF) (lo : Nat) : Piece (Value × Value × Value × Value × Unit) :=
  (seqE (leafE fun S H k =>
      k (S.1, (.slice none 0 0), S.2.2.1, S.2.2.2.1, ()) H)
  (seqE (leafE fun S H k =>
      k (S.1, S.2.1, (.slice none 0 0), S.2.2.2.1, ()) H)
  (seqE (blockE 0 (loopE (seqE (seqE (leafE fun S H k =>
        bindV (evNeq .int S.1 (.int .u64 (.ofNat 0))) fun t5 =>
        k (S.1, S.2.1, S.2.2.1, t5, ()) H)
    (condE (fun S => some S.2.2.2.1)
     (doneE .normal)
     (doneE (.exit 0))))
    (seqE (blockE 1 (leafE fun S H k =>
         bindVH (call lo 70 [S.1] H) fun t12 H0 =>
         bindV (evFill [(0, 1, t12)] (zeros (cellsOf (.int .i64 (.ofNat 0))) 1)) fun c1 =>
         let t13 := newSlice H0 1 1
         let H2 := H0.push (.cells (Nat.mul 1 1) c1 3)
         bindVH (evAppend lo H2 3 1 8 S.2.2.1 t13) fun t14 H3 =>
         k (S.1, S.2.1, t14, S.2.2.2.1, ()) H3))
    (leafE fun S H k =>
        bindV (evSub S.1 (.int .u64 (.ofNat 1))) fun t8 =>
        bindV (evAnd S.1 t8) fun t9 =>
        k (t9, S.2.1, S.2.2.1, S.2.2.2.1, ()) H))) fuel))
  (seqE (leafE fun S H k =>
      k (S.1, S.2.2.1, S.2.2.1, S.2.2.2.1, ()) H)
  (doneE .ret)))))

def F49 (call : CallF) (lo : Nat) (args : List Value) (H : AH) : Option (Value × AH) :=
  leave .all H (bindV (C49 call (lowOf .all lo H) (argAt args 0, argAt args 2, argAt args 3, argAt args 5, ()) H) fun p => resE p.1 (some (oneOf [p.2.1.2.1], p.2.2)))

theorem F49_eq (call : CallF) (lo : Nat) (args : List Value) (H : AH) : evFn P ctx call lo 49 args H = F49 call lo args H := by kernel_rfl

/-- slices.Compare[[]int,int] -/
def C50 (call : CallF) (lo : Nat) : Piece (Value × Value × Value × Value × Value × Value × Value × Value × Value × Value × Value × Value × Value × Value × Unit) :=
  (seqE (leafE fun S H k =>
      k (S.1, S.2.1, (.int .i64 (.ofNat 0)), S.2.2.2.1, S.2.2.2.2.1, S.2.2.2.2.2.1, S.2.2.2.2.2.2.1, S.2.2.2.2.2.2.2.1, S.2.2.2.2.2.2.2.2.1, S.2.2.2.2.2.2.2.2.2.1, S.2.2.2.2.2.2.2.2.2.2.1, S.2.2.2.2.2.2.2.2.2.2.2.1, S.2.2.2.2.2.2.2.2.2.2.2.2.1, S.2.2.2.2.2.2.2.2.2.2.2.2.2.1, ()) H)
  (seqE (seqE (leafE fun S H k =>
      bindV (evLenS S.1) fun t10 =>
      k (S.1, S.2.1, S.2.2.1, S.2.2.2.1, S.2.2.2.2.1, S.2.2.2.2.2.1, S.2.2.2.2.2.2.1, S.1, t10, (.int .i64 (.ofNat 0)), S.2.2.2.2.2.2.2.2.2.2.1, S.2.2.2.2.2.2.2.2.2.2.2.1, S.2.2.2.2.2.2.2.2.2.2.2.2.1, S.2.2.2.2.2.2.2.2.2.2.2.2.2.1, ()) H)
  (blockE 0 (loopE (seqE (leafE fun S H k =>
        bindV (evLss S.2.2.2.2.2.2.2.2.2.1 S.2.2.2.2.2.2.2.2.1) fun t12 =>
        k (S.1, S.2.1, S.2.2.1, S.2.2.2.1, S.2.2.2.2.1, S.2.2.2.2.2.1, S.2.2.2.2.2.2.1, S.2.2.2.2.2.2.2.1, S.2.2.2.2.2.2.2.2.1, S.2.2.2.2.2.2.2.2.2.1, t12, S.2.2.2.2.2.2.2.2.2.2.2.1, S.2.2.2.2.2.2.2.2.2.2.2.2.1, S.2.2.2.2.2.2.2.2.2.2.2.2.2.1, ()) H)
    (seqE (condE (fun S => some S.2.2.2.2.2.2.2.2.2.2.1)
     (doneE .normal)
     (doneE (.exit 0)))
    (seqE (blockE 1 (seqE (leafE fun S H k =>
         bindV (evIdxSlice 1 S.2.2.2.2.2.2.2.1 S.2.2.2.2.2.2.2.2.2.1) fun t14 =>
         bindV (evLoad H false 1 t14) fun t15 =>
         k (S.1, S.2.1, S.2.2.1, S.2.2.2.2.2.2.2.2.2.1, t15, S.2.2.2.2.2.1, S.2.2.2.2.2.2.1, S.2.2.2.2.2.2.2.1, S.2.2.2.2.2.2.2.2.1, S.2.2.2.2.2.2.2.2.2.1, S.2.2.2.2.2.2.2.2.2.2.1, S.2.2.2.2.2.2.2.2.2.2.2.1, S.2.2.2.2.2.2.2.2.2.2.2.2.1, S.2.2.2.2.2.2.2.2.2.2.2.2.2.1, ()) H)
     (seqE (seqE (leafE fun S H k =>
         bindV (evLenS S.2.1) fun t18 =>
         bindV (evGeq S.2.2.2.1 t18) fun t19 =>
         k (S.1, S.2.1, S.2.2.1, S.2.2.2.1, S.2.2.2.2.1, S.2.2.2.2.2.1, S.2.2.2.2.2.2.1, S.2.2.2.2.2.2.2.1, S.2.2.2.2.2.2.2.2.1, S.2.2.2.2.2.2.2.2.2.1, S.2.2.2.2.2.2.2.2.2.2.1, t19, S.2.2.2.2.2.2.2.2.2.2.2.2.1, S.2.2.2.2.2.2.2.2.2.2.2.2.2.1, ()) H)
     (condE (fun S => some S.2.2.2.2.2.2.2.2.2.2.2.1)
      (seqE (leafE fun S H k =>
          k (S.1, S.2.1, (.int .i64 (.ofNat 1)), S.2.2.2.1, S.2.2.2.2.1, S.2.2.2.2.2.1, S.2.2.2.2.2.2.1, S.2.2.2.2.2.2.2.1, S.2.2.2.2.2.2.2.2.1, S.2.2.2.2.2.2.2.2.2.1, S.2.2.2.2.2.2.2.2.2.2.1, S.2.2.2.2.2.2.2.2.2.2.2.1, S.2.2.2.2.2.2.2.2.2.2.2.2.1, S.2.2.2.2.2.2.2.2.2.2.2.2.2.1, ()) H)
      (doneE .ret))
      (doneE .normal)))
     (seqE (leafE fun S H k =>
         bindV (evIdxSlice 1 S.2.1 S.2.2.2.1) fun t22 =>
         bindV (evLoad H false 1 t22) fun t23 =>
         k (S.1, S.2.1, S.2.2.1, S.2.2.2.1, S.2.2.2.2.1, t23, S.2.2.2.2.2.2.1, S.2.2.2.2.2.2.2.1, S.2.2.2.2.2.2.2.2.1, S.2.2.2.2.2.2.2.2.2.1, S.2.2.2.2.2.2.2.2.2.2.1, S.2.2.2.2.2.2.2.2.2.2.2.1, S.2.2.2.2.2.2.2.2.2.2.2.2.1, S.2.2.2.2.2.2.2.2.2.2.2.2.2.1, ()) H)
     (seqE (leafE fun S H k =>
         bindVH (call lo 71 [S.2.2.2.2.1, S.2.2.2.2.2.1] H) fun t26 H0 =>
         k (S.1, S.2.1, S.2.2.1, S.2.2.2.1, S.2.2.2.2.1, S.2.2.2.2.2.1, t26, S.2.2.2.2.2.2.2.1, S.2.2.2.2.2.2.2.2.1, S.2.2.2.2.2.2.2.2.2.1, S.2.2.2.2.2.2.2.2.2.2.1, S.2.2.2.2.2.2.2.2.2.2.2.1, S.2.2.2.2.2.2.2.2.2.2.2.2.1, S.2.2.2.2.2.2.2.2.2.2.2.2.2.1, ()) H0)
     (seqE (leafE fun S H k =>
         bindV (evNeq .int S.2.2.2.2.2.2.1 (.int .i64 (.ofNat 0))) fun t28 =>
         k (S.1, S.2.1, S.2.2.1, S.2.2.2.1, S.2.2.2.2.1, S.2.2.2.2.2.1, S.2.2.2.2.2.2.1, S.2.2.2.2.2.2.2.1, S.2.2.2.2.2.2.2.2.1, S.2.2.2.2.2.2.2.2.2.1, S.2.2.2.2.2.2.2.2.2.2.1, S.2.2.2.2.2.2.2.2.2.2.2.1, t28, S.2.2.2.2.2.2.2.2.2.2.2.2.2.1, ()) H)
     (condE (fun S => some S.2.2.2.2.2.2.2.2.2.2.2.2.1)
      (seqE (leafE fun S H k =>
          k (S.1, S.2.1, S.2.2.2.2.2.2.1, S.2.2.2.1, S.2.2.2.2.1, S.2.2.2.2.2.1, S.2.2.2.2.2.2.1, S.2.2.2.2.2.2.2.1, S.2.2.2.2.2.2.2.2.1, S.2.2.2.2.2.2.2.2.2.1, S.2.2.2.2.2.2.2.2.2.2.1, S.2.2.2.2.2.2.2.2.2.2.2.1, S.2.2.2.2.2.2.2.2.2.2.2.2.1, S.2.2.2.2.2.2.2.2.2.2.2.2.2.1, ()) H)
      (doneE .ret))
      (doneE .normal))))))))
    (leafE fun S H k =>
        bindV (evAdd S.2.2.2.2.2.2.2.2.2.1 (.int .i64 (.ofNat 1))) fun t30 =>
        k (S.1, S.2.1, S.2.2.1, S.2.2.2.1, S.2.2.2.2.1, S.2.2.2.2.2.1, S.2.2.2.2.2.2.1, S.2.2.2.2.2.2.2.1, S.2.2.2.2.2.2.2.2.1, t30, S.2.2.2.2.2.2.2.2.2.2.1, S.2.2.2.2.2.2.2.2.2.2.2.1, S.2.2.2.2.2.2.2.2.2.2.2.2.1, S.2.2.2.2.2.2.2.2.2.2.2.2.2.1, ()) H)))) fuel)))
  (seqE (seqE (leafE fun S H k =>
      bindV (evLenS S.1) fun t32 =>
      bindV (evLenS S.2.1) fun t34 =>
      bindV (evLss t32 t34) fun t35 =>
      k (S.1, S.2.1, S.2.2.1, S.2.2.2.1, S.2.2.2.2.1, S.2.2.2.2.2.1, S.2.2.2.2.2.2.1, S.2.2.2.2.2.2.2.1, S.2.2.2.2.2.2.2.2.1, S.2.2.2.2.2.2.2.2.2.1, S.2.2.2.2.2.2.2.2.2.2.1, S.2.2.2.2.2.2.2.2.2.2.2.1, S.2.2.2.2.2.2.2.2.2.2.2.2.1, t35, ()) H)
  (condE (fun S => some S.2.2.2.2.2.2.2.2.2.2.2.2.2.1)
   (seqE (leafE fun S H k =>
       k (S.1, S.2.1, (.int .i64 (.negSucc 0)), S.2.2.2.1, S.2.2.2.2.1, S.2.2.2.2.2.1, S.2.2.2.2.2.2.1, S.2.2.2.2.2.2.2.1, S.2.2.2.2.2.2.2.2.1, S.2.2.2.2.2.2.2.2.2.1, S.2.2.2.2.2.2.2.2.2.2.1, S.2.2.2.2.2.2.2.2.2.2.2.1, S.2.2.2.2.2.2.2.2.2.2.2.2.1, S.2.2.2.2.2.2.2.2.2.2.2.2.2.1, ()) H)
   (doneE .ret))
   (doneE .normal)))
  (seqE (leafE fun S H k =>
      k (S.1, S.2.1, (.int .i64 (.ofNat 0)), S.2.2.2.1, S.2.2.2.2.1, S.2.2.2.2.2.1, S.2.2.2.2.2.2.1, S.2.2.2.2.2.2.2.1, S.2.2.2.2.2.2.2.2.1, S.2.2.2.2.2.2.2.2.2.1, S.2.2.2.2.2.2.2.2.2.2.1, S.2.2.2.2.2.2.2.2.2.2.2.1, S.2.2.2.2.2.2.2.2.2.2.2.2.1, S.2.2.2.2.2.2.2.2.2.2.2.2.2.1, ()) H)
  (doneE .ret)))))

def F50 (call : CallF) (lo : Nat) (args : List Value) (H : AH) : Option (Value × AH) :=
  leave .all H (bindV (C50 call (lowOf .all lo H) (argAt args 0, argAt args 1, argAt args 4, argAt args 5, argAt args 6, argAt args 7, argAt args 8, argAt args 9, argAt args 10, argAt args 11, argAt args 12, argAt args 19, argAt args 28, argAt args 35, ()) H) fun p => resE p.1 (some (oneOf [p.2.1.2.2.1], p.2.2)))

theorem F50_eq (call : CallF) (lo : Nat) (args : List Value) (H : AH) : evFn P ctx call lo 50 args H = F50 call lo args H := by kernel_rfl

/-- (novaculite/drain.Hill).cheapest -/
def C51 (call : CallF) (lo : Nat) : Piece (Value × Value × Value × Value × Value × Value × Unit) :=
  (seqE (leafE fun S H k =>
      let t1 := newPtr H
      let H0 := pushBox H 27 S.1
      k (S.1, t1, (.slice none 0 0), S.2.2.2.1, S.2.2.2.2.1, S.2.2.2.2.2.1, ()) H0)
  (seqE (leafE fun S H k =>
      bindV (evLoad H true 2 S.2.1) fun t5 =>
      bindVH (call lo 72 [t5] H) fun t6 H1 =>
      k (S.1, S.2.1, S.2.2.1, t6, S.2.2.2.2.1, S.2.2.2.2.2.1, ()) H1)
  (seqE (seqE (leafE fun S H k =>
      bindV (evLenS S.2.2.2.1) fun t8 =>
      bindV (evEql .int t8 (.int .i64 (.ofNat 0))) fun t9 =>
      k (S.1, S.2.1, S.2.2.1, S.2.2.2.1, S.2.2.2.2.1, t9, ()) H)
  (condE (fun S => some S.2.2.2.2.2.1)
   (seqE (leafE fun S H k =>
       k (S.1, S.2.1, (.slice none 0 0), S.2.2.2.1, S.2.2.2.2.1, S.2.2.2.2.2.1, ()) H)
   (doneE .ret))
   (doneE .normal)))
  (seqE (leafE fun S H k =>
      bindV (evLoad H true 2 S.2.1) fun t10 =>
      need (Nat.ble lo H.next) <|
      bindVH (call H.next 74 [S.2.2.2.1, (.func (.func 75) ⟨[]⟩ ⟨[S.2.1]⟩)] H) fun t13 H2 =>
      bindVH (call lo 73 [t10, t13] H2) fun t14 H3 =>
      let t4 := newPtr H3
      let H4 := pushBox H3 3 (.int .i64 (.ofNat 0))
      bindV (evStore lo H4 1 t4 t14) fun H5 =>
      k (S.1, S.2.1, S.2.2.1, S.2.2.2.1, t4, S.2.2.2.2.2.1, ()) H5)
  (seqE (leafE fun S H k =>
      bindVH (call lo 76 [S.2.2.2.1, (.func (.func 77) ⟨[]⟩ ⟨[S.2.1, S.2.2.2.2.1]⟩)] H) fun t17 H6 =>
      k (S.1, S.2.1, t17, S.2.2.2.1, S.2.2.2.2.1, S.2.2.2.2.2.1, ()) H6)
  (doneE .ret))))))

def F51 (call : CallF) (lo : Nat) (args : List Value) (H : AH) : Option (Value × AH) :=
  leave .all H (bindV (C51 call (lowOf .all lo H) (argAt args 0, argAt args 1, argAt args 2, argAt args 3, argAt args 4, argAt args 9, ()) H) fun p => resE p.1 (some (oneOf [p.2.1.2.2.1], p.2.2)))

theorem F51_eq (call : CallF) (lo : Nat) (args : List Value) (H : AH) : evFn P ctx call lo 51 args H = F51 call lo args H := by kernel_rfl

/-- (novaculite/drain.Hill).dry -/
def C52 (call : CallF) (lo : Nat) : Piece (Value × Value × Value × Value × Value × Value × Value × Value × Value × Value × Value × Value × Unit) :=
  (seqE (leafE fun S H k =>
      let t1 := newPtr H
      let H0 := pushBox H 27 S.1
      k (S.1, t1, (.int .u64 (.ofNat 0)), S.2.2.2.1, S.2.2.2.2.1, S.2.2.2.2.2.1, S.2.2.2.2.2.2.1, S.2.2.2.2.2.2.2.1, S.2.2.2.2.2.2.2.2.1, S.2.2.2.2.2.2.2.2.2.1, S.2.2.2.2.2.2.2.2.2.2.1, S.2.2.2.2.2.2.2.2.2.2.2.1, ()) H0)
  (seqE (leafE fun S H k =>
      bindV (evShift S.2.1 0) fun t6 =>
      bindV (evLoad H false 1 t6) fun t7 =>
      bindV (evShl (.int .u64 (.ofNat 1)) t7) fun t8 =>
      k (S.1, S.2.1, S.2.2.1, t8, S.2.2.2.2.1, S.2.2.2.2.2.1, S.2.2.2.2.2.2.1, S.2.2.2.2.2.2.2.1, S.2.2.2.2.2.2.2.2.1, S.2.2.2.2.2.2.2.2.2.1, S.2.2.2.2.2.2.2.2.2.2.1, S.2.2.2.2.2.2.2.2.2.2.2.1, ()) H)
  (seqE (seqE (leafE fun S H k =>
      bindV (evShift S.2.1 0) fun t9 =>
      bindV (evLoad H false 1 t9) fun t10 =>
      k (S.1, S.2.1, S.2.2.1, S.2.2.2.1, S.2.2.2.2.1, t10, (.int .i64 (.ofNat 0)), S.2.2.2.2.2.2.2.1, S.2.2.2.2.2.2.2.2.1, S.2.2.2.2.2.2.2.2.2.1, S.2.2.2.2.2.2.2.2.2.2.1, S.2.2.2.2.2.2.2.2.2.2.2.1, ()) H)
  (blockE 0 (loopE (seqE (leafE fun S H k =>
        bindV (evLss S.2.2.2.2.2.2.1 S.2.2.2.2.2.1) fun t12 =>
        k (S.1, S.2.1, S.2.2.1, S.2.2.2.1, S.2.2.2.2.1, S.2.2.2.2.2.1, S.2.2.2.2.2.2.1, t12, S.2.2.2.2.2.2.2.2.1, S.2.2.2.2.2.2.2.2.2.1, S.2.2.2.2.2.2.2.2.2.2.1, S.2.2.2.2.2.2.2.2.2.2.2.1, ()) H)
    (seqE (condE (fun S => some S.2.2.2.2.2.2.2.1)
     (doneE .normal)
     (doneE (.exit 0)))
    (seqE (blockE 1 (seqE (leafE fun S H k =>
         bindV (evShift S.2.1 1) fun t13 =>
         bindV (evLoad H false 1 t13) fun t14 =>
         bindV (evLenS t14) fun t15 =>
         k (S.1, S.2.1, S.2.2.1, S.2.2.2.1, S.2.2.2.2.1, S.2.2.2.2.2.1, S.2.2.2.2.2.2.1, S.2.2.2.2.2.2.2.1, t14, t15, (.int .i64 (.ofNat 0)), S.2.2.2.2.2.2.2.2.2.2.2.1, ()) H)
     (blockE 2 (loopE (seqE (leafE fun S H k =>
           bindV (evLss S.2.2.2.2.2.2.2.2.2.2.1 S.2.2.2.2.2.2.2.2.2.1) fun t17 =>
           k (S.1, S.2.1, S.2.2.1, S.2.2.2.1, S.2.2.2.2.1, S.2.2.2.2.2.1, S.2.2.2.2.2.2.1, S.2.2.2.2.2.2.2.1, S.2.2.2.2.2.2.2.2.1, S.2.2.2.2.2.2.2.2.2.1, S.2.2.2.2.2.2.2.2.2.2.1, t17, ()) H)
       (seqE (condE (fun S => some S.2.2.2.2.2.2.2.2.2.2.2.1)
        (doneE .normal)
        (doneE (.exit 2)))
       (seqE (blockE 3 (seqE (leafE fun S H k =>
            bindV (evIdxSlice 3 S.2.2.2.2.2.2.2.2.1 S.2.2.2.2.2.2.2.2.2.2.1) fun t18 =>
            bindV (evLoad H true 3 t18) fun t19 =>
            let t5 := newPtr H
            let H1 := pushBox H 65 z65
            bindV (evStore lo H1 3 t5 t19) fun H2 =>
            k (S.1, S.2.1, S.2.2.1, S.2.2.2.1, t5, S.2.2.2.2.2.1, S.2.2.2.2.2.2.1, S.2.2.2.2.2.2.2.1, S.2.2.2.2.2.2.2.2.1, S.2.2.2.2.2.2.2.2.2.1, S.2.2.2.2.2.2.2.2.2.2.1, S.2.2.2.2.2.2.2.2.2.2.2.1, ()) H2)
        (leafE fun S H k =>
            bindV (evIdxArr 3 1 S.2.2.2.2.1 (.int .i64 (.ofNat 1))) fun t22 =>
            bindV (evLoad H false 1 t22) fun t23 =>
            bindV (evShr S.2.2.2.1 t23) fun t24 =>
            bindV (evAnd t24 (.int .u64 (.ofNat 1))) fun t25 =>
            bindV (evIdxArr 3 1 S.2.2.2.2.1 (.int .i64 (.ofNat 0))) fun t26 =>
            bindV (evLoad H false 1 t26) fun t27 =>
            bindV (evShl t25 t27) fun t28 =>
            bindV (evOr S.2.2.2.1 t28) fun t29 =>
            k (S.1, S.2.1, S.2.2.1, t29, S.2.2.2.2.1, S.2.2.2.2.2.1, S.2.2.2.2.2.2.1, S.2.2.2.2.2.2.2.1, S.2.2.2.2.2.2.2.2.1, S.2.2.2.2.2.2.2.2.2.1, S.2.2.2.2.2.2.2.2.2.2.1, S.2.2.2.2.2.2.2.2.2.2.2.1, ()) H)))
       (leafE fun S H k =>
           bindV (evAdd S.2.2.2.2.2.2.2.2.2.2.1 (.int .i64 (.ofNat 1))) fun t30 =>
           k (S.1, S.2.1, S.2.2.1, S.2.2.2.1, S.2.2.2.2.1, S.2.2.2.2.2.1, S.2.2.2.2.2.2.1, S.2.2.2.2.2.2.2.1, S.2.2.2.2.2.2.2.2.1, S.2.2.2.2.2.2.2.2.2.1, t30, S.2.2.2.2.2.2.2.2.2.2.2.1, ()) H)))) fuel))))
    (leafE fun S H k =>
        bindV (evAdd S.2.2.2.2.2.2.1 (.int .i64 (.ofNat 1))) fun t31 =>
        k (S.1, S.2.1, S.2.2.1, S.2.2.2.1, S.2.2.2.2.1, S.2.2.2.2.2.1, t31, S.2.2.2.2.2.2.2.1, S.2.2.2.2.2.2.2.2.1, S.2.2.2.2.2.2.2.2.2.1, S.2.2.2.2.2.2.2.2.2.2.1, S.2.2.2.2.2.2.2.2.2.2.2.1, ()) H)))) fuel)))
  (seqE (leafE fun S H k =>
      bindV (evShift S.2.1 0) fun t32 =>
      bindV (evLoad H false 1 t32) fun t33 =>
      bindV (evShl (.int .u64 (.ofNat 1)) t33) fun t34 =>
      bindV (evSub t34 (.int .u64 (.ofNat 1))) fun t35 =>
      bindV (evAndNot t35 S.2.2.2.1) fun t37 =>
      k (S.1, S.2.1, t37, S.2.2.2.1, S.2.2.2.2.1, S.2.2.2.2.2.1, S.2.2.2.2.2.2.1, S.2.2.2.2.2.2.2.1, S.2.2.2.2.2.2.2.2.1, S.2.2.2.2.2.2.2.2.2.1, S.2.2.2.2.2.2.2.2.2.2.1, S.2.2.2.2.2.2.2.2.2.2.2.1, ()) H)
  (doneE .ret)))))

def F52 (call : CallF) (lo : Nat) (args : List Value) (H : AH) : Option (Value × AH) :=
  leave .all H (bindV (C52 call (lowOf .all lo H) (argAt args 0, argAt args 1, argAt args 2, argAt args 3, argAt args 5, argAt args 10, argAt args 11, argAt args 12, argAt args 14, argAt args 15, argAt args 16, argAt args 17, ()) H) fun p => resE p.1 (some (oneOf [p.2.1.2.2.1], p.2.2)))

theorem F52_eq (call : CallF) (lo : Nat) (args : List Value) (H : AH) : evFn P ctx call lo 52 args H = F52 call lo args H := by kernel_rfl

/-- (novaculite/drain.Hill).least -/
def C53 (call : CallF) (lo : Nat) : Piece (Value × Value × Value × Value × Value × Value × Value × Value × Value × Unit) :=
  (seqE (leafE fun S H k =>
      let t1 := newPtr H
      let H0 := pushBox H 27 S.1
      k (S.1, t1, (.int .i64 (.ofNat 0)), S.2.2.2.1, S.2.2.2.2.1, S.2.2.2.2.2.1, S.2.2.2.2.2.2.1, S.2.2.2.2.2.2.2.1, S.2.2.2.2.2.2.2.2.1, ()) H0)
  (seqE (leafE fun S H k =>
      k (S.1, S.2.1, S.2.2.1, (.int .i64 (.ofNat 0)), S.2.2.2.2.1, S.2.2.2.2.2.1, S.2.2.2.2.2.2.1, S.2.2.2.2.2.2.2.1, S.2.2.2.2.2.2.2.2.1, ()) H)
  (seqE (seqE (leafE fun S H k =>
      bindV (evLoad H true 2 S.2.1) fun t6 =>
      bindVH (call lo 58 [t6] H) fun t7 H1 =>
      bindV (evLenS t7) fun t8 =>
      k (S.1, S.2.1, S.2.2.1, S.2.2.2.1, S.2.2.2.2.1, t7, t8, (.int .i64 (.ofNat 0)), S.2.2.2.2.2.2.2.2.1, ()) H1)
  (blockE 0 (loopE (seqE (leafE fun S H k =>
        bindV (evLss S.2.2.2.2.2.2.2.1 S.2.2.2.2.2.2.1) fun t10 =>
        k (S.1, S.2.1, S.2.2.1, S.2.2.2.1, S.2.2.2.2.1, S.2.2.2.2.2.1, S.2.2.2.2.2.2.1, S.2.2.2.2.2.2.2.1, t10, ()) H)
    (seqE (condE (fun S => some S.2.2.2.2.2.2.2.2.1)
     (doneE .normal)
     (doneE (.exit 0)))
    (seqE (blockE 1 (seqE (leafE fun S H k =>
         bindV (evIdxSlice 2 S.2.2.2.2.2.1 S.2.2.2.2.2.2.2.1) fun t11 =>
         bindV (evLoad H true 2 t11) fun t12 =>
         let t5 := newPtr H
         let H2 := pushBox H 78 z78
         bindV (evStore lo H2 2 t5 t12) fun H3 =>
         k (S.1, S.2.1, S.2.2.1, S.2.2.2.1, t5, S.2.2.2.2.2.1, S.2.2.2.2.2.2.1, S.2.2.2.2.2.2.2.1, S.2.2.2.2.2.2.2.2.1, ()) H3)
     (leafE fun S H k =>
         bindV (evShift S.2.2.2.2.1 1) fun t14 =>
         bindV (evLoad H false 1 t14) fun t15 =>
         bindV (evAdd S.2.2.2.1 t15) fun t16 =>
         k (S.1, S.2.1, S.2.2.1, t16, S.2.2.2.2.1, S.2.2.2.2.2.1, S.2.2.2.2.2.2.1, S.2.2.2.2.2.2.2.1, S.2.2.2.2.2.2.2.2.1, ()) H)))
    (leafE fun S H k =>
        bindV (evAdd S.2.2.2.2.2.2.2.1 (.int .i64 (.ofNat 1))) fun t17 =>
        k (S.1, S.2.1, S.2.2.1, S.2.2.2.1, S.2.2.2.2.1, S.2.2.2.2.2.1, S.2.2.2.2.2.2.1, t17, S.2.2.2.2.2.2.2.2.1, ()) H)))) fuel)))
  (seqE (leafE fun S H k =>
      k (S.1, S.2.1, S.2.2.2.1, S.2.2.2.1, S.2.2.2.2.1, S.2.2.2.2.2.1, S.2.2.2.2.2.2.1, S.2.2.2.2.2.2.2.1, S.2.2.2.2.2.2.2.2.1, ()) H)
  (doneE .ret)))))

def F53 (call : CallF) (lo : Nat) (args : List Value) (H : AH) : Option (Value × AH) :=
  leave .all H (bindV (C53 call (lowOf .all lo H) (argAt args 0, argAt args 1, argAt args 2, argAt args 3, argAt args 5, argAt args 7, argAt args 8, argAt args 9, argAt args 10, ()) H) fun p => resE p.1 (some (oneOf [p.2.1.2.2.1], p.2.2)))

theorem F53_eq (call : CallF) (lo : Nat) (args : List Value) (H : AH) : evFn P ctx call lo 53 args H = F53 call lo args H := by kernel_rfl

/-- (novaculite/drain.Hill).drains -/
def C54 (call : CallF) (lo : Nat) : Piece (Value × Value × Value × Value × Value × Value × Value × Value × Value × Value × Value × Unit) :=
  (seqE (leafE fun S H k =>
      let t2 := newPtr H
      let H0 := pushBox H 27 S.1
      k (S.1, S.2.1, t2, (.bool false), S.2.2.2.2.1, S.2.2.2.2.2.1, S.2.2.2.2.2.2.1, S.2.2.2.2.2.2.2.1, S.2.2.2.2.2.2.2.2.1, S.2.2.2.2.2.2.2.2.2.1, S.2.2.2.2.2.2.2.2.2.2.1, ()) H0)
  (seqE (leafE fun S H k =>
      bindV (evLoad H true 2 S.2.2.1) fun t8 =>
      bindVH (call lo 78 [t8, S.2.1] H) fun t10 H1 =>
      k (S.1, S.2.1, S.2.2.1, S.2.2.2.1, t10, S.2.2.2.2.2.1, S.2.2.2.2.2.2.1, S.2.2.2.2.2.2.2.1, S.2.2.2.2.2.2.2.2.1, S.2.2.2.2.2.2.2.2.2.1, S.2.2.2.2.2.2.2.2.2.2.1, ()) H1)
  (seqE (seqE (leafE fun S H k =>
      bindV (evShift S.2.2.1 0) fun t11 =>
      bindV (evLoad H false 1 t11) fun t12 =>
      k (S.1, S.2.1, S.2.2.1, S.2.2.2.1, S.2.2.2.2.1, S.2.2.2.2.2.1, S.2.2.2.2.2.2.1, t12, (.int .i64 (.ofNat 0)), S.2.2.2.2.2.2.2.2.2.1, S.2.2.2.2.2.2.2.2.2.2.1, ()) H)
  (blockE 0 (loopE (seqE (leafE fun S H k =>
        bindV (evLss S.2.2.2.2.2.2.2.2.1 S.2.2.2.2.2.2.2.1) fun t14 =>
        k (S.1, S.2.1, S.2.2.1, S.2.2.2.1, S.2.2.2.2.1, S.2.2.2.2.2.1, S.2.2.2.2.2.2.1, S.2.2.2.2.2.2.2.1, S.2.2.2.2.2.2.2.2.1, t14, S.2.2.2.2.2.2.2.2.2.2.1, ()) H)
    (seqE (condE (fun S => some S.2.2.2.2.2.2.2.2.2.1)
     (doneE .normal)
     (doneE (.exit 0)))
    (seqE (blockE 1 (seqE (leafE fun S H k =>
         k (S.1, S.2.1, S.2.2.1, S.2.2.2.1, S.2.2.2.2.1, S.2.2.2.2.2.2.2.2.1, S.2.2.2.2.2.2.1, S.2.2.2.2.2.2.2.1, S.2.2.2.2.2.2.2.2.1, S.2.2.2.2.2.2.2.2.2.1, S.2.2.2.2.2.2.2.2.2.2.1, ()) H)
     (seqE (leafE fun S H k =>
         bindV (evLoad H true 2 S.2.2.1) fun t16 =>
         bindVH (call lo 79 [t16, S.2.2.2.2.1, S.2.2.2.2.2.1] H) fun t19 H2 =>
         k (S.1, S.2.1, S.2.2.1, S.2.2.2.1, S.2.2.2.2.1, S.2.2.2.2.2.1, t19, S.2.2.2.2.2.2.2.1, S.2.2.2.2.2.2.2.2.1, S.2.2.2.2.2.2.2.2.2.1, S.2.2.2.2.2.2.2.2.2.2.1, ()) H2)
     (seqE (leafE fun S H k =>
         bindV (evLenS S.2.2.2.2.2.2.1) fun t22 =>
         bindV (evSub t22 (.int .i64 (.ofNat 1))) fun t23 =>
         bindV (evIdxSlice 1 S.2.2.2.2.2.2.1 t23) fun t24 =>
         bindV (evLoad H false 1 t24) fun t25 =>
         bindV (evShift S.2.2.1 0) fun t26 =>
         bindV (evLoad H false 1 t26) fun t27 =>
         bindV (evNeq .int t25 t27) fun t28 =>
         k (S.1, S.2.1, S.2.2.1, S.2.2.2.1, S.2.2.2.2.1, S.2.2.2.2.2.1, S.2.2.2.2.2.2.1, S.2.2.2.2.2.2.2.1, S.2.2.2.2.2.2.2.2.1, S.2.2.2.2.2.2.2.2.2.1, t28, ()) H)
     (condE (fun S => some S.2.2.2.2.2.2.2.2.2.2.1)
      (seqE (leafE fun S H k =>
          k (S.1, S.2.1, S.2.2.1, (.bool false), S.2.2.2.2.1, S.2.2.2.2.2.1, S.2.2.2.2.2.2.1, S.2.2.2.2.2.2.2.1, S.2.2.2.2.2.2.2.2.1, S.2.2.2.2.2.2.2.2.2.1, S.2.2.2.2.2.2.2.2.2.2.1, ()) H)
      (doneE .ret))
      (doneE .normal))))))
    (leafE fun S H k =>
        bindV (evAdd S.2.2.2.2.2.2.2.2.1 (.int .i64 (.ofNat 1))) fun t29 =>
        k (S.1, S.2.1, S.2.2.1, S.2.2.2.1, S.2.2.2.2.1, S.2.2.2.2.2.1, S.2.2.2.2.2.2.1, S.2.2.2.2.2.2.2.1, t29, S.2.2.2.2.2.2.2.2.2.1, S.2.2.2.2.2.2.2.2.2.2.1, ()) H)))) fuel)))
  (seqE (leafE fun S H k =>
      k (S.1, S.2.1, S.2.2.1, (.bool true), S.2.2.2.2.1, S.2.2.2.2.2.1, S.2.2.2.2.2.2.1, S.2.2.2.2.2.2.2.1, S.2.2.2.2.2.2.2.2.1, S.2.2.2.2.2.2.2.2.2.1, S.2.2.2.2.2.2.2.2.2.2.1, ()) H)
  (doneE .ret)))))

def F54 (call : CallF) (lo : Nat) (args : List Value) (H : AH) : Option (Value × AH) :=
  leave .all H (bindV (C54 call (lowOf .all lo H) (argAt args 0, argAt args 1, argAt args 2, argAt args 4, argAt args 5, argAt args 6, argAt args 7, argAt args 12, argAt args 13, argAt args 14, argAt args 28, ()) H) fun p => resE p.1 (some (oneOf [p.2.1.2.2.2.1], p.2.2)))

theorem F54_eq (call : CallF) (lo : Nat) (args : List Value) (H : AH) : evFn P ctx call lo 54 args H = F54 call lo args H := by kernel_rfl

/-- slices.Collect[int] -/
def C55 (call : CallF) (lo : Nat) : Piece (Value × Value × Unit) :=
  (seqE (leafE fun S H k =>
      k (S.1, (.slice none 0 0), ()) H)
  (seqE (leafE fun S H k =>
      bindVH (call lo 80 [(.slice none 0 0), S.1] H) fun t4 H0 =>
      k (S.1, t4, ()) H0)
  (doneE .ret)))

def F55 (call : CallF) (lo : Nat) (args : List Value) (H : AH) : Option (Value × AH) :=
  leave .all H (bindV (C55 call (lowOf .all lo H) (argAt args 0, argAt args 2, ()) H) fun p => resE p.1 (some (oneOf [p.2.1.2.1], p.2.2)))

theorem F55_eq (call : CallF) (lo : Nat) (args : List Value) (H : AH) : evFn P ctx call lo 55 args H = F55 call lo args H := by kernel_rfl

/-- slices.Sort[[]int,int] -/
def C56 (call : CallF) (lo : Nat) : Piece (Value × Value × Unit) :=
  (seqE (leafE fun S H k =>
      bindV (evLenS S.1) fun t4 =>
      k (S.1, t4, ()) H)
  (leafE fun S H k =>
      bindV (evConv .u64 S.2.1) fun t8 =>
      bindVH (call lo 82 [t8] H) fun t9 H0 =>
      bindVH (call lo 81 [S.1, (.int .i64 (.ofNat 0)), S.2.1, t9] H0) fun t10 H1 =>
      k (S.1, S.2.1, ()) H1))

def F56 (call : CallF) (lo : Nat) (args : List Value) (H : AH) : Option (Value × AH) :=
  leave .all H (bindV (C56 call (lowOf .all lo H) (argAt args 0, argAt args 2, ()) H) fun p => resE p.1 (some (oneOf [], p.2.2)))

theorem F56_eq (call : CallF) (lo : Nat) (args : List Value) (H : AH) : evFn P ctx call lo 56 args H = F56 call lo args H := by kernel_rfl

/-- slices.Values[[]int,int]$1 -/
def C57 (call : CallF) (lo : Nat) : Piece (Value × Value × Value × Value × Value × Value × Value × Value × Unit) :=
  (seqE (leafE fun S H k =>
      bindV (evLoad H false 1 S.2.1) fun t5 =>
      bindV (evLenS t5) fun t6 =>
      k (S.1, S.2.1, S.2.2.1, t5, t6, (.int .i64 (.ofNat 0)), S.2.2.2.2.2.2.1, S.2.2.2.2.2.2.2.1, ()) H)
  (blockE 0 (loopE (seqE (leafE fun S H k =>
        bindV (evLss S.2.2.2.2.2.1 S.2.2.2.2.1) fun t8 =>
        k (S.1, S.2.1, S.2.2.1, S.2.2.2.1, S.2.2.2.2.1, S.2.2.2.2.2.1, t8, S.2.2.2.2.2.2.2.1, ()) H)
    (seqE (condE (fun S => some S.2.2.2.2.2.2.1)
     (doneE .normal)
     (doneE (.exit 0)))
    (seqE (blockE 1 (seqE (leafE fun S H k =>
         bindV (evIdxSlice 1 S.2.2.2.1 S.2.2.2.2.2.1) fun t9 =>
         bindV (evLoad H false 1 t9) fun t10 =>
         k (S.1, S.2.1, t10, S.2.2.2.1, S.2.2.2.2.1, S.2.2.2.2.2.1, S.2.2.2.2.2.2.1, S.2.2.2.2.2.2.2.1, ()) H)
     (seqE (leafE fun S H k =>
         callVal call lo S.1 [S.2.2.1] H fun t13 H0 =>
         bindV (evNot t13) fun t14 =>
         k (S.1, S.2.1, S.2.2.1, S.2.2.2.1, S.2.2.2.2.1, S.2.2.2.2.2.1, S.2.2.2.2.2.2.1, t14, ()) H0)
     (condE (fun S => some S.2.2.2.2.2.2.2.1)
      (doneE .ret)
      (doneE .normal)))))
    (leafE fun S H k =>
        bindV (evAdd S.2.2.2.2.2.1 (.int .i64 (.ofNat 1))) fun t15 =>
        k (S.1, S.2.1, S.2.2.1, S.2.2.2.1, S.2.2.2.2.1, t15, S.2.2.2.2.2.2.1, S.2.2.2.2.2.2.2.1, ()) H)))) fuel)))

def F57 (call : CallF) (lo : Nat) (args : List Value) (H : AH) : Option (Value × AH) :=
  leave .all H (bindV (C57 call (lowOf .all lo H) (argAt args 0, argAt args 1, argAt args 4, argAt args 5, argAt args 6, argAt args 7, argAt args 8, argAt args 14, ()) H) fun p => resE p.1 (some (oneOf [], p.2.2)))

theorem F57_eq (call : CallF) (lo : Nat) (args : List Value) (H : AH) : evFn P ctx call lo 57 args H = F57 call lo args H := by kernel_rfl

/-- (novaculite/drain.Hill).dues -/
def C58 (call : CallF) (lo : Nat) : Piece (Value × Value × Value × Value × Value × Value × Value × Value × Value × Value × Value × Value × Value × Value × Value × Value × Value × Value × Value × Value × Value × Value × Unit) :=
  (seqE (leafE fun S H k =>
      let t1 := newPtr H
      let H0 := pushBox H 27 S.1
      k (S.1, t1, (.slice none 0 0), S.2.2.2.1, S.2.2.2.2.1, S.2.2.2.2.2.1, S.2.2.2.2.2.2.1, S.2.2.2.2.2.2.2.1, S.2.2.2.2.2.2.2.2.1, S.2.2.2.2.2.2.2.2.2.1, S.2.2.2.2.2.2.2.2.2.2.1, S.2.2.2.2.2.2.2.2.2.2.2.1, S.2.2.2.2.2.2.2.2.2.2.2.2.1, S.2.2.2.2.2.2.2.2.2.2.2.2.2.1, S.2.2.2.2.2.2.2.2.2.2.2.2.2.2.1, S.2.2.2.2.2.2.2.2.2.2.2.2.2.2.2.1, S.2.2.2.2.2.2.2.2.2.2.2.2.2.2.2.2.1, S.2.2.2.2.2.2.2.2.2.2.2.2.2.2.2.2.2.1, S.2.2.2.2.2.2.2.2.2.2.2.2.2.2.2.2.2.2.1, S.2.2.2.2.2.2.2.2.2.2.2.2.2.2.2.2.2.2.2.1, S.2.2.2.2.2.2.2.2.2.2.2.2.2.2.2.2.2.2.2.2.1, S.2.2.2.2.2.2.2.2.2.2.2.2.2.2.2.2.2.2.2.2.2.1, ()) H0)
  (seqE (leafE fun S H k =>
      bindV (evShift S.2.1 1) fun t14 =>
      bindV (evLoad H false 1 t14) fun t15 =>
      bindV (evLenS t15) fun t16 =>
      bindV (evSizes 8 t16 t16) fun c1 =>
      let t17 := newSlice H c1.1 c1.2
      let H2 := H.push (.cells (Nat.mul c1.2 1) (zeros (cellsOf (.int .i64 (.ofNat 0))) c1.2) 3)
      let t3 := newPtr H2
      let H3 := pushBox H2 29 (.slice none 0 0)
      bindV (evStore lo H3 1 t3 t17) fun H4 =>
      k (S.1, S.2.1, S.2.2.1, t3, S.2.2.2.2.1, S.2.2.2.2.2.1, S.2.2.2.2.2.2.1, S.2.2.2.2.2.2.2.1, S.2.2.2.2.2.2.2.2.1, S.2.2.2.2.2.2.2.2.2.1, S.2.2.2.2.2.2.2.2.2.2.1, S.2.2.2.2.2.2.2.2.2.2.2.1, S.2.2.2.2.2.2.2.2.2.2.2.2.1, S.2.2.2.2.2.2.2.2.2.2.2.2.2.1, S.2.2.2.2.2.2.2.2.2.2.2.2.2.2.1, S.2.2.2.2.2.2.2.2.2.2.2.2.2.2.2.1, S.2.2.2.2.2.2.2.2.2.2.2.2.2.2.2.2.1, S.2.2.2.2.2.2.2.2.2.2.2.2.2.2.2.2.2.1, S.2.2.2.2.2.2.2.2.2.2.2.2.2.2.2.2.2.2.1, S.2.2.2.2.2.2.2.2.2.2.2.2.2.2.2.2.2.2.2.1, S.2.2.2.2.2.2.2.2.2.2.2.2.2.2.2.2.2.2.2.2.1, S.2.2.2.2.2.2.2.2.2.2.2.2.2.2.2.2.2.2.2.2.2.1, ()) H4)
  (seqE (seqE (leafE fun S H k =>
      bindV (evShift S.2.1 1) fun t18 =>
      bindV (evLoad H false 1 t18) fun t19 =>
      bindV (evLenS t19) fun t20 =>
      k (S.1, S.2.1, S.2.2.1, S.2.2.2.1, S.2.2.2.2.1, S.2.2.2.2.2.1, S.2.2.2.2.2.2.1, S.2.2.2.2.2.2.2.1, S.2.2.2.2.2.2.2.2.1, S.2.2.2.2.2.2.2.2.2.1, S.2.2.2.2.2.2.2.2.2.2.1, S.2.2.2.2.2.2.2.2.2.2.2.1, S.2.2.2.2.2.2.2.2.2.2.2.2.1, t19, t20, (.int .i64 (.ofNat 0)), S.2.2.2.2.2.2.2.2.2.2.2.2.2.2.2.2.1, S.2.2.2.2.2.2.2.2.2.2.2.2.2.2.2.2.2.1, S.2.2.2.2.2.2.2.2.2.2.2.2.2.2.2.2.2.2.1, S.2.2.2.2.2.2.2.2.2.2.2.2.2.2.2.2.2.2.2.1, S.2.2.2.2.2.2.2.2.2.2.2.2.2.2.2.2.2.2.2.2.1, S.2.2.2.2.2.2.2.2.2.2.2.2.2.2.2.2.2.2.2.2.2.1, ()) H)
  (blockE 0 (loopE (seqE (leafE fun S H k =>
        bindV (evLss S.2.2.2.2.2.2.2.2.2.2.2.2.2.2.2.1 S.2.2.2.2.2.2.2.2.2.2.2.2.2.2.1) fun t22 =>
        k (S.1, S.2.1, S.2.2.1, S.2.2.2.1, S.2.2.2.2.1, S.2.2.2.2.2.1, S.2.2.2.2.2.2.1, S.2.2.2.2.2.2.2.1, S.2.2.2.2.2.2.2.2.1, S.2.2.2.2.2.2.2.2.2.1, S.2.2.2.2.2.2.2.2.2.2.1, S.2.2.2.2.2.2.2.2.2.2.2.1, S.2.2.2.2.2.2.2.2.2.2.2.2.1, S.2.2.2.2.2.2.2.2.2.2.2.2.2.1, S.2.2.2.2.2.2.2.2.2.2.2.2.2.2.1, S.2.2.2.2.2.2.2.2.2.2.2.2.2.2.2.1, t22, S.2.2.2.2.2.2.2.2.2.2.2.2.2.2.2.2.2.1, S.2.2.2.2.2.2.2.2.2.2.2.2.2.2.2.2.2.2.1, S.2.2.2.2.2.2.2.2.2.2.2.2.2.2.2.2.2.2.2.1, S.2.2.2.2.2.2.2.2.2.2.2.2.2.2.2.2.2.2.2.2.1, S.2.2.2.2.2.2.2.2.2.2.2.2.2.2.2.2.2.2.2.2.2.1, ()) H)
    (seqE (condE (fun S => some S.2.2.2.2.2.2.2.2.2.2.2.2.2.2.2.2.1)
     (doneE .normal)
     (doneE (.exit 0)))
    (seqE (blockE 1 (seqE (leafE fun S H k =>
         bindV (evIdxSlice 3 S.2.2.2.2.2.2.2.2.2.2.2.2.2.1 S.2.2.2.2.2.2.2.2.2.2.2.2.2.2.2.1) fun t24 =>
         bindV (evLoad H true 3 t24) fun t25 =>
         let t5 := newPtr H
         let H5 := pushBox H 65 z65
         bindV (evStore lo H5 3 t5 t25) fun H6 =>
         k (S.1, S.2.1, S.2.2.1, S.2.2.2.1, S.2.2.2.2.2.2.2.2.2.2.2.2.2.2.2.1, t5, S.2.2.2.2.2.2.1, S.2.2.2.2.2.2.2.1, S.2.2.2.2.2.2.2.2.1, S.2.2.2.2.2.2.2.2.2.1, S.2.2.2.2.2.2.2.2.2.2.1, S.2.2.2.2.2.2.2.2.2.2.2.1, S.2.2.2.2.2.2.2.2.2.2.2.2.1, S.2.2.2.2.2.2.2.2.2.2.2.2.2.1, S.2.2.2.2.2.2.2.2.2.2.2.2.2.2.1, S.2.2.2.2.2.2.2.2.2.2.2.2.2.2.2.1, S.2.2.2.2.2.2.2.2.2.2.2.2.2.2.2.2.1, S.2.2.2.2.2.2.2.2.2.2.2.2.2.2.2.2.2.1, S.2.2.2.2.2.2.2.2.2.2.2.2.2.2.2.2.2.2.1, S.2.2.2.2.2.2.2.2.2.2.2.2.2.2.2.2.2.2.2.1, S.2.2.2.2.2.2.2.2.2.2.2.2.2.2.2.2.2.2.2.2.1, S.2.2.2.2.2.2.2.2.2.2.2.2.2.2.2.2.2.2.2.2.2.1, ()) H6)
     (leafE fun S H k =>
         bindV (evLoad H false 1 S.2.2.2.1) fun t26 =>
         bindV (evIdxArr 3 1 S.2.2.2.2.2.1 (.int .i64 (.ofNat 2))) fun t28 =>
         bindV (evLoad H false 1 t28) fun t29 =>
         bindV (evIdxSlice 1 t26 S.2.2.2.2.1) fun t30 =>
         bindV (evStore lo H 1 t30 t29) fun H7 =>
         k (S.1, S.2.1, S.2.2.1, S.2.2.2.1, S.2.2.2.2.1, S.2.2.2.2.2.1, S.2.2.2.2.2.2.1, S.2.2.2.2.2.2.2.1, S.2.2.2.2.2.2.2.2.1, S.2.2.2.2.2.2.2.2.2.1, S.2.2.2.2.2.2.2.2.2.2.1, S.2.2.2.2.2.2.2.2.2.2.2.1, S.2.2.2.2.2.2.2.2.2.2.2.2.1, S.2.2.2.2.2.2.2.2.2.2.2.2.2.1, S.2.2.2.2.2.2.2.2.2.2.2.2.2.2.1, S.2.2.2.2.2.2.2.2.2.2.2.2.2.2.2.1, S.2.2.2.2.2.2.2.2.2.2.2.2.2.2.2.2.1, S.2.2.2.2.2.2.2.2.2.2.2.2.2.2.2.2.2.1, S.2.2.2.2.2.2.2.2.2.2.2.2.2.2.2.2.2.2.1, S.2.2.2.2.2.2.2.2.2.2.2.2.2.2.2.2.2.2.2.1, S.2.2.2.2.2.2.2.2.2.2.2.2.2.2.2.2.2.2.2.2.1, S.2.2.2.2.2.2.2.2.2.2.2.2.2.2.2.2.2.2.2.2.2.1, ()) H7)))
    (leafE fun S H k =>
        bindV (evAdd S.2.2.2.2.2.2.2.2.2.2.2.2.2.2.2.1 (.int .i64 (.ofNat 1))) fun t31 =>
        k (S.1, S.2.1, S.2.2.1, S.2.2.2.1, S.2.2.2.2.1, S.2.2.2.2.2.1, S.2.2.2.2.2.2.1, S.2.2.2.2.2.2.2.1, S.2.2.2.2.2.2.2.2.1, S.2.2.2.2.2.2.2.2.2.1, S.2.2.2.2.2.2.2.2.2.2.1, S.2.2.2.2.2.2.2.2.2.2.2.1, S.2.2.2.2.2.2.2.2.2.2.2.2.1, S.2.2.2.2.2.2.2.2.2.2.2.2.2.1, S.2.2.2.2.2.2.2.2.2.2.2.2.2.2.1, t31, S.2.2.2.2.2.2.2.2.2.2.2.2.2.2.2.2.1, S.2.2.2.2.2.2.2.2.2.2.2.2.2.2.2.2.2.1, S.2.2.2.2.2.2.2.2.2.2.2.2.2.2.2.2.2.2.1, S.2.2.2.2.2.2.2.2.2.2.2.2.2.2.2.2.2.2.2.1, S.2.2.2.2.2.2.2.2.2.2.2.2.2.2.2.2.2.2.2.2.1, S.2.2.2.2.2.2.2.2.2.2.2.2.2.2.2.2.2.2.2.2.2.1, ()) H)))) fuel)))
  (seqE (leafE fun S H k =>
      bindV (evLoad H true 2 S.2.1) fun t32 =>
      bindVH (call lo 83 [t32] H) fun t33 H8 =>
      k (S.1, S.2.1, S.2.2.1, S.2.2.2.1, S.2.2.2.2.1, S.2.2.2.2.2.1, t33, S.2.2.2.2.2.2.2.1, S.2.2.2.2.2.2.2.2.1, S.2.2.2.2.2.2.2.2.2.1, S.2.2.2.2.2.2.2.2.2.2.1, S.2.2.2.2.2.2.2.2.2.2.2.1, S.2.2.2.2.2.2.2.2.2.2.2.2.1, S.2.2.2.2.2.2.2.2.2.2.2.2.2.1, S.2.2.2.2.2.2.2.2.2.2.2.2.2.2.1, S.2.2.2.2.2.2.2.2.2.2.2.2.2.2.2.1, S.2.2.2.2.2.2.2.2.2.2.2.2.2.2.2.2.1, S.2.2.2.2.2.2.2.2.2.2.2.2.2.2.2.2.2.1, S.2.2.2.2.2.2.2.2.2.2.2.2.2.2.2.2.2.2.1, S.2.2.2.2.2.2.2.2.2.2.2.2.2.2.2.2.2.2.2.1, S.2.2.2.2.2.2.2.2.2.2.2.2.2.2.2.2.2.2.2.2.1, S.2.2.2.2.2.2.2.2.2.2.2.2.2.2.2.2.2.2.2.2.2.1, ()) H8)
  (seqE (leafE fun S H k =>
      k (S.1, S.2.1, S.2.2.1, S.2.2.2.1, S.2.2.2.2.1, S.2.2.2.2.2.1, S.2.2.2.2.2.2.1, (.slice none 0 0), S.2.2.2.2.2.2.2.2.1, S.2.2.2.2.2.2.2.2.2.1, S.2.2.2.2.2.2.2.2.2.2.1, S.2.2.2.2.2.2.2.2.2.2.2.1, S.2.2.2.2.2.2.2.2.2.2.2.2.1, S.2.2.2.2.2.2.2.2.2.2.2.2.2.1, S.2.2.2.2.2.2.2.2.2.2.2.2.2.2.1, S.2.2.2.2.2.2.2.2.2.2.2.2.2.2.2.1, S.2.2.2.2.2.2.2.2.2.2.2.2.2.2.2.2.1, S.2.2.2.2.2.2.2.2.2.2.2.2.2.2.2.2.2.1, S.2.2.2.2.2.2.2.2.2.2.2.2.2.2.2.2.2.2.1, S.2.2.2.2.2.2.2.2.2.2.2.2.2.2.2.2.2.2.2.1, S.2.2.2.2.2.2.2.2.2.2.2.2.2.2.2.2.2.2.2.2.1, S.2.2.2.2.2.2.2.2.2.2.2.2.2.2.2.2.2.2.2.2.2.1, ()) H)
  (blockE 2 (loopE (blockE 3 (seqE (leafE fun S H k =>
         bindVH (call lo 85 [S.2.2.2.2.2.2.1] H) fun t35 H9 =>
         bindVH (call lo 84 [t35, (.func (.func 86) ⟨[]⟩ ⟨[S.2.1, S.2.2.2.1]⟩)] H9) fun t37 H10 =>
         let t8 := newPtr H10
         let H11 := pushBox H10 110 (.slice none 0 0)
         bindV (evStore lo H11 1 t8 t37) fun H12 =>
         k (S.1, S.2.1, S.2.2.1, S.2.2.2.1, S.2.2.2.2.1, S.2.2.2.2.2.1, S.2.2.2.2.2.2.1, S.2.2.2.2.2.2.2.1, t8, S.2.2.2.2.2.2.2.2.2.1, S.2.2.2.2.2.2.2.2.2.2.1, S.2.2.2.2.2.2.2.2.2.2.2.1, S.2.2.2.2.2.2.2.2.2.2.2.2.1, S.2.2.2.2.2.2.2.2.2.2.2.2.2.1, S.2.2.2.2.2.2.2.2.2.2.2.2.2.2.1, S.2.2.2.2.2.2.2.2.2.2.2.2.2.2.2.1, S.2.2.2.2.2.2.2.2.2.2.2.2.2.2.2.2.1, S.2.2.2.2.2.2.2.2.2.2.2.2.2.2.2.2.2.1, S.2.2.2.2.2.2.2.2.2.2.2.2.2.2.2.2.2.2.1, S.2.2.2.2.2.2.2.2.2.2.2.2.2.2.2.2.2.2.2.1, S.2.2.2.2.2.2.2.2.2.2.2.2.2.2.2.2.2.2.2.2.1, S.2.2.2.2.2.2.2.2.2.2.2.2.2.2.2.2.2.2.2.2.2.1, ()) H12)
     (seqE (leafE fun S H k =>
         bindV (evLoad H false 1 S.2.2.2.2.2.2.2.2.1) fun t38 =>
         bindVH (call lo 89 [t38, (.func (.func 90) ⟨[]⟩ ⟨[S.2.2.2.2.2.2.2.2.1]⟩)] H) fun t40 H13 =>
         k (S.1, S.2.1, S.2.2.1, S.2.2.2.1, S.2.2.2.2.1, S.2.2.2.2.2.1, S.2.2.2.2.2.2.1, S.2.2.2.2.2.2.2.1, S.2.2.2.2.2.2.2.2.1, t40, S.2.2.2.2.2.2.2.2.2.2.1, S.2.2.2.2.2.2.2.2.2.2.2.1, S.2.2.2.2.2.2.2.2.2.2.2.2.1, S.2.2.2.2.2.2.2.2.2.2.2.2.2.1, S.2.2.2.2.2.2.2.2.2.2.2.2.2.2.1, S.2.2.2.2.2.2.2.2.2.2.2.2.2.2.2.1, S.2.2.2.2.2.2.2.2.2.2.2.2.2.2.2.2.1, S.2.2.2.2.2.2.2.2.2.2.2.2.2.2.2.2.2.1, S.2.2.2.2.2.2.2.2.2.2.2.2.2.2.2.2.2.2.1, S.2.2.2.2.2.2.2.2.2.2.2.2.2.2.2.2.2.2.2.1, S.2.2.2.2.2.2.2.2.2.2.2.2.2.2.2.2.2.2.2.2.1, S.2.2.2.2.2.2.2.2.2.2.2.2.2.2.2.2.2.2.2.2.2.1, ()) H13)
     (seqE (seqE (leafE fun S H k =>
         bindV (evLss S.2.2.2.2.2.2.2.2.2.1 (.int .i64 (.ofNat 0))) fun t42 =>
         guarded t42 false (bindV (evLoad H true 2 S.2.1) fun t1000000 => pairVH t1000000 H) H fun t44 H14 =>
         guarded t42 false (bindV (evLoad H14 false 1 S.2.2.2.2.2.2.2.2.1) fun t1000000 => pairVH t1000000 H14) H14 fun t45 H15 =>
         guarded t42 false ( pairVH S.2.2.2.2.2.2.2.2.2.1 H15) H15 fun t46 H16 =>
         guarded t42 false (bindV (evIdxSlice 1 t45 t46) fun t1000000 => pairVH t1000000 H16) H16 fun t47 H17 =>
         guarded t42 false (bindV (evLoad H17 false 1 t47) fun t1000000 => pairVH t1000000 H17) H17 fun t48 H18 =>
         guarded t42 false (bindVH (call lo 67 [t44, t48] H18) fun t1000000 H19 => pairVH t1000000 H19) H18 fun t49 H20 =>
         guarded t42 false (bindV (evEql .int t49 (.int .u64 (.ofNat 0))) fun t1000000 => pairVH t1000000 H20) H20 fun t50 H21 =>
         bindV (evPick t42 (.bool true) t50) fun t51 =>
         k (S.1, S.2.1, S.2.2.1, S.2.2.2.1, S.2.2.2.2.1, S.2.2.2.2.2.1, S.2.2.2.2.2.2.1, S.2.2.2.2.2.2.2.1, S.2.2.2.2.2.2.2.2.1, S.2.2.2.2.2.2.2.2.2.1, S.2.2.2.2.2.2.2.2.2.2.1, S.2.2.2.2.2.2.2.2.2.2.2.1, S.2.2.2.2.2.2.2.2.2.2.2.2.1, S.2.2.2.2.2.2.2.2.2.2.2.2.2.1, S.2.2.2.2.2.2.2.2.2.2.2.2.2.2.1, S.2.2.2.2.2.2.2.2.2.2.2.2.2.2.2.1, S.2.2.2.2.2.2.2.2.2.2.2.2.2.2.2.2.1, t51, S.2.2.2.2.2.2.2.2.2.2.2.2.2.2.2.2.2.2.1, S.2.2.2.2.2.2.2.2.2.2.2.2.2.2.2.2.2.2.2.1, S.2.2.2.2.2.2.2.2.2.2.2.2.2.2.2.2.2.2.2.2.1, S.2.2.2.2.2.2.2.2.2.2.2.2.2.2.2.2.2.2.2.2.2.1, ()) H21)
     (condE (fun S => some S.2.2.2.2.2.2.2.2.2.2.2.2.2.2.2.2.2.1)
      (seqE (leafE fun S H k =>
          k (S.1, S.2.1, S.2.2.2.2.2.2.2.1, S.2.2.2.1, S.2.2.2.2.1, S.2.2.2.2.2.1, S.2.2.2.2.2.2.1, S.2.2.2.2.2.2.2.1, S.2.2.2.2.2.2.2.2.1, S.2.2.2.2.2.2.2.2.2.1, S.2.2.2.2.2.2.2.2.2.2.1, S.2.2.2.2.2.2.2.2.2.2.2.1, S.2.2.2.2.2.2.2.2.2.2.2.2.1, S.2.2.2.2.2.2.2.2.2.2.2.2.2.1, S.2.2.2.2.2.2.2.2.2.2.2.2.2.2.1, S.2.2.2.2.2.2.2.2.2.2.2.2.2.2.2.1, S.2.2.2.2.2.2.2.2.2.2.2.2.2.2.2.2.1, S.2.2.2.2.2.2.2.2.2.2.2.2.2.2.2.2.2.1, S.2.2.2.2.2.2.2.2.2.2.2.2.2.2.2.2.2.2.1, S.2.2.2.2.2.2.2.2.2.2.2.2.2.2.2.2.2.2.2.1, S.2.2.2.2.2.2.2.2.2.2.2.2.2.2.2.2.2.2.2.2.1, S.2.2.2.2.2.2.2.2.2.2.2.2.2.2.2.2.2.2.2.2.2.1, ()) H)
      (doneE .ret))
      (doneE .normal)))
     (seqE (leafE fun S H k =>
         bindV (evLoad H true 2 S.2.1) fun t53 =>
         bindV (evLoad H false 1 S.2.2.2.2.2.2.2.2.1) fun t54 =>
         bindV (evIdxSlice 1 t54 S.2.2.2.2.2.2.2.2.2.1) fun t56 =>
         bindV (evLoad H false 1 t56) fun t57 =>
         bindVH (call lo 67 [t53, t57] H) fun t58 H22 =>
         bindVH (call lo 66 [t58] H22) fun t59 H23 =>
         k (S.1, S.2.1, S.2.2.1, S.2.2.2.1, S.2.2.2.2.1, S.2.2.2.2.2.1, S.2.2.2.2.2.2.1, S.2.2.2.2.2.2.2.1, S.2.2.2.2.2.2.2.2.1, S.2.2.2.2.2.2.2.2.2.1, t59, S.2.2.2.2.2.2.2.2.2.2.2.1, S.2.2.2.2.2.2.2.2.2.2.2.2.1, S.2.2.2.2.2.2.2.2.2.2.2.2.2.1, S.2.2.2.2.2.2.2.2.2.2.2.2.2.2.1, S.2.2.2.2.2.2.2.2.2.2.2.2.2.2.2.1, S.2.2.2.2.2.2.2.2.2.2.2.2.2.2.2.2.1, S.2.2.2.2.2.2.2.2.2.2.2.2.2.2.2.2.2.1, S.2.2.2.2.2.2.2.2.2.2.2.2.2.2.2.2.2.2.1, S.2.2.2.2.2.2.2.2.2.2.2.2.2.2.2.2.2.2.2.1, S.2.2.2.2.2.2.2.2.2.2.2.2.2.2.2.2.2.2.2.2.1, S.2.2.2.2.2.2.2.2.2.2.2.2.2.2.2.2.2.2.2.2.2.1, ()) H23)
     (seqE (leafE fun S H k =>
         bindV (evLoad H false 1 S.2.2.2.1) fun t60 =>
         need (Nat.ble lo H.next) <|
         bindVH (call H.next 93 [S.2.2.2.2.2.2.2.2.2.2.1, (.func (.func 94) ⟨[]⟩ ⟨[S.2.2.2.1]⟩)] H) fun t63 H24 =>
         bindV (evIdxSlice 1 t60 t63) fun t64 =>
         bindV (evLoad H24 false 1 t64) fun t65 =>
         k (S.1, S.2.1, S.2.2.1, S.2.2.2.1, S.2.2.2.2.1, S.2.2.2.2.2.1, S.2.2.2.2.2.2.1, S.2.2.2.2.2.2.2.1, S.2.2.2.2.2.2.2.2.1, S.2.2.2.2.2.2.2.2.2.1, S.2.2.2.2.2.2.2.2.2.2.1, t65, S.2.2.2.2.2.2.2.2.2.2.2.2.1, S.2.2.2.2.2.2.2.2.2.2.2.2.2.1, S.2.2.2.2.2.2.2.2.2.2.2.2.2.2.1, S.2.2.2.2.2.2.2.2.2.2.2.2.2.2.2.1, S.2.2.2.2.2.2.2.2.2.2.2.2.2.2.2.2.1, S.2.2.2.2.2.2.2.2.2.2.2.2.2.2.2.2.2.1, S.2.2.2.2.2.2.2.2.2.2.2.2.2.2.2.2.2.2.1, S.2.2.2.2.2.2.2.2.2.2.2.2.2.2.2.2.2.2.2.1, S.2.2.2.2.2.2.2.2.2.2.2.2.2.2.2.2.2.2.2.2.1, S.2.2.2.2.2.2.2.2.2.2.2.2.2.2.2.2.2.2.2.2.2.1, ()) H24)
     (seqE (seqE (leafE fun S H k =>
         bindV (evLenS S.2.2.2.2.2.2.2.2.2.2.1) fun t67 =>
         k (S.1, S.2.1, S.2.2.1, S.2.2.2.1, S.2.2.2.2.1, S.2.2.2.2.2.1, S.2.2.2.2.2.2.1, S.2.2.2.2.2.2.2.1, S.2.2.2.2.2.2.2.2.1, S.2.2.2.2.2.2.2.2.2.1, S.2.2.2.2.2.2.2.2.2.2.1, S.2.2.2.2.2.2.2.2.2.2.2.1, S.2.2.2.2.2.2.2.2.2.2.2.2.1, S.2.2.2.2.2.2.2.2.2.2.2.2.2.1, S.2.2.2.2.2.2.2.2.2.2.2.2.2.2.1, S.2.2.2.2.2.2.2.2.2.2.2.2.2.2.2.1, S.2.2.2.2.2.2.2.2.2.2.2.2.2.2.2.2.1, S.2.2.2.2.2.2.2.2.2.2.2.2.2.2.2.2.2.1, S.2.2.2.2.2.2.2.2.2.2.1, t67, (.int .i64 (.ofNat 0)), S.2.2.2.2.2.2.2.2.2.2.2.2.2.2.2.2.2.2.2.2.2.1, ()) H)
     (blockE 4 (loopE (seqE (leafE fun S H k =>
           bindV (evLss S.2.2.2.2.2.2.2.2.2.2.2.2.2.2.2.2.2.2.2.2.1 S.2.2.2.2.2.2.2.2.2.2.2.2.2.2.2.2.2.2.2.1) fun t69 =>
           k (S.1, S.2.1, S.2.2.1, S.2.2.2.1, S.2.2.2.2.1, S.2.2.2.2.2.1, S.2.2.2.2.2.2.1, S.2.2.2.2.2.2.2.1, S.2.2.2.2.2.2.2.2.1, S.2.2.2.2.2.2.2.2.2.1, S.2.2.2.2.2.2.2.2.2.2.1, S.2.2.2.2.2.2.2.2.2.2.2.1, S.2.2.2.2.2.2.2.2.2.2.2.2.1, S.2.2.2.2.2.2.2.2.2.2.2.2.2.1, S.2.2.2.2.2.2.2.2.2.2.2.2.2.2.1, S.2.2.2.2.2.2.2.2.2.2.2.2.2.2.2.1, S.2.2.2.2.2.2.2.2.2.2.2.2.2.2.2.2.1, S.2.2.2.2.2.2.2.2.2.2.2.2.2.2.2.2.2.1, S.2.2.2.2.2.2.2.2.2.2.2.2.2.2.2.2.2.2.1, S.2.2.2.2.2.2.2.2.2.2.2.2.2.2.2.2.2.2.2.1, S.2.2.2.2.2.2.2.2.2.2.2.2.2.2.2.2.2.2.2.2.1, t69, ()) H)
       (seqE (condE (fun S => some S.2.2.2.2.2.2.2.2.2.2.2.2.2.2.2.2.2.2.2.2.2.1)
        (doneE .normal)
        (doneE (.exit 4)))
       (seqE (blockE 5 (seqE (leafE fun S H k =>
            bindV (evIdxSlice 1 S.2.2.2.2.2.2.2.2.2.2.2.2.2.2.2.2.2.2.1 S.2.2.2.2.2.2.2.2.2.2.2.2.2.2.2.2.2.2.2.2.1) fun t70 =>
            bindV (evLoad H false 1 t70) fun t71 =>
            k (S.1, S.2.1, S.2.2.1, S.2.2.2.1, S.2.2.2.2.1, S.2.2.2.2.2.1, S.2.2.2.2.2.2.1, S.2.2.2.2.2.2.2.1, S.2.2.2.2.2.2.2.2.1, S.2.2.2.2.2.2.2.2.2.1, S.2.2.2.2.2.2.2.2.2.2.1, S.2.2.2.2.2.2.2.2.2.2.2.1, t71, S.2.2.2.2.2.2.2.2.2.2.2.2.2.1, S.2.2.2.2.2.2.2.2.2.2.2.2.2.2.1, S.2.2.2.2.2.2.2.2.2.2.2.2.2.2.2.1, S.2.2.2.2.2.2.2.2.2.2.2.2.2.2.2.2.1, S.2.2.2.2.2.2.2.2.2.2.2.2.2.2.2.2.2.1, S.2.2.2.2.2.2.2.2.2.2.2.2.2.2.2.2.2.2.1, S.2.2.2.2.2.2.2.2.2.2.2.2.2.2.2.2.2.2.2.1, S.2.2.2.2.2.2.2.2.2.2.2.2.2.2.2.2.2.2.2.2.1, S.2.2.2.2.2.2.2.2.2.2.2.2.2.2.2.2.2.2.2.2.2.1, ()) H)
        (leafE fun S H k =>
            bindV (evLoad H false 1 S.2.2.2.1) fun t72 =>
            bindV (evIdxSlice 1 t72 S.2.2.2.2.2.2.2.2.2.2.2.2.1) fun t74 =>
            bindV (evLoad H false 1 t74) fun t75 =>
            bindV (evSub t75 S.2.2.2.2.2.2.2.2.2.2.2.1) fun t77 =>
            bindV (evIdxSlice 1 t72 S.2.2.2.2.2.2.2.2.2.2.2.2.1) fun t78 =>
            bindV (evStore lo H 1 t78 t77) fun H25 =>
            k (S.1, S.2.1, S.2.2.1, S.2.2.2.1, S.2.2.2.2.1, S.2.2.2.2.2.1, S.2.2.2.2.2.2.1, S.2.2.2.2.2.2.2.1, S.2.2.2.2.2.2.2.2.1, S.2.2.2.2.2.2.2.2.2.1, S.2.2.2.2.2.2.2.2.2.2.1, S.2.2.2.2.2.2.2.2.2.2.2.1, S.2.2.2.2.2.2.2.2.2.2.2.2.1, S.2.2.2.2.2.2.2.2.2.2.2.2.2.1, S.2.2.2.2.2.2.2.2.2.2.2.2.2.2.1, S.2.2.2.2.2.2.2.2.2.2.2.2.2.2.2.1, S.2.2.2.2.2.2.2.2.2.2.2.2.2.2.2.2.1, S.2.2.2.2.2.2.2.2.2.2.2.2.2.2.2.2.2.1, S.2.2.2.2.2.2.2.2.2.2.2.2.2.2.2.2.2.2.1, S.2.2.2.2.2.2.2.2.2.2.2.2.2.2.2.2.2.2.2.1, S.2.2.2.2.2.2.2.2.2.2.2.2.2.2.2.2.2.2.2.2.1, S.2.2.2.2.2.2.2.2.2.2.2.2.2.2.2.2.2.2.2.2.2.1, ()) H25)))
       (leafE fun S H k =>
           bindV (evAdd S.2.2.2.2.2.2.2.2.2.2.2.2.2.2.2.2.2.2.2.2.1 (.int .i64 (.ofNat 1))) fun t79 =>
           k (S.1, S.2.1, S.2.2.1, S.2.2.2.1, S.2.2.2.2.1, S.2.2.2.2.2.1, S.2.2.2.2.2.2.1, S.2.2.2.2.2.2.2.1, S.2.2.2.2.2.2.2.2.1, S.2.2.2.2.2.2.2.2.2.1, S.2.2.2.2.2.2.2.2.2.2.1, S.2.2.2.2.2.2.2.2.2.2.2.1, S.2.2.2.2.2.2.2.2.2.2.2.2.1, S.2.2.2.2.2.2.2.2.2.2.2.2.2.1, S.2.2.2.2.2.2.2.2.2.2.2.2.2.2.1, S.2.2.2.2.2.2.2.2.2.2.2.2.2.2.2.1, S.2.2.2.2.2.2.2.2.2.2.2.2.2.2.2.2.1, S.2.2.2.2.2.2.2.2.2.2.2.2.2.2.2.2.2.1, S.2.2.2.2.2.2.2.2.2.2.2.2.2.2.2.2.2.2.1, S.2.2.2.2.2.2.2.2.2.2.2.2.2.2.2.2.2.2.2.1, t79, S.2.2.2.2.2.2.2.2.2.2.2.2.2.2.2.2.2.2.2.2.2.1, ()) H)))) fuel)))
     (leafE fun S H k =>
         bindV (evLoad H false 1 S.2.2.2.2.2.2.2.2.1) fun t81 =>
         bindV (evIdxSlice 1 t81 S.2.2.2.2.2.2.2.2.2.1) fun t83 =>
         bindV (evLoad H false 1 t83) fun t84 =>
         bindVH (call lo 66 [t84] H) fun t85 H26 =>
         bindV (evAgg [(0, 1, t85), (1, 1, S.2.2.2.2.2.2.2.2.2.2.2.1)] (cellsOf z78)) fun t87 =>
         bindV (evFill [(0, 2, t87)] (zeros (cellsOf z78) 1)) fun c27 =>
         let t88 := newSlice H26 1 1
         let H28 := H26.push (.cells (Nat.mul 1 2) c27 78)
         bindVH (evAppend lo H28 78 2 32 S.2.2.2.2.2.2.2.1 t88) fun t89 H29 =>
         k (S.1, S.2.1, S.2.2.1, S.2.2.2.1, S.2.2.2.2.1, S.2.2.2.2.2.1, S.2.2.2.2.2.2.1, t89, S.2.2.2.2.2.2.2.2.1, S.2.2.2.2.2.2.2.2.2.1, S.2.2.2.2.2.2.2.2.2.2.1, S.2.2.2.2.2.2.2.2.2.2.2.1, S.2.2.2.2.2.2.2.2.2.2.2.2.1, S.2.2.2.2.2.2.2.2.2.2.2.2.2.1, S.2.2.2.2.2.2.2.2.2.2.2.2.2.2.1, S.2.2.2.2.2.2.2.2.2.2.2.2.2.2.2.1, S.2.2.2.2.2.2.2.2.2.2.2.2.2.2.2.2.1, S.2.2.2.2.2.2.2.2.2.2.2.2.2.2.2.2.2.1, S.2.2.2.2.2.2.2.2.2.2.2.2.2.2.2.2.2.2.1, S.2.2.2.2.2.2.2.2.2.2.2.2.2.2.2.2.2.2.2.1, S.2.2.2.2.2.2.2.2.2.2.2.2.2.2.2.2.2.2.2.2.1, S.2.2.2.2.2.2.2.2.2.2.2.2.2.2.2.2.2.2.2.2.2.1, ()) H29)))))))) fuel)))))))

def F58 (call : CallF) (lo : Nat) (args : List Value) (H : AH) : Option (Value × AH) :=
  leave .all H (bindV (C58 call (lowOf .all lo H) (argAt args 0, argAt args 1, argAt args 2, argAt args 3, argAt args 4, argAt args 5, argAt args 6, argAt args 7, argAt args 8, argAt args 9, argAt args 10, argAt args 11, argAt args 13, argAt args 19, argAt args 20, argAt args 21, argAt args 22, argAt args 51, argAt args 66, argAt args 67, argAt args 68, argAt args 69, ()) H) fun p => resE p.1 (some (oneOf [p.2.1.2.2.1], p.2.2)))

theorem F58_eq (call : CallF) (lo : Nat) (args : List Value) (H : AH) : evFn P ctx call lo 58 args H = F58 call lo args H := by kernel_rfl

/-- slices.Index[[]int,int] -/
def C59 (call : CallF) (lo : Nat) : Piece (Value × Value × Value × Value × Value × Value × Value × Value × Unit) :=
  (seqE (leafE fun S H k =>
      k (S.1, S.2.1, (.int .i64 (.ofNat 0)), S.2.2.2.1, S.2.2.2.2.1, S.2.2.2.2.2.1, S.2.2.2.2.2.2.1, S.2.2.2.2.2.2.2.1, ()) H)
  (seqE (seqE (leafE fun S H k =>
      bindV (evLenS S.1) fun t7 =>
      k (S.1, S.2.1, S.2.2.1, S.2.2.2.1, t7, (.int .i64 (.ofNat 0)), S.2.2.2.2.2.2.1, S.2.2.2.2.2.2.2.1, ()) H)
  (blockE 0 (loopE (seqE (leafE fun S H k =>
        bindV (evLss S.2.2.2.2.2.1 S.2.2.2.2.1) fun t9 =>
        k (S.1, S.2.1, S.2.2.1, S.2.2.2.1, S.2.2.2.2.1, S.2.2.2.2.2.1, t9, S.2.2.2.2.2.2.2.1, ()) H)
    (seqE (condE (fun S => some S.2.2.2.2.2.2.1)
     (doneE .normal)
     (doneE (.exit 0)))
    (seqE (blockE 1 (seqE (leafE fun S H k =>
         k (S.1, S.2.1, S.2.2.1, S.2.2.2.2.2.1, S.2.2.2.2.1, S.2.2.2.2.2.1, S.2.2.2.2.2.2.1, S.2.2.2.2.2.2.2.1, ()) H)
     (seqE (leafE fun S H k =>
         bindV (evIdxSlice 1 S.1 S.2.2.2.1) fun t14 =>
         bindV (evLoad H false 1 t14) fun t15 =>
         bindV (evEql .int S.2.1 t15) fun t16 =>
         k (S.1, S.2.1, S.2.2.1, S.2.2.2.1, S.2.2.2.2.1, S.2.2.2.2.2.1, S.2.2.2.2.2.2.1, t16, ()) H)
     (condE (fun S => some S.2.2.2.2.2.2.2.1)
      (seqE (leafE fun S H k =>
          k (S.1, S.2.1, S.2.2.2.1, S.2.2.2.1, S.2.2.2.2.1, S.2.2.2.2.2.1, S.2.2.2.2.2.2.1, S.2.2.2.2.2.2.2.1, ()) H)
      (doneE .ret))
      (doneE .normal)))))
    (leafE fun S H k =>
        bindV (evAdd S.2.2.2.2.2.1 (.int .i64 (.ofNat 1))) fun t18 =>
        k (S.1, S.2.1, S.2.2.1, S.2.2.2.1, S.2.2.2.2.1, t18, S.2.2.2.2.2.2.1, S.2.2.2.2.2.2.2.1, ()) H)))) fuel)))
  (seqE (leafE fun S H k =>
      k (S.1, S.2.1, (.int .i64 (.negSucc 0)), S.2.2.2.1, S.2.2.2.2.1, S.2.2.2.2.2.1, S.2.2.2.2.2.2.1, S.2.2.2.2.2.2.2.1, ()) H)
  (doneE .ret))))

def F59 (call : CallF) (lo : Nat) (args : List Value) (H : AH) : Option (Value × AH) :=
  leave .all H (bindV (C59 call (lowOf .all lo H) (argAt args 0, argAt args 1, argAt args 4, argAt args 5, argAt args 7, argAt args 8, argAt args 9, argAt args 16, ()) H) fun p => resE p.1 (some (oneOf [p.2.1.2.2.1], p.2.2)))

theorem F59_eq (call : CallF) (lo : Nat) (args : List Value) (H : AH) : evFn P ctx call lo 59 args H = F59 call lo args H := by kernel_rfl

/-- math/bits.OnesCount32 -/
def C60 (call : CallF) (lo : Nat) : Piece (Value × Value × Unit) :=
  (seqE (leafE fun S H k =>
      k (S.1, (.int .i64 (.ofNat 0)), ()) H)
  (seqE (leafE fun S H k =>
      bindV (evShr S.1 (.int .u64 (.ofNat 24))) fun t4 =>
      bindV (evIdxStr str0 t4) fun t5 =>
      bindV (evShr S.1 (.int .u64 (.ofNat 16))) fun t7 =>
      bindV (evAnd t7 (.int .u32 (.ofNat 255))) fun t8 =>
      bindV (evIdxStr str0 t8) fun t9 =>
      bindV (evAdd t5 t9) fun t10 =>
      bindV (evShr S.1 (.int .u64 (.ofNat 8))) fun t12 =>
      bindV (evAnd t12 (.int .u32 (.ofNat 255))) fun t13 =>
      bindV (evIdxStr str0 t13) fun t14 =>
      bindV (evAdd t10 t14) fun t15 =>
      bindV (evAnd S.1 (.int .u32 (.ofNat 255))) fun t17 =>
      bindV (evIdxStr str0 t17) fun t18 =>
      bindV (evAdd t15 t18) fun t19 =>
      bindV (evConv .i64 t19) fun t20 =>
      k (S.1, t20, ()) H)
  (doneE .ret)))

def F60 (call : CallF) (lo : Nat) (args : List Value) (H : AH) : Option (Value × AH) :=
  leave .all H (bindV (C60 call (lowOf .all lo H) (argAt args 0, argAt args 2, ()) H) fun p => resE p.1 (some (oneOf [p.2.1.2.1], p.2.2)))

theorem F60_eq (call : CallF) (lo : Nat) (args : List Value) (H : AH) : evFn P ctx call lo 60 args H = F60 call lo args H := by kernel_rfl

/-- math/bits.OnesCount64 -/
def C61 (call : CallF) (lo : Nat) : Piece (Value × Value × Unit) :=
  (seqE (leafE fun S H k =>
      k (S.1, (.int .i64 (.ofNat 0)), ()) H)
  (seqE (leafE fun S H k =>
      bindV (evShr S.1 (.int .u64 (.ofNat 1))) fun t4 =>
      bindV (evAnd t4 (.int .u64 (.ofNat 6148914691236517205))) fun t5 =>
      bindV (evAnd S.1 (.int .u64 (.ofNat 6148914691236517205))) fun t7 =>
      bindV (evAdd t5 t7) fun t8 =>
      k (t8, S.2.1, ()) H)
  (seqE (leafE fun S H k =>
      bindV (evShr S.1 (.int .u64 (.ofNat 2))) fun t10 =>
      bindV (evAnd t10 (.int .u64 (.ofNat 3689348814741910323))) fun t11 =>
      bindV (evAnd S.1 (.int .u64 (.ofNat 3689348814741910323))) fun t13 =>
      bindV (evAdd t11 t13) fun t14 =>
      k (t14, S.2.1, ()) H)
  (seqE (leafE fun S H k =>
      bindV (evShr S.1 (.int .u64 (.ofNat 4))) fun t16 =>
      bindV (evAdd t16 S.1) fun t18 =>
      bindV (evAnd t18 (.int .u64 (.ofNat 1085102592571150095))) fun t19 =>
      k (t19, S.2.1, ()) H)
  (seqE (leafE fun S H k =>
      bindV (evShr S.1 (.int .u64 (.ofNat 8))) fun t22 =>
      bindV (evAdd S.1 t22) fun t23 =>
      k (t23, S.2.1, ()) H)
  (seqE (leafE fun S H k =>
      bindV (evShr S.1 (.int .u64 (.ofNat 16))) fun t26 =>
      bindV (evAdd S.1 t26) fun t27 =>
      k (t27, S.2.1, ()) H)
  (seqE (leafE fun S H k =>
      bindV (evShr S.1 (.int .u64 (.ofNat 32))) fun t30 =>
      bindV (evAdd S.1 t30) fun t31 =>
      k (t31, S.2.1, ()) H)
  (seqE (leafE fun S H k =>
      bindV (evConv .i64 S.1) fun t33 =>
      bindV (evAnd t33 (.int .i64 (.ofNat 127))) fun t34 =>
      k (S.1, t34, ()) H)
  (doneE .ret)))))))))

def F61 (call : CallF) (lo : Nat) (args : List Value) (H : AH) : Option (Value × AH) :=
  leave .all H (bindV (C61 call (lowOf .all lo H) (argAt args 0, argAt args 2, ()) H) fun p => resE p.1 (some (oneOf [p.2.1.2.1], p.2.2)))

theorem F61_eq (call : CallF) (lo : Nat) (args : List Value) (H : AH) : evFn P ctx call lo 61 args H = F61 call lo args H := by kernel_rfl

/-- slices.SortFunc[[]uint,uint] -/
def C62 (call : CallF) (lo : Nat) : Piece (Value × Value × Value × Unit) :=
  (seqE (leafE fun S H k =>
      bindV (evLenS S.1) fun t6 =>
      k (S.1, S.2.1, t6, ()) H)
  (leafE fun S H k =>
      bindV (evConv .u64 S.2.2.1) fun t10 =>
      bindVH (call lo 82 [t10] H) fun t11 H0 =>
      bindVH (call lo 95 [S.1, (.int .i64 (.ofNat 0)), S.2.2.1, t11, S.2.1] H0) fun t13 H1 =>
      k (S.1, S.2.1, S.2.2.1, ()) H1))

def F62 (call : CallF) (lo : Nat) (args : List Value) (H : AH) : Option (Value × AH) :=
  leave .all H (bindV (C62 call (lowOf .all lo H) (argAt args 0, argAt args 1, argAt args 4, ()) H) fun p => resE p.1 (some (oneOf [], p.2.2)))

theorem F62_eq (call : CallF) (lo : Nat) (args : List Value) (H : AH) : evFn P ctx call lo 62 args H = F62 call lo args H := by kernel_rfl

/-- (*novaculite/share.table).find$1 -/
def C63 (call : CallF) (lo : Nat) : Piece (Value × Value × Value × Unit) :=
  (seqE (leafE fun S H k =>
      k (S.1, S.2.1, (.int .i64 (.ofNat 0)), ()) H)
  (seqE (leafE fun S H k =>
      bindVH (call lo 49 [S.1] H) fun t6 H0 =>
      bindVH (call lo 49 [S.2.1] H0) fun t8 H1 =>
      bindVH (call lo 50 [t6, t8] H1) fun t9 H2 =>
      k (S.1, S.2.1, t9, ()) H2)
  (doneE .ret)))

def F63 (call : CallF) (lo : Nat) (args : List Value) (H : AH) : Option (Value × AH) :=
  leave .all H (bindV (C63 call (lowOf .all lo H) (argAt args 0, argAt args 1, argAt args 4, ()) H) fun p => resE p.1 (some (oneOf [p.2.1.2.2.1], p.2.2)))

theorem F63_eq (call : CallF) (lo : Nat) (args : List Value) (H : AH) : evFn P ctx call lo 63 args H = F63 call lo args H := by kernel_rfl

/-- (*novaculite/share.table).bend -/
def C64 (call : CallF) (lo : Nat) : Piece (Value × Value × Value × Value × Value × Value × Value × Unit) :=
  (seqE (leafE fun S H k =>
      k (S.1, S.2.1, S.2.2.1, (.bool false), S.2.2.2.2.1, S.2.2.2.2.2.1, S.2.2.2.2.2.2.1, ()) H)
  (seqE (leafE fun S H k =>
      bindVH (call lo 42 [S.1, S.2.1] H) fun t12 H0 =>
      bindVH (call lo 42 [S.1, S.2.2.1] H0) fun t15 H1 =>
      bindV (evAnd S.2.1 S.2.2.1) fun t19 =>
      bindVH (call lo 42 [S.1, t19] H1) fun t20 H2 =>
      k (S.1, S.2.1, S.2.2.1, S.2.2.2.1, t12, t15, t20, ()) H2)
  (seqE (leafE fun S H k =>
      bindV (evGeq S.2.2.2.2.1 (.int .i64 (.ofNat 0))) fun t22 =>
      guarded t22 true ( pairVH S.2.2.2.2.2.1 H) H fun t24 H3 =>
      guarded t22 true (bindV (evGeq t24 (.int .i64 (.ofNat 0))) fun t1000000 => pairVH t1000000 H3) H3 fun t25 H4 =>
      bindV (evPick t22 t25 (.bool false)) fun t26 =>
      guarded t26 true ( pairVH S.2.2.2.2.2.2.1 H4) H4 fun t28 H5 =>
      guarded t26 true (bindV (evLss t28 (.int .i64 (.ofNat 0))) fun t1000000 => pairVH t1000000 H5) H5 fun t29 H6 =>
      guarded t26 true ( pairVH t29 H6) H6 fun t30 H7 =>
      guarded t30 false ( pairVH S.1 H7) H7 fun t31 H8 =>
      guarded t30 false ( pairVH S.2.1 H8) H8 fun t32 H9 =>
      guarded t30 false ( pairVH S.2.2.1 H9) H9 fun t33 H10 =>
      guarded t30 false (bindV (evOr t32 t33) fun t1000000 => pairVH t1000000 H10) H10 fun t34 H11 =>
      guarded t30 false (bindVH (call lo 42 [t31, t34] H11) fun t1000000 H12 => pairVH t1000000 H12) H11 fun t35 H13 =>
      guarded t30 false ( pairVH S.2.2.2.2.2.2.1 H13) H13 fun t36 H14 =>
      guarded t30 false (bindV (evAdd t35 t36) fun t1000000 => pairVH t1000000 H14) H14 fun t37 H15 =>
      guarded t30 false ( pairVH S.2.2.2.2.1 H15) H15 fun t38 H16 =>
      guarded t30 false ( pairVH S.2.2.2.2.2.1 H16) H16 fun t39 H17 =>
      guarded t30 false (bindV (evAdd t38 t39) fun t1000000 => pairVH t1000000 H17) H17 fun t40 H18 =>
      guarded t30 false (bindV (evGtr t37 t40) fun t1000000 => pairVH t1000000 H18) H18 fun t41 H19 =>
      guarded t26 true (bindV (evPick t30 (.bool true) t41) fun t1000000 => pairVH t1000000 H19) H19 fun t42 H20 =>
      bindV (evPick t26 t42 (.bool false)) fun t43 =>
      k (S.1, S.2.1, S.2.2.1, t43, S.2.2.2.2.1, S.2.2.2.2.2.1, S.2.2.2.2.2.2.1, ()) H20)
  (doneE .ret))))

def F64 (call : CallF) (lo : Nat) (args : List Value) (H : AH) : Option (Value × AH) :=
  leave .all H (bindV (C64 call (lowOf .all lo H) (argAt args 0, argAt args 1, argAt args 2, argAt args 6, argAt args 7, argAt args 8, argAt args 9, ()) H) fun p => resE p.1 (some (oneOf [p.2.1.2.2.2.1], p.2.2)))

theorem F64_eq (call : CallF) (lo : Nat) (args : List Value) (H : AH) : evFn P ctx call lo 64 args H = F64 call lo args H := by kernel_rfl

/-- (novaculite/drain.Hill).group -/
def C65 (call : CallF) (lo : Nat) : Piece (Value × Value × Value × Value × Value × Value × Value × Value × Value × Value × Value × Value × Value × Value × Value × Unit) :=
  (seqE (leafE fun S H k =>
      let t2 := newPtr H
      let H0 := pushBox H 27 S.1
      k (S.1, S.2.1, t2, (.int .u64 (.ofNat 0)), (.int .i64 (.ofNat 0)), S.2.2.2.2.2.1, S.2.2.2.2.2.2.1, S.2.2.2.2.2.2.2.1, S.2.2.2.2.2.2.2.2.1, S.2.2.2.2.2.2.2.2.2.1, S.2.2.2.2.2.2.2.2.2.2.1, S.2.2.2.2.2.2.2.2.2.2.2.1, S.2.2.2.2.2.2.2.2.2.2.2.2.1, S.2.2.2.2.2.2.2.2.2.2.2.2.2.1, S.2.2.2.2.2.2.2.2.2.2.2.2.2.2.1, ()) H0)
  (seqE (seqE (leafE fun S H k =>
      bindV (evLenS S.2.1) fun t10 =>
      bindV (evEql .int t10 (.int .i64 (.ofNat 0))) fun t11 =>
      k (S.1, S.2.1, S.2.2.1, S.2.2.2.1, S.2.2.2.2.1, S.2.2.2.2.2.1, S.2.2.2.2.2.2.1, S.2.2.2.2.2.2.2.1, t11, S.2.2.2.2.2.2.2.2.2.1, S.2.2.2.2.2.2.2.2.2.2.1, S.2.2.2.2.2.2.2.2.2.2.2.1, S.2.2.2.2.2.2.2.2.2.2.2.2.1, S.2.2.2.2.2.2.2.2.2.2.2.2.2.1, S.2.2.2.2.2.2.2.2.2.2.2.2.2.2.1, ()) H)
  (condE (fun S => some S.2.2.2.2.2.2.2.2.1)
   (seqE (leafE fun S H k =>
       k (S.1, S.2.1, S.2.2.1, (.int .u64 (.ofNat 0)), (.int .i64 (.ofNat 4)), S.2.2.2.2.2.1, S.2.2.2.2.2.2.1, S.2.2.2.2.2.2.2.1, S.2.2.2.2.2.2.2.2.1, S.2.2.2.2.2.2.2.2.2.1, S.2.2.2.2.2.2.2.2.2.2.1, S.2.2.2.2.2.2.2.2.2.2.2.1, S.2.2.2.2.2.2.2.2.2.2.2.2.1, S.2.2.2.2.2.2.2.2.2.2.2.2.2.1, S.2.2.2.2.2.2.2.2.2.2.2.2.2.2.1, ()) H)
   (doneE .ret))
   (doneE .normal)))
  (seqE (leafE fun S H k =>
      k (S.1, S.2.1, S.2.2.1, S.2.2.2.1, S.2.2.2.2.1, (.int .u64 (.ofNat 0)), S.2.2.2.2.2.2.1, S.2.2.2.2.2.2.2.1, S.2.2.2.2.2.2.2.2.1, S.2.2.2.2.2.2.2.2.2.1, S.2.2.2.2.2.2.2.2.2.2.1, S.2.2.2.2.2.2.2.2.2.2.2.1, S.2.2.2.2.2.2.2.2.2.2.2.2.1, S.2.2.2.2.2.2.2.2.2.2.2.2.2.1, S.2.2.2.2.2.2.2.2.2.2.2.2.2.2.1, ()) H)
  (seqE (seqE (leafE fun S H k =>
      bindV (evLenS S.2.1) fun t13 =>
      k (S.1, S.2.1, S.2.2.1, S.2.2.2.1, S.2.2.2.2.1, S.2.2.2.2.2.1, S.2.2.2.2.2.2.1, S.2.2.2.2.2.2.2.1, S.2.2.2.2.2.2.2.2.1, S.2.1, t13, (.int .i64 (.ofNat 0)), S.2.2.2.2.2.2.2.2.2.2.2.2.1, S.2.2.2.2.2.2.2.2.2.2.2.2.2.1, S.2.2.2.2.2.2.2.2.2.2.2.2.2.2.1, ()) H)
  (blockE 0 (loopE (seqE (leafE fun S H k =>
        bindV (evLss S.2.2.2.2.2.2.2.2.2.2.2.1 S.2.2.2.2.2.2.2.2.2.2.1) fun t15 =>
        k (S.1, S.2.1, S.2.2.1, S.2.2.2.1, S.2.2.2.2.1, S.2.2.2.2.2.1, S.2.2.2.2.2.2.1, S.2.2.2.2.2.2.2.1, S.2.2.2.2.2.2.2.2.1, S.2.2.2.2.2.2.2.2.2.1, S.2.2.2.2.2.2.2.2.2.2.1, S.2.2.2.2.2.2.2.2.2.2.2.1, t15, S.2.2.2.2.2.2.2.2.2.2.2.2.2.1, S.2.2.2.2.2.2.2.2.2.2.2.2.2.2.1, ()) H)
    (seqE (condE (fun S => some S.2.2.2.2.2.2.2.2.2.2.2.2.1)
     (doneE .normal)
     (doneE (.exit 0)))
    (seqE (blockE 1 (seqE (leafE fun S H k =>
         bindV (evIdxSlice 1 S.2.2.2.2.2.2.2.2.2.1 S.2.2.2.2.2.2.2.2.2.2.2.1) fun t17 =>
         bindV (evLoad H false 1 t17) fun t18 =>
         k (S.1, S.2.1, S.2.2.1, S.2.2.2.1, S.2.2.2.2.1, S.2.2.2.2.2.1, S.2.2.2.2.2.2.2.2.2.2.2.1, t18, S.2.2.2.2.2.2.2.2.1, S.2.2.2.2.2.2.2.2.2.1, S.2.2.2.2.2.2.2.2.2.2.1, S.2.2.2.2.2.2.2.2.2.2.2.1, S.2.2.2.2.2.2.2.2.2.2.2.2.1, S.2.2.2.2.2.2.2.2.2.2.2.2.2.1, S.2.2.2.2.2.2.2.2.2.2.2.2.2.2.1, ()) H)
     (seqE (blockE 2 (seqE (leafE fun S H k =>
          bindV (evLss S.2.2.2.2.2.2.2.1 (.int .i64 (.ofNat 0))) fun t21 =>
          guarded t21 false ( pairVH S.2.2.2.2.2.2.2.1 H) H fun t23 H1 =>
          guarded t21 false (bindV (evShift S.2.2.1 0) fun t1000000 => pairVH t1000000 H1) H1 fun t24 H2 =>
          guarded t21 false (bindV (evLoad H2 false 1 t24) fun t1000000 => pairVH t1000000 H2) H2 fun t25 H3 =>
          guarded t21 false (bindV (evGeq t23 t25) fun t1000000 => pairVH t1000000 H3) H3 fun t26 H4 =>
          bindV (evPick t21 (.bool true) t26) fun t27 =>
          k (S.1, S.2.1, S.2.2.1, S.2.2.2.1, S.2.2.2.2.1, S.2.2.2.2.2.1, S.2.2.2.2.2.2.1, S.2.2.2.2.2.2.2.1, S.2.2.2.2.2.2.2.2.1, S.2.2.2.2.2.2.2.2.2.1, S.2.2.2.2.2.2.2.2.2.2.1, S.2.2.2.2.2.2.2.2.2.2.2.1, S.2.2.2.2.2.2.2.2.2.2.2.2.1, t27, S.2.2.2.2.2.2.2.2.2.2.2.2.2.2.1, ()) H4)
      (condE (fun S => some S.2.2.2.2.2.2.2.2.2.2.2.2.2.1)
       (seqE (leafE fun S H k =>
           k (S.1, S.2.1, S.2.2.1, (.int .u64 (.ofNat 0)), (.int .i64 (.ofNat 2)), S.2.2.2.2.2.1, S.2.2.2.2.2.2.1, S.2.2.2.2.2.2.2.1, S.2.2.2.2.2.2.2.2.1, S.2.2.2.2.2.2.2.2.2.1, S.2.2.2.2.2.2.2.2.2.2.1, S.2.2.2.2.2.2.2.2.2.2.2.1, S.2.2.2.2.2.2.2.2.2.2.2.2.1, S.2.2.2.2.2.2.2.2.2.2.2.2.2.1, S.2.2.2.2.2.2.2.2.2.2.2.2.2.2.1, ()) H)
       (doneE .ret))
       (seqE (leafE fun S H k =>
           bindV (evGtr S.2.2.2.2.2.2.1 (.int .i64 (.ofNat 0))) fun t30 =>
           guarded t30 true ( pairVH S.2.2.2.2.2.2.2.1 H) H fun t32 H5 =>
           guarded t30 true ( pairVH S.2.1 H5) H5 fun t33 H6 =>
           guarded t30 true ( pairVH S.2.2.2.2.2.2.1 H6) H6 fun t34 H7 =>
           guarded t30 true (bindV (evSub t34 (.int .i64 (.ofNat 1))) fun t1000000 => pairVH t1000000 H7) H7 fun t35 H8 =>
           guarded t30 true (bindV (evIdxSlice 1 t33 t35) fun t1000000 => pairVH t1000000 H8) H8 fun t36 H9 =>
           guarded t30 true (bindV (evLoad H9 false 1 t36) fun t1000000 => pairVH t1000000 H9) H9 fun t37 H10 =>
           guarded t30 true (bindV (evLeq t32 t37) fun t1000000 => pairVH t1000000 H10) H10 fun t38 H11 =>
           bindV (evPick t30 t38 (.bool false)) fun t39 =>
           k (S.1, S.2.1, S.2.2.1, S.2.2.2.1, S.2.2.2.2.1, S.2.2.2.2.2.1, S.2.2.2.2.2.2.1, S.2.2.2.2.2.2.2.1, S.2.2.2.2.2.2.2.2.1, S.2.2.2.2.2.2.2.2.2.1, S.2.2.2.2.2.2.2.2.2.2.1, S.2.2.2.2.2.2.2.2.2.2.2.1, S.2.2.2.2.2.2.2.2.2.2.2.2.1, S.2.2.2.2.2.2.2.2.2.2.2.2.2.1, t39, ()) H11)
       (condE (fun S => some S.2.2.2.2.2.2.2.2.2.2.2.2.2.2.1)
        (seqE (leafE fun S H k =>
            k (S.1, S.2.1, S.2.2.1, (.int .u64 (.ofNat 0)), (.int .i64 (.ofNat 7)), S.2.2.2.2.2.1, S.2.2.2.2.2.2.1, S.2.2.2.2.2.2.2.1, S.2.2.2.2.2.2.2.2.1, S.2.2.2.2.2.2.2.2.2.1, S.2.2.2.2.2.2.2.2.2.2.1, S.2.2.2.2.2.2.2.2.2.2.2.1, S.2.2.2.2.2.2.2.2.2.2.2.2.1, S.2.2.2.2.2.2.2.2.2.2.2.2.2.1, S.2.2.2.2.2.2.2.2.2.2.2.2.2.2.1, ()) H)
        (doneE .ret))
        (doneE .normal))))))
     (leafE fun S H k =>
         bindV (evShl (.int .u64 (.ofNat 1)) S.2.2.2.2.2.2.2.1) fun t42 =>
         bindV (evOr S.2.2.2.2.2.1 t42) fun t43 =>
         k (S.1, S.2.1, S.2.2.1, S.2.2.2.1, S.2.2.2.2.1, t43, S.2.2.2.2.2.2.1, S.2.2.2.2.2.2.2.1, S.2.2.2.2.2.2.2.2.1, S.2.2.2.2.2.2.2.2.2.1, S.2.2.2.2.2.2.2.2.2.2.1, S.2.2.2.2.2.2.2.2.2.2.2.1, S.2.2.2.2.2.2.2.2.2.2.2.2.1, S.2.2.2.2.2.2.2.2.2.2.2.2.2.1, S.2.2.2.2.2.2.2.2.2.2.2.2.2.2.1, ()) H))))
    (leafE fun S H k =>
        bindV (evAdd S.2.2.2.2.2.2.2.2.2.2.2.1 (.int .i64 (.ofNat 1))) fun t44 =>
        k (S.1, S.2.1, S.2.2.1, S.2.2.2.1, S.2.2.2.2.1, S.2.2.2.2.2.1, S.2.2.2.2.2.2.1, S.2.2.2.2.2.2.2.1, S.2.2.2.2.2.2.2.2.1, S.2.2.2.2.2.2.2.2.2.1, S.2.2.2.2.2.2.2.2.2.2.1, t44, S.2.2.2.2.2.2.2.2.2.2.2.2.1, S.2.2.2.2.2.2.2.2.2.2.2.2.2.1, S.2.2.2.2.2.2.2.2.2.2.2.2.2.2.1, ()) H)))) fuel)))
  (seqE (leafE fun S H k =>
      k (S.1, S.2.1, S.2.2.1, S.2.2.2.2.2.1, (.int .i64 (.ofNat 0)), S.2.2.2.2.2.1, S.2.2.2.2.2.2.1, S.2.2.2.2.2.2.2.1, S.2.2.2.2.2.2.2.2.1, S.2.2.2.2.2.2.2.2.2.1, S.2.2.2.2.2.2.2.2.2.2.1, S.2.2.2.2.2.2.2.2.2.2.2.1, S.2.2.2.2.2.2.2.2.2.2.2.2.1, S.2.2.2.2.2.2.2.2.2.2.2.2.2.1, S.2.2.2.2.2.2.2.2.2.2.2.2.2.2.1, ()) H)
  (doneE .ret))))))

def F65 (call : CallF) (lo : Nat) (args : List Value) (H : AH) : Option (Value × AH) :=
  leave .all H (bindV (C65 call (lowOf .all lo H) (argAt args 0, argAt args 1, argAt args 2, argAt args 4, argAt args 5, argAt args 6, argAt args 7, argAt args 8, argAt args 11, argAt args 12, argAt args 13, argAt args 14, argAt args 15, argAt args 19, argAt args 28, ()) H) fun p => resE p.1 (some (oneOf [p.2.1.2.2.2.1, p.2.1.2.2.2.2.1], p.2.2)))

theorem F65_eq (call : CallF) (lo : Nat) (args : List Value) (H : AH) : evFn P ctx call lo 65 args H = F65 call lo args H := by kernel_rfl

/-- novaculite/drain.list -/
def C66 (call : CallF) (lo : Nat) : Piece (Value × Value × Value × Value × Unit) :=
  (seqE (leafE fun S H k =>
      k (S.1, (.slice none 0 0), S.2.2.1, S.2.2.2.1, ()) H)
  (seqE (leafE fun S H k =>
      k (S.1, S.2.1, (.slice none 0 0), S.2.2.2.1, ()) H)
  (seqE (blockE 0 (loopE (seqE (seqE (leafE fun S H k =>
        bindV (evNeq .int S.1 (.int .u64 (.ofNat 0))) fun t5 =>
        k (S.1, S.2.1, S.2.2.1, t5, ()) H)
    (condE (fun S => some S.2.2.2.1)
     (doneE .normal)
     (doneE (.exit 0))))
    (seqE (blockE 1 (leafE fun S H k =>
         bindVH (call lo 70 [S.1] H) fun t12 H0 =>
         bindV (evFill [(0, 1, t12)] (zeros (cellsOf (.int .i64 (.ofNat 0))) 1)) fun c1 =>
         let t13 := newSlice H0 1 1
         let H2 := H0.push (.cells (Nat.mul 1 1) c1 3)
         bindVH (evAppend lo H2 3 1 8 S.2.2.1 t13) fun t14 H3 =>
         k (S.1, S.2.1, t14, S.2.2.2.1, ()) H3))
    (leafE fun S H k =>
        bindV (evSub S.1 (.int .u64 (.ofNat 1))) fun t8 =>
        bindV (evAnd S.1 t8) fun t9 =>
        k (t9, S.2.1, S.2.2.1, S.2.2.2.1, ()) H))) fuel))
  (seqE (leafE fun S H k =>
      k (S.1, S.2.2.1, S.2.2.1, S.2.2.2.1, ()) H)
  (doneE .ret)))))

def F66 (call : CallF) (lo : Nat) (args : List Value) (H : AH) : Option (Value × AH) :=
  leave .all H (bindV (C66 call (lowOf .all lo H) (argAt args 0, argAt args 2, argAt args 3, argAt args 5, ()) H) fun p => resE p.1 (some (oneOf [p.2.1.2.1], p.2.2)))

theorem F66_eq (call : CallF) (lo : Nat) (args : List Value) (H : AH) : evFn P ctx call lo 66 args H = F66 call lo args H := by kernel_rfl

/-- (novaculite/drain.Hill).leaves -/
def C67 (call : CallF) (lo : Nat) : Piece (Value × Value × Value × Value × Value × Value × Value × Value × Value × Value × Value × Value × Unit) :=
  (seqE (leafE fun S H k =>
      let t2 := newPtr H
      let H0 := pushBox H 27 S.1
      k (S.1, S.2.1, t2, (.int .u64 (.ofNat 0)), S.2.2.2.2.1, S.2.2.2.2.2.1, S.2.2.2.2.2.2.1, S.2.2.2.2.2.2.2.1, S.2.2.2.2.2.2.2.2.1, S.2.2.2.2.2.2.2.2.2.1, S.2.2.2.2.2.2.2.2.2.2.1, S.2.2.2.2.2.2.2.2.2.2.2.1, ()) H0)
  (seqE (leafE fun S H k =>
      k (S.1, S.2.1, S.2.2.1, S.2.2.2.1, (.int .u64 (.ofNat 0)), S.2.2.2.2.2.1, S.2.2.2.2.2.2.1, S.2.2.2.2.2.2.2.1, S.2.2.2.2.2.2.2.2.1, S.2.2.2.2.2.2.2.2.2.1, S.2.2.2.2.2.2.2.2.2.2.1, S.2.2.2.2.2.2.2.2.2.2.2.1, ()) H)
  (seqE (seqE (leafE fun S H k =>
      bindV (evShift S.2.2.1 1) fun t8 =>
      bindV (evLoad H false 1 t8) fun t9 =>
      bindV (evLenS t9) fun t10 =>
      k (S.1, S.2.1, S.2.2.1, S.2.2.2.1, S.2.2.2.2.1, S.2.2.2.2.2.1, S.2.2.2.2.2.2.1, t9, t10, (.int .i64 (.ofNat 0)), S.2.2.2.2.2.2.2.2.2.2.1, S.2.2.2.2.2.2.2.2.2.2.2.1, ()) H)
  (blockE 0 (loopE (seqE (leafE fun S H k =>
        bindV (evLss S.2.2.2.2.2.2.2.2.2.1 S.2.2.2.2.2.2.2.2.1) fun t12 =>
        k (S.1, S.2.1, S.2.2.1, S.2.2.2.1, S.2.2.2.2.1, S.2.2.2.2.2.1, S.2.2.2.2.2.2.1, S.2.2.2.2.2.2.2.1, S.2.2.2.2.2.2.2.2.1, S.2.2.2.2.2.2.2.2.2.1, t12, S.2.2.2.2.2.2.2.2.2.2.2.1, ()) H)
    (seqE (condE (fun S => some S.2.2.2.2.2.2.2.2.2.2.1)
     (doneE .normal)
     (doneE (.exit 0)))
    (seqE (blockE 1 (seqE (leafE fun S H k =>
         bindV (evIdxSlice 3 S.2.2.2.2.2.2.2.1 S.2.2.2.2.2.2.2.2.2.1) fun t14 =>
         bindV (evLoad H true 3 t14) fun t15 =>
         let t7 := newPtr H
         let H1 := pushBox H 65 z65
         bindV (evStore lo H1 3 t7 t15) fun H2 =>
         k (S.1, S.2.1, S.2.2.1, S.2.2.2.1, S.2.2.2.2.1, S.2.2.2.2.2.2.2.2.2.1, t7, S.2.2.2.2.2.2.2.1, S.2.2.2.2.2.2.2.2.1, S.2.2.2.2.2.2.2.2.2.1, S.2.2.2.2.2.2.2.2.2.2.1, S.2.2.2.2.2.2.2.2.2.2.2.1, ()) H2)
     (seqE (leafE fun S H k =>
         bindV (evIdxArr 3 1 S.2.2.2.2.2.2.1 (.int .i64 (.ofNat 0))) fun t17 =>
         bindV (evLoad H false 1 t17) fun t18 =>
         bindV (evShr S.2.1 t18) fun t19 =>
         bindV (evAnd t19 (.int .u64 (.ofNat 1))) fun t20 =>
         bindV (evEql .int t20 (.int .u64 (.ofNat 1))) fun t21 =>
         guarded t21 true ( pairVH S.2.1 H) H fun t23 H3 =>
         guarded t21 true (bindV (evIdxArr 3 1 S.2.2.2.2.2.2.1 (.int .i64 (.ofNat 1))) fun t1000000 => pairVH t1000000 H3) H3 fun t24 H4 =>
         guarded t21 true (bindV (evLoad H4 false 1 t24) fun t1000000 => pairVH t1000000 H4) H4 fun t25 H5 =>
         guarded t21 true (bindV (evShr t23 t25) fun t1000000 => pairVH t1000000 H5) H5 fun t26 H6 =>
         guarded t21 true (bindV (evAnd t26 (.int .u64 (.ofNat 1))) fun t1000000 => pairVH t1000000 H6) H6 fun t27 H7 =>
         guarded t21 true (bindV (evEql .int t27 (.int .u64 (.ofNat 0))) fun t1000000 => pairVH t1000000 H7) H7 fun t28 H8 =>
         bindV (evPick t21 t28 (.bool false)) fun t29 =>
         k (S.1, S.2.1, S.2.2.1, S.2.2.2.1, S.2.2.2.2.1, S.2.2.2.2.2.1, S.2.2.2.2.2.2.1, S.2.2.2.2.2.2.2.1, S.2.2.2.2.2.2.2.2.1, S.2.2.2.2.2.2.2.2.2.1, S.2.2.2.2.2.2.2.2.2.2.1, t29, ()) H8)
     (condE (fun S => some S.2.2.2.2.2.2.2.2.2.2.2.1)
      (leafE fun S H k =>
          bindV (evShl (.int .u64 (.ofNat 1)) S.2.2.2.2.2.1) fun t32 =>
          bindV (evOr S.2.2.2.2.1 t32) fun t33 =>
          k (S.1, S.2.1, S.2.2.1, S.2.2.2.1, t33, S.2.2.2.2.2.1, S.2.2.2.2.2.2.1, S.2.2.2.2.2.2.2.1, S.2.2.2.2.2.2.2.2.1, S.2.2.2.2.2.2.2.2.2.1, S.2.2.2.2.2.2.2.2.2.2.1, S.2.2.2.2.2.2.2.2.2.2.2.1, ()) H)
      (doneE .normal)))))
    (leafE fun S H k =>
        bindV (evAdd S.2.2.2.2.2.2.2.2.2.1 (.int .i64 (.ofNat 1))) fun t34 =>
        k (S.1, S.2.1, S.2.2.1, S.2.2.2.1, S.2.2.2.2.1, S.2.2.2.2.2.1, S.2.2.2.2.2.2.1, S.2.2.2.2.2.2.2.1, S.2.2.2.2.2.2.2.2.1, t34, S.2.2.2.2.2.2.2.2.2.2.1, S.2.2.2.2.2.2.2.2.2.2.2.1, ()) H)))) fuel)))
  (seqE (leafE fun S H k =>
      k (S.1, S.2.1, S.2.2.1, S.2.2.2.2.1, S.2.2.2.2.1, S.2.2.2.2.2.1, S.2.2.2.2.2.2.1, S.2.2.2.2.2.2.2.1, S.2.2.2.2.2.2.2.2.1, S.2.2.2.2.2.2.2.2.2.1, S.2.2.2.2.2.2.2.2.2.2.1, S.2.2.2.2.2.2.2.2.2.2.2.1, ()) H)
  (doneE .ret)))))

def F67 (call : CallF) (lo : Nat) (args : List Value) (H : AH) : Option (Value × AH) :=
  leave .all H (bindV (C67 call (lowOf .all lo H) (argAt args 0, argAt args 1, argAt args 2, argAt args 4, argAt args 5, argAt args 6, argAt args 7, argAt args 9, argAt args 10, argAt args 11, argAt args 12, argAt args 29, ()) H) fun p => resE p.1 (some (oneOf [p.2.1.2.2.2.1], p.2.2)))

theorem F67_eq (call : CallF) (lo : Nat) (args : List Value) (H : AH) : evFn P ctx call lo 67 args H = F67 call lo args H := by kernel_rfl

/-- slices.Clone[[][3]int,[3]int] -/
def C68 (call : CallF) (lo : Nat) : Piece (Value × Value × Value × Unit) :=
  (seqE (leafE fun S H k =>
      k (S.1, (.slice none 0 0), S.2.2.1, ()) H)
  (seqE (seqE (leafE fun S H k =>
      bindV (evEql .slice S.1 (.slice none 0 0)) fun t4 =>
      k (S.1, S.2.1, t4, ()) H)
  (condE (fun S => some S.2.2.1)
   (seqE (leafE fun S H k =>
       k (S.1, (.slice none 0 0), S.2.2.1, ()) H)
   (doneE .ret))
   (doneE .normal)))
  (seqE (leafE fun S H k =>
      bindV (evFill [] (zeros (cellsOf z65) 0)) fun c0 =>
      let t5 := newSlice H 0 0
      let H1 := H.push (.cells (Nat.mul 0 3) c0 65)
      bindVH (evAppend lo H1 65 3 24 t5 S.1) fun t7 H2 =>
      k (S.1, t7, S.2.2.1, ()) H2)
  (doneE .ret))))

def F68 (call : CallF) (lo : Nat) (args : List Value) (H : AH) : Option (Value × AH) :=
  leave .all H (bindV (C68 call (lowOf .all lo H) (argAt args 0, argAt args 2, argAt args 4, ()) H) fun p => resE p.1 (some (oneOf [p.2.1.2.1], p.2.2)))

theorem F68_eq (call : CallF) (lo : Nat) (args : List Value) (H : AH) : evFn P ctx call lo 68 args H = F68 call lo args H := by kernel_rfl

/-- novaculite/share.left$1 -/
def C69 (call : CallF) (lo : Nat) : Piece (Value × Value × Value × Unit) :=
  (seqE (leafE fun S H k =>
      k (S.1, S.2.1, (.int .i64 (.ofNat 0)), ()) H)
  (seqE (leafE fun S H k =>
      bindV (evLoad H false 1 S.2.1) fun t4 =>
      bindV (evShl (.int .u64 (.ofNat 1)) S.1) fun t6 =>
      bindV (evSub t6 (.int .u64 (.ofNat 1))) fun t7 =>
      bindV (evAnd t4 t7) fun t8 =>
      bindVH (call lo 41 [t8] H) fun t9 H0 =>
      k (S.1, S.2.1, t9, ()) H0)
  (doneE .ret)))

def F69 (call : CallF) (lo : Nat) (args : List Value) (H : AH) : Option (Value × AH) :=
  leave .all H (bindV (C69 call (lowOf .all lo H) (argAt args 0, argAt args 1, argAt args 3, ()) H) fun p => resE p.1 (some (oneOf [p.2.1.2.2.1], p.2.2)))

theorem F69_eq (call : CallF) (lo : Nat) (args : List Value) (H : AH) : evFn P ctx call lo 69 args H = F69 call lo args H := by kernel_rfl

/-- math/bits.TrailingZeros -/
def C70 (call : CallF) (lo : Nat) : Piece (Value × Value × Unit) :=
  (seqE (leafE fun S H k =>
      k (S.1, (.int .i64 (.ofNat 0)), ()) H)
  (seqE (condE (fun S => some (.bool false))
   (seqE (leafE fun S H k =>
       bindV (evConv .u32 S.1) fun t4 =>
       bindVH (call lo 96 [t4] H) fun t5 H0 =>
       k (S.1, t5, ()) H0)
   (doneE .ret))
   (doneE .normal))
  (seqE (leafE fun S H k =>
      bindVH (call lo 97 [S.1] H) fun t7 H1 =>
      k (S.1, t7, ()) H1)
  (doneE .ret))))

def F70 (call : CallF) (lo : Nat) (args : List Value) (H : AH) : Option (Value × AH) :=
  leave .all H (bindV (C70 call (lowOf .all lo H) (argAt args 0, argAt args 2, ()) H) fun p => resE p.1 (some (oneOf [p.2.1.2.1], p.2.2)))

theorem F70_eq (call : CallF) (lo : Nat) (args : List Value) (H : AH) : evFn P ctx call lo 70 args H = F70 call lo args H := by kernel_rfl

/-- cmp.Compare[int] -/
def C71 (call : CallF) (lo : Nat) : Piece (Value × Value × Value × Value × Value × Value × Value × Value × Value × Value × Unit) :=
  (seqE (leafE fun S H k =>
      k (S.1, S.2.1, (.int .i64 (.ofNat 0)), S.2.2.2.1, S.2.2.2.2.1, S.2.2.2.2.2.1, S.2.2.2.2.2.2.1, S.2.2.2.2.2.2.2.1, S.2.2.2.2.2.2.2.2.1, S.2.2.2.2.2.2.2.2.2.1, ()) H)
  (seqE (leafE fun S H k =>
      bindVH (call lo 98 [S.1] H) fun t8 H0 =>
      k (S.1, S.2.1, S.2.2.1, t8, S.2.2.2.2.1, S.2.2.2.2.2.1, S.2.2.2.2.2.2.1, S.2.2.2.2.2.2.2.1, S.2.2.2.2.2.2.2.2.1, S.2.2.2.2.2.2.2.2.2.1, ()) H0)
  (seqE (leafE fun S H k =>
      bindVH (call lo 98 [S.2.1] H) fun t10 H1 =>
      k (S.1, S.2.1, S.2.2.1, S.2.2.2.1, t10, S.2.2.2.2.2.1, S.2.2.2.2.2.2.1, S.2.2.2.2.2.2.2.1, S.2.2.2.2.2.2.2.2.1, S.2.2.2.2.2.2.2.2.2.1, ()) H1)
  (seqE (seqE (leafE fun S H k =>
      k (S.1, S.2.1, S.2.2.1, S.2.2.2.1, S.2.2.2.2.1, S.2.2.2.1, S.2.2.2.2.2.2.1, S.2.2.2.2.2.2.2.1, S.2.2.2.2.2.2.2.2.1, S.2.2.2.2.2.2.2.2.2.1, ()) H)
  (condE (fun S => some S.2.2.2.2.2.1)
   (seqE (seqE (leafE fun S H k =>
       k (S.1, S.2.1, S.2.2.1, S.2.2.2.1, S.2.2.2.2.1, S.2.2.2.2.2.1, S.2.2.2.2.1, S.2.2.2.2.2.2.2.1, S.2.2.2.2.2.2.2.2.1, S.2.2.2.2.2.2.2.2.2.1, ()) H)
   (condE (fun S => some S.2.2.2.2.2.2.1)
    (seqE (leafE fun S H k =>
        k (S.1, S.2.1, (.int .i64 (.ofNat 0)), S.2.2.2.1, S.2.2.2.2.1, S.2.2.2.2.2.1, S.2.2.2.2.2.2.1, S.2.2.2.2.2.2.2.1, S.2.2.2.2.2.2.2.2.1, S.2.2.2.2.2.2.2.2.2.1, ()) H)
    (doneE .ret))
    (doneE .normal)))
   (seqE (leafE fun S H k =>
       k (S.1, S.2.1, (.int .i64 (.negSucc 0)), S.2.2.2.1, S.2.2.2.2.1, S.2.2.2.2.2.1, S.2.2.2.2.2.2.1, S.2.2.2.2.2.2.2.1, S.2.2.2.2.2.2.2.2.1, S.2.2.2.2.2.2.2.2.2.1, ()) H)
   (doneE .ret)))
   (doneE .normal)))
  (seqE (seqE (leafE fun S H k =>
      k (S.1, S.2.1, S.2.2.1, S.2.2.2.1, S.2.2.2.2.1, S.2.2.2.2.2.1, S.2.2.2.2.2.2.1, S.2.2.2.2.1, S.2.2.2.2.2.2.2.2.1, S.2.2.2.2.2.2.2.2.2.1, ()) H)
  (condE (fun S => some S.2.2.2.2.2.2.2.1)
   (seqE (leafE fun S H k =>
       k (S.1, S.2.1, (.int .i64 (.ofNat 1)), S.2.2.2.1, S.2.2.2.2.1, S.2.2.2.2.2.1, S.2.2.2.2.2.2.1, S.2.2.2.2.2.2.2.1, S.2.2.2.2.2.2.2.2.1, S.2.2.2.2.2.2.2.2.2.1, ()) H)
   (doneE .ret))
   (doneE .normal)))
  (seqE (seqE (leafE fun S H k =>
      bindV (evLss S.1 S.2.1) fun t16 =>
      k (S.1, S.2.1, S.2.2.1, S.2.2.2.1, S.2.2.2.2.1, S.2.2.2.2.2.1, S.2.2.2.2.2.2.1, S.2.2.2.2.2.2.2.1, t16, S.2.2.2.2.2.2.2.2.2.1, ()) H)
  (condE (fun S => some S.2.2.2.2.2.2.2.2.1)
   (seqE (leafE fun S H k =>
       k (S.1, S.2.1, (.int .i64 (.negSucc 0)), S.2.2.2.1, S.2.2.2.2.1, S.2.2.2.2.2.1, S.2.2.2.2.2.2.1, S.2.2.2.2.2.2.2.1, S.2.2.2.2.2.2.2.2.1, S.2.2.2.2.2.2.2.2.2.1, ()) H)
   (doneE .ret))
   (doneE .normal)))
  (seqE (seqE (leafE fun S H k =>
      bindV (evGtr S.1 S.2.1) fun t19 =>
      k (S.1, S.2.1, S.2.2.1, S.2.2.2.1, S.2.2.2.2.1, S.2.2.2.2.2.1, S.2.2.2.2.2.2.1, S.2.2.2.2.2.2.2.1, S.2.2.2.2.2.2.2.2.1, t19, ()) H)
  (condE (fun S => some S.2.2.2.2.2.2.2.2.2.1)
   (seqE (leafE fun S H k =>
       k (S.1, S.2.1, (.int .i64 (.ofNat 1)), S.2.2.2.1, S.2.2.2.2.1, S.2.2.2.2.2.1, S.2.2.2.2.2.2.1, S.2.2.2.2.2.2.2.1, S.2.2.2.2.2.2.2.2.1, S.2.2.2.2.2.2.2.2.2.1, ()) H)
   (doneE .ret))
   (doneE .normal)))
  (seqE (leafE fun S H k =>
      k (S.1, S.2.1, (.int .i64 (.ofNat 0)), S.2.2.2.1, S.2.2.2.2.1, S.2.2.2.2.2.1, S.2.2.2.2.2.2.1, S.2.2.2.2.2.2.2.1, S.2.2.2.2.2.2.2.2.1, S.2.2.2.2.2.2.2.2.2.1, ()) H)
  (doneE .ret)))))))))

def F71 (call : CallF) (lo : Nat) (args : List Value) (H : AH) : Option (Value × AH) :=
  leave .all H (bindV (C71 call (lowOf .all lo H) (argAt args 0, argAt args 1, argAt args 4, argAt args 5, argAt args 6, argAt args 11, argAt args 12, argAt args 13, argAt args 16, argAt args 19, ()) H) fun p => resE p.1 (some (oneOf [p.2.1.2.2.1], p.2.2)))

theorem F71_eq (call : CallF) (lo : Nat) (args : List Value) (H : AH) : evFn P ctx call lo 71 args H = F71 call lo args H := by kernel_rfl

/-- (novaculite/drain.Hill).plans -/
def C72 (call : CallF) (lo : Nat) : Piece (Value × Value × Value × Value × Value × Value × Value × Value × Value × Value × Value × Value × Value × Value × Value × Value × Value × Value × Value × Value × Value × Value × Value × Value × Value × Value × Unit) :=
  (seqE (leafE fun S H k =>
      let t1 := newPtr H
      let H0 := pushBox H 27 S.1
      k (S.1, t1, (.slice none 0 0), S.2.2.2.1, S.2.2.2.2.1, S.2.2.2.2.2.1, S.2.2.2.2.2.2.1, S.2.2.2.2.2.2.2.1, S.2.2.2.2.2.2.2.2.1, S.2.2.2.2.2.2.2.2.2.1, S.2.2.2.2.2.2.2.2.2.2.1, S.2.2.2.2.2.2.2.2.2.2.2.1, S.2.2.2.2.2.2.2.2.2.2.2.2.1, S.2.2.2.2.2.2.2.2.2.2.2.2.2.1, S.2.2.2.2.2.2.2.2.2.2.2.2.2.2.1, S.2.2.2.2.2.2.2.2.2.2.2.2.2.2.2.1, S.2.2.2.2.2.2.2.2.2.2.2.2.2.2.2.2.1, S.2.2.2.2.2.2.2.2.2.2.2.2.2.2.2.2.2.1, S.2.2.2.2.2.2.2.2.2.2.2.2.2.2.2.2.2.2.1, S.2.2.2.2.2.2.2.2.2.2.2.2.2.2.2.2.2.2.2.1, S.2.2.2.2.2.2.2.2.2.2.2.2.2.2.2.2.2.2.2.2.1, S.2.2.2.2.2.2.2.2.2.2.2.2.2.2.2.2.2.2.2.2.2.1, S.2.2.2.2.2.2.2.2.2.2.2.2.2.2.2.2.2.2.2.2.2.2.1, S.2.2.2.2.2.2.2.2.2.2.2.2.2.2.2.2.2.2.2.2.2.2.2.1, S.2.2.2.2.2.2.2.2.2.2.2.2.2.2.2.2.2.2.2.2.2.2.2.2.1, S.2.2.2.2.2.2.2.2.2.2.2.2.2.2.2.2.2.2.2.2.2.2.2.2.2.1, ()) H0)
  (seqE (leafE fun S H k =>
      bindV (evFill [(0, 1, (.slice none 0 0))] (zeros (cellsOf (.slice none 0 0)) 1)) fun c1 =>
      let t12 := newSlice H 1 1
      let H2 := H.push (.cells (Nat.mul 1 1) c1 29)
      k (S.1, S.2.1, S.2.2.1, t12, S.2.2.2.2.1, S.2.2.2.2.2.1, S.2.2.2.2.2.2.1, S.2.2.2.2.2.2.2.1, S.2.2.2.2.2.2.2.2.1, S.2.2.2.2.2.2.2.2.2.1, S.2.2.2.2.2.2.2.2.2.2.1, S.2.2.2.2.2.2.2.2.2.2.2.1, S.2.2.2.2.2.2.2.2.2.2.2.2.1, S.2.2.2.2.2.2.2.2.2.2.2.2.2.1, S.2.2.2.2.2.2.2.2.2.2.2.2.2.2.1, S.2.2.2.2.2.2.2.2.2.2.2.2.2.2.2.1, S.2.2.2.2.2.2.2.2.2.2.2.2.2.2.2.2.1, S.2.2.2.2.2.2.2.2.2.2.2.2.2.2.2.2.2.1, S.2.2.2.2.2.2.2.2.2.2.2.2.2.2.2.2.2.2.1, S.2.2.2.2.2.2.2.2.2.2.2.2.2.2.2.2.2.2.2.1, S.2.2.2.2.2.2.2.2.2.2.2.2.2.2.2.2.2.2.2.2.1, S.2.2.2.2.2.2.2.2.2.2.2.2.2.2.2.2.2.2.2.2.2.1, S.2.2.2.2.2.2.2.2.2.2.2.2.2.2.2.2.2.2.2.2.2.2.1, S.2.2.2.2.2.2.2.2.2.2.2.2.2.2.2.2.2.2.2.2.2.2.2.1, S.2.2.2.2.2.2.2.2.2.2.2.2.2.2.2.2.2.2.2.2.2.2.2.2.1, S.2.2.2.2.2.2.2.2.2.2.2.2.2.2.2.2.2.2.2.2.2.2.2.2.2.1, ()) H2)
  (seqE (seqE (leafE fun S H k =>
      bindV (evShift S.2.1 0) fun t13 =>
      bindV (evLoad H false 1 t13) fun t14 =>
      k (S.1, S.2.1, S.2.2.1, S.2.2.2.1, S.2.2.2.2.1, S.2.2.2.2.2.1, S.2.2.2.2.2.2.1, S.2.2.2.2.2.2.2.1, S.2.2.2.2.2.2.2.2.1, S.2.2.2.2.2.2.2.2.2.1, t14, (.int .i64 (.ofNat 0)), S.2.2.2.2.2.2.2.2.2.2.2.2.1, S.2.2.2.2.2.2.2.2.2.2.2.2.2.1, S.2.2.2.2.2.2.2.2.2.2.2.2.2.2.1, S.2.2.2.2.2.2.2.2.2.2.2.2.2.2.2.1, S.2.2.2.2.2.2.2.2.2.2.2.2.2.2.2.2.1, S.2.2.2.2.2.2.2.2.2.2.2.2.2.2.2.2.2.1, S.2.2.2.2.2.2.2.2.2.2.2.2.2.2.2.2.2.2.1, S.2.2.2.2.2.2.2.2.2.2.2.2.2.2.2.2.2.2.2.1, S.2.2.2.2.2.2.2.2.2.2.2.2.2.2.2.2.2.2.2.2.1, S.2.2.2.2.2.2.2.2.2.2.2.2.2.2.2.2.2.2.2.2.2.1, S.2.2.2.2.2.2.2.2.2.2.2.2.2.2.2.2.2.2.2.2.2.2.1, S.2.2.2.2.2.2.2.2.2.2.2.2.2.2.2.2.2.2.2.2.2.2.2.1, S.2.2.2.2.2.2.2.2.2.2.2.2.2.2.2.2.2.2.2.2.2.2.2.2.1, S.2.2.2.2.2.2.2.2.2.2.2.2.2.2.2.2.2.2.2.2.2.2.2.2.2.1, ()) H)
  (blockE 0 (loopE (seqE (leafE fun S H k =>
        bindV (evLss S.2.2.2.2.2.2.2.2.2.2.2.1 S.2.2.2.2.2.2.2.2.2.2.1) fun t16 =>
        k (S.1, S.2.1, S.2.2.1, S.2.2.2.1, S.2.2.2.2.1, S.2.2.2.2.2.1, S.2.2.2.2.2.2.1, S.2.2.2.2.2.2.2.1, S.2.2.2.2.2.2.2.2.1, S.2.2.2.2.2.2.2.2.2.1, S.2.2.2.2.2.2.2.2.2.2.1, S.2.2.2.2.2.2.2.2.2.2.2.1, t16, S.2.2.2.2.2.2.2.2.2.2.2.2.2.1, S.2.2.2.2.2.2.2.2.2.2.2.2.2.2.1, S.2.2.2.2.2.2.2.2.2.2.2.2.2.2.2.1, S.2.2.2.2.2.2.2.2.2.2.2.2.2.2.2.2.1, S.2.2.2.2.2.2.2.2.2.2.2.2.2.2.2.2.2.1, S.2.2.2.2.2.2.2.2.2.2.2.2.2.2.2.2.2.2.1, S.2.2.2.2.2.2.2.2.2.2.2.2.2.2.2.2.2.2.2.1, S.2.2.2.2.2.2.2.2.2.2.2.2.2.2.2.2.2.2.2.2.1, S.2.2.2.2.2.2.2.2.2.2.2.2.2.2.2.2.2.2.2.2.2.1, S.2.2.2.2.2.2.2.2.2.2.2.2.2.2.2.2.2.2.2.2.2.2.1, S.2.2.2.2.2.2.2.2.2.2.2.2.2.2.2.2.2.2.2.2.2.2.2.1, S.2.2.2.2.2.2.2.2.2.2.2.2.2.2.2.2.2.2.2.2.2.2.2.2.1, S.2.2.2.2.2.2.2.2.2.2.2.2.2.2.2.2.2.2.2.2.2.2.2.2.2.1, ()) H)
    (seqE (condE (fun S => some S.2.2.2.2.2.2.2.2.2.2.2.2.1)
     (doneE .normal)
     (doneE (.exit 0)))
    (seqE (blockE 1 (seqE (leafE fun S H k =>
         k (S.1, S.2.1, S.2.2.1, S.2.2.2.1, S.2.2.2.2.2.2.2.2.2.2.2.1, S.2.2.2.2.2.1, S.2.2.2.2.2.2.1, S.2.2.2.2.2.2.2.1, S.2.2.2.2.2.2.2.2.1, S.2.2.2.2.2.2.2.2.2.1, S.2.2.2.2.2.2.2.2.2.2.1, S.2.2.2.2.2.2.2.2.2.2.2.1, S.2.2.2.2.2.2.2.2.2.2.2.2.1, S.2.2.2.2.2.2.2.2.2.2.2.2.2.1, S.2.2.2.2.2.2.2.2.2.2.2.2.2.2.1, S.2.2.2.2.2.2.2.2.2.2.2.2.2.2.2.1, S.2.2.2.2.2.2.2.2.2.2.2.2.2.2.2.2.1, S.2.2.2.2.2.2.2.2.2.2.2.2.2.2.2.2.2.1, S.2.2.2.2.2.2.2.2.2.2.2.2.2.2.2.2.2.2.1, S.2.2.2.2.2.2.2.2.2.2.2.2.2.2.2.2.2.2.2.1, S.2.2.2.2.2.2.2.2.2.2.2.2.2.2.2.2.2.2.2.2.1, S.2.2.2.2.2.2.2.2.2.2.2.2.2.2.2.2.2.2.2.2.2.1, S.2.2.2.2.2.2.2.2.2.2.2.2.2.2.2.2.2.2.2.2.2.2.1, S.2.2.2.2.2.2.2.2.2.2.2.2.2.2.2.2.2.2.2.2.2.2.2.1, S.2.2.2.2.2.2.2.2.2.2.2.2.2.2.2.2.2.2.2.2.2.2.2.2.1, S.2.2.2.2.2.2.2.2.2.2.2.2.2.2.2.2.2.2.2.2.2.2.2.2.2.1, ()) H)
     (seqE (leafE fun S H k =>
         k (S.1, S.2.1, S.2.2.1, S.2.2.2.1, S.2.2.2.2.1, (.slice none 0 0), S.2.2.2.2.2.2.1, S.2.2.2.2.2.2.2.1, S.2.2.2.2.2.2.2.2.1, S.2.2.2.2.2.2.2.2.2.1, S.2.2.2.2.2.2.2.2.2.2.1, S.2.2.2.2.2.2.2.2.2.2.2.1, S.2.2.2.2.2.2.2.2.2.2.2.2.1, S.2.2.2.2.2.2.2.2.2.2.2.2.2.1, S.2.2.2.2.2.2.2.2.2.2.2.2.2.2.1, S.2.2.2.2.2.2.2.2.2.2.2.2.2.2.2.1, S.2.2.2.2.2.2.2.2.2.2.2.2.2.2.2.2.1, S.2.2.2.2.2.2.2.2.2.2.2.2.2.2.2.2.2.1, S.2.2.2.2.2.2.2.2.2.2.2.2.2.2.2.2.2.2.1, S.2.2.2.2.2.2.2.2.2.2.2.2.2.2.2.2.2.2.2.1, S.2.2.2.2.2.2.2.2.2.2.2.2.2.2.2.2.2.2.2.2.1, S.2.2.2.2.2.2.2.2.2.2.2.2.2.2.2.2.2.2.2.2.2.1, S.2.2.2.2.2.2.2.2.2.2.2.2.2.2.2.2.2.2.2.2.2.2.1, S.2.2.2.2.2.2.2.2.2.2.2.2.2.2.2.2.2.2.2.2.2.2.2.1, S.2.2.2.2.2.2.2.2.2.2.2.2.2.2.2.2.2.2.2.2.2.2.2.2.1, S.2.2.2.2.2.2.2.2.2.2.2.2.2.2.2.2.2.2.2.2.2.2.2.2.2.1, ()) H)
     (seqE (seqE (leafE fun S H k =>
         bindV (evLenS S.2.2.2.1) fun t19 =>
         k (S.1, S.2.1, S.2.2.1, S.2.2.2.1, S.2.2.2.2.1, S.2.2.2.2.2.1, S.2.2.2.2.2.2.1, S.2.2.2.2.2.2.2.1, S.2.2.2.2.2.2.2.2.1, S.2.2.2.2.2.2.2.2.2.1, S.2.2.2.2.2.2.2.2.2.2.1, S.2.2.2.2.2.2.2.2.2.2.2.1, S.2.2.2.2.2.2.2.2.2.2.2.2.1, S.2.2.2.1, t19, (.int .i64 (.ofNat 0)), S.2.2.2.2.2.2.2.2.2.2.2.2.2.2.2.2.1, S.2.2.2.2.2.2.2.2.2.2.2.2.2.2.2.2.2.1, S.2.2.2.2.2.2.2.2.2.2.2.2.2.2.2.2.2.2.1, S.2.2.2.2.2.2.2.2.2.2.2.2.2.2.2.2.2.2.2.1, S.2.2.2.2.2.2.2.2.2.2.2.2.2.2.2.2.2.2.2.2.1, S.2.2.2.2.2.2.2.2.2.2.2.2.2.2.2.2.2.2.2.2.2.1, S.2.2.2.2.2.2.2.2.2.2.2.2.2.2.2.2.2.2.2.2.2.2.1, S.2.2.2.2.2.2.2.2.2.2.2.2.2.2.2.2.2.2.2.2.2.2.2.1, S.2.2.2.2.2.2.2.2.2.2.2.2.2.2.2.2.2.2.2.2.2.2.2.2.1, S.2.2.2.2.2.2.2.2.2.2.2.2.2.2.2.2.2.2.2.2.2.2.2.2.2.1, ()) H)
     (blockE 2 (loopE (seqE (leafE fun S H k =>
           bindV (evLss S.2.2.2.2.2.2.2.2.2.2.2.2.2.2.2.1 S.2.2.2.2.2.2.2.2.2.2.2.2.2.2.1) fun t21 =>
           k (S.1, S.2.1, S.2.2.1, S.2.2.2.1, S.2.2.2.2.1, S.2.2.2.2.2.1, S.2.2.2.2.2.2.1, S.2.2.2.2.2.2.2.1, S.2.2.2.2.2.2.2.2.1, S.2.2.2.2.2.2.2.2.2.1, S.2.2.2.2.2.2.2.2.2.2.1, S.2.2.2.2.2.2.2.2.2.2.2.1, S.2.2.2.2.2.2.2.2.2.2.2.2.1, S.2.2.2.2.2.2.2.2.2.2.2.2.2.1, S.2.2.2.2.2.2.2.2.2.2.2.2.2.2.1, S.2.2.2.2.2.2.2.2.2.2.2.2.2.2.2.1, t21, S.2.2.2.2.2.2.2.2.2.2.2.2.2.2.2.2.2.1, S.2.2.2.2.2.2.2.2.2.2.2.2.2.2.2.2.2.2.1, S.2.2.2.2.2.2.2.2.2.2.2.2.2.2.2.2.2.2.2.1, S.2.2.2.2.2.2.2.2.2.2.2.2.2.2.2.2.2.2.2.2.1, S.2.2.2.2.2.2.2.2.2.2.2.2.2.2.2.2.2.2.2.2.2.1, S.2.2.2.2.2.2.2.2.2.2.2.2.2.2.2.2.2.2.2.2.2.2.1, S.2.2.2.2.2.2.2.2.2.2.2.2.2.2.2.2.2.2.2.2.2.2.2.1, S.2.2.2.2.2.2.2.2.2.2.2.2.2.2.2.2.2.2.2.2.2.2.2.2.1, S.2.2.2.2.2.2.2.2.2.2.2.2.2.2.2.2.2.2.2.2.2.2.2.2.2.1, ()) H)
       (seqE (condE (fun S => some S.2.2.2.2.2.2.2.2.2.2.2.2.2.2.2.2.1)
        (doneE .normal)
        (doneE (.exit 2)))
       (seqE (blockE 3 (seqE (leafE fun S H k =>
            bindV (evIdxSlice 1 S.2.2.2.2.2.2.2.2.2.2.2.2.2.1 S.2.2.2.2.2.2.2.2.2.2.2.2.2.2.2.1) fun t22 =>
            bindV (evLoad H false 1 t22) fun t23 =>
            k (S.1, S.2.1, S.2.2.1, S.2.2.2.1, S.2.2.2.2.1, S.2.2.2.2.2.1, t23, S.2.2.2.2.2.2.2.1, S.2.2.2.2.2.2.2.2.1, S.2.2.2.2.2.2.2.2.2.1, S.2.2.2.2.2.2.2.2.2.2.1, S.2.2.2.2.2.2.2.2.2.2.2.1, S.2.2.2.2.2.2.2.2.2.2.2.2.1, S.2.2.2.2.2.2.2.2.2.2.2.2.2.1, S.2.2.2.2.2.2.2.2.2.2.2.2.2.2.1, S.2.2.2.2.2.2.2.2.2.2.2.2.2.2.2.1, S.2.2.2.2.2.2.2.2.2.2.2.2.2.2.2.2.1, S.2.2.2.2.2.2.2.2.2.2.2.2.2.2.2.2.2.1, S.2.2.2.2.2.2.2.2.2.2.2.2.2.2.2.2.2.2.1, S.2.2.2.2.2.2.2.2.2.2.2.2.2.2.2.2.2.2.2.1, S.2.2.2.2.2.2.2.2.2.2.2.2.2.2.2.2.2.2.2.2.1, S.2.2.2.2.2.2.2.2.2.2.2.2.2.2.2.2.2.2.2.2.2.1, S.2.2.2.2.2.2.2.2.2.2.2.2.2.2.2.2.2.2.2.2.2.2.1, S.2.2.2.2.2.2.2.2.2.2.2.2.2.2.2.2.2.2.2.2.2.2.2.1, S.2.2.2.2.2.2.2.2.2.2.2.2.2.2.2.2.2.2.2.2.2.2.2.2.1, S.2.2.2.2.2.2.2.2.2.2.2.2.2.2.2.2.2.2.2.2.2.2.2.2.2.1, ()) H)
        (seqE (leafE fun S H k =>
            bindV (evShift S.2.1 1) fun t24 =>
            bindV (evLoad H false 1 t24) fun t25 =>
            bindV (evLenS t25) fun t26 =>
            k (S.1, S.2.1, S.2.2.1, S.2.2.2.1, S.2.2.2.2.1, S.2.2.2.2.2.1, S.2.2.2.2.2.2.1, S.2.2.2.2.2.2.2.1, S.2.2.2.2.2.2.2.2.1, S.2.2.2.2.2.2.2.2.2.1, S.2.2.2.2.2.2.2.2.2.2.1, S.2.2.2.2.2.2.2.2.2.2.2.1, S.2.2.2.2.2.2.2.2.2.2.2.2.1, S.2.2.2.2.2.2.2.2.2.2.2.2.2.1, S.2.2.2.2.2.2.2.2.2.2.2.2.2.2.1, S.2.2.2.2.2.2.2.2.2.2.2.2.2.2.2.1, S.2.2.2.2.2.2.2.2.2.2.2.2.2.2.2.2.1, t25, t26, (.int .i64 (.ofNat 0)), S.2.2.2.2.2.2.2.2.2.2.2.2.2.2.2.2.2.2.2.2.1, S.2.2.2.2.2.2.2.2.2.2.2.2.2.2.2.2.2.2.2.2.2.1, S.2.2.2.2.2.2.2.2.2.2.2.2.2.2.2.2.2.2.2.2.2.2.1, S.2.2.2.2.2.2.2.2.2.2.2.2.2.2.2.2.2.2.2.2.2.2.2.1, S.2.2.2.2.2.2.2.2.2.2.2.2.2.2.2.2.2.2.2.2.2.2.2.2.1, S.2.2.2.2.2.2.2.2.2.2.2.2.2.2.2.2.2.2.2.2.2.2.2.2.2.1, ()) H)
        (blockE 4 (loopE (seqE (leafE fun S H k =>
              bindV (evLss S.2.2.2.2.2.2.2.2.2.2.2.2.2.2.2.2.2.2.2.1 S.2.2.2.2.2.2.2.2.2.2.2.2.2.2.2.2.2.2.1) fun t28 =>
              k (S.1, S.2.1, S.2.2.1, S.2.2.2.1, S.2.2.2.2.1, S.2.2.2.2.2.1, S.2.2.2.2.2.2.1, S.2.2.2.2.2.2.2.1, S.2.2.2.2.2.2.2.2.1, S.2.2.2.2.2.2.2.2.2.1, S.2.2.2.2.2.2.2.2.2.2.1, S.2.2.2.2.2.2.2.2.2.2.2.1, S.2.2.2.2.2.2.2.2.2.2.2.2.1, S.2.2.2.2.2.2.2.2.2.2.2.2.2.1, S.2.2.2.2.2.2.2.2.2.2.2.2.2.2.1, S.2.2.2.2.2.2.2.2.2.2.2.2.2.2.2.1, S.2.2.2.2.2.2.2.2.2.2.2.2.2.2.2.2.1, S.2.2.2.2.2.2.2.2.2.2.2.2.2.2.2.2.2.1, S.2.2.2.2.2.2.2.2.2.2.2.2.2.2.2.2.2.2.1, S.2.2.2.2.2.2.2.2.2.2.2.2.2.2.2.2.2.2.2.1, t28, S.2.2.2.2.2.2.2.2.2.2.2.2.2.2.2.2.2.2.2.2.2.1, S.2.2.2.2.2.2.2.2.2.2.2.2.2.2.2.2.2.2.2.2.2.2.1, S.2.2.2.2.2.2.2.2.2.2.2.2.2.2.2.2.2.2.2.2.2.2.2.1, S.2.2.2.2.2.2.2.2.2.2.2.2.2.2.2.2.2.2.2.2.2.2.2.2.1, S.2.2.2.2.2.2.2.2.2.2.2.2.2.2.2.2.2.2.2.2.2.2.2.2.2.1, ()) H)
          (seqE (condE (fun S => some S.2.2.2.2.2.2.2.2.2.2.2.2.2.2.2.2.2.2.2.2.1)
           (doneE .normal)
           (doneE (.exit 4)))
          (seqE (blockE 5 (seqE (leafE fun S H k =>
               bindV (evIdxSlice 3 S.2.2.2.2.2.2.2.2.2.2.2.2.2.2.2.2.2.1 S.2.2.2.2.2.2.2.2.2.2.2.2.2.2.2.2.2.2.2.1) fun t30 =>
               bindV (evLoad H true 3 t30) fun t31 =>
               let t9 := newPtr H
               let H3 := pushBox H 65 z65
               bindV (evStore lo H3 3 t9 t31) fun H4 =>
               k (S.1, S.2.1, S.2.2.1, S.2.2.2.1, S.2.2.2.2.1, S.2.2.2.2.2.1, S.2.2.2.2.2.2.1, S.2.2.2.2.2.2.2.2.2.2.2.2.2.2.2.2.2.2.2.1, t9, S.2.2.2.2.2.2.2.2.2.1, S.2.2.2.2.2.2.2.2.2.2.1, S.2.2.2.2.2.2.2.2.2.2.2.1, S.2.2.2.2.2.2.2.2.2.2.2.2.1, S.2.2.2.2.2.2.2.2.2.2.2.2.2.1, S.2.2.2.2.2.2.2.2.2.2.2.2.2.2.1, S.2.2.2.2.2.2.2.2.2.2.2.2.2.2.2.1, S.2.2.2.2.2.2.2.2.2.2.2.2.2.2.2.2.1, S.2.2.2.2.2.2.2.2.2.2.2.2.2.2.2.2.2.1, S.2.2.2.2.2.2.2.2.2.2.2.2.2.2.2.2.2.2.1, S.2.2.2.2.2.2.2.2.2.2.2.2.2.2.2.2.2.2.2.1, S.2.2.2.2.2.2.2.2.2.2.2.2.2.2.2.2.2.2.2.2.1, S.2.2.2.2.2.2.2.2.2.2.2.2.2.2.2.2.2.2.2.2.2.1, S.2.2.2.2.2.2.2.2.2.2.2.2.2.2.2.2.2.2.2.2.2.2.1, S.2.2.2.2.2.2.2.2.2.2.2.2.2.2.2.2.2.2.2.2.2.2.2.1, S.2.2.2.2.2.2.2.2.2.2.2.2.2.2.2.2.2.2.2.2.2.2.2.2.1, S.2.2.2.2.2.2.2.2.2.2.2.2.2.2.2.2.2.2.2.2.2.2.2.2.2.1, ()) H4)
           (seqE (leafE fun S H k =>
               bindV (evIdxArr 3 1 S.2.2.2.2.2.2.2.2.1 (.int .i64 (.ofNat 0))) fun t32 =>
               bindV (evLoad H false 1 t32) fun t33 =>
               bindV (evEql .int t33 S.2.2.2.2.1) fun t35 =>
               k (S.1, S.2.1, S.2.2.1, S.2.2.2.1, S.2.2.2.2.1, S.2.2.2.2.2.1, S.2.2.2.2.2.2.1, S.2.2.2.2.2.2.2.1, S.2.2.2.2.2.2.2.2.1, S.2.2.2.2.2.2.2.2.2.1, S.2.2.2.2.2.2.2.2.2.2.1, S.2.2.2.2.2.2.2.2.2.2.2.1, S.2.2.2.2.2.2.2.2.2.2.2.2.1, S.2.2.2.2.2.2.2.2.2.2.2.2.2.1, S.2.2.2.2.2.2.2.2.2.2.2.2.2.2.1, S.2.2.2.2.2.2.2.2.2.2.2.2.2.2.2.1, S.2.2.2.2.2.2.2.2.2.2.2.2.2.2.2.2.1, S.2.2.2.2.2.2.2.2.2.2.2.2.2.2.2.2.2.1, S.2.2.2.2.2.2.2.2.2.2.2.2.2.2.2.2.2.2.1, S.2.2.2.2.2.2.2.2.2.2.2.2.2.2.2.2.2.2.2.1, S.2.2.2.2.2.2.2.2.2.2.2.2.2.2.2.2.2.2.2.2.1, t35, S.2.2.2.2.2.2.2.2.2.2.2.2.2.2.2.2.2.2.2.2.2.2.1, S.2.2.2.2.2.2.2.2.2.2.2.2.2.2.2.2.2.2.2.2.2.2.2.1, S.2.2.2.2.2.2.2.2.2.2.2.2.2.2.2.2.2.2.2.2.2.2.2.2.1, S.2.2.2.2.2.2.2.2.2.2.2.2.2.2.2.2.2.2.2.2.2.2.2.2.2.1, ()) H)
           (condE (fun S => some S.2.2.2.2.2.2.2.2.2.2.2.2.2.2.2.2.2.2.2.2.2.1)
            (leafE fun S H k =>
                bindVH (call lo 38 [S.2.2.2.2.2.2.1] H) fun t38 H5 =>
                bindV (evFill [(0, 1, S.2.2.2.2.2.2.2.1)] (zeros (cellsOf (.int .i64 (.ofNat 0))) 1)) fun c6 =>
                let t40 := newSlice H5 1 1
                let H7 := H5.push (.cells (Nat.mul 1 1) c6 3)
                bindVH (evAppend lo H7 3 1 8 t38 t40) fun t41 H8 =>
                bindV (evFill [(0, 1, t41)] (zeros (cellsOf (.slice none 0 0)) 1)) fun c9 =>
                let t42 := newSlice H8 1 1
                let H10 := H8.push (.cells (Nat.mul 1 1) c9 29)
                bindVH (evAppend lo H10 29 1 24 S.2.2.2.2.2.1 t42) fun t43 H11 =>
                k (S.1, S.2.1, S.2.2.1, S.2.2.2.1, S.2.2.2.2.1, t43, S.2.2.2.2.2.2.1, S.2.2.2.2.2.2.2.1, S.2.2.2.2.2.2.2.2.1, S.2.2.2.2.2.2.2.2.2.1, S.2.2.2.2.2.2.2.2.2.2.1, S.2.2.2.2.2.2.2.2.2.2.2.1, S.2.2.2.2.2.2.2.2.2.2.2.2.1, S.2.2.2.2.2.2.2.2.2.2.2.2.2.1, S.2.2.2.2.2.2.2.2.2.2.2.2.2.2.1, S.2.2.2.2.2.2.2.2.2.2.2.2.2.2.2.1, S.2.2.2.2.2.2.2.2.2.2.2.2.2.2.2.2.1, S.2.2.2.2.2.2.2.2.2.2.2.2.2.2.2.2.2.1, S.2.2.2.2.2.2.2.2.2.2.2.2.2.2.2.2.2.2.1, S.2.2.2.2.2.2.2.2.2.2.2.2.2.2.2.2.2.2.2.1, S.2.2.2.2.2.2.2.2.2.2.2.2.2.2.2.2.2.2.2.2.1, S.2.2.2.2.2.2.2.2.2.2.2.2.2.2.2.2.2.2.2.2.2.1, S.2.2.2.2.2.2.2.2.2.2.2.2.2.2.2.2.2.2.2.2.2.2.1, S.2.2.2.2.2.2.2.2.2.2.2.2.2.2.2.2.2.2.2.2.2.2.2.1, S.2.2.2.2.2.2.2.2.2.2.2.2.2.2.2.2.2.2.2.2.2.2.2.2.1, S.2.2.2.2.2.2.2.2.2.2.2.2.2.2.2.2.2.2.2.2.2.2.2.2.2.1, ()) H11)
            (doneE .normal)))))
          (leafE fun S H k =>
              bindV (evAdd S.2.2.2.2.2.2.2.2.2.2.2.2.2.2.2.2.2.2.2.1 (.int .i64 (.ofNat 1))) fun t44 =>
              k (S.1, S.2.1, S.2.2.1, S.2.2.2.1, S.2.2.2.2.1, S.2.2.2.2.2.1, S.2.2.2.2.2.2.1, S.2.2.2.2.2.2.2.1, S.2.2.2.2.2.2.2.2.1, S.2.2.2.2.2.2.2.2.2.1, S.2.2.2.2.2.2.2.2.2.2.1, S.2.2.2.2.2.2.2.2.2.2.2.1, S.2.2.2.2.2.2.2.2.2.2.2.2.1, S.2.2.2.2.2.2.2.2.2.2.2.2.2.1, S.2.2.2.2.2.2.2.2.2.2.2.2.2.2.1, S.2.2.2.2.2.2.2.2.2.2.2.2.2.2.2.1, S.2.2.2.2.2.2.2.2.2.2.2.2.2.2.2.2.1, S.2.2.2.2.2.2.2.2.2.2.2.2.2.2.2.2.2.1, S.2.2.2.2.2.2.2.2.2.2.2.2.2.2.2.2.2.2.1, t44, S.2.2.2.2.2.2.2.2.2.2.2.2.2.2.2.2.2.2.2.2.1, S.2.2.2.2.2.2.2.2.2.2.2.2.2.2.2.2.2.2.2.2.2.1, S.2.2.2.2.2.2.2.2.2.2.2.2.2.2.2.2.2.2.2.2.2.2.1, S.2.2.2.2.2.2.2.2.2.2.2.2.2.2.2.2.2.2.2.2.2.2.2.1, S.2.2.2.2.2.2.2.2.2.2.2.2.2.2.2.2.2.2.2.2.2.2.2.2.1, S.2.2.2.2.2.2.2.2.2.2.2.2.2.2.2.2.2.2.2.2.2.2.2.2.2.1, ()) H)))) fuel)))))
       (leafE fun S H k =>
           bindV (evAdd S.2.2.2.2.2.2.2.2.2.2.2.2.2.2.2.1 (.int .i64 (.ofNat 1))) fun t45 =>
           k (S.1, S.2.1, S.2.2.1, S.2.2.2.1, S.2.2.2.2.1, S.2.2.2.2.2.1, S.2.2.2.2.2.2.1, S.2.2.2.2.2.2.2.1, S.2.2.2.2.2.2.2.2.1, S.2.2.2.2.2.2.2.2.2.1, S.2.2.2.2.2.2.2.2.2.2.1, S.2.2.2.2.2.2.2.2.2.2.2.1, S.2.2.2.2.2.2.2.2.2.2.2.2.1, S.2.2.2.2.2.2.2.2.2.2.2.2.2.1, S.2.2.2.2.2.2.2.2.2.2.2.2.2.2.1, t45, S.2.2.2.2.2.2.2.2.2.2.2.2.2.2.2.2.1, S.2.2.2.2.2.2.2.2.2.2.2.2.2.2.2.2.2.1, S.2.2.2.2.2.2.2.2.2.2.2.2.2.2.2.2.2.2.1, S.2.2.2.2.2.2.2.2.2.2.2.2.2.2.2.2.2.2.2.1, S.2.2.2.2.2.2.2.2.2.2.2.2.2.2.2.2.2.2.2.2.1, S.2.2.2.2.2.2.2.2.2.2.2.2.2.2.2.2.2.2.2.2.2.1, S.2.2.2.2.2.2.2.2.2.2.2.2.2.2.2.2.2.2.2.2.2.2.1, S.2.2.2.2.2.2.2.2.2.2.2.2.2.2.2.2.2.2.2.2.2.2.2.1, S.2.2.2.2.2.2.2.2.2.2.2.2.2.2.2.2.2.2.2.2.2.2.2.2.1, S.2.2.2.2.2.2.2.2.2.2.2.2.2.2.2.2.2.2.2.2.2.2.2.2.2.1, ()) H)))) fuel)))
     (leafE fun S H k =>
         k (S.1, S.2.1, S.2.2.1, S.2.2.2.2.2.1, S.2.2.2.2.1, S.2.2.2.2.2.1, S.2.2.2.2.2.2.1, S.2.2.2.2.2.2.2.1, S.2.2.2.2.2.2.2.2.1, S.2.2.2.2.2.2.2.2.2.1, S.2.2.2.2.2.2.2.2.2.2.1, S.2.2.2.2.2.2.2.2.2.2.2.1, S.2.2.2.2.2.2.2.2.2.2.2.2.1, S.2.2.2.2.2.2.2.2.2.2.2.2.2.1, S.2.2.2.2.2.2.2.2.2.2.2.2.2.2.1, S.2.2.2.2.2.2.2.2.2.2.2.2.2.2.2.1, S.2.2.2.2.2.2.2.2.2.2.2.2.2.2.2.2.1, S.2.2.2.2.2.2.2.2.2.2.2.2.2.2.2.2.2.1, S.2.2.2.2.2.2.2.2.2.2.2.2.2.2.2.2.2.2.1, S.2.2.2.2.2.2.2.2.2.2.2.2.2.2.2.2.2.2.2.1, S.2.2.2.2.2.2.2.2.2.2.2.2.2.2.2.2.2.2.2.2.1, S.2.2.2.2.2.2.2.2.2.2.2.2.2.2.2.2.2.2.2.2.2.1, S.2.2.2.2.2.2.2.2.2.2.2.2.2.2.2.2.2.2.2.2.2.2.1, S.2.2.2.2.2.2.2.2.2.2.2.2.2.2.2.2.2.2.2.2.2.2.2.1, S.2.2.2.2.2.2.2.2.2.2.2.2.2.2.2.2.2.2.2.2.2.2.2.2.1, S.2.2.2.2.2.2.2.2.2.2.2.2.2.2.2.2.2.2.2.2.2.2.2.2.2.1, ()) H)))))
    (leafE fun S H k =>
        bindV (evAdd S.2.2.2.2.2.2.2.2.2.2.2.1 (.int .i64 (.ofNat 1))) fun t47 =>
        k (S.1, S.2.1, S.2.2.1, S.2.2.2.1, S.2.2.2.2.1, S.2.2.2.2.2.1, S.2.2.2.2.2.2.1, S.2.2.2.2.2.2.2.1, S.2.2.2.2.2.2.2.2.1, S.2.2.2.2.2.2.2.2.2.1, S.2.2.2.2.2.2.2.2.2.2.1, t47, S.2.2.2.2.2.2.2.2.2.2.2.2.1, S.2.2.2.2.2.2.2.2.2.2.2.2.2.1, S.2.2.2.2.2.2.2.2.2.2.2.2.2.2.1, S.2.2.2.2.2.2.2.2.2.2.2.2.2.2.2.1, S.2.2.2.2.2.2.2.2.2.2.2.2.2.2.2.2.1, S.2.2.2.2.2.2.2.2.2.2.2.2.2.2.2.2.2.1, S.2.2.2.2.2.2.2.2.2.2.2.2.2.2.2.2.2.2.1, S.2.2.2.2.2.2.2.2.2.2.2.2.2.2.2.2.2.2.2.1, S.2.2.2.2.2.2.2.2.2.2.2.2.2.2.2.2.2.2.2.2.1, S.2.2.2.2.2.2.2.2.2.2.2.2.2.2.2.2.2.2.2.2.2.1, S.2.2.2.2.2.2.2.2.2.2.2.2.2.2.2.2.2.2.2.2.2.2.1, S.2.2.2.2.2.2.2.2.2.2.2.2.2.2.2.2.2.2.2.2.2.2.2.1, S.2.2.2.2.2.2.2.2.2.2.2.2.2.2.2.2.2.2.2.2.2.2.2.2.1, S.2.2.2.2.2.2.2.2.2.2.2.2.2.2.2.2.2.2.2.2.2.2.2.2.2.1, ()) H)))) fuel)))
  (seqE (leafE fun S H k =>
      bindVH (call lo 76 [S.2.2.2.1, (.func (.func 99) ⟨[]⟩ ⟨[S.2.1]⟩)] H) fun t50 H12 =>
      k (S.1, S.2.1, S.2.2.1, t50, S.2.2.2.2.1, S.2.2.2.2.2.1, S.2.2.2.2.2.2.1, S.2.2.2.2.2.2.2.1, S.2.2.2.2.2.2.2.2.1, S.2.2.2.2.2.2.2.2.2.1, S.2.2.2.2.2.2.2.2.2.2.1, S.2.2.2.2.2.2.2.2.2.2.2.1, S.2.2.2.2.2.2.2.2.2.2.2.2.1, S.2.2.2.2.2.2.2.2.2.2.2.2.2.1, S.2.2.2.2.2.2.2.2.2.2.2.2.2.2.1, S.2.2.2.2.2.2.2.2.2.2.2.2.2.2.2.1, S.2.2.2.2.2.2.2.2.2.2.2.2.2.2.2.2.1, S.2.2.2.2.2.2.2.2.2.2.2.2.2.2.2.2.2.1, S.2.2.2.2.2.2.2.2.2.2.2.2.2.2.2.2.2.2.1, S.2.2.2.2.2.2.2.2.2.2.2.2.2.2.2.2.2.2.2.1, S.2.2.2.2.2.2.2.2.2.2.2.2.2.2.2.2.2.2.2.2.1, S.2.2.2.2.2.2.2.2.2.2.2.2.2.2.2.2.2.2.2.2.2.1, S.2.2.2.2.2.2.2.2.2.2.2.2.2.2.2.2.2.2.2.2.2.2.1, S.2.2.2.2.2.2.2.2.2.2.2.2.2.2.2.2.2.2.2.2.2.2.2.1, S.2.2.2.2.2.2.2.2.2.2.2.2.2.2.2.2.2.2.2.2.2.2.2.2.1, S.2.2.2.2.2.2.2.2.2.2.2.2.2.2.2.2.2.2.2.2.2.2.2.2.2.1, ()) H12)
  (seqE (seqE (leafE fun S H k =>
      bindV (evLenS S.2.2.2.1) fun t52 =>
      k (S.1, S.2.1, S.2.2.1, S.2.2.2.1, S.2.2.2.2.1, S.2.2.2.2.2.1, S.2.2.2.2.2.2.1, S.2.2.2.2.2.2.2.1, S.2.2.2.2.2.2.2.2.1, S.2.2.2.2.2.2.2.2.2.1, S.2.2.2.2.2.2.2.2.2.2.1, S.2.2.2.2.2.2.2.2.2.2.2.1, S.2.2.2.2.2.2.2.2.2.2.2.2.1, S.2.2.2.2.2.2.2.2.2.2.2.2.2.1, S.2.2.2.2.2.2.2.2.2.2.2.2.2.2.1, S.2.2.2.2.2.2.2.2.2.2.2.2.2.2.2.1, S.2.2.2.2.2.2.2.2.2.2.2.2.2.2.2.2.1, S.2.2.2.2.2.2.2.2.2.2.2.2.2.2.2.2.2.1, S.2.2.2.2.2.2.2.2.2.2.2.2.2.2.2.2.2.2.1, S.2.2.2.2.2.2.2.2.2.2.2.2.2.2.2.2.2.2.2.1, S.2.2.2.2.2.2.2.2.2.2.2.2.2.2.2.2.2.2.2.2.1, S.2.2.2.2.2.2.2.2.2.2.2.2.2.2.2.2.2.2.2.2.2.1, S.2.2.2.1, t52, (.int .i64 (.ofNat 0)), S.2.2.2.2.2.2.2.2.2.2.2.2.2.2.2.2.2.2.2.2.2.2.2.2.2.1, ()) H)
  (blockE 6 (loopE (seqE (leafE fun S H k =>
        bindV (evLss S.2.2.2.2.2.2.2.2.2.2.2.2.2.2.2.2.2.2.2.2.2.2.2.2.1 S.2.2.2.2.2.2.2.2.2.2.2.2.2.2.2.2.2.2.2.2.2.2.2.1) fun t54 =>
        k (S.1, S.2.1, S.2.2.1, S.2.2.2.1, S.2.2.2.2.1, S.2.2.2.2.2.1, S.2.2.2.2.2.2.1, S.2.2.2.2.2.2.2.1, S.2.2.2.2.2.2.2.2.1, S.2.2.2.2.2.2.2.2.2.1, S.2.2.2.2.2.2.2.2.2.2.1, S.2.2.2.2.2.2.2.2.2.2.2.1, S.2.2.2.2.2.2.2.2.2.2.2.2.1, S.2.2.2.2.2.2.2.2.2.2.2.2.2.1, S.2.2.2.2.2.2.2.2.2.2.2.2.2.2.1, S.2.2.2.2.2.2.2.2.2.2.2.2.2.2.2.1, S.2.2.2.2.2.2.2.2.2.2.2.2.2.2.2.2.1, S.2.2.2.2.2.2.2.2.2.2.2.2.2.2.2.2.2.1, S.2.2.2.2.2.2.2.2.2.2.2.2.2.2.2.2.2.2.1, S.2.2.2.2.2.2.2.2.2.2.2.2.2.2.2.2.2.2.2.1, S.2.2.2.2.2.2.2.2.2.2.2.2.2.2.2.2.2.2.2.2.1, S.2.2.2.2.2.2.2.2.2.2.2.2.2.2.2.2.2.2.2.2.2.1, S.2.2.2.2.2.2.2.2.2.2.2.2.2.2.2.2.2.2.2.2.2.2.1, S.2.2.2.2.2.2.2.2.2.2.2.2.2.2.2.2.2.2.2.2.2.2.2.1, S.2.2.2.2.2.2.2.2.2.2.2.2.2.2.2.2.2.2.2.2.2.2.2.2.1, t54, ()) H)
    (seqE (condE (fun S => some S.2.2.2.2.2.2.2.2.2.2.2.2.2.2.2.2.2.2.2.2.2.2.2.2.2.1)
     (doneE .normal)
     (doneE (.exit 6)))
    (seqE (blockE 7 (seqE (leafE fun S H k =>
         bindV (evIdxSlice 1 S.2.2.2.2.2.2.2.2.2.2.2.2.2.2.2.2.2.2.2.2.2.2.1 S.2.2.2.2.2.2.2.2.2.2.2.2.2.2.2.2.2.2.2.2.2.2.2.2.1) fun t55 =>
         bindV (evLoad H false 1 t55) fun t56 =>
         k (S.1, S.2.1, S.2.2.1, S.2.2.2.1, S.2.2.2.2.1, S.2.2.2.2.2.1, S.2.2.2.2.2.2.1, S.2.2.2.2.2.2.2.1, S.2.2.2.2.2.2.2.2.1, t56, S.2.2.2.2.2.2.2.2.2.2.1, S.2.2.2.2.2.2.2.2.2.2.2.1, S.2.2.2.2.2.2.2.2.2.2.2.2.1, S.2.2.2.2.2.2.2.2.2.2.2.2.2.1, S.2.2.2.2.2.2.2.2.2.2.2.2.2.2.1, S.2.2.2.2.2.2.2.2.2.2.2.2.2.2.2.1, S.2.2.2.2.2.2.2.2.2.2.2.2.2.2.2.2.1, S.2.2.2.2.2.2.2.2.2.2.2.2.2.2.2.2.2.1, S.2.2.2.2.2.2.2.2.2.2.2.2.2.2.2.2.2.2.1, S.2.2.2.2.2.2.2.2.2.2.2.2.2.2.2.2.2.2.2.1, S.2.2.2.2.2.2.2.2.2.2.2.2.2.2.2.2.2.2.2.2.1, S.2.2.2.2.2.2.2.2.2.2.2.2.2.2.2.2.2.2.2.2.2.1, S.2.2.2.2.2.2.2.2.2.2.2.2.2.2.2.2.2.2.2.2.2.2.1, S.2.2.2.2.2.2.2.2.2.2.2.2.2.2.2.2.2.2.2.2.2.2.2.1, S.2.2.2.2.2.2.2.2.2.2.2.2.2.2.2.2.2.2.2.2.2.2.2.2.1, S.2.2.2.2.2.2.2.2.2.2.2.2.2.2.2.2.2.2.2.2.2.2.2.2.2.1, ()) H)
     (leafE fun S H k =>
         bindVH (call lo 56 [S.2.2.2.2.2.2.2.2.2.1] H) fun t58 H13 =>
         k (S.1, S.2.1, S.2.2.1, S.2.2.2.1, S.2.2.2.2.1, S.2.2.2.2.2.1, S.2.2.2.2.2.2.1, S.2.2.2.2.2.2.2.1, S.2.2.2.2.2.2.2.2.1, S.2.2.2.2.2.2.2.2.2.1, S.2.2.2.2.2.2.2.2.2.2.1, S.2.2.2.2.2.2.2.2.2.2.2.1, S.2.2.2.2.2.2.2.2.2.2.2.2.1, S.2.2.2.2.2.2.2.2.2.2.2.2.2.1, S.2.2.2.2.2.2.2.2.2.2.2.2.2.2.1, S.2.2.2.2.2.2.2.2.2.2.2.2.2.2.2.1, S.2.2.2.2.2.2.2.2.2.2.2.2.2.2.2.2.1, S.2.2.2.2.2.2.2.2.2.2.2.2.2.2.2.2.2.1, S.2.2.2.2.2.2.2.2.2.2.2.2.2.2.2.2.2.2.1, S.2.2.2.2.2.2.2.2.2.2.2.2.2.2.2.2.2.2.2.1, S.2.2.2.2.2.2.2.2.2.2.2.2.2.2.2.2.2.2.2.2.1, S.2.2.2.2.2.2.2.2.2.2.2.2.2.2.2.2.2.2.2.2.2.1, S.2.2.2.2.2.2.2.2.2.2.2.2.2.2.2.2.2.2.2.2.2.2.1, S.2.2.2.2.2.2.2.2.2.2.2.2.2.2.2.2.2.2.2.2.2.2.2.1, S.2.2.2.2.2.2.2.2.2.2.2.2.2.2.2.2.2.2.2.2.2.2.2.2.1, S.2.2.2.2.2.2.2.2.2.2.2.2.2.2.2.2.2.2.2.2.2.2.2.2.2.1, ()) H13)))
    (leafE fun S H k =>
        bindV (evAdd S.2.2.2.2.2.2.2.2.2.2.2.2.2.2.2.2.2.2.2.2.2.2.2.2.1 (.int .i64 (.ofNat 1))) fun t59 =>
        k (S.1, S.2.1, S.2.2.1, S.2.2.2.1, S.2.2.2.2.1, S.2.2.2.2.2.1, S.2.2.2.2.2.2.1, S.2.2.2.2.2.2.2.1, S.2.2.2.2.2.2.2.2.1, S.2.2.2.2.2.2.2.2.2.1, S.2.2.2.2.2.2.2.2.2.2.1, S.2.2.2.2.2.2.2.2.2.2.2.1, S.2.2.2.2.2.2.2.2.2.2.2.2.1, S.2.2.2.2.2.2.2.2.2.2.2.2.2.1, S.2.2.2.2.2.2.2.2.2.2.2.2.2.2.1, S.2.2.2.2.2.2.2.2.2.2.2.2.2.2.2.1, S.2.2.2.2.2.2.2.2.2.2.2.2.2.2.2.2.1, S.2.2.2.2.2.2.2.2.2.2.2.2.2.2.2.2.2.1, S.2.2.2.2.2.2.2.2.2.2.2.2.2.2.2.2.2.2.1, S.2.2.2.2.2.2.2.2.2.2.2.2.2.2.2.2.2.2.2.1, S.2.2.2.2.2.2.2.2.2.2.2.2.2.2.2.2.2.2.2.2.1, S.2.2.2.2.2.2.2.2.2.2.2.2.2.2.2.2.2.2.2.2.2.1, S.2.2.2.2.2.2.2.2.2.2.2.2.2.2.2.2.2.2.2.2.2.2.1, S.2.2.2.2.2.2.2.2.2.2.2.2.2.2.2.2.2.2.2.2.2.2.2.1, t59, S.2.2.2.2.2.2.2.2.2.2.2.2.2.2.2.2.2.2.2.2.2.2.2.2.2.1, ()) H)))) fuel)))
  (seqE (leafE fun S H k =>
      bindVH (call lo 100 [S.2.2.2.1, (.func (.func 50) #[] #[])] H) fun t61 H14 =>
      k (S.1, S.2.1, S.2.2.1, S.2.2.2.1, S.2.2.2.2.1, S.2.2.2.2.2.1, S.2.2.2.2.2.2.1, S.2.2.2.2.2.2.2.1, S.2.2.2.2.2.2.2.2.1, S.2.2.2.2.2.2.2.2.2.1, S.2.2.2.2.2.2.2.2.2.2.1, S.2.2.2.2.2.2.2.2.2.2.2.1, S.2.2.2.2.2.2.2.2.2.2.2.2.1, S.2.2.2.2.2.2.2.2.2.2.2.2.2.1, S.2.2.2.2.2.2.2.2.2.2.2.2.2.2.1, S.2.2.2.2.2.2.2.2.2.2.2.2.2.2.2.1, S.2.2.2.2.2.2.2.2.2.2.2.2.2.2.2.2.1, S.2.2.2.2.2.2.2.2.2.2.2.2.2.2.2.2.2.1, S.2.2.2.2.2.2.2.2.2.2.2.2.2.2.2.2.2.2.1, S.2.2.2.2.2.2.2.2.2.2.2.2.2.2.2.2.2.2.2.1, S.2.2.2.2.2.2.2.2.2.2.2.2.2.2.2.2.2.2.2.2.1, S.2.2.2.2.2.2.2.2.2.2.2.2.2.2.2.2.2.2.2.2.2.1, S.2.2.2.2.2.2.2.2.2.2.2.2.2.2.2.2.2.2.2.2.2.2.1, S.2.2.2.2.2.2.2.2.2.2.2.2.2.2.2.2.2.2.2.2.2.2.2.1, S.2.2.2.2.2.2.2.2.2.2.2.2.2.2.2.2.2.2.2.2.2.2.2.2.1, S.2.2.2.2.2.2.2.2.2.2.2.2.2.2.2.2.2.2.2.2.2.2.2.2.2.1, ()) H14)
  (seqE (leafE fun S H k =>
      k (S.1, S.2.1, S.2.2.2.1, S.2.2.2.1, S.2.2.2.2.1, S.2.2.2.2.2.1, S.2.2.2.2.2.2.1, S.2.2.2.2.2.2.2.1, S.2.2.2.2.2.2.2.2.1, S.2.2.2.2.2.2.2.2.2.1, S.2.2.2.2.2.2.2.2.2.2.1, S.2.2.2.2.2.2.2.2.2.2.2.1, S.2.2.2.2.2.2.2.2.2.2.2.2.1, S.2.2.2.2.2.2.2.2.2.2.2.2.2.1, S.2.2.2.2.2.2.2.2.2.2.2.2.2.2.1, S.2.2.2.2.2.2.2.2.2.2.2.2.2.2.2.1, S.2.2.2.2.2.2.2.2.2.2.2.2.2.2.2.2.1, S.2.2.2.2.2.2.2.2.2.2.2.2.2.2.2.2.2.1, S.2.2.2.2.2.2.2.2.2.2.2.2.2.2.2.2.2.2.1, S.2.2.2.2.2.2.2.2.2.2.2.2.2.2.2.2.2.2.2.1, S.2.2.2.2.2.2.2.2.2.2.2.2.2.2.2.2.2.2.2.2.1, S.2.2.2.2.2.2.2.2.2.2.2.2.2.2.2.2.2.2.2.2.2.1, S.2.2.2.2.2.2.2.2.2.2.2.2.2.2.2.2.2.2.2.2.2.2.1, S.2.2.2.2.2.2.2.2.2.2.2.2.2.2.2.2.2.2.2.2.2.2.2.1, S.2.2.2.2.2.2.2.2.2.2.2.2.2.2.2.2.2.2.2.2.2.2.2.2.1, S.2.2.2.2.2.2.2.2.2.2.2.2.2.2.2.2.2.2.2.2.2.2.2.2.2.1, ()) H)
  (doneE .ret))))))))

def F72 (call : CallF) (lo : Nat) (args : List Value) (H : AH) : Option (Value × AH) :=
  leave .all H (bindV (C72 call (lowOf .all lo H) (argAt args 0, argAt args 1, argAt args 2, argAt args 3, argAt args 4, argAt args 5, argAt args 7, argAt args 8, argAt args 9, argAt args 11, argAt args 14, argAt args 15, argAt args 16, argAt args 18, argAt args 19, argAt args 20, argAt args 21, argAt args 25, argAt args 26, argAt args 27, argAt args 28, argAt args 35, argAt args 51, argAt args 52, argAt args 53, argAt args 54, ()) H) fun p => resE p.1 (some (oneOf [p.2.1.2.2.1], p.2.2)))

theorem F72_eq (call : CallF) (lo : Nat) (args : List Value) (H : AH) : evFn P ctx call lo 72 args H = F72 call lo args H := by kernel_rfl

/-- (novaculite/drain.Hill).cost -/
def C73 (call : CallF) (lo : Nat) : Piece (Value × Value × Value × Value × Value × Value × Value × Value × Value × Value × Unit) :=
  (seqE (leafE fun S H k =>
      let t2 := newPtr H
      let H0 := pushBox H 27 S.1
      k (S.1, S.2.1, t2, (.int .i64 (.ofNat 0)), S.2.2.2.2.1, S.2.2.2.2.2.1, S.2.2.2.2.2.2.1, S.2.2.2.2.2.2.2.1, S.2.2.2.2.2.2.2.2.1, S.2.2.2.2.2.2.2.2.2.1, ()) H0)
  (seqE (leafE fun S H k =>
      k (S.1, S.2.1, S.2.2.1, S.2.2.2.1, (.int .i64 (.ofNat 0)), S.2.2.2.2.2.1, S.2.2.2.2.2.2.1, S.2.2.2.2.2.2.2.1, S.2.2.2.2.2.2.2.2.1, S.2.2.2.2.2.2.2.2.2.1, ()) H)
  (seqE (seqE (leafE fun S H k =>
      bindV (evLenS S.2.1) fun t9 =>
      k (S.1, S.2.1, S.2.2.1, S.2.2.2.1, S.2.2.2.2.1, S.2.2.2.2.2.1, S.2.1, t9, (.int .i64 (.ofNat 0)), S.2.2.2.2.2.2.2.2.2.1, ()) H)
  (blockE 0 (loopE (seqE (leafE fun S H k =>
        bindV (evLss S.2.2.2.2.2.2.2.2.1 S.2.2.2.2.2.2.2.1) fun t11 =>
        k (S.1, S.2.1, S.2.2.1, S.2.2.2.1, S.2.2.2.2.1, S.2.2.2.2.2.1, S.2.2.2.2.2.2.1, S.2.2.2.2.2.2.2.1, S.2.2.2.2.2.2.2.2.1, t11, ()) H)
    (seqE (condE (fun S => some S.2.2.2.2.2.2.2.2.2.1)
     (doneE .normal)
     (doneE (.exit 0)))
    (seqE (blockE 1 (seqE (leafE fun S H k =>
         bindV (evIdxSlice 1 S.2.2.2.2.2.2.1 S.2.2.2.2.2.2.2.2.1) fun t12 =>
         bindV (evLoad H false 1 t12) fun t13 =>
         k (S.1, S.2.1, S.2.2.1, S.2.2.2.1, S.2.2.2.2.1, t13, S.2.2.2.2.2.2.1, S.2.2.2.2.2.2.2.1, S.2.2.2.2.2.2.2.2.1, S.2.2.2.2.2.2.2.2.2.1, ()) H)
     (leafE fun S H k =>
         bindV (evShift S.2.2.1 1) fun t15 =>
         bindV (evLoad H false 1 t15) fun t16 =>
         bindV (evIdxSlice 3 t16 S.2.2.2.2.2.1) fun t18 =>
         bindV (evIdxArr 3 1 t18 (.int .i64 (.ofNat 2))) fun t19 =>
         bindV (evLoad H false 1 t19) fun t20 =>
         bindV (evAdd S.2.2.2.2.1 t20) fun t21 =>
         k (S.1, S.2.1, S.2.2.1, S.2.2.2.1, t21, S.2.2.2.2.2.1, S.2.2.2.2.2.2.1, S.2.2.2.2.2.2.2.1, S.2.2.2.2.2.2.2.2.1, S.2.2.2.2.2.2.2.2.2.1, ()) H)))
    (leafE fun S H k =>
        bindV (evAdd S.2.2.2.2.2.2.2.2.1 (.int .i64 (.ofNat 1))) fun t22 =>
        k (S.1, S.2.1, S.2.2.1, S.2.2.2.1, S.2.2.2.2.1, S.2.2.2.2.2.1, S.2.2.2.2.2.2.1, S.2.2.2.2.2.2.2.1, t22, S.2.2.2.2.2.2.2.2.2.1, ()) H)))) fuel)))
  (seqE (leafE fun S H k =>
      k (S.1, S.2.1, S.2.2.1, S.2.2.2.2.1, S.2.2.2.2.1, S.2.2.2.2.2.1, S.2.2.2.2.2.2.1, S.2.2.2.2.2.2.2.1, S.2.2.2.2.2.2.2.2.1, S.2.2.2.2.2.2.2.2.2.1, ()) H)
  (doneE .ret)))))

def F73 (call : CallF) (lo : Nat) (args : List Value) (H : AH) : Option (Value × AH) :=
  leave .all H (bindV (C73 call (lowOf .all lo H) (argAt args 0, argAt args 1, argAt args 2, argAt args 4, argAt args 5, argAt args 7, argAt args 8, argAt args 9, argAt args 10, argAt args 11, ()) H) fun p => resE p.1 (some (oneOf [p.2.1.2.2.2.1], p.2.2)))

theorem F73_eq (call : CallF) (lo : Nat) (args : List Value) (H : AH) : evFn P ctx call lo 73 args H = F73 call lo args H := by kernel_rfl

/-- slices.MinFunc[[][]int,[]int] -/
def C74 (call : CallF) (lo : Nat) : Piece (Value × Value × Value × Value × Value × Value × Value × Value × Unit) :=
  (seqE (leafE fun S H k =>
      k (S.1, S.2.1, (.slice none 0 0), S.2.2.2.1, S.2.2.2.2.1, S.2.2.2.2.2.1, S.2.2.2.2.2.2.1, S.2.2.2.2.2.2.2.1, ()) H)
  (seqE (seqE (leafE fun S H k =>
      bindV (evLenS S.1) fun t8 =>
      bindV (evLss t8 (.int .i64 (.ofNat 1))) fun t9 =>
      k (S.1, S.2.1, S.2.2.1, S.2.2.2.1, S.2.2.2.2.1, t9, S.2.2.2.2.2.2.1, S.2.2.2.2.2.2.2.1, ()) H)
  (condE (fun S => some S.2.2.2.2.2.1)
   (leafE fun S H k =>
       bindV ((none : Option Value)) fun _ =>
       k (S.1, S.2.1, S.2.2.1, S.2.2.2.1, S.2.2.2.2.1, S.2.2.2.2.2.1, S.2.2.2.2.2.2.1, S.2.2.2.2.2.2.2.1, ()) H)
   (doneE .normal)))
  (seqE (leafE fun S H k =>
      bindV (evIdxSlice 1 S.1 (.int .i64 (.ofNat 0))) fun t12 =>
      bindV (evLoad H false 1 t12) fun t13 =>
      k (S.1, S.2.1, S.2.2.1, t13, S.2.2.2.2.1, S.2.2.2.2.2.1, S.2.2.2.2.2.2.1, S.2.2.2.2.2.2.2.1, ()) H)
  (seqE (seqE (leafE fun S H k =>
      k (S.1, S.2.1, S.2.2.1, S.2.2.2.1, (.int .i64 (.ofNat 1)), S.2.2.2.2.2.1, S.2.2.2.2.2.2.1, S.2.2.2.2.2.2.2.1, ()) H)
  (blockE 0 (loopE (seqE (seqE (leafE fun S H k =>
        bindV (evLenS S.1) fun t16 =>
        bindV (evLss S.2.2.2.2.1 t16) fun t17 =>
        k (S.1, S.2.1, S.2.2.1, S.2.2.2.1, S.2.2.2.2.1, S.2.2.2.2.2.1, t17, S.2.2.2.2.2.2.2.1, ()) H)
    (condE (fun S => some S.2.2.2.2.2.2.1)
     (doneE .normal)
     (doneE (.exit 0))))
    (seqE (blockE 1 (seqE (leafE fun S H k =>
         bindV (evIdxSlice 1 S.1 S.2.2.2.2.1) fun t23 =>
         bindV (evLoad H false 1 t23) fun t24 =>
         callVal call lo S.2.1 [t24, S.2.2.2.1] H fun t26 H0 =>
         bindV (evLss t26 (.int .i64 (.ofNat 0))) fun t27 =>
         k (S.1, S.2.1, S.2.2.1, S.2.2.2.1, S.2.2.2.2.1, S.2.2.2.2.2.1, S.2.2.2.2.2.2.1, t27, ()) H0)
     (condE (fun S => some S.2.2.2.2.2.2.2.1)
      (leafE fun S H k =>
          bindV (evIdxSlice 1 S.1 S.2.2.2.2.1) fun t30 =>
          bindV (evLoad H false 1 t30) fun t31 =>
          k (S.1, S.2.1, S.2.2.1, t31, S.2.2.2.2.1, S.2.2.2.2.2.1, S.2.2.2.2.2.2.1, S.2.2.2.2.2.2.2.1, ()) H)
      (doneE .normal))))
    (leafE fun S H k =>
        bindV (evAdd S.2.2.2.2.1 (.int .i64 (.ofNat 1))) fun t19 =>
        k (S.1, S.2.1, S.2.2.1, S.2.2.2.1, t19, S.2.2.2.2.2.1, S.2.2.2.2.2.2.1, S.2.2.2.2.2.2.2.1, ()) H))) fuel)))
  (seqE (leafE fun S H k =>
      k (S.1, S.2.1, S.2.2.2.1, S.2.2.2.1, S.2.2.2.2.1, S.2.2.2.2.2.1, S.2.2.2.2.2.2.1, S.2.2.2.2.2.2.2.1, ()) H)
  (doneE .ret))))))

def F74 (call : CallF) (lo : Nat) (args : List Value) (H : AH) : Option (Value × AH) :=
  leave .all H (bindV (C74 call (lowOf .all lo H) (argAt args 0, argAt args 1, argAt args 4, argAt args 5, argAt args 6, argAt args 9, argAt args 17, argAt args 27, ()) H) fun p => resE p.1 (some (oneOf [p.2.1.2.2.1], p.2.2)))

theorem F74_eq (call : CallF) (lo : Nat) (args : List Value) (H : AH) : evFn P ctx call lo 74 args H = F74 call lo args H := by kernel_rfl

/-- (novaculite/drain.Hill).cheapest$1 -/
def C75 (call : CallF) (lo : Nat) : Piece (Value × Value × Value × Value × Unit) :=
  (seqE (leafE fun S H k =>
      k (S.1, S.2.1, S.2.2.1, (.int .i64 (.ofNat 0)), ()) H)
  (seqE (leafE fun S H k =>
      bindV (evLoad H true 2 S.2.2.1) fun t6 =>
      need (Nat.ble lo H.next) <|
      bindVH (call H.next 73 [t6, S.1] H) fun t8 H0 =>
      bindV (evLoad H0 true 2 S.2.2.1) fun t9 =>
      bindVH (call lo 73 [t9, S.2.1] H0) fun t11 H1 =>
      bindV (evSub t8 t11) fun t12 =>
      k (S.1, S.2.1, S.2.2.1, t12, ()) H1)
  (doneE .ret)))

def F75 (call : CallF) (lo : Nat) (args : List Value) (H : AH) : Option (Value × AH) :=
  leave .all H (bindV (C75 call (lowOf .all lo H) (argAt args 0, argAt args 1, argAt args 2, argAt args 5, ()) H) fun p => resE p.1 (some (oneOf [p.2.1.2.2.2.1], p.2.2)))

theorem F75_eq (call : CallF) (lo : Nat) (args : List Value) (H : AH) : evFn P ctx call lo 75 args H = F75 call lo args H := by kernel_rfl

/-- slices.DeleteFunc[[][]int,[]int] -/
def C76 (call : CallF) (lo : Nat) : Piece (Value × Value × Value × Value × Value × Value × Value × Value × Value × Unit) :=
  (seqE (leafE fun S H k =>
      k (S.1, S.2.1, (.slice none 0 0), S.2.2.2.1, S.2.2.2.2.1, S.2.2.2.2.2.1, S.2.2.2.2.2.2.1, S.2.2.2.2.2.2.2.1, S.2.2.2.2.2.2.2.2.1, ()) H)
  (seqE (leafE fun S H k =>
      bindVH (call lo 101 [S.1, S.2.1] H) fun t10 H0 =>
      k (S.1, S.2.1, S.2.2.1, t10, S.2.2.2.2.1, S.2.2.2.2.2.1, S.2.2.2.2.2.2.1, S.2.2.2.2.2.2.2.1, S.2.2.2.2.2.2.2.2.1, ()) H0)
  (seqE (seqE (leafE fun S H k =>
      bindV (evEql .int S.2.2.2.1 (.int .i64 (.negSucc 0))) fun t12 =>
      k (S.1, S.2.1, S.2.2.1, S.2.2.2.1, S.2.2.2.2.1, S.2.2.2.2.2.1, t12, S.2.2.2.2.2.2.2.1, S.2.2.2.2.2.2.2.2.1, ()) H)
  (condE (fun S => some S.2.2.2.2.2.2.1)
   (seqE (leafE fun S H k =>
       k (S.1, S.2.1, S.1, S.2.2.2.1, S.2.2.2.2.1, S.2.2.2.2.2.1, S.2.2.2.2.2.2.1, S.2.2.2.2.2.2.2.1, S.2.2.2.2.2.2.2.2.1, ()) H)
   (doneE .ret))
   (doneE .normal)))
  (seqE (seqE (leafE fun S H k =>
      bindV (evAdd S.2.2.2.1 (.int .i64 (.ofNat 1))) fun t15 =>
      k (S.1, S.2.1, S.2.2.1, S.2.2.2.1, t15, S.2.2.2.2.2.1, S.2.2.2.2.2.2.1, S.2.2.2.2.2.2.2.1, S.2.2.2.2.2.2.2.2.1, ()) H)
  (blockE 0 (loopE (seqE (seqE (leafE fun S H k =>
        bindV (evLenS S.1) fun t18 =>
        bindV (evLss S.2.2.2.2.1 t18) fun t19 =>
        k (S.1, S.2.1, S.2.2.1, S.2.2.2.1, S.2.2.2.2.1, S.2.2.2.2.2.1, S.2.2.2.2.2.2.1, t19, S.2.2.2.2.2.2.2.2.1, ()) H)
    (condE (fun S => some S.2.2.2.2.2.2.2.1)
     (doneE .normal)
     (doneE (.exit 0))))
    (seqE (blockE 1 (seqE (leafE fun S H k =>
         bindV (evIdxSlice 1 S.1 S.2.2.2.2.1) fun t24 =>
         bindV (evLoad H false 1 t24) fun t25 =>
         k (S.1, S.2.1, S.2.2.1, S.2.2.2.1, S.2.2.2.2.1, t25, S.2.2.2.2.2.2.1, S.2.2.2.2.2.2.2.1, S.2.2.2.2.2.2.2.2.1, ()) H)
     (seqE (leafE fun S H k =>
         callVal call lo S.2.1 [S.2.2.2.2.2.1] H fun t28 H1 =>
         bindV (evNot t28) fun t29 =>
         k (S.1, S.2.1, S.2.2.1, S.2.2.2.1, S.2.2.2.2.1, S.2.2.2.2.2.1, S.2.2.2.2.2.2.1, S.2.2.2.2.2.2.2.1, t29, ()) H1)
     (condE (fun S => some S.2.2.2.2.2.2.2.2.1)
      (seqE (leafE fun S H k =>
          bindV (evIdxSlice 1 S.1 S.2.2.2.1) fun t33 =>
          bindV (evStore lo H 1 t33 S.2.2.2.2.2.1) fun H2 =>
          k (S.1, S.2.1, S.2.2.1, S.2.2.2.1, S.2.2.2.2.1, S.2.2.2.2.2.1, S.2.2.2.2.2.2.1, S.2.2.2.2.2.2.2.1, S.2.2.2.2.2.2.2.2.1, ()) H2)
      (leafE fun S H k =>
          bindV (evAdd S.2.2.2.1 (.int .i64 (.ofNat 1))) fun t35 =>
          k (S.1, S.2.1, S.2.2.1, t35, S.2.2.2.2.1, S.2.2.2.2.2.1, S.2.2.2.2.2.2.1, S.2.2.2.2.2.2.2.1, S.2.2.2.2.2.2.2.2.1, ()) H))
      (doneE .normal)))))
    (leafE fun S H k =>
        bindV (evAdd S.2.2.2.2.1 (.int .i64 (.ofNat 1))) fun t21 =>
        k (S.1, S.2.1, S.2.2.1, S.2.2.2.1, t21, S.2.2.2.2.2.1, S.2.2.2.2.2.2.1, S.2.2.2.2.2.2.2.1, S.2.2.2.2.2.2.2.2.1, ()) H))) fuel)))
  (seqE (leafE fun S H k =>
      bindV (evCut 1 S.1 (some S.2.2.2.1) none none) fun t38 =>
      bindV (evClear lo H 1 (cellsOf (.slice none 0 0)) t38) fun H3 =>
      k (S.1, S.2.1, S.2.2.1, S.2.2.2.1, S.2.2.2.2.1, S.2.2.2.2.2.1, S.2.2.2.2.2.2.1, S.2.2.2.2.2.2.2.1, S.2.2.2.2.2.2.2.2.1, ()) H3)
  (seqE (leafE fun S H k =>
      bindV (evCut 1 S.1 none (some S.2.2.2.1) none) fun t41 =>
      k (S.1, S.2.1, t41, S.2.2.2.1, S.2.2.2.2.1, S.2.2.2.2.2.1, S.2.2.2.2.2.2.1, S.2.2.2.2.2.2.2.1, S.2.2.2.2.2.2.2.2.1, ()) H)
  (doneE .ret)))))))

def F76 (call : CallF) (lo : Nat) (args : List Value) (H : AH) : Option (Value × AH) :=
  leave .all H (bindV (C76 call (lowOf .all lo H) (argAt args 0, argAt args 1, argAt args 4, argAt args 5, argAt args 6, argAt args 7, argAt args 12, argAt args 19, argAt args 29, ()) H) fun p => resE p.1 (some (oneOf [p.2.1.2.2.1], p.2.2)))

theorem F76_eq (call : CallF) (lo : Nat) (args : List Value) (H : AH) : evFn P ctx call lo 76 args H = F76 call lo args H := by kernel_rfl

/-- (novaculite/drain.Hill).cheapest$2 -/
def C77 (call : CallF) (lo : Nat) : Piece (Value × Value × Value × Value × Unit) :=
  (seqE (leafE fun S H k =>
      k (S.1, S.2.1, S.2.2.1, (.bool false), ()) H)
  (seqE (leafE fun S H k =>
      bindV (evLoad H true 2 S.2.1) fun t5 =>
      need (Nat.ble lo H.next) <|
      bindVH (call H.next 73 [t5, S.1] H) fun t7 H0 =>
      bindV (evLoad H0 false 1 S.2.2.1) fun t8 =>
      bindV (evGtr t7 t8) fun t9 =>
      k (S.1, S.2.1, S.2.2.1, t9, ()) H0)
  (doneE .ret)))

def F77 (call : CallF) (lo : Nat) (args : List Value) (H : AH) : Option (Value × AH) :=
  leave .all H (bindV (C77 call (lowOf .all lo H) (argAt args 0, argAt args 1, argAt args 2, argAt args 4, ()) H) fun p => resE p.1 (some (oneOf [p.2.1.2.2.2.1], p.2.2)))

theorem F77_eq (call : CallF) (lo : Nat) (args : List Value) (H : AH) : evFn P ctx call lo 77 args H = F77 call lo args H := by kernel_rfl

/-- (novaculite/drain.Hill).by -/
def C78 (call : CallF) (lo : Nat) : Piece (Value × Value × Value × Value × Value × Value × Value × Value × Value × Value × Unit) :=
  (seqE (leafE fun S H k =>
      let t2 := newPtr H
      let H0 := pushBox H 27 S.1
      k (S.1, S.2.1, t2, (.map none), S.2.2.2.2.1, S.2.2.2.2.2.1, S.2.2.2.2.2.2.1, S.2.2.2.2.2.2.2.1, S.2.2.2.2.2.2.2.2.1, S.2.2.2.2.2.2.2.2.2.1, ()) H0)
  (seqE (leafE fun S H k =>
      let t8 := .map (some H.next)
      let H1 := H.push (.map [] 0)
      k (S.1, S.2.1, S.2.2.1, S.2.2.2.1, t8, S.2.2.2.2.2.1, S.2.2.2.2.2.2.1, S.2.2.2.2.2.2.2.1, S.2.2.2.2.2.2.2.2.1, S.2.2.2.2.2.2.2.2.2.1, ()) H1)
  (seqE (seqE (leafE fun S H k =>
      bindV (evLenS S.2.1) fun t10 =>
      k (S.1, S.2.1, S.2.2.1, S.2.2.2.1, S.2.2.2.2.1, S.2.2.2.2.2.1, S.2.1, t10, (.int .i64 (.ofNat 0)), S.2.2.2.2.2.2.2.2.2.1, ()) H)
  (blockE 0 (loopE (seqE (leafE fun S H k =>
        bindV (evLss S.2.2.2.2.2.2.2.2.1 S.2.2.2.2.2.2.2.1) fun t12 =>
        k (S.1, S.2.1, S.2.2.1, S.2.2.2.1, S.2.2.2.2.1, S.2.2.2.2.2.1, S.2.2.2.2.2.2.1, S.2.2.2.2.2.2.2.1, S.2.2.2.2.2.2.2.2.1, t12, ()) H)
    (seqE (condE (fun S => some S.2.2.2.2.2.2.2.2.2.1)
     (doneE .normal)
     (doneE (.exit 0)))
    (seqE (blockE 1 (seqE (leafE fun S H k =>
         bindV (evIdxSlice 1 S.2.2.2.2.2.2.1 S.2.2.2.2.2.2.2.2.1) fun t13 =>
         bindV (evLoad H false 1 t13) fun t14 =>
         k (S.1, S.2.1, S.2.2.1, S.2.2.2.1, S.2.2.2.2.1, t14, S.2.2.2.2.2.2.1, S.2.2.2.2.2.2.2.1, S.2.2.2.2.2.2.2.2.1, S.2.2.2.2.2.2.2.2.2.1, ()) H)
     (leafE fun S H k =>
         bindV (evShift S.2.2.1 1) fun t16 =>
         bindV (evLoad H false 1 t16) fun t17 =>
         bindV (evIdxSlice 3 t17 S.2.2.2.2.2.1) fun t19 =>
         bindV (evIdxArr 3 1 t19 (.int .i64 (.ofNat 0))) fun t20 =>
         bindV (evLoad H false 1 t20) fun t21 =>
         bindV (evLoad H true 2 S.2.2.1) fun t22 =>
         bindV (evShift S.2.2.1 1) fun t23 =>
         bindV (evLoad H false 1 t23) fun t24 =>
         bindV (evIdxSlice 3 t24 S.2.2.2.2.2.1) fun t26 =>
         bindV (evIdxArr 3 1 t26 (.int .i64 (.ofNat 1))) fun t27 =>
         bindV (evLoad H false 1 t27) fun t28 =>
         need (Nat.ble lo H.next) <|
         bindVH (call H.next 102 [t22, t28] H) fun t29 H2 =>
         bindV (evUpdate lo H2 .int S.2.2.2.2.1 t21 t29) fun H3 =>
         k (S.1, S.2.1, S.2.2.1, S.2.2.2.1, S.2.2.2.2.1, S.2.2.2.2.2.1, S.2.2.2.2.2.2.1, S.2.2.2.2.2.2.2.1, S.2.2.2.2.2.2.2.2.1, S.2.2.2.2.2.2.2.2.2.1, ()) H3)))
    (leafE fun S H k =>
        bindV (evAdd S.2.2.2.2.2.2.2.2.1 (.int .i64 (.ofNat 1))) fun t30 =>
        k (S.1, S.2.1, S.2.2.1, S.2.2.2.1, S.2.2.2.2.1, S.2.2.2.2.2.1, S.2.2.2.2.2.2.1, S.2.2.2.2.2.2.2.1, t30, S.2.2.2.2.2.2.2.2.2.1, ()) H)))) fuel)))
  (seqE (leafE fun S H k =>
      k (S.1, S.2.1, S.2.2.1, S.2.2.2.2.1, S.2.2.2.2.1, S.2.2.2.2.2.1, S.2.2.2.2.2.2.1, S.2.2.2.2.2.2.2.1, S.2.2.2.2.2.2.2.2.1, S.2.2.2.2.2.2.2.2.2.1, ()) H)
  (doneE .ret)))))

def F78 (call : CallF) (lo : Nat) (args : List Value) (H : AH) : Option (Value × AH) :=
  leave .all H (bindV (C78 call (lowOf .all lo H) (argAt args 0, argAt args 1, argAt args 2, argAt args 4, argAt args 5, argAt args 7, argAt args 9, argAt args 10, argAt args 11, argAt args 12, ()) H) fun p => resE p.1 (some (oneOf [p.2.1.2.2.2.1], p.2.2)))

theorem F78_eq (call : CallF) (lo : Nat) (args : List Value) (H : AH) : evFn P ctx call lo 78 args H = F78 call lo args H := by kernel_rfl


end
end Go.Proofs.YtmkimcdmnaknlaaGreatDoor
