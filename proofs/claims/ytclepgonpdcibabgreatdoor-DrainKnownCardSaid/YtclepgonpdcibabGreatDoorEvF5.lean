/- Shallow functions, each with the proof that the evaluator is it (printed by wip/ev/gen.lean), part 5.
   Conditions: none. -/
import Derived.Test.YtclepgonpdcibabGreatDoorEvT
namespace Go.Proofs.YtclepgonpdcibabGreatDoor
open Go Go.Ev
set_option maxRecDepth 1000000
set_option linter.unusedVariables false
noncomputable section

/-- slices.order2CmpFunc[[]int] -/
def C138 (call : CallF) (lo : Nat) : Piece (Value × Value × Value × Value × Value × Value × Value × Value × Unit) :=
  (seqE (leafE fun S H k =>
      k (S.1, S.2.1, S.2.2.1, S.2.2.2.1, S.2.2.2.2.1, (.int .i64 (.ofNat 0)), (.int .i64 (.ofNat 0)), S.2.2.2.2.2.2.2.1, ()) H)
  (seqE (seqE (leafE fun S H k =>
      bindV (evIdxSlice 1 S.1 S.2.2.1) fun t15 =>
      bindV (evLoad H false 1 t15) fun t16 =>
      bindV (evIdxSlice 1 S.1 S.2.1) fun t19 =>
      bindV (evLoad H false 1 t19) fun t20 =>
      callVal call lo S.2.2.2.2.1 [t16, t20] H fun t21 H0 =>
      bindV (evLss t21 (.int .i64 (.ofNat 0))) fun t22 =>
      k (S.1, S.2.1, S.2.2.1, S.2.2.2.1, S.2.2.2.2.1, S.2.2.2.2.2.1, S.2.2.2.2.2.2.1, t22, ()) H0)
  (condE (fun S => some S.2.2.2.2.2.2.2.1)
   (seqE (leafE fun S H k =>
       bindV (evNil S.2.2.2.1) fun t24 =>
       bindV (evLoad H false 1 t24) fun t25 =>
       bindV (evAdd t25 (.int .i64 (.ofNat 1))) fun t26 =>
       bindV (evNil S.2.2.2.1) fun t27 =>
       bindV (evStore lo H 1 t27 t26) fun H1 =>
       k (S.1, S.2.1, S.2.2.1, S.2.2.2.1, S.2.2.2.2.1, S.2.2.2.2.2.1, S.2.2.2.2.2.2.1, S.2.2.2.2.2.2.2.1, ()) H1)
   (seqE (leafE fun S H k =>
       k (S.1, S.2.1, S.2.2.1, S.2.2.2.1, S.2.2.2.2.1, S.2.2.1, S.2.1, S.2.2.2.2.2.2.2.1, ()) H)
   (doneE .ret)))
   (doneE .normal)))
  (seqE (leafE fun S H k =>
      k (S.1, S.2.1, S.2.2.1, S.2.2.2.1, S.2.2.2.2.1, S.2.1, S.2.2.1, S.2.2.2.2.2.2.2.1, ()) H)
  (doneE .ret))))

def F138 (call : CallF) (lo : Nat) (args : List Value) (H : AH) : Option (Value × AH) :=
  leave .all H (bindV (C138 call (lowOf .all lo H) (argAt args 0, argAt args 1, argAt args 2, argAt args 3, argAt args 4, argAt args 10, argAt args 11, argAt args 22, ()) H) fun p => resE p.1 (some (oneOf [p.2.1.2.2.2.2.2.1, p.2.1.2.2.2.2.2.2.1], p.2.2)))

theorem F138_eq (call : CallF) (lo : Nat) (args : List Value) (H : AH) : evFn P ctx call lo 138 args H = F138 call lo args H := by kernel_rfl

/-- (novaculite/drain.mouth).after -/
def C154 (call : CallF) (lo : Nat) : Piece (Value × Value × Value × Unit) :=
  (seqE (leafE fun S H k =>
      let t2 := newPtr H
      let H0 := pushBox H 103 S.1
      k (S.1, t2, .nilIface, ()) H0)
  (seqE (leafE fun S H k =>
      bindV (evLoad H true 0 S.2.1) fun t5 =>
      k (S.1, S.2.1, (.iface 103 t5), ()) H)
  (doneE .ret)))

def F154 (call : CallF) (lo : Nat) (args : List Value) (H : AH) : Option (Value × AH) :=
  leave .all H (bindV (C154 call (lowOf .all lo H) (argAt args 0, argAt args 2, argAt args 4, ()) H) fun p => resE p.1 (some (oneOf [p.2.1.2.2.1], p.2.2)))

theorem F154_eq (call : CallF) (lo : Nat) (args : List Value) (H : AH) : evFn P ctx call lo 154 args H = F154 call lo args H := by kernel_rfl

/-- (novaculite/drain.gallery).after -/
def C155 (call : CallF) (lo : Nat) : Piece (Value × Value × Value × Unit) :=
  (seqE (leafE fun S H k =>
      k (S.1, S.2.1, .nilIface, ()) H)
  (seqE (leafE fun S H k =>
      bindV (evLookup H .int .nilIface S.2.1 S.1 false) fun t7 =>
      k (S.1, S.2.1, t7, ()) H)
  (doneE .ret)))

def F155 (call : CallF) (lo : Nat) (args : List Value) (H : AH) : Option (Value × AH) :=
  leave .all H (bindV (C155 call (lowOf .all lo H) (argAt args 0, argAt args 1, argAt args 4, ()) H) fun p => resE p.1 (some (oneOf [p.2.1.2.2.1], p.2.2)))

theorem F155_eq (call : CallF) (lo : Nat) (args : List Value) (H : AH) : evFn P ctx call lo 155 args H = F155 call lo args H := by kernel_rfl


end
end Go.Proofs.YtclepgonpdcibabGreatDoor
