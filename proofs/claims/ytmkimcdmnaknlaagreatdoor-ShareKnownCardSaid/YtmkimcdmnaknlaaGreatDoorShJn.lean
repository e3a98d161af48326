/- The law ShareKnown: it answers true. The row, and its tied card.
   Conditions: none beyond the given statement's own. -/
import Derived.Test.YtmkimcdmnaknlaaGreatDoorRun1
import Derived.Test.YtmkimcdmnaknlaaGreatDoorRun2
import Derived.Test.YtmkimcdmnaknlaaGreatDoorShB
import Derived.Test.YtmkimcdmnaknlaaGreatDoorRows
import Derived.Test.YtmkimcdmnaknlaaGreatDoorCards
import Derived.Test.YtmkimcdmnaknlaaGreatDoorTie
import Derived.ProofKit
import Derived.LaidMore
import Derived.OpenShut
import Derived.Stop.Joined
import Derived.SevenTiedAt
namespace Go.Proofs.YtmkimcdmnaknlaaGreatDoor
open Go Go.Ev Go.ChangeShapes Go.WideShapes Go.ChangeAt Go.RowKit

theorem own : ownKnob Tryz.prog.godebug = none := by kernel_rfl
theorem g32 : Tryz.prog.globalNamed "math/bits.deBruijn32tab" = some 0 := by kernel_rfl
theorem g64 : Tryz.prog.globalNamed "math/bits.deBruijn64tab" = some 1 := by kernel_rfl
theorem globals2 : Tryz.prog.globals.size = 2 := by kernel_rfl
theorem t32 : (Tryz.prog.globals[0]?).map (·.type) = some 161 := by kernel_rfl
theorem t64 : (Tryz.prog.globals[1]?).map (·.type) = some 162 := by kernel_rfl

def laid2 : List (String × DataW Unit) := [("math/bits.deBruijn32tab", Rows.laid_math_bits_deBruijn32tab), ("math/bits.deBruijn64tab", Rows.laid_math_bits_deBruijn64tab)]

theorem door_met (os : Os) (args : Array Value) : laidMetH Tryz.prog laid2 ((World.doorLaid Tryz.prog 4000 os).forCall (fun _ _ => 0) ⟨#[], args, []⟩).memory :=
  laidMetH_of_parts3 (fuel := 8) (laidMet_of_run' 8 (by kernel_rfl) (by kernel_rfl)) (by kernel_rfl) (by kernel_rfl)

theorem of_laid {W : World} (h : laidMetH Tryz.prog laid2 W) : ∃ c0 e0 f0 c1 e1 f1, W.heap[0]? = some (.cells c0 e0 f0) ∧ W.heap[1]? = some (.cells c1 e1 f1) ∧
    c0.toList = (tab32.map fun z => Value.int .u8 z) ∧ c1.toList = (tab64.map fun z => Value.int .u8 z) := by
  rw [MakeChecks.laidMetH_plain _ _ _ (by kernel_rfl)] at h
  obtain ⟨ps, ⟨g0, t0, cs0, fu0, p0, q0, hg0, ht0, hv0, hd0, ⟨g1, t1, cs1, fu1, p1, q1, hg1, ht1, hv1, hd1, _, _⟩, _⟩, _, _⟩ := h
  obtain rfl := Option.some.inj (g32.symm.trans hg0)
  obtain rfl := Option.some.inj (g64.symm.trans hg1)
  obtain rfl := Option.some.inj (t32.symm.trans ht0)
  obtain rfl := Option.some.inj (t64.symm.trans ht1)
  have l0 := trod_ints (n := 32) (k := .u8) Tryz.underlying161 Tryz.underlying5 (by kernel_rfl) (by kernel_rfl) hd0 tab32 rfl
  have l1 := trod_ints (n := 64) (k := .u8) Tryz.underlying162 Tryz.underlying5 (by kernel_rfl) (by kernel_rfl) hd1 tab64 rfl
  have cell : ∀ (g : Nat) (name : String) (cs : Array Value), Tryz.prog.globalNamed name = some g → W.var? Tryz.prog name = some cs → ∃ e f, W.heap[g]? = some (.cells cs e f) := by
    intro g name cs hg hv
    unfold World.var? at hv
    rw [hg] at hv
    simp only [Option.bind_some] at hv
    split at hv
    · rename_i c e f hc
      cases hv
      exact ⟨e, f, hc⟩
    · cases hv
  obtain ⟨e0, f0, h0⟩ := cell 0 _ cs0 g32 hv0
  obtain ⟨e1, f1, h1⟩ := cell 1 _ cs1 g64 hv1
  exact ⟨cs0, e0, f0, cs1, e1, f1, h0, h1, l0, l1⟩

theorem walk {W : World} (h : laidMetH Tryz.prog laid2 W) : Calls Tryz.prog 3 #[] W fun e W' => e = .returned (.bool true) ∧ W.keptBut W' (fun _ => False) := by
  obtain ⟨c0, e0, f0, c1, e1, f1, h0, h1, hx, hy⟩ := of_laid h
  obtain ⟨H', hr⟩ := isT_eq (run_true e0 e1)
  have hl : SpecOk P 2 33 (sOr (sHill ents) (sNil 1 nilV)) := sOr_ok (sHill_ok globals2 (call_ok (P := P) (base := 2) (by kernel_rfl) ctx table (table_ok rows_ok) 200) ents ents_run) (sNil_ok globals2 (call_ok (P := P) (base := 2) (by kernel_rfl) ctx table (table_ok rows_ok) 200) rfl fun e e' => isR_eq (run_nil e e'))
  have hm1 : ∀ f S, specs1.get f = some S → SpecOk P 2 f S := specs_ok (by simp only [List.forall_mem_cons]; exact ⟨sApp_ok, hl, by simp⟩)
  have hw : SpecOk P 2 23 (closedSpec .u8 tab32 tab64 (.bool true)) := closedSpec_ok globals2 (mCall_ok (P := P) (base := 2) (by kernel_rfl) ctx table (table_ok rows_ok) specs1 hm1 200) rfl fun e e' => isT_eq (run_works e e')
  have hm : ∀ f S, specs2.get f = some S → SpecOk P 2 f S := specs_ok (by simp only [List.forall_mem_cons]; exact ⟨sApp_ok, hl, hw, by simp⟩)
  have hc := (mCall_ok (P := P) (base := 2) (by kernel_rfl) ctx table (table_ok rows_ok) specs2 hm 200 2 3 [] _ _ _ (Nat.le_refl 2) hr).2 _ W [] (two_rel globals2 h0 h1 hx hy) .nil
  refine Calls.mono hc fun e W' => ?_
  rintro ⟨v', ρ', rfl, hv, hs⟩
  exact ⟨by rw [hv.bool_eq], hs.kept (fun _ _ hl => twoMap_lt hl) _⟩

set_option maxRecDepth 100000 in
theorem lifted (os : Os) (started : os.Started) (H : Type) (enc : TypeId × Value → H) :
    ReturnsInHanded {} Tryz.checked os 3 .any (fun w args => (Rows.shareKnownSpec.pre enc Tryz.prog Tryz.f3 [] false w args ∧ laidMetH Tryz.prog laid2 w) ∧ sizedMet enc Tryz.prog Tryz.f3 (OpenSpec.ofChange Rows.shareKnownSpec) false w args)
      (Rows.shareKnownSpec.post enc Tryz.prog Tryz.f3 false true false false) := by
  refine returnsInHanded_of_change_and (C := Tryz.checked) (X := fun w _ => laidMetH Tryz.prog laid2 w) (fun _ _ _ hh h => h.of_heap hh) own started (by kernel_rfl) Tryz.func3
    (ChangeSpec.witness_shaped (enc := enc) (C := Tryz.checked) (os := os) (X := fun w _ => laidMetH Tryz.prog laid2 w) false (World.doorLaid Tryz.prog 4000 os) #[] 8 rfl (World.shaped_of_RefB (by kernel_rfl) (by kernel_rfl)) (by kernel_rfl) (by kernel_rfl) (by kernel_rfl) (door_met os _)) ?_
  intro W base args ds gs before hval0 hW _ _ hL _
  have hW' := hW
  obtain ⟨p, q, hA0, hV, rfl, hfz, hnd⟩ := hW
  have hA : DataW.TrodAll enc Tryz.prog W 0 (fun _ => true) true Tryz.f3.params.toList args.toList ds p := hA0
  rw [Tryz.params3] at hA
  obtain ⟨rfl, rfl, rfl⟩ := trodAll_none hA
  obtain ⟨rfl, rfl⟩ := trodVars_none hV
  simp only [List.append_nil] at hW'
  refine (walk hL).mono fun e W' ⟨he, hk⟩ => ?_
  subst he
  exact ⟨_, rfl, _, _, _, _, _, _, hW', trodAll_mk1 (shut_bool Tryz.underlying4 true), trodAll_mk0, rfl, World.keptBut_mono (fun _ h => h.elim) hk, fun h => by cases h⟩

theorem shareKnown_holds : Rows.ShareKnownSaid :=
  OpenClaim.holds_of_wide 3 Tryz.f3 rfl rfl rfl rfl rfl rfl rfl ⟨rfl, rfl, rfl, rfl, rfl⟩ rfl rfl rfl rfl rfl (by kernel_rfl) Tryz.func3 (by kernel_rfl)
    (of_decide_eq_true (by kernel_rfl)) (by unfold Func.isWrapper; first | (rw [if_pos (by decide +kernel)]; kernel_rfl) | (rw [if_neg (by decide +kernel)]; exact ⟨rfl, rfl⟩))
    (fun os started H enc _ => lifted os started H enc)

theorem shareKnown_card_holds : Rows.ShareKnownCardSaid :=
  Claim7.holds_tied_plain_at .later [] [.data, .data] true (true, "ed7b774e5255e530485c6fbf955a4eb49f3e45adadce80021b09d5399e55a18a") true
    shareKnown_holds (fun _ h => by cases h) (by kernel_rfl) (fun _ h => by cases h) shareKnown_row_tie rfl ⟨rfl, rfl⟩ (by kernel_rfl) rfl
    (fun f fn hf hfn => by
      obtain rfl : f = 3 := Option.some.inj ((show Tryz.prog.funcNamed "novaculite/novaculitelaw10.ShareKnown" = some 3 by kernel_rfl).symm.trans hf) |>.symm
      obtain rfl : fn = Tryz.f3 := (Option.some.inj (Tryz.func3.symm.trans hfn)).symm
      exact ⟨by kernel_rfl, fun j t ht => by
        rw [Tryz.params3] at ht
        simp at ht⟩)
    (by kernel_rfl)
#print axioms shareKnown_card_holds
end Go.Proofs.YtmkimcdmnaknlaaGreatDoor
