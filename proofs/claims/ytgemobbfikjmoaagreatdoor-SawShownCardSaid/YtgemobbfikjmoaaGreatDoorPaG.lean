/- The law SawShown answers true whatever its input.
   Conditions: none beyond the given statement's own. -/
import Derived.Test.YtgemobbfikjmoaaGreatDoorPaF
set_option linter.unusedVariables false
set_option linter.unusedSimpArgs false
set_option linter.defProp false
namespace Go.Proofs.YtgemobbfikjmoaaGreatDoor
open Go Go.Ev
set_option maxRecDepth 1000000
def isTB : Option (TV × TH) → Bool
  | some (.v (.bool b), _) => b
  | _ => false
theorem isTB_eq {o : Option (TV × TH)} (h : isTB o = true) : ∃ H, o = some (tB true, H) := by
  unfold isTB at h
  split at h
  · rename_i b H; rw [h]; exact ⟨H, rfl⟩
  · cases h
theorem works_runs : isTB (tc 40 0 15 [] []) = true := by kernel_rfl
theorem works_tree (H : TH) : callTree (tc 40) 15 [] H = some (tB true) := by
  obtain ⟨H', h⟩ := isTB_eq works_runs
  exact tree_of (ws := []) (H' := H') (a := false) rfl rfl h rfl
theorem shown_runs {a b th dd set many blanks order : Nat} (ha : a < 256) (hb : b < 256) (hth : th < 256) (hd : dd < 65536) (hset : set < 65536) (hmany : many < 256) (hblanks : blanks < 4294967296) (horder : order < 256) :
    ∃ H', tc 41 0 13 [.agg [tK .u8 a, tK .u8 b, tK .u8 th, tK .u16 dd], tK .u16 set, tK .u8 many, tK .u32 blanks, tK .u8 order] [] = some (tB true, H') := by
  obtain ⟨w, hw⟩ : ∃ w, w = wideOf a := ⟨_, rfl⟩
  obtain ⟨h, hh⟩ : ∃ h, h = highOf 16 a b := ⟨_, rfl⟩
  obtain ⟨sp, hsp⟩ : ∃ sp, sp = badL 16 a b th dd := ⟨_, rfl⟩
  have ok : SlabOk w h sp := by rw [hw, hh, hsp]; exact made_ok (by omega)
  have hc : ∀ x ∈ triedF set many sp (w * h) 0, x < w * h := fun x hx => by have := (triedF_spec set many sp (w * h) 0).2.1 x hx; omega
  obtain ⟨v1, v2⟩ := valid_law ok (blanks := blanks) (order := order) (Prod.eta _).symm
  exact law_run 34 ha hb hth hd hset hmany hblanks horder hw hh hsp rfl rfl rfl (asc_noAdj _ (pairs_asc ok)) (by have := pairs_len ok; omega)
    (fun p hp => by have := pairs_lt ok p hp; omega) rfl (Prod.eta _).symm (proves_law ok hc) v1 v2 works_tree
end Go.Proofs.YtgemobbfikjmoaaGreatDoor
