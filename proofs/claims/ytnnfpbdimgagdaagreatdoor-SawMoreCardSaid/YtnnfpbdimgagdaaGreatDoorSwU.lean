/- The law SawMore, walked: it answers true at all numbers.
   Conditions: the tables of package math/bits lie where they should. -/
import Derived.Test.YtnnfpbdimgagdaaGreatDoorSwT1
import Derived.Test.YtnnfpbdimgagdaaGreatDoorSwT2
import Derived.Test.YtnnfpbdimgagdaaGreatDoorSwT3
import Derived.Test.YtnnfpbdimgagdaaGreatDoorSwT4
import Derived.Test.YtnnfpbdimgagdaaGreatDoorSwX
namespace Go.Proofs.YtnnfpbdimgagdaaGreatDoor
open Go Go.Ev
set_option maxRecDepth 100000
noncomputable section

/-! Reading rows. -/
theorem readInts_slice {H : AH} {blk s len : Nat} {cap : Nat} {zs : List Int} {tail : List Value} {e : TypeId} (hb : blk < H.next) (hg : H.get blk = some (.cells s (intsZ zs ++ tail) e)) (hl : len = zs.length) (hs : len ≤ s) (hn : zs.length < 90000) :
    readInts H (.slice (some ⟨blk, 0, none⟩) len cap) = some zs := by
  have hr : rowOf H 1 (.slice (some ⟨blk, 0, none⟩) len cap) = some (intsZ zs) := by
    show cond (Nat.beq len 0) (some []) (withCells H blk fun s cs _ => need (Nat.ble (Nat.add 0 (Nat.mul len 1)) s) (some (seg cs 0 (Nat.mul len 1)))) = _
    by_cases h0 : len = 0
    · have : zs = [] := List.length_eq_zero_iff.1 (by omega)
      subst this
      rw [h0]; rfl
    · rw [beqf h0]
      unfold withCells
      rw [hg]
      show need (Nat.ble (0 + len * 1) s) (some (seg (intsZ zs ++ tail) 0 (len * 1))) = _
      rw [Nat.ble_eq_true_of_le (by omega), seg_eq, List.drop_zero, Nat.mul_one, List.take_left' (by rw [intsZ_length]; omega)]; rfl
  show withX (need (((idsOf (.slice (some ⟨blk, 0, none⟩) len cap)).all fun i => Nat.blt i H.next)) (withX (rowOf H 1 (.slice (some ⟨blk, 0, none⟩) len cap)) fun l => need (lenIs (.slice (some ⟨blk, 0, none⟩) len cap) l.length) (some l))) (fun l => withX (intsOf l) fun zs => need (Nat.blt zs.length 90000) (some zs)) = _
  have h1 : ((idsOf (.slice (some ⟨blk, 0, none⟩) len cap)).all fun i => Nat.blt i H.next) = true := by
    show (Nat.blt blk H.next && true) = true
    rw [blt_t hb]; rfl
  have h2 : lenIs (.slice (some ⟨blk, 0, none⟩) len cap) (intsZ zs).length = true := by
    show Nat.beq len (intsZ zs).length = true
    rw [intsZ_length]; exact beqt hl
  rw [h1, need_true, hr, withX_some, h2, need_true, withX_some, show intsOf (intsZ zs) = some zs from intsOf_of zs, withX_some, blt_t hn]; rfl
theorem readInts_own {b : Nat} {e : TypeId} {H : AH} {v : Value} {zs : List Int} (o : OwnRow b e H v (intsZ zs)) (hn : zs.length < 90000) : readInts H v = some zs := by
  rcases o with ⟨h1, h2⟩ | ⟨j, _, h2, h3, h4, _⟩
  · have : zs = [] := by cases zs with | nil => rfl | cons => cases h1
    subst this h2
    rfl
  · subst h3
    exact readInts_slice (tail := []) h2 (by rw [List.append_nil]; exact h4) (intsZ_length zs) (Nat.le_refl _) hn
theorem ints_Z (l : List Nat) : ints l = intsZ (l.map .ofNat) := by unfold ints intsZ; rw [List.map_map]; rfl
theorem sContains_at {lo : Nat} {v : Value} {zs : List Int} {x : Int} {H : AH} (h2 : 2 ≤ H.next) (h : readInts H v = some zs) : sContains lo [v, .int .i64 x] H = some (.bool (hasT x zs), H) := by
  show need (Nat.ble 2 H.next) (withX (readInts H v) fun zs => some (Value.bool (hasT x zs), H)) = _
  rw [Nat.ble_eq_true_of_le h2, h]; rfl
theorem sSawMost_at {lo : Nat} {w h : Int} {sl : Value} {sp : List Int} {H : AH} (hs : readInts H sl = some sp) (ht : Tabs H) (hlo : lo ≤ H.next) {r : Nat × Nat} (hr : sawMostT w h sp = some r) :
    sSawMost lo [.agg ⟨[.int .i64 w, .int .i64 h, sl]⟩] H = some (.tuple ⟨[.int .i64 (.ofNat r.1), .int .i64 (.ofNat r.2)]⟩, H) := by
  show need (tabsB H && Nat.ble lo H.next) (withX (readInts H sl) fun sp => withX (sawMostT w h sp) fun r => some (Value.tuple ⟨[.int .i64 (.ofNat r.1), .int .i64 (.ofNat r.2)]⟩, H)) = _
  rw [ht.test, Nat.ble_eq_true_of_le hlo, hs, withX_some, hr]; rfl

/-! The way of calling: works' word, else the text with words. -/
def callW : CallF := fun lo f args H => cond (Nat.beq f 7) (closedSpec .u8 tab32 tab64 (.bool true) lo args H) (mCall P ctx table specs5 10 lo f args H)
theorem globals2 : P.globals.size = 2 := by kernel_rfl
theorem works_ok : SpecOk P 2 7 (closedSpec .u8 tab32 tab64 (.bool true)) := closedSpec_ok globals2 (call4_ok 100) rfl fun e e' => isT_eq (run_works e e')
theorem callW_ok : CallOk P 2 callW := by
  intro lo f args H v H' hlo h
  by_cases hf : f = 7
  · subst hf
    exact works_ok.run hlo h
  · have h : mCall P ctx table specs5 10 lo f args H = some (v, H') := by
      have : callW lo f args H = mCall P ctx table specs5 10 lo f args H := by unfold callW; rw [beqf hf]; rfl
      rw [← this]; exact h
    exact call5_ok 10 lo f args H v H' hlo h
theorem works_at {lo : Nat} {H : AH} (ht : Tabs H) : callW lo 7 [] H = some (.bool true, H) := by
  obtain ⟨h1, ⟨e, h2⟩, e', h3⟩ := ht
  have h : hasTabs .u8 tab32 tab64 H = some (e, e') := by
    unfold hasTabs withCells
    rw [h2]
    simp only [h3]
    rw [intsAre_self, intsAre_self]; rfl
  show withX (hasTabs .u8 tab32 tab64 H) (fun _ => some (Value.bool true, H)) = _
  rw [h]; rfl

/-! What the plain law tells. -/
theorem slab_tells {w h : Nat} {sp : List Nat} (hc : slabC w h sp = true) : ∃ g a, laidE (.ofNat w) (.ofNat h) (sp.map .ofNat) = (0, g) ∧ goodL (sp.map .ofNat) (w * h) = evBits g ∧ mostT (nearTo w g (w * h)) g w = some a ∧ a ≤ 8 ∧
    (evBits g = [] → a = 0) ∧ ∀ c ∈ evBits g, (mostT (nearTo w g (w * h)) (dif g (2 ^ c)) w).isSome = true ∧
      sawMostT (.ofNat w) (.ofNat h) (isortT (sp.map .ofNat ++ [.ofNat c])) = some (cond (mustT (nearTo w g (w * h)) g w a c) (a - 1) a, 0) := by
  unfold slabC at hc
  split at hc
  · rename_i g hl
    rw [Bool.and_eq_true] at hc
    obtain ⟨h1, h2⟩ := hc
    split at h2
    · cases h2
    · rename_i a ha
      rw [Bool.and_eq_true, Bool.and_eq_true, List.all_eq_true] at h2
      obtain ⟨⟨h3, h4⟩, h5⟩ := h2
      refine ⟨g, a, hl, eqL_eq h1, ha, le_of_ble' h3, fun he => ?_, fun c hcm => ?_⟩
      · rw [he] at h4
        exact eq_of_beq' h4
      · have h6 := h5 c hcm
        unfold oneC at h6
        rw [Bool.and_eq_true] at h6
        refine ⟨h6.1, ?_⟩
        have h7 := h6.2
        split at h7
        · rename_i b hb
          rw [hb, eq_of_beq' h7]
        · cases h7
  · cases hc

theorem badL_sub (th d n : Nat) : badL th d n ∈ subs (candL (th % 4) n) := by
  have e : badL th d n = (candL (th % 4) n).filter (isIn d) := by
    unfold badL candL
    rw [List.filter_filter]
    apply List.filter_congr
    intro c _
    unfold badC
    have : (th + 5 * c) % 4 = (th % 4 + 5 * c) % 4 := by omega
    rw [this]
  rw [e]
  exact filter_subs _ _
theorem all_slabs (a b th d : Nat) : slabC (wideOf a) (highOf a b) (badL th d (wideOf a * highOf a b)) = true := by
  have w8 : 1 ≤ wideOf a ∧ wideOf a ≤ 8 := by unfold wideOf; omega
  have hw : wideC (wideOf a) = true := by
    obtain ⟨w, hw⟩ : ∃ w, w = wideOf a := ⟨_, rfl⟩
    rw [← hw] at w8 ⊢
    rcases (by omega : w = 1 ∨ w = 2 ∨ w = 3 ∨ w = 4 ∨ w = 5 ∨ w = 6 ∨ w = 7 ∨ w = 8) with rfl | rfl | rfl | rfl | rfl | rfl | rfl | rfl
    · exact wide1
    · exact wide2
    · exact wide3
    · exact wide4
    · exact wide5
    · exact wide6
    · exact wide7
    · exact wide8
  unfold wideC at hw
  rw [List.all_eq_true] at hw
  have m0 : 0 < minN 8 (16 / wideOf a) := by
    have : 2 ≤ 16 / wideOf a := by rw [Nat.le_div_iff_mul_le (by omega)]; omega
    unfold minN
    cases Nat.blt (16 / wideOf a) 8 with
    | true => show 0 < 16 / wideOf a; omega
    | false => show 0 < 8; omega
  have h1 := hw (b % minN 8 (16 / wideOf a)) (List.mem_range.2 (Nat.mod_lt _ m0))
  have hh : highOf a b = b % minN 8 (16 / wideOf a) + 1 := by unfold highOf; omega
  rw [← hh] at h1
  unfold tallC at h1
  simp only [Bool.and_eq_true] at h1
  have h2 : shapeC (wideOf a) (highOf a b) (th % 4) = true := by
    have : th % 4 = 0 ∨ th % 4 = 1 ∨ th % 4 = 2 ∨ th % 4 = 3 := by omega
    rcases this with h | h | h | h <;> rw [h]
    · exact h1.1.1.1
    · exact h1.1.1.2
    · exact h1.1.2
    · exact h1.2
  unfold shapeC at h2
  rw [List.all_eq_true] at h2
  exact h2 _ (badL_sub th d _)
end
end Go.Proofs.YtnnfpbdimgagdaaGreatDoor
