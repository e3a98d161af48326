/- Contracts of functions of package saw, and of those that it calls (merged from SwP, SwQ, SwR, SwT).
   Conditions: none. -/
import Derived.Test.YtnnfpbdimgagdaaGreatDoorSxD
namespace Go.Proofs.YtnnfpbdimgagdaaGreatDoor
open Go Go.Ev
set_option maxRecDepth 100000
noncomputable section

def specs5 : Tr FnF := specsOf [(100, sTZ), (74, sTZ), (41, sList), (46, sLight),
  (13, sLaid), (14, sMost), (43, sIndex), (12, sContains), (6, sSawMost)] .leaf
theorem specs5_ok : ∀ f S, specs5.get f = some S → SpecOk P 2 f S := specs_ok (by simp only [List.forall_mem_cons]; exact ⟨sTZ64_ok, sTZ_ok, sList_ok, sLight_ok, sLaid_ok, sMost_ok, sIndex_ok, sContains_ok, sSawMost_ok, by simp⟩)
theorem call5_ok (d : Nat) : CallOk P 2 (mCall P ctx table specs5 d) := mCall_ok mixed ctx table (table_ok rows_ok) specs5 specs5_ok d

/-- how many blanks there are without a cell -/
def lessT (near : List Nat) (g w c : Nat) : Nat := (mostT near (dif g (2 ^ c)) w).getD 0
/-- is a cell in each best cutting? -/
def mustT (near : List Nat) (g w a c : Nat) : Bool := Nat.blt (lessT near g w c) a

theorem dif_lt {g x : Nat} (h : g < 65536) : dif g x < 65536 := Nat.lt_of_le_of_lt (Nat.and_le_left : dif g x ≤ g) h

/-- the closure of Idle -/
theorem idle1_run (d lo n m : Nat) {w h : Int} {g a c : Nat} {near : List Nat} {H : AH} (hw : 0 < w.toNat) (hww : Int.ofNat w.toNat = w) (hg : g < 65536) (hn : ∀ x ∈ near, x < 65536) (hnl : near.length = 16) (hc : c < 16)
    (hp : H.get n = some (.cells 19 (plC w h g near) 44)) (hm : H.get m = some (.cells 1 [.int .i64 (.ofNat a)] 3)) (ht : Tabs H) (hlo : lo ≤ H.next) (hs : (mostT near (dif g (2 ^ c)) w.toNat).isSome = true) :
    F42 (mCall P ctx table specs5 (d + 1)) lo [.int .i64 (.ofNat c), .pointer (some ⟨n, 0, none⟩), .pointer (some ⟨m, 0, none⟩)] H = some (.bool (mustT near g w.toNat a c), H) := by
  have la := load_all hp (by rw [plC_length, hnl])
  have lg : evLoad H false 1 (.pointer (some ⟨n, 0 + 2, none⟩)) = some (.int .u64 (.ofNat g)) := load_at hp rfl
  have lm := load_box hm
  have hsh : evShift (.pointer (some ⟨n, 0, none⟩)) 2 = some (.pointer (some ⟨n, 0 + 2, none⟩)) := rfl
  have hpc := pow_lt16 hc
  have hshl : evShl (.int .u64 (.ofNat 1)) (.int .i64 (.ofNat c)) = some (.int .u64 (.ofNat (1 * 2 ^ c))) := shl_u (by omega) (by omega)
  have han : evAndNot (.int .u64 (.ofNat g)) (.int .u64 (.ofNat (1 * 2 ^ c))) = some (.int .u64 (.ofNat (dif g (2 ^ c)))) := by rw [Nat.one_mul]; exact andnot_u (by omega) (by omega)
  obtain ⟨r, hr⟩ := Option.isSome_iff_exists.1 hs
  have hcm : mCall P ctx table specs5 (d + 1) H.next 14 [.agg ⟨plC w h g near⟩, .int .u64 (.ofNat (dif g (2 ^ c)))] H = some (.int .i64 (.ofNat r), H) := by
    have := sMost_at (lo := H.next) (h := h) (g := g) (H := H) hn hnl (dif_lt hg) hw (Nat.le_refl _) ht hr
    rw [hww] at this
    exact (mCall_spec rfl _ _ H).trans this
  have hnd : Nat.ble lo H.next = true := Nat.ble_eq_true_of_le hlo
  have hls : evLss (.int .i64 (.ofNat r)) (.int .i64 (.ofNat a)) = some (.bool (mustT near g w.toNat a c)) := by
    rw [lss_n]
    unfold mustT lessT
    rw [hr]; rfl
  simp only [F42, C42, leave_all, lowOf_all, argAt_zero, argAt_succ, argAt_nil, seqE_eq, leaf_eq, seqR_normal, bv_some, bh_some, la, hsh, lg, hshl, han, hnd, need_true, hcm, lm, hls, doneE_eq, resE_ret, oneOf_one]

theorem idle_run (d lo : Nat) {w h : Int} {sl : Value} {sp : List Int} {H : AH} (hs : readInts H sl = some sp) (ht : Tabs H) (hlo : lo ≤ H.next) {g a : Nat} (hle : laidE w h sp = (0, g)) {near : List Nat} (hnear : near = nearTo w.toNat g (w * h).toNat)
    (ha : mostT near g w.toNat = some a) (hall : ∀ c ∈ evBits g, (mostT near (dif g (2 ^ c)) w.toNat).isSome = true) :
    ∃ v1 H1, F11 (mCall P ctx table specs5 (d + 4)) lo [.agg ⟨[.int .i64 w, .int .i64 h, sl]⟩] H = some (.tuple ⟨[v1, .int .i64 (.ofNat 0)]⟩, H1) ∧ Grown H H1 ∧
      (((evBits g).filter (fun c => !mustT near g w.toNat a c) = evBits g ∧ OwnRow H.next 3 H1 v1 (ints (evBits g))) ∨
       ((∃ c ∈ evBits g, mustT near g w.toNat a c = true) ∧ ∃ blk tail, H.next ≤ blk ∧ blk < H1.next ∧ v1 = .slice (some ⟨blk, 0, none⟩) ((evBits g).filter fun c => !mustT near g w.toNat a c).length (UNK + 1) ∧
          H1.get blk = some (.cells (evBits g).length (ints ((evBits g).filter fun c => !mustT near g w.toNat a c) ++ tail) 3))) := by
  obtain ⟨n, hnn⟩ : ∃ n, n = H.next := ⟨_, rfl⟩
  obtain ⟨C, hC⟩ : ∃ C, C = mCall P ctx table specs5 (d + 4) := ⟨_, rfl⟩
  rw [← hC]
  obtain ⟨q1, q2, q3, q4, q5, q6⟩ := laidE_ok hle
  have hww : Int.ofNat w.toNat = w := by show ((w.toNat : Nat) : Int) = w; omega
  have hn : ∀ x ∈ near, x < 65536 := by rw [hnear]; exact nearTo_lt (show 0 < w.toNat by omega) _ (by omega)
  have hnl : near.length = 16 := by rw [hnear]; exact nearTo_length _ _ _
  have hP : laidP w h sp = (0, plC w h g near) := by rw [laidP_eq, hle, hnear]; rfl
  obtain ⟨Ha, hHa⟩ : ∃ Ha, Ha = pushBox H 27 (.agg ⟨[.int .i64 w, .int .i64 h, sl]⟩) := ⟨_, rfl⟩
  have a1 : Ha.next = n + 1 := by rw [hHa, box_next, hnn]
  have a2 : Ha.get n = some (.cells 3 [.int .i64 w, .int .i64 h, sl] 27) := by rw [hHa, hnn, box_get]; rfl
  have ga : Grown H Ha := by rw [hHa]; exact .push _ _
  have la := load_all a2 rfl
  have hcl : C lo 13 [.agg ⟨[.int .i64 w, .int .i64 h, sl]⟩] Ha = some (laidV w h sp, Ha) := by
    rw [hC]; exact (mCall_spec rfl lo _ Ha).trans (sLaid_at (readInts_grown hs ga) (by have := ht.1; omega) (by omega))
  have co0 : evComp (laidV w h sp) 0 = some (.agg ⟨plC w h g near⟩) := by
    show some (Value.agg ⟨(laidP w h sp).2⟩) = _
    rw [hP]
  have co1 : evComp (laidV w h sp) 1 = some (.int .i64 (.ofNat 0)) := by
    show some (Value.int .i64 (.ofNat (laidP w h sp).1)) = _
    rw [hP]
  obtain ⟨Hb, hHb⟩ : ∃ Hb, Hb = pushBox Ha 44 z44 := ⟨_, rfl⟩
  have b1 : Hb.next = n + 2 := by rw [hHb, box_next, a1]
  have b2 : Hb.get (n + 1) = some (.cells 19 zeroC 44) := by rw [hHb, ← a1, box_get]; rfl
  have pl : (plC w h g near).length = 19 := by rw [plC_length, hnl]
  obtain ⟨Hc, hHc⟩ : ∃ Hc, Hc = Hb.set (n + 1) (.cells 19 (plC w h g near) 44) := ⟨_, rfl⟩
  have hst : evStore lo Hb 19 (.pointer (some ⟨n + 1, 0, none⟩)) (.agg ⟨plC w h g near⟩) = some Hc := by rw [hHc]; exact store_all b2 rfl pl (by omega) (plC_single _ _ _ _)
  have gc : Grown H Hc := by rw [hHc, hHb]; exact (ga.trans (.push _ _)).set (by omega) _
  have c0 : Hc.next = n + 2 := by rw [hHc, AH.next_set, b1]
  have c1 : Hc.get (n + 1) = some (.cells 19 (plC w h g near) 44) := by rw [hHc, AH.get_set, if_pos rfl]
  have hne : evNeq .int (.int .i64 (.ofNat 0)) (.int .i64 (.ofNat 0)) = some (.bool false) := by rw [neq_n]; rfl
  have lc := load_all c1 pl
  have hsh : ∀ i d, evShift (.pointer (some ⟨i, 0, none⟩)) d = some (.pointer (some ⟨i, 0 + d, none⟩)) := fun i d => rfl
  have lg : evLoad Hc false 1 (.pointer (some ⟨n + 1, 0 + 2, none⟩)) = some (.int .u64 (.ofNat g)) := load_at c1 rfl
  have tc : Tabs Hc := ht.grown gc
  have hcm : C lo 14 [.agg ⟨plC w h g near⟩, .int .u64 (.ofNat g)] Hc = some (.int .i64 (.ofNat a), Hc) := by
    rw [hC]
    have := sMost_at (lo := lo) (h := h) (g := g) (H := Hc) hn hnl q6 (show 0 < w.toNat by omega) (by omega) tc ha
    rw [hww] at this
    exact (mCall_spec rfl lo _ Hc).trans this
  obtain ⟨Hd, hHd⟩ : ∃ Hd, Hd = pushBox Hc 3 (.int .i64 (.ofNat 0)) := ⟨_, rfl⟩
  have d1 : Hd.next = n + 3 := by rw [hHd, box_next, c0]
  have d2 : Hd.get (n + 2) = some (.cells 1 [.int .i64 (.ofNat 0)] 3) := by rw [hHd, ← c0, box_get]; rfl
  obtain ⟨He, hHe⟩ : ∃ He, He = Hd.set (n + 2) (.cells 1 [.int .i64 (.ofNat a)] 3) := ⟨_, rfl⟩
  have hst2 : evStore lo Hd 1 (.pointer (some ⟨n + 2, 0, none⟩)) (.int .i64 (.ofNat a)) = some He := by rw [hHe]; exact store_box d2 (by omega) rfl rfl
  have e0 : He.next = n + 3 := by rw [hHe, AH.next_set, d1]
  have e1 : He.get (n + 1) = some (.cells 19 (plC w h g near) 44) := by rw [hHe, AH.get_set, if_neg (by omega), hHd, box_old (by omega)]; exact c1
  have e2 : He.get (n + 2) = some (.cells 1 [.int .i64 (.ofNat a)] 3) := by rw [hHe, AH.get_set, if_pos rfl]
  have ge : Grown H He := by rw [hHe, hHd]; exact (gc.trans (.push _ _)).set (by omega) _
  have lg2 : evLoad He false 1 (.pointer (some ⟨n + 1, 0 + 2, none⟩)) = some (.int .u64 (.ofNat g)) := load_at e1 rfl
  obtain ⟨bs, hbs⟩ : ∃ bs, bs = evBits g := ⟨_, rfl⟩
  have hbl : bs.length ≤ 64 := by rw [hbs]; exact ev_bits_length _
  have hb16 : ∀ c ∈ bs, c < 16 := by rw [hbs]; exact bits_lt16 q6
  obtain ⟨v0, hv0⟩ : ∃ v0, v0 = rowV He (ints bs) := ⟨_, rfl⟩
  obtain ⟨Hf, hHf⟩ : ∃ Hf, Hf = rowH He 3 (ints bs) := ⟨_, rfl⟩
  have hli : C lo 41 [.int .u64 (.ofNat g)] He = some (v0, Hf) := by
    rw [hC, hv0, hHf, hbs]
    exact (mCall_spec rfl lo _ He).trans (sList_at (by omega) (ht.grown ge) (by omega))
  have hown : OwnRow (n + 3) 3 Hf v0 (ints bs) := by rw [hv0, hHf, ← e0]; exact rowH_own _ _ _
  have gf : Grown He Hf := by rw [hHf]; exact rowH_grown _ _ _
  obtain ⟨fv, hfv⟩ : ∃ fv, fv = Value.func (.func 42) ⟨[]⟩ ⟨[.pointer (some ⟨n + 1, 0, none⟩), .pointer (some ⟨n + 2, 0, none⟩)]⟩ := ⟨_, rfl⟩
  have hpred : ∀ d', PredOk (mCall P ctx table specs5 (d' + 2)) lo fv (n + 3) Hf (mustT near g w.toNat a) bs := by
    intro d' c hc H' hnx hsm β k
    have old : ∀ i, i < n + 3 → H'.get i = He.get i := fun i hi => by rw [hsm i hi, gf.same i (by omega)]
    have t' : Tabs H' := by
      have tf := (ht.grown ge).grown gf
      obtain ⟨_, ⟨x, h2⟩, y, h3⟩ := tf
      have := ht.1
      exact ⟨by have := gf.next; omega, ⟨x, by rw [hsm 0 (by omega)]; exact h2⟩, y, by rw [hsm 1 (by omega)]; exact h3⟩
    have hr := idle1_run d' lo (n + 1) (n + 2) (w := w) (h := h) (g := g) (a := a) (c := c) (near := near) (H := H') (by omega) hww q6 hn hnl (hb16 c hc) ((old _ (by omega)).trans e1) ((old _ (by omega)).trans e2) t' (by have := gf.next; omega) (by rw [hbs] at hc; exact hall c hc)
    rw [hfv]
    exact callVal_func (f := ⟨[]⟩) rfl ((mCall_text (F := F42) rfl (by kernel_rfl) lo _ H').trans hr)
  have hif : mCall P ctx table specs5 (d + 3) lo 73 [v0, fv] Hf = some (.int .i64 (idxF (mustT near g w.toNat a) bs 0), Hf) :=
    (mCall_text (F := F73) rfl (by kernel_rfl) lo _ Hf).trans (indexFunc_run _ hown.row (by omega) (hpred d))
  obtain ⟨v1, H1, hdf, k1, k2, k3⟩ := deleteFunc_run (mCall P ctx table specs5 (d + 3)) hown (by omega : lo ≤ n + 3) (Nat.le_refl _) (by omega) (hpred (d + 1)) hif
  have hdf : C lo 40 [v0, fv] Hf = some (v1, H1) := by
    rw [hC]; exact (mCall_text (F := F40) rfl (by kernel_rfl) lo _ Hf).trans hdf
  have hv0i : ∀ i ∈ idsOf v0, n + 3 ≤ i := by
    intro i hi
    rcases hown with ⟨_, h2⟩ | ⟨j, h1, _, h3, _⟩
    · rw [h2] at hi; cases hi
    · rw [h3] at hi
      have : i = j := List.mem_singleton.1 hi
      omega
  have g1 : Grown H H1 := ⟨by rw [k1]; exact Nat.le_trans ge.next gf.next, fun i hi => by
    rw [k2 i (fun hm => by have := hv0i i hm; omega), gf.same i (by omega), ge.same i hi]⟩
  refine ⟨v1, H1, ?_, g1, ?_⟩
  · simp only [F11, C11, leave_all, lowOf_all, argAt_zero, argAt_succ, argAt_nil, seqE_eq, leaf_eq, seqR_normal, seqR_ret, newPtr_eq, ← hnn, ← hHa, la, hcl, bv_some, bh_some, co0, co1, a1, ← hHb, hst, hne, condE_eq, condB_false, doneE_eq, lc, hsh, lg, hcm, c0, ← hHd, hst2, lg2, hli, ← hfv, hdf, resE_ret]
    rfl
  · rw [← hbs]
    rcases k3 with ⟨k4, rfl, rfl⟩ | ⟨k4, blk, tail, k5, k6, k7, k8⟩
    · refine .inl ⟨k4, ?_⟩
      rcases hown with h2 | ⟨j, h1, h2⟩
      · exact .inl h2
      · exact .inr ⟨j, by omega, h2⟩
    · exact .inr ⟨k4, blk, tail, by omega, by rw [k1]; exact k6, k7, k8⟩
end
end Go.Proofs.YtnnfpbdimgagdaaGreatDoor

namespace Go.Proofs.YtnnfpbdimgagdaaGreatDoor
open Go Go.Ev
set_option maxRecDepth 100000
noncomputable section

/-- is a cell spoiled, by numbers? -/
def badC (th d c : Nat) : Bool := isIn d c && Nat.beq ((th + 5 * c) % 4) 0
def badL (th d n : Nat) : List Nat := (List.range n).filter (badC th d)
/-- the sides, by numbers -/
def wideOf (a : Nat) : Nat := 1 + a % 8
def minN (a b : Nat) : Nat := cond (Nat.blt b a) b a
def highOf (a b : Nat) : Nat := 1 + b % minN 8 (16 / wideOf a)

theorem conv_n (k : IntKind) {x : Nat} (h : x < 9223372036854775808) : evConv .i64 (.int k (.ofNat x)) = some (.int .i64 (.ofNat x)) := by
  show some (Value.int .i64 (wrapF .i64 (.ofNat x))) = _
  rw [wrap_in (I64_nat h)]
theorem lesser_n (a b : Nat) : evLesser false (.int .i64 (.ofNat a)) (.int .i64 (.ofNat b)) = some (.int .i64 (.ofNat (minN a b))) := by
  show some (Value.int .i64 (cond (intLt (.ofNat b) (.ofNat a)) (.ofNat b) (.ofNat a))) = _
  unfold minN
  show some (Value.int .i64 (cond (Nat.blt b a) (.ofNat b) (.ofNat a))) = _
  cases Nat.blt b a <;> rfl
theorem bit_u16 {d c : Nat} (hc : c ≤ 16) (hd : d < 65536) :
    evShr (.int .u16 (.ofNat d)) (.int .i64 (.ofNat c)) = some (.int .u16 (.ofNat (d / 2 ^ c))) ∧ evAnd (.int .u16 (.ofNat (d / 2 ^ c))) (.int .u16 (.ofNat 1)) = some (.int .u16 (.ofNat (d / 2 ^ c % 2))) ∧
    evEql .int (.int .u16 (.ofNat (d / 2 ^ c % 2))) (.int .u16 (.ofNat 1)) = some (.bool (isIn d c)) := by
  have h1 : d / 2 ^ c < 65536 := Nat.lt_of_le_of_lt (Nat.div_le_self ..) hd
  refine ⟨?_, ?_, eql_n _ _ _⟩
  · show some (Value.int .u16 (.ofNat (Nat.div d (Nat.pow 2 (Nat.min c 16))))) = _
    have e : Nat.min c 16 = c := Nat.min_eq_left hc
    rw [e]; rfl
  · show some (Value.int .u16 (wrapF .u16 (.ofNat (Nat.land (d / 2 ^ c % 65536) (1 % 65536))))) = _
    rw [Nat.mod_eq_of_lt h1]
    have e : Nat.land (d / 2 ^ c) (1 % 65536) = d / 2 ^ c % 2 := Nat.and_one_is_mod _
    rw [e, wrapF_ofNat (k := .u16) (show d / 2 ^ c % 2 < 65536 by omega)]

theorem filter_range_succ (p : Nat → Bool) (j : Nat) : (List.range (j + 1)).filter p = (List.range j).filter p ++ cond (p j) [j] [] := by
  rw [List.range_succ, List.filter_append]
  cases h : p j <;> simp [h]

theorem made_run (C : CallF) (lo : Nat) {a b th d : Nat} (ha : a < 256) (hb : b < 256) (hth : th < 256) (hd : d < 65536) {H : AH} (hlo : lo ≤ H.next) :
    ∃ sl H1, F4 C lo [.agg ⟨[.int .u8 (.ofNat a), .int .u8 (.ofNat b), .int .u8 (.ofNat th), .int .u16 (.ofNat d)]⟩, .int .i64 (.ofNat 16)] H =
        some (.agg ⟨[.int .i64 (.ofNat (wideOf a)), .int .i64 (.ofNat (highOf a b)), sl]⟩, H1) ∧ OwnRow H.next 3 H1 sl (ints (badL th d (wideOf a * highOf a b))) ∧ Grown H H1 := by
  obtain ⟨n, hnn⟩ : ∃ n, n = H.next := ⟨_, rfl⟩
  obtain ⟨sh, hsv⟩ : ∃ sh, sh = Value.agg ⟨[.int .u8 (.ofNat a), .int .u8 (.ofNat b), .int .u8 (.ofNat th), .int .u16 (.ofNat d)]⟩ := ⟨_, rfl⟩
  obtain ⟨w, hw⟩ : ∃ w, w = wideOf a := ⟨_, rfl⟩
  obtain ⟨h, hh⟩ : ∃ h, h = highOf a b := ⟨_, rfl⟩
  obtain ⟨nn, hn2⟩ : ∃ nn, nn = w * h := ⟨_, rfl⟩
  rw [← hsv, ← hw, ← hh, ← hn2]
  have w8 : 1 ≤ w ∧ w ≤ 8 := by rw [hw]; unfold wideOf; omega
  have q16 : 2 ≤ 16 / w ∧ 16 / w ≤ 16 ∧ 16 / w * w ≤ 16 := ⟨by rw [Nat.le_div_iff_mul_le (by omega)]; omega, Nat.div_le_self .., Nat.div_mul_le_self ..⟩
  have mn : 1 ≤ minN 8 (16 / w) ∧ minN 8 (16 / w) ≤ 16 / w ∧ minN 8 (16 / w) ≤ 8 := by
    unfold minN
    cases hbb : Nat.blt (16 / w) 8 with
    | true => rw [Nat.blt_eq] at hbb; show 1 ≤ 16 / w ∧ 16 / w ≤ 16 / w ∧ 16 / w ≤ 8; omega
    | false =>
      have : 8 ≤ 16 / w := by
        rcases Nat.lt_or_ge (16 / w) 8 with h1 | h1
        · rw [blt_t h1] at hbb; cases hbb
        · exact h1
      show 1 ≤ 8 ∧ 8 ≤ 16 / w ∧ 8 ≤ 8; omega
  have hh2 : h = 1 + b % minN 8 (16 / w) := by rw [hh]; unfold highOf; rw [← hw]
  have hhm : h ≤ minN 8 (16 / w) := by
    have := Nat.mod_lt b (show 0 < minN 8 (16 / w) by omega)
    omega
  have n16 : nn ≤ 16 := by
    rw [hn2, Nat.mul_comm]
    exact Nat.le_trans (Nat.mul_le_mul_right w (show h ≤ 16 / w by omega)) q16.2.2
  obtain ⟨Ha, hHa⟩ : ∃ Ha, Ha = pushBox H 24 sh := ⟨_, rfl⟩
  have a1 : Ha.next = n + 1 := by rw [hHa, box_next, hnn]
  obtain ⟨Hb, hHb⟩ : ∃ Hb, Hb = pushBox Ha 27 z27 := ⟨_, rfl⟩
  have b1 : Hb.next = n + 2 := by rw [hHb, box_next, a1]
  have b0 : Hb.get n = some (.cells 4 [.int .u8 (.ofNat a), .int .u8 (.ofNat b), .int .u8 (.ofNat th), .int .u16 (.ofNat d)] 24) := by
    rw [hHb, box_old (by omega), hHa, hnn, box_get, hsv]; rfl
  have b2 : Hb.get (n + 1) = some (.cells 3 [.int .i64 (.ofNat 0), .int .i64 (.ofNat 0), .slice none 0 0] 27) := by rw [hHb, ← a1, box_get]; rfl
  have gb : Grown H Hb := by rw [hHb, hHa]; exact (Grown.push _ _).trans (.push _ _)
  obtain ⟨Hc, hHc⟩ : ∃ Hc, Hc = pushBox Hb 27 z27 := ⟨_, rfl⟩
  have c1 : Hc.next = n + 3 := by rw [hHc, box_next, b1]
  have c2 : Hc.get (n + 2) = some (.cells 3 [.int .i64 (.ofNat 0), .int .i64 (.ofNat 0), .slice none 0 0] 27) := by rw [hHc, ← b1, box_get]; rfl
  obtain ⟨Hd, hHd⟩ : ∃ Hd, Hd = Hc.set (n + 2) (.cells 3 [.int .i64 (.ofNat w), .int .i64 (.ofNat 0), .slice none 0 0] 27) := ⟨_, rfl⟩
  have hst1 : evStore lo Hc 3 (.pointer (some ⟨n + 2, 0, none⟩)) (.agg ⟨[.int .i64 (.ofNat w), .int .i64 (.ofNat 0), .slice none 0 0]⟩) = some Hd := by rw [hHd]; exact store_all c2 rfl rfl (by omega) rfl
  have d2 : Hd.get (n + 2) = some (.cells 3 [.int .i64 (.ofNat w), .int .i64 (.ofNat 0), .slice none 0 0] 27) := by rw [hHd, AH.get_set, if_pos rfl]
  have d0 : ∀ i, i < n + 2 → Hd.get i = Hb.get i := fun i hi => by rw [hHd, AH.get_set, if_neg (by omega), hHc, box_old (by omega)]
  obtain ⟨He, hHe⟩ : ∃ He, He = Hd.set (n + 2) (.cells 3 [.int .i64 (.ofNat w), .int .i64 (.ofNat h), .slice none 0 0] 27) := ⟨_, rfl⟩
  have hst2 : evStore lo Hd 1 (.pointer (some ⟨n + 2, 0 + 1, none⟩)) (.int .i64 (.ofNat h)) = some He := by rw [hHe]; exact store_at d2 rfl (by decide) (by omega) rfl rfl
  have e2 : He.get (n + 2) = some (.cells 3 [.int .i64 (.ofNat w), .int .i64 (.ofNat h), .slice none 0 0] 27) := by rw [hHe, AH.get_set, if_pos rfl]
  have e0 : ∀ i, i < n + 2 → He.get i = Hb.get i := fun i hi => by rw [hHe, AH.get_set, if_neg (by omega), d0 i hi]
  have e1 : He.next = n + 3 := by rw [hHe, AH.next_set, hHd, AH.next_set, c1]
  have hsh : ∀ i d, evShift (.pointer (some ⟨i, 0, none⟩)) d = some (.pointer (some ⟨i, 0 + d, none⟩)) := fun i d => rfl
  have l0 : evLoad Hb false 1 (.pointer (some ⟨n, 0 + 0, none⟩)) = some (.int .u8 (.ofNat a)) := load_at b0 rfl
  have l1 : evLoad Hd false 1 (.pointer (some ⟨n, 0 + 1, none⟩)) = some (.int .u8 (.ofNat b)) := load_at ((d0 n (by omega)).trans b0) rfl
  have l2 : evLoad Hd false 1 (.pointer (some ⟨n + 2, 0 + 0, none⟩)) = some (.int .i64 (.ofNat w)) := load_at d2 rfl
  have l3 : evLoad He false 1 (.pointer (some ⟨n + 2, 0 + 0, none⟩)) = some (.int .i64 (.ofNat w)) := load_at e2 rfl
  have l4 : evLoad He false 1 (.pointer (some ⟨n + 2, 0 + 1, none⟩)) = some (.int .i64 (.ofNat h)) := load_at e2 rfl
  have v0 : evConv .i64 (.int .u8 (.ofNat a)) = some (.int .i64 (.ofNat a)) := conv_n _ (by omega)
  have v1 : evConv .i64 (.int .u8 (.ofNat b)) = some (.int .i64 (.ofNat b)) := conv_n _ (by omega)
  have r0 : evRem (.int .i64 (.ofNat a)) (.int .i64 (.ofNat 8)) = some (.int .i64 (.ofNat (a % 8))) := rem_n (by decide)
  have s0 : evAdd (.int .i64 (.ofNat 1)) (.int .i64 (.ofNat (a % 8))) = some (.int .i64 (.ofNat w)) := by rw [hw]; exact add_n (by omega)
  have bld : evAgg [(0, 1, .int .i64 (.ofNat w))] (cellsOf z27) = some (.agg ⟨[.int .i64 (.ofNat w), .int .i64 (.ofNat 0), .slice none 0 0]⟩) := rfl
  have q0 : evQuo (.int .i64 (.ofNat 16)) (.int .i64 (.ofNat w)) = some (.int .i64 (.ofNat (16 / w))) := quo_n (by omega) (by decide)
  have m0 : evLesser false (.int .i64 (.ofNat 8)) (.int .i64 (.ofNat (16 / w))) = some (.int .i64 (.ofNat (minN 8 (16 / w)))) := lesser_n _ _
  have r1 : evRem (.int .i64 (.ofNat b)) (.int .i64 (.ofNat (minN 8 (16 / w)))) = some (.int .i64 (.ofNat (b % minN 8 (16 / w)))) := rem_n (by omega)
  have s1 : evAdd (.int .i64 (.ofNat 1)) (.int .i64 (.ofNat (b % minN 8 (16 / w)))) = some (.int .i64 (.ofNat h)) := by rw [hh2]; exact add_n (by omega)
  have mu : evMul (.int .i64 (.ofNat w)) (.int .i64 (.ofNat h)) = some (.int .i64 (.ofNat nn)) := by rw [hn2]; exact mul_n (by rw [← hn2]; omega)
  suffices hk : EvEnds (C4 C lo (sh, .int .i64 (.ofNat 16), undef, undef, undef, undef, undef, undef, undef, undef, ()) H)
      (fun e S H1 => e = .ret ∧ S.2.2.2.1 = .pointer (some ⟨n + 1, 0, none⟩) ∧ ∃ sl, H1.get (n + 1) = some (.cells 3 [.int .i64 (.ofNat w), .int .i64 (.ofNat h), sl] 27) ∧ OwnRow H.next 3 H1 sl (ints (badL th d nn)) ∧ Grown H H1) by
    obtain ⟨e, S, H1, q, rfl, h1, sl, h2, h3, h4⟩ := hk
    refine ⟨sl, H1, ?_, h3, h4⟩
    have h5 := load_all h2 rfl
    simp only [F4, leave_all, lowOf_all, argAt_zero, argAt_succ, argAt_nil, q, bv_some, resE_ret, h1, h5, oneOf_one]
  simp only [C4, seqE_eq, leaf_eq, seqR_normal, lowOf_all, argAt_zero, argAt_succ, argAt_nil, newPtr_eq, ← hnn, ← hHa, a1, ← hHb, b1, ← hHc, bv_some, hsh, l0, v0, r0, s0, bld, hst1, l1, v1, l2, q0, m0, r1, s1, hst2, l3, l4, mu, blockE_eq]
  refine EvEnds.seqBlock (K := fun S H1 => (∃ x5 j x8 x9, S = (sh, .int .i64 (.ofNat 16), .pointer (some ⟨n, 0, none⟩), .pointer (some ⟨n + 1, 0, none⟩), .pointer (some ⟨n + 2, 0, none⟩), x5, .int .i64 (.ofNat nn), .int .i64 (.ofNat j), x8, x9, ())) ∧ ∃ sl, (∀ i, i < n + 2 → H1.get i = Hb.get i) ∧ H1.get (n + 2) = some (.cells 3 [.int .i64 (.ofNat w), .int .i64 (.ofNat h), sl] 27) ∧ n + 3 ≤ H1.next ∧ OwnRow (n + 3) 3 H1 sl (ints (badL th d nn))) ?_ ?_
  · refine EvEnds.loop (fun k S H1 => ∃ j x5 x8 x9 sl, S = (sh, .int .i64 (.ofNat 16), .pointer (some ⟨n, 0, none⟩), .pointer (some ⟨n + 1, 0, none⟩), .pointer (some ⟨n + 2, 0, none⟩), x5, .int .i64 (.ofNat nn), .int .i64 (.ofNat j), x8, x9, ()) ∧ j ≤ nn ∧ k = nn - j ∧ (∀ i, i < n + 2 → H1.get i = Hb.get i) ∧ H1.get (n + 2) = some (.cells 3 [.int .i64 (.ofNat w), .int .i64 (.ofNat h), sl] 27) ∧ n + 3 ≤ H1.next ∧ OwnRow (n + 3) 3 H1 sl (ints (badL th d j))) ?_ fuel nn _ _ (show nn < 100000 by omega)
      ⟨0, _, _, _, _, rfl, Nat.zero_le _, rfl, e0, e2, by omega, .nil _ _ _⟩
    rintro k S H1 ⟨j, x5, x8, x9, sl, rfl, hj, rfl, old, hsl, hnx, hown⟩
    rcases Nat.eq_or_lt_of_le hj with hj | hj
    · have hlt : evLss (.int .i64 (.ofNat j)) (.int .i64 (.ofNat nn)) = some (.bool false) := by rw [lss_n, blt_f (by omega)]
      refine ⟨.exit 0, (sh, .int .i64 (.ofNat 16), .pointer (some ⟨n, 0, none⟩), .pointer (some ⟨n + 1, 0, none⟩), .pointer (some ⟨n + 2, 0, none⟩), x5, .int .i64 (.ofNat nn), .int .i64 (.ofNat j), .bool false, x9, ()), H1, ?_, rfl, ⟨_, _, _, _, rfl⟩, sl, old, hsl, hnx, by rw [← hj]; exact hown⟩
      simp only [seqE_eq, leaf_eq, bv_some, seqR_normal, seqR_exit, condE_eq, condB_false, doneE_eq, hlt]
    · have hlt : evLss (.int .i64 (.ofNat j)) (.int .i64 (.ofNat nn)) = some (.bool true) := by rw [lss_n, blt_t hj]
      have hadd : evAdd (.int .i64 (.ofNat j)) (.int .i64 (.ofNat 1)) = some (.int .i64 (.ofNat (j + 1))) := add_n (by omega)
      have hld : evLoad H1 false 1 (.pointer (some ⟨n, 0 + 3, none⟩)) = some (.int .u16 (.ofNat d)) := load_at ((old n (by omega)).trans b0) rfl
      have hlt2 : evLoad H1 false 1 (.pointer (some ⟨n, 0 + 2, none⟩)) = some (.int .u8 (.ofNat th)) := load_at ((old n (by omega)).trans b0) rfl
      have hcv : evConv .i64 (.int .u8 (.ofNat th)) = some (.int .i64 (.ofNat th)) := conv_n _ (by omega)
      obtain ⟨t1, t2, t3⟩ := bit_u16 (d := d) (c := j) (by omega) hd
      have m5 : evMul (.int .i64 (.ofNat 5)) (.int .i64 (.ofNat j)) = some (.int .i64 (.ofNat (5 * j))) := mul_n (by omega)
      have a5 : evAdd (.int .i64 (.ofNat th)) (.int .i64 (.ofNat (5 * j))) = some (.int .i64 (.ofNat (th + 5 * j))) := add_n (by omega)
      have r5 : evRem (.int .i64 (.ofNat (th + 5 * j))) (.int .i64 (.ofNat 4)) = some (.int .i64 (.ofNat ((th + 5 * j) % 4))) := rem_n (by decide)
      have q5 : evEql .int (.int .i64 (.ofNat ((th + 5 * j) % 4))) (.int .i64 (.ofNat 0)) = some (.bool (Nat.beq ((th + 5 * j) % 4) 0)) := eql_n _ _ _
      have hstep : badL th d (j + 1) = badL th d j ++ cond (badC th d j) [j] [] := filter_range_succ _ _
      have hbc : badC th d j = (isIn d j && Nat.beq ((th + 5 * j) % 4) 0) := rfl
      cases i1 : isIn d j with
      | false =>
        rw [i1] at t3 hbc
        rw [hbc] at hstep
        have hstep : badL th d (j + 1) = badL th d j := by rw [hstep]; exact List.append_nil _
        refine ⟨.normal, (sh, .int .i64 (.ofNat 16), .pointer (some ⟨n, 0, none⟩), .pointer (some ⟨n + 1, 0, none⟩), .pointer (some ⟨n + 2, 0, none⟩), .int .i64 (.ofNat j), .int .i64 (.ofNat nn), .int .i64 (.ofNat (j + 1)), .bool true, .bool false, ()), H1, ?_, nn - (j + 1), by omega, j + 1, _, _, _, sl, rfl, hj, rfl, old, hsl, hnx, by rw [hstep]; exact hown⟩
        simp only [seqE_eq, leaf_eq, bv_some, bh_some, seqR_normal, condE_eq, condB_true, condB_false, doneE_eq, blockE_eq, blockR_normal, hlt, hsh, hld, t1, t2, t3, guarded_ft, pick_false, hadd]
      | true =>
        rw [i1] at t3 hbc
        cases i2 : Nat.beq ((th + 5 * j) % 4) 0 with
        | false =>
          rw [i2] at q5 hbc
          rw [hbc] at hstep
          have hstep : badL th d (j + 1) = badL th d j := by rw [hstep]; exact List.append_nil _
          refine ⟨.normal, (sh, .int .i64 (.ofNat 16), .pointer (some ⟨n, 0, none⟩), .pointer (some ⟨n + 1, 0, none⟩), .pointer (some ⟨n + 2, 0, none⟩), .int .i64 (.ofNat j), .int .i64 (.ofNat nn), .int .i64 (.ofNat (j + 1)), .bool true, .bool false, ()), H1, ?_, nn - (j + 1), by omega, j + 1, _, _, _, sl, rfl, hj, rfl, old, hsl, hnx, by rw [hstep]; exact hown⟩
          simp only [seqE_eq, leaf_eq, bv_some, bh_some, seqR_normal, condE_eq, condB_true, condB_false, doneE_eq, blockE_eq, blockR_normal, hlt, hsh, hld, t1, t2, t3, guarded_tt, pairVH_eq, hlt2, hcv, m5, a5, r5, q5, pick_true, hadd]
        | true =>
          rw [i2] at q5 hbc
          rw [hbc] at hstep
          have hstep : badL th d (j + 1) = badL th d j ++ [j] := hstep
          have hlen : (ints (badL th d j)).length ≤ 16 := by
            rw [ints_length]
            have := List.length_filter_le (badC th d) (List.range j)
            rw [List.length_range] at this
            show ((List.range j).filter (badC th d)).length ≤ 16
            omega
          have hls : evLoad H1 false 1 (.pointer (some ⟨n + 2, 0 + 2, none⟩)) = some sl := load_at hsl rfl
          obtain ⟨v', H2, ha2, ho2, hn2', hk2⟩ := hown.append (lo := lo) (bytes := 8) (x := .int .i64 (.ofNat j)) (by omega) (by omega) (roomFor_of (by omega) (by omega)) rfl
          have hid : ∀ i, i < n + 3 → i ∉ idsOf sl := by
            intro i hi hm
            rcases hown with ⟨_, h2⟩ | ⟨k, h1, _, h3, _⟩
            · rw [h2] at hm; cases hm
            · rw [h3] at hm
              have : i = k := List.mem_singleton.1 hm
              omega
          have hsl2 : H2.get (n + 2) = some (.cells 3 [.int .i64 (.ofNat w), .int .i64 (.ofNat h), sl] 27) := by rw [hk2 _ (by omega) (hid _ (by omega))]; exact hsl
          obtain ⟨H3, hH3⟩ : ∃ H3, H3 = H2.set (n + 2) (.cells 3 [.int .i64 (.ofNat w), .int .i64 (.ofNat h), v'] 27) := ⟨_, rfl⟩
          have sv : cellsOf v' = [v'] ∧ single v' = true := by
            rcases ho2 with ⟨_, h2⟩ | ⟨k, _, _, h3, _⟩
            · rw [h2]; exact ⟨rfl, rfl⟩
            · rw [h3]; exact ⟨rfl, rfl⟩
          have hst : evStore lo H2 1 (.pointer (some ⟨n + 2, 0 + 2, none⟩)) v' = some H3 := by rw [hH3]; exact store_at hsl2 rfl (by decide) (by omega) sv.1 sv.2
          have k3 : ∀ i, i ≠ n + 2 → H3.get i = H2.get i := fun i hi => by rw [hH3, AH.get_set, if_neg hi]
          refine ⟨.normal, (sh, .int .i64 (.ofNat 16), .pointer (some ⟨n, 0, none⟩), .pointer (some ⟨n + 1, 0, none⟩), .pointer (some ⟨n + 2, 0, none⟩), .int .i64 (.ofNat j), .int .i64 (.ofNat nn), .int .i64 (.ofNat (j + 1)), .bool true, .bool true, ()), H3, ?_, nn - (j + 1), by omega, j + 1, _, _, _, v', rfl, hj, rfl, ?_, ?_, ?_, ?_⟩
          · simp only [seqE_eq, leaf_eq, bv_some, bh_some, seqR_normal, condE_eq, condB_true, condB_false, doneE_eq, blockE_eq, blockR_normal, hlt, hsh, hld, t1, t2, t3, guarded_tt, pairVH_eq, hlt2, hcv, m5, a5, r5, q5, pick_true, hls, fill_int, mul11, ha2, hst, hadd]
          · intro i hi
            rw [k3 i (by omega), hk2 i (by omega) (hid i (by omega)), old i hi]
          · rw [hH3, AH.get_set, if_pos rfl]
          · rw [hH3, AH.next_set]; omega
          · rw [hstep, ints_append]
            rcases ho2 with h2 | ⟨k, h1, h2, h3, h4, h5⟩
            · exact .inl h2
            · exact .inr ⟨k, h1, by rw [hH3, AH.next_set]; exact h2, h3, by rw [k3 k (by omega)]; exact h4, h5⟩
  · rintro S H1 ⟨⟨x5, j, x8, x9, rfl⟩, sl, old, hsl, hnx, hown⟩
    have lf := load_all hsl rfl
    have hz : H1.get (n + 1) = some (.cells 3 [.int .i64 (.ofNat 0), .int .i64 (.ofNat 0), .slice none 0 0] 27) := (old (n + 1) (by omega)).trans b2
    obtain ⟨H2, hH2⟩ : ∃ H2, H2 = H1.set (n + 1) (.cells 3 [.int .i64 (.ofNat w), .int .i64 (.ofNat h), sl] 27) := ⟨_, rfl⟩
    have ssl : single sl = true := by
      rcases hown with ⟨_, h2⟩ | ⟨k, _, _, h3, _⟩
      · rw [h2]; rfl
      · rw [h3]; rfl
    have hst : evStore lo H1 3 (.pointer (some ⟨n + 1, 0, none⟩)) (.agg ⟨[.int .i64 (.ofNat w), .int .i64 (.ofNat h), sl]⟩) = some H2 := by
      rw [hH2]; exact store_all hz rfl rfl (by omega) (by show (true && (true && (single sl && true))) = true; rw [ssl]; rfl)
    refine ⟨.ret, (sh, .int .i64 (.ofNat 16), .pointer (some ⟨n, 0, none⟩), .pointer (some ⟨n + 1, 0, none⟩), .pointer (some ⟨n + 2, 0, none⟩), x5, .int .i64 (.ofNat nn), .int .i64 (.ofNat j), x8, x9, ()), H2, ?_, rfl, rfl, sl, by rw [hH2, AH.get_set, if_pos rfl], ?_, ?_⟩
    · simp only [seqE_eq, leaf_eq, bv_some, seqR_normal, doneE_eq, lf, hst]
    · rcases hown with h2 | ⟨k, h1, h2, h3, h4, h5⟩
      · exact .inl h2
      · exact .inr ⟨k, by omega, by rw [hH2, AH.next_set]; exact h2, h3, by rw [hH2, AH.get_set, if_neg (by omega)]; exact h4, h5⟩
    · exact ⟨by rw [hH2, AH.next_set]; omega, fun i hi => by rw [hH2, AH.get_set, if_neg (by omega), old i (by omega), gb.same i hi]⟩

/-- the good cells -/
def goodL (zs : List Int) (n : Nat) : List Nat := (List.range n).filter fun c => !hasT (.ofNat c) zs

theorem good_run (C : CallF) (lo : Nat) {w h nn : Nat} {sl : Value} {zs : List Int} {H : AH} (hnn : nn = w * h) (hn : nn ≤ 16) (hs : readInts H sl = some zs) (hlo : lo ≤ H.next)
    (hC : ∀ H' : AH, Grown H H' → ∀ c : Nat, C lo 12 [sl, .int .i64 (.ofNat c)] H' = some (.bool (hasT (.ofNat c) zs), H')) :
    ∃ v1 H1, F5 C lo [.agg ⟨[.int .i64 (.ofNat w), .int .i64 (.ofNat h), sl]⟩] H = some (v1, H1) ∧ OwnRow H.next 3 H1 v1 (ints (goodL zs nn)) ∧ Grown H H1 := by
  obtain ⟨n, hnx⟩ : ∃ n, n = H.next := ⟨_, rfl⟩
  obtain ⟨Ha, hHa⟩ : ∃ Ha, Ha = pushBox H 27 (.agg ⟨[.int .i64 (.ofNat w), .int .i64 (.ofNat h), sl]⟩) := ⟨_, rfl⟩
  have a1 : Ha.next = n + 1 := by rw [hHa, box_next, hnx]
  have a2 : Ha.get n = some (.cells 3 [.int .i64 (.ofNat w), .int .i64 (.ofNat h), sl] 27) := by rw [hHa, hnx, box_get]; rfl
  have ga : Grown H Ha := by rw [hHa]; exact .push _ _
  have hsh : ∀ i d, evShift (.pointer (some ⟨i, 0, none⟩)) d = some (.pointer (some ⟨i, 0 + d, none⟩)) := fun i d => rfl
  have l0 : evLoad Ha false 1 (.pointer (some ⟨n, 0 + 0, none⟩)) = some (.int .i64 (.ofNat w)) := load_at a2 rfl
  have l1 : evLoad Ha false 1 (.pointer (some ⟨n, 0 + 1, none⟩)) = some (.int .i64 (.ofNat h)) := load_at a2 rfl
  have mu : evMul (.int .i64 (.ofNat w)) (.int .i64 (.ofNat h)) = some (.int .i64 (.ofNat nn)) := by rw [hnn]; exact mul_n (by rw [← hnn]; omega)
  simp only [F5, leave_all]
  refine EvEnds.body (Q := fun e S H1 => e = .ret ∧ OwnRow H.next 3 H1 S.2.2.1 (ints (goodL zs nn)) ∧ Grown H H1) ?_ ?_
  rotate_left
  · rintro e S H1 ⟨rfl, h1, h2⟩
    exact ⟨_, _, rfl, h1, h2⟩
  simp only [C5, seqE_eq, leaf_eq, seqR_normal, lowOf_all, argAt_zero, argAt_succ, argAt_nil, newPtr_eq, ← hnx, ← hHa, bv_some, hsh, l0, l1, mu, blockE_eq]
  refine EvEnds.seqBlock (K := fun S H1 => OwnRow n 3 H1 S.2.2.2.1 (ints (goodL zs nn)) ∧ Grown H H1) ?_ ?_
  rotate_left
  · rintro S H1 ⟨h1, h2⟩
    exact ⟨.ret, _, _, rfl, rfl, h1, h2⟩
  refine EvEnds.loop (fun k S H1 => ∃ j out x4 x7 x8, S = (.agg ⟨[.int .i64 (.ofNat w), .int .i64 (.ofNat h), sl]⟩, .pointer (some ⟨n, 0, none⟩), .slice none 0 0, out, x4, .int .i64 (.ofNat nn), .int .i64 (.ofNat j), x7, x8, ()) ∧ j ≤ nn ∧ k = nn - j ∧ Grown Ha H1 ∧ OwnRow (n + 1) 3 H1 out (ints (goodL zs j))) ?_ fuel nn _ _ (show nn < 100000 by omega)
    ⟨0, _, _, _, _, rfl, Nat.zero_le _, rfl, .refl _, .nil _ _ _⟩
  rintro k S H1 ⟨j, out, x4, x7, x8, rfl, hj, rfl, g1, hown⟩
  rcases Nat.eq_or_lt_of_le hj with hj | hj
  · have hlt : evLss (.int .i64 (.ofNat j)) (.int .i64 (.ofNat nn)) = some (.bool false) := by rw [lss_n, blt_f (by omega)]
    refine ⟨.exit 0, (.agg ⟨[.int .i64 (.ofNat w), .int .i64 (.ofNat h), sl]⟩, .pointer (some ⟨n, 0, none⟩), .slice none 0 0, out, x4, .int .i64 (.ofNat nn), .int .i64 (.ofNat j), .bool false, x8, ()), H1, ?_, rfl, ?_, ga.trans g1⟩
    · simp only [seqE_eq, leaf_eq, bv_some, seqR_normal, seqR_exit, condE_eq, condB_false, doneE_eq, hlt]
    · rw [hj] at hown
      rcases hown with h2 | ⟨k, h1, h2⟩
      · exact .inl h2
      · exact .inr ⟨k, by omega, h2⟩
  · have hlt : evLss (.int .i64 (.ofNat j)) (.int .i64 (.ofNat nn)) = some (.bool true) := by rw [lss_n, blt_t hj]
    have hadd : evAdd (.int .i64 (.ofNat j)) (.int .i64 (.ofNat 1)) = some (.int .i64 (.ofNat (j + 1))) := add_n (by omega)
    have hls : evLoad H1 false 1 (.pointer (some ⟨n, 0 + 2, none⟩)) = some sl := load_at (g1.get (by omega) a2) rfl
    have hc := hC H1 (ga.trans g1) j
    have hstep : goodL zs (j + 1) = goodL zs j ++ cond (!hasT (.ofNat j) zs) [j] [] := filter_range_succ _ _
    cases hb : hasT (.ofNat j) zs with
    | true =>
      rw [hb] at hc hstep
      have hstep : goodL zs (j + 1) = goodL zs j := by rw [hstep]; exact List.append_nil _
      refine ⟨.normal, (.agg ⟨[.int .i64 (.ofNat w), .int .i64 (.ofNat h), sl]⟩, .pointer (some ⟨n, 0, none⟩), .slice none 0 0, out, .int .i64 (.ofNat j), .int .i64 (.ofNat nn), .int .i64 (.ofNat (j + 1)), .bool true, .bool false, ()), H1, ?_, nn - (j + 1), by omega, j + 1, _, _, _, _, rfl, hj, rfl, g1, by rw [hstep]; exact hown⟩
      simp only [seqE_eq, leaf_eq, bv_some, bh_some, seqR_normal, condE_eq, condB_true, condB_false, doneE_eq, blockE_eq, blockR_normal, hlt, hsh, hls, hc, not_eq, Bool.not_true, hadd]
    | false =>
      rw [hb] at hc hstep
      have hstep : goodL zs (j + 1) = goodL zs j ++ [j] := hstep
      have hlen : (ints (goodL zs j)).length ≤ 16 := by
        rw [ints_length]
        have := List.length_filter_le (fun c => !hasT (.ofNat c) zs) (List.range j)
        rw [List.length_range] at this
        show ((List.range j).filter _).length ≤ 16
        omega
      obtain ⟨v', H2, ha2, ho2, hn2, hk2⟩ := hown.append (lo := lo) (bytes := 8) (x := .int .i64 (.ofNat j)) (by omega) (by have := g1.next; omega) (roomFor_of (by omega) (by omega)) rfl
      have hid : ∀ i, i < n + 1 → i ∉ idsOf out := by
        intro i hi hm
        rcases hown with ⟨_, h2⟩ | ⟨k, h1, _, h3, _⟩
        · rw [h2] at hm; cases hm
        · rw [h3] at hm
          have : i = k := List.mem_singleton.1 hm
          omega
      refine ⟨.normal, (.agg ⟨[.int .i64 (.ofNat w), .int .i64 (.ofNat h), sl]⟩, .pointer (some ⟨n, 0, none⟩), .slice none 0 0, v', .int .i64 (.ofNat j), .int .i64 (.ofNat nn), .int .i64 (.ofNat (j + 1)), .bool true, .bool true, ()), H2, ?_, nn - (j + 1), by omega, j + 1, _, _, _, _, rfl, hj, rfl, ⟨Nat.le_trans g1.next hn2, fun i hi => by rw [hk2 i (by have := g1.next; omega) (hid i (by omega)), g1.same i hi]⟩, by rw [hstep, ints_append]; exact ho2⟩
      simp only [seqE_eq, leaf_eq, bv_some, bh_some, seqR_normal, condE_eq, condB_true, condB_false, doneE_eq, blockE_eq, blockR_normal, hlt, hsh, hls, hc, not_eq, Bool.not_false, fill_int, mul11, ha2, hadd]
end
end Go.Proofs.YtnnfpbdimgagdaaGreatDoor

namespace Go.Proofs.YtnnfpbdimgagdaaGreatDoor
open Go Go.Ev
set_option maxRecDepth 100000
noncomputable section

theorem UNK_pos : 0 < UNK := by unfold UNK; decide
theorem OwnRow.sliceForm {b : Nat} {e : TypeId} {H : AH} {v : Value} {xs : List Value} (o : OwnRow b e H v xs) : ∃ a m c, v = .slice a m c := by
  rcases o with ⟨_, h⟩ | ⟨_, _, _, h, _⟩
  · exact ⟨_, _, _, h⟩
  · exact ⟨_, _, _, h⟩

theorem clone_run (C : CallF) {b lo : Nat} {H : AH} {v : Value} {xs : List Value} (o : OwnRow b 3 H v xs) (hlen : xs.length < 1000) (hsg : xs.all single = true) :
    ∃ v1 H1, F8 C lo [v] H = some (v1, H1) ∧ OwnRow H.next 3 H1 v1 xs ∧ Grown H H1 := by
  rcases o with ⟨h1, h2⟩ | ⟨j, h1, h2, h3, h4, h5⟩
  · subst h1 h2
    have he : evEql .slice (.slice none 0 0) (.slice none 0 0) = some (.bool true) := rfl
    refine ⟨.slice none 0 0, H, ?_, .nil _ _ _, .refl _⟩
    simp only [F8, C8, leave_all, lowOf_all, argAt_zero, argAt_succ, argAt_nil, seqE_eq, leaf_eq, seqR_normal, seqR_ret, bv_some, he, condE_eq, condB_true, doneE_eq, resE_ret, oneOf_one]
  · subst h3
    have hl0 : 0 < xs.length := by cases xs with | nil => exact absurd rfl h5 | cons => simp
    have he : evEql .slice (.slice (some ⟨j, 0, none⟩) xs.length (UNK + 1)) (.slice none 0 0) = some (.bool false) := rfl
    have hf : evFill [] (zeros (cellsOf (.int .i64 (.ofNat 0))) 0) = some [] := rfl
    obtain ⟨H1, hH1⟩ : ∃ H1, H1 = H.push (.cells (Nat.mul 0 1) [] 3) := ⟨_, rfl⟩
    have g1 : Grown H H1 := by rw [hH1]; exact .push _ _
    have n1 : H1.next = H.next + 1 := by rw [hH1]; rfl
    have hr : rowOf H1 1 (.slice (some ⟨j, 0, none⟩) xs.length (UNK + 1)) = some xs := by
      show cond (Nat.beq xs.length 0) (some []) (withCells H1 j fun s cs _ => need (Nat.ble (Nat.add 0 (Nat.mul xs.length 1)) s) (some (seg cs 0 (Nat.mul xs.length 1)))) = _
      rw [beqf (by omega)]
      unfold withCells
      rw [g1.get h2 h4]
      show need (Nat.ble (0 + xs.length * 1) xs.length) (some (seg xs 0 (xs.length * 1))) = _
      rw [Nat.ble_eq_true_of_le (by omega), seg_eq]
      simp
    have ha : evAppend lo H1 3 1 8 (newSlice H 0 0) (.slice (some ⟨j, 0, none⟩) xs.length (UNK + 1)) = some (newSlice H1 (0 + xs.length) (UNK + 1), H1.push (.cells ((0 + xs.length) * 1) ([] ++ xs) 3)) := by
      show withX (rowOf H1 1 (.slice (some ⟨j, 0, none⟩) xs.length (UNK + 1))) (fun new => need (new.all single) (evAppendTo lo H1 3 1 8 (newSlice H 0 0) xs.length new)) = _
      rw [hr, withX_some, hsg, need_true]
      show cond (Nat.beq xs.length 0) _ (need (roomFor 8 (Nat.add 0 xs.length)) (cond (Nat.ble UNK 0) _ (cond (Nat.ble (Nat.add 0 xs.length) 0) _ (withX (some []) fun old => some (newSlice H1 (Nat.add 0 xs.length) (Nat.add UNK 1), pushRow H1 3 1 (Nat.add 0 xs.length) (List.append old xs)))))) = _
      have u0 : Nat.ble UNK 0 = false := by
        cases hb : Nat.ble UNK 0 with
        | false => rfl
        | true => have := le_of_ble' hb; have := UNK_pos; omega
      have u1 : Nat.ble (Nat.add 0 xs.length) 0 = false := by
        cases hb : Nat.ble (Nat.add 0 xs.length) 0 with
        | false => rfl
        | true => have := le_of_ble' hb; have e : Nat.add 0 xs.length = 0 + xs.length := rfl; omega
      have e0 : Nat.add 0 xs.length = xs.length := Nat.zero_add _
      rw [beqf (by omega), u0, u1, show roomFor 8 (Nat.add 0 xs.length) = true from by rw [e0]; exact roomFor_of (by omega) (by omega)]; rfl
    rw [Nat.zero_add, Nat.mul_one, List.nil_append] at ha
    refine ⟨newSlice H1 xs.length (UNK + 1), H1.push (.cells xs.length xs 3), ?_, .inr ⟨H1.next, by omega, by simp, rfl, by rw [AH.get_push, if_pos rfl], h5⟩, g1.trans (.push _ _)⟩
    simp only [F8, C8, leave_all, lowOf_all, argAt_zero, argAt_succ, argAt_nil, seqE_eq, leaf_eq, seqR_normal, seqR_ret, bv_some, bh_some, he, condE_eq, condB_false, doneE_eq, hf, ← hH1, ha, resE_ret, oneOf_one]

theorem len64_run (C : CallF) (lo : Nat) (H : AH) : ∀ n, n < 13 → ∃ u, F72 C lo [.int .u64 (.ofNat n)] H = some (u, H)
  | 0, _ => ⟨_, rfl⟩ | 1, _ => ⟨_, rfl⟩ | 2, _ => ⟨_, rfl⟩ | 3, _ => ⟨_, rfl⟩ | 4, _ => ⟨_, rfl⟩ | 5, _ => ⟨_, rfl⟩ | 6, _ => ⟨_, rfl⟩
  | 7, _ => ⟨_, rfl⟩ | 8, _ => ⟨_, rfl⟩ | 9, _ => ⟨_, rfl⟩ | 10, _ => ⟨_, rfl⟩ | 11, _ => ⟨_, rfl⟩ | 12, _ => ⟨_, rfl⟩ | n + 13, h => absurd h (by omega)

theorem sort_run (d lo : Nat) {b : Nat} {H : AH} {v : Value} {xs : List Int} (o : OwnRow b 3 H v (intsZ xs)) (hlo : lo ≤ b) (hlen : xs.length < 13) :
    ∃ u H1, F9 (mCall P ctx table specs5 (d + 5)) lo [v] H = some (u, H1) ∧ OwnRow b 3 H1 v (intsZ (isortT xs)) ∧ H1.next = H.next ∧ ∀ i, i ∉ idsOf v → H1.get i = H.get i := by
  have hln : evLenS v = some (.int .i64 (.ofNat xs.length)) := by rw [o.len, intsZ_length]
  have hcv : evConv .u64 (.int .i64 (.ofNat xs.length)) = some (.int .u64 (.ofNat xs.length)) := by
    show some (Value.int .u64 (wrapF .u64 (.ofNat xs.length))) = _
    rw [wrapF_ofNat (k := .u64) (show xs.length < 18446744073709551616 by omega)]
  obtain ⟨u, hu⟩ := len64_run (mCall P ctx table specs5 (d + 3)) lo H xs.length hlen
  have h64 : mCall P ctx table specs5 (d + 4) lo 72 [.int .u64 (.ofNat xs.length)] H = some (u, H) := (mCall_text (F := F72) rfl (by kernel_rfl) lo _ H).trans hu
  have hL : mCall P ctx table specs5 (d + 5) lo 39 [.int .u64 (.ofNat xs.length)] H = some (u, H) := by
    rw [mCall_text (F := F39) rfl (by kernel_rfl)]
    simp only [F39, C39, leave_all, lowOf_all, argAt_zero, argAt_succ, argAt_nil, seqE_eq, leaf_eq, seqR_normal, bv_some, bh_some, condE_eq, condB_false, doneE_eq, h64, resE_ret, oneOf_one]
  have hless : ∀ x y H, mCall P ctx table specs5 (d + 3) lo 68 [.int .i64 x, .int .i64 y] H = some (.bool (intLt x y), H) := fun x y H =>
    (mCall_text (F := F68) rfl (by kernel_rfl) lo _ H).trans (less_run _ lo x y H ((mCall_text (F := F98) rfl (by kernel_rfl) lo _ H).trans (nan_run _ lo x H)))
  obtain ⟨u2, H1, hi, o1, n1, k1⟩ := isort_run (mCall P ctx table specs5 (d + 3)) o hlo (by omega) hless
  have hI : mCall P ctx table specs5 (d + 4) lo 62 [v, .int .i64 (.ofNat 0), .int .i64 (.ofNat xs.length)] H = some (u2, H1) := (mCall_text (F := F62) rfl (by kernel_rfl) lo _ H).trans hi
  have hsub : evSub (.int .i64 (.ofNat xs.length)) (.int .i64 (.ofNat 0)) = some (.int .i64 (.ofNat xs.length)) := sub_n (Nat.zero_le _) (by omega)
  have hle : evLeq (.int .i64 (.ofNat xs.length)) (.int .i64 (.ofNat 12)) = some (.bool true) := by rw [leq_n, blt_f (by omega)]; rfl
  have hP : ∃ u3, mCall P ctx table specs5 (d + 5) lo 38 [v, .int .i64 (.ofNat 0), .int .i64 (.ofNat xs.length), u] H = some (u3, H1) := by
    rw [mCall_text (F := F38) rfl (by kernel_rfl)]
    have hfu : fuel = 99999 + 1 := rfl
    simp only [F38, C38, leave_all, lowOf_all, argAt_zero, argAt_succ, argAt_nil, seqE_eq, leaf_eq, seqR_normal, blockE_eq]
    rw [hfu, loopE_succ]
    simp only [blockE_eq, seqE_eq, leaf_eq, seqR_normal, seqR_ret, blockR_ret, bv_some, bh_some, hsub, hle, condE_eq, condB_true, hI, doneE_eq, resE_ret]
    exact ⟨_, rfl⟩
  obtain ⟨u3, hP⟩ := hP
  refine ⟨.tuple ⟨[]⟩, H1, ?_, o1, n1, k1⟩
  · simp only [F9, C9, leave_all, lowOf_all, argAt_zero, argAt_succ, argAt_nil, seqE_eq, leaf_eq, seqR_normal, bv_some, bh_some, hln, hcv, hL, hP, resE_normal]
    rfl

theorem slab_run (C : CallF) (lo : Nat) {w h : Int} {v : Value} {H : AH} (hv : ∃ a m c, v = .slice a m c) (hlo : lo ≤ H.next) :
    ∃ H1, F10 C lo [.int .i64 w, .int .i64 h, v] H = some (.agg ⟨[.int .i64 w, .int .i64 h, v]⟩, H1) ∧ Grown H H1 := by
  obtain ⟨a, m, c, rfl⟩ := hv
  have b2 := box_get H 27 z27
  have b2 : (pushBox H 27 z27).get H.next = some (.cells 3 [.int .i64 (.ofNat 0), .int .i64 (.ofNat 0), .slice none 0 0] 27) := b2
  obtain ⟨Ha, hHa⟩ : ∃ Ha, Ha = pushBox H 27 z27 := ⟨_, rfl⟩
  rw [← hHa] at b2
  obtain ⟨Hb, hHb⟩ : ∃ Hb, Hb = Ha.set H.next (.cells 3 [.int .i64 w, .int .i64 h, .slice a m c] 27) := ⟨_, rfl⟩
  have hst : evStore lo Ha 3 (.pointer (some ⟨H.next, 0, none⟩)) (.agg ⟨[.int .i64 w, .int .i64 h, .slice a m c]⟩) = some Hb := by rw [hHb]; exact store_all b2 rfl rfl hlo rfl
  have bld : evAgg [(0, 1, .int .i64 w), (1, 1, .int .i64 h), (2, 1, .slice a m c)] (cellsOf z27) = some (.agg ⟨[.int .i64 w, .int .i64 h, .slice a m c]⟩) := rfl
  have hl := load_all (H := Hb) (i := H.next) (cs := [.int .i64 w, .int .i64 h, .slice a m c]) (s := 3) (e := 27) (by rw [hHb, AH.get_set, if_pos rfl]) rfl
  refine ⟨Hb, ?_, by rw [hHb, hHa]; exact (Grown.push _ _).set (Nat.le_refl _) _⟩
  simp only [F10, C10, leave_all, lowOf_all, argAt_zero, argAt_succ, argAt_nil, seqE_eq, leaf_eq, seqR_normal, bv_some, newPtr_eq, ← hHa, bld, hst, doneE_eq, resE_ret, hl, oneOf_one]
end
end Go.Proofs.YtnnfpbdimgagdaaGreatDoor

namespace Go.Proofs.YtnnfpbdimgagdaaGreatDoor
open Go Go.Ev
set_option maxRecDepth 1000000
noncomputable section

def eqL : List Nat → List Nat → Bool
  | [], [] => true
  | a :: xs, b :: ys => cond (Nat.beq a b) (eqL xs ys) false
  | _, _ => false
theorem cond_false_eq' {a b : Bool} (h : cond a b false = true) : a = true ∧ b = true := by cases a <;> cases b <;> simp_all
theorem eqL_eq : ∀ {a b : List Nat}, eqL a b = true → a = b
  | [], [], _ => rfl
  | [], _ :: _, h => by cases h
  | _ :: _, [], h => by cases h
  | a :: xs, b :: ys, h => by
    obtain ⟨h1, h2⟩ := cond_false_eq' (h : cond (Nat.beq a b) (eqL xs ys) false = true)
    rw [eq_of_beq' h1, eqL_eq h2]

/-- one cell more -/
def oneC (w h : Nat) (zs : List Int) (near : List Nat) (g a c : Nat) : Bool :=
  (mostT near (dif g (2 ^ c)) w).isSome && (match sawMostT (.ofNat w) (.ofNat h) (isortT (zs ++ [.ofNat c])) with
    | some (b, 0) => Nat.beq b (cond (mustT near g w a c) (a - 1) a)
    | _ => false)
/-- one slab -/
def slabC (w h : Nat) (sp : List Nat) : Bool :=
  match laidE (.ofNat w) (.ofNat h) (sp.map .ofNat) with
  | (0, g) => eqL (goodL (sp.map .ofNat) (w * h)) (evBits g) && (match mostT (nearTo w g (w * h)) g w with
      | none => false
      | some a => Nat.ble a 8 && (cond (evBits g).isEmpty (Nat.beq a 0) true) && (evBits g).all fun c => oneC w h (sp.map .ofNat) (nearTo w g (w * h)) g a c)
  | _ => false
/-- all lists that are left of a list -/
def subs : List Nat → List (List Nat)
  | [] => [[]]
  | x :: xs => let r := subs xs; r ++ r.map (x :: ·)
theorem filter_subs (p : Nat → Bool) : ∀ l : List Nat, l.filter p ∈ subs l
  | [] => by simp [subs]
  | x :: xs => by
    have ih := filter_subs p xs
    show _ ∈ subs xs ++ (subs xs).map (x :: ·)
    rw [List.filter_cons]
    split
    · exact List.mem_append_right _ (List.mem_map_of_mem ih)
    · exact List.mem_append_left _ ih
def candL (th n : Nat) : List Nat := (List.range n).filter fun c => Nat.beq ((th + 5 * c) % 4) 0
def shapeC (w h th : Nat) : Bool := (subs (candL th (w * h))).all (slabC w h)
def tallC (w h : Nat) : Bool := shapeC w h 0 && shapeC w h 1 && shapeC w h 2 && shapeC w h 3
def wideC (w : Nat) : Bool := (List.range (minN 8 (16 / w))).all fun k => tallC w (k + 1)
end
end Go.Proofs.YtnnfpbdimgagdaaGreatDoor
