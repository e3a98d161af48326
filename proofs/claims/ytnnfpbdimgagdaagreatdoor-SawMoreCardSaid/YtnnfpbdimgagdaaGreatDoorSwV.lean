/- The law SawMore, walked: it answers true at all numbers.
   Conditions: the tables of package math/bits lie where they should. -/
import Derived.Test.YtnnfpbdimgagdaaGreatDoorSwU
namespace Go.Proofs.YtnnfpbdimgagdaaGreatDoor
open Go Go.Ev
set_option maxRecDepth 100000
noncomputable section

theorem badL_cand (th d n : Nat) : badL th d n = (candL (th % 4) n).filter (isIn d) := by
  unfold badL candL
  rw [List.filter_filter]
  apply List.filter_congr
  intro c _
  unfold badC
  have : (th + 5 * c) % 4 = (th % 4 + 5 * c) % 4 := by omega
  rw [this]
theorem candL_few : ∀ t, t < 4 → ∀ n, n < 17 → (candL t n).length ≤ 4 := by decide +kernel
theorem badL_few {th d n : Nat} (hn : n ≤ 16) : (badL th d n).length ≤ 4 := by
  rw [badL_cand]
  exact Nat.le_trans (List.length_filter_le ..) (candL_few _ (Nat.mod_lt _ (by omega)) _ (by omega))
theorem callW_ne {lo f : Nat} {args : List Value} {H : AH} (hf : f ≠ 7) : callW lo f args H = mCall P ctx table specs5 10 lo f args H := by
  unfold callW; rw [beqf hf]; rfl
theorem OwnRow.fresh {b : Nat} {e : TypeId} {H : AH} {v : Value} {xs : List Value} (o : OwnRow b e H v xs) {i : Nat} (hi : i < b) : i ∉ idsOf v := by
  rcases o with ⟨_, rfl⟩ | ⟨j, h1, _, rfl, _⟩
  · exact List.not_mem_nil
  · intro h
    have : i = j := List.mem_singleton.1 h
    omega
theorem ints_single (l : List Nat) : (ints l).all single = true := by
  induction l with
  | nil => rfl
  | cons c l ih => show (true && (ints l).all single) = true; rw [ih]; rfl
theorem ints_at {l : List Nat} {j : Nat} (h : j < (ints l).length) : ∃ c, c ∈ l ∧ (ints l)[j] = .int .i64 (.ofNat c) := by
  rw [ints_length] at h
  exact ⟨l[j], List.getElem_mem h, List.getElem_map ..⟩

theorem law_run (lo : Nat) {a b th d o : Nat} (ha : a < 256) (hb : b < 256) (hth : th < 256) (hd : d < 65536) (ho : o < 256) {H : AH} (hlo : lo ≤ H.next) (ht : Tabs H) :
    ∃ H1, F3 callW lo [.agg ⟨[.int .u8 (.ofNat a), .int .u8 (.ofNat b), .int .u8 (.ofNat th), .int .u16 (.ofNat d)]⟩, .int .u8 (.ofNat o)] H = some (.bool true, H1) := by
  obtain ⟨n, hn⟩ : ∃ n, n = H.next := ⟨_, rfl⟩
  obtain ⟨C, hC⟩ : ∃ C, C = callW := ⟨_, rfl⟩
  obtain ⟨M, hM⟩ : ∃ M, M = mCall P ctx table specs5 9 := ⟨_, rfl⟩
  obtain ⟨w, hw⟩ : ∃ w, w = wideOf a := ⟨_, rfl⟩
  obtain ⟨h, hh⟩ : ∃ h, h = highOf a b := ⟨_, rfl⟩
  obtain ⟨sp, hsp⟩ : ∃ sp, sp = badL th d (w * h) := ⟨_, rfl⟩
  rw [← hC]
  have t2 := ht.1
  have hslab := all_slabs a b th d
  rw [← hw, ← hh, ← hsp] at hslab
  obtain ⟨g, m, hle, hgood, hmost, hm8, hm0, hall⟩ := slab_tells hslab
  have q5 : w * h ≤ 16 := by
    have := (laidE_ok hle).2.2.2.2.1
    have e : Int.ofNat w * Int.ofNat h = Int.ofNat (w * h) := rfl
    rw [e] at this
    exact Int.ofNat_le.1 this
  have hspl : sp.length ≤ 4 := by rw [hsp]; exact badL_few q5
  obtain ⟨sh, hshv⟩ : ∃ sh, sh = Value.agg ⟨[.int .u8 (.ofNat a), .int .u8 (.ofNat b), .int .u8 (.ofNat th), .int .u16 (.ofNat d)]⟩ := ⟨_, rfl⟩
  rw [← hshv]
  obtain ⟨Ha, hHa⟩ : ∃ Ha, Ha = pushBox H 24 sh := ⟨_, rfl⟩
  have a1 : Ha.next = n + 1 := by rw [hHa, box_next, hn]
  have a2 : Ha.get n = some (.cells 4 [.int .u8 (.ofNat a), .int .u8 (.ofNat b), .int .u8 (.ofNat th), .int .u16 (.ofNat d)] 24) := by rw [hHa, hn, box_get, hshv]; rfl
  have ga : Grown H Ha := by rw [hHa]; exact .push _ _
  have la : evLoad Ha true 4 (.pointer (some ⟨n, 0, none⟩)) = some sh := by rw [hshv]; exact load_all a2 rfl
  obtain ⟨sl, H1, hmd, osl, g1⟩ := made_run M lo ha hb hth hd (H := Ha) (by omega)
  rw [← hw, ← hh] at hmd osl
  rw [← hsp] at osl
  rw [← hshv] at hmd
  obtain ⟨sv, hsv⟩ : ∃ sv, sv = Value.agg ⟨[.int .i64 (.ofNat w), .int .i64 (.ofNat h), sl]⟩ := ⟨_, rfl⟩
  rw [← hsv] at hmd
  have cmd : C lo 4 [sh, .int .i64 (.ofNat 16)] Ha = some (sv, H1) := by
    rw [hC, callW_ne (by decide)]
    rw [hM] at hmd
    exact (mCall_text (F := F4) rfl (by kernel_rfl) lo _ Ha).trans hmd
  have n1 := g1.next
  obtain ⟨p, hp⟩ : ∃ p, p = H1.next := ⟨_, rfl⟩
  obtain ⟨sa, sm, sc, hsl⟩ := OwnRow.sliceForm osl
  obtain ⟨Hb, hHb⟩ : ∃ Hb, Hb = pushBox H1 27 z27 := ⟨_, rfl⟩
  have b1 : Hb.next = p + 1 := by rw [hHb, box_next, hp]
  have b2 : Hb.get p = some (.cells 3 [.int .i64 (.ofNat 0), .int .i64 (.ofNat 0), .slice none 0 0] 27) := by rw [hHb, hp, box_get]; rfl
  obtain ⟨Hc, hHc⟩ : ∃ Hc, Hc = Hb.set p (.cells 3 [.int .i64 (.ofNat w), .int .i64 (.ofNat h), sl] 27) := ⟨_, rfl⟩
  have hst : evStore lo Hb 3 (.pointer (some ⟨p, 0, none⟩)) sv = some Hc := by rw [hHc, hsv]; exact store_all b2 rfl rfl (by omega) (by rw [hsl]; rfl)
  have c1 : Hc.get p = some (.cells 3 [.int .i64 (.ofNat w), .int .i64 (.ofNat h), sl] 27) := by rw [hHc, AH.get_set, if_pos rfl]
  have c2 : Hc.next = p + 1 := by rw [hHc, AH.next_set, b1]
  have gc : Grown H1 Hc := by rw [hHc, hHb]; exact (Grown.push _ _).set (by omega) _
  have lsv : ∀ {K : AH}, Grown Hc K → evLoad K true 3 (.pointer (some ⟨p, 0, none⟩)) = some sv := fun gk => by rw [hsv]; exact load_all (gk.get (by omega) c1) rfl
  have lof : ∀ {K : AH}, Grown Hc K → ∀ (i : Nat) (x : Value), [.int .i64 (.ofNat w), .int .i64 (.ofNat h), sl][i]? = some x → evLoad K false 1 (.pointer (some ⟨p, 0 + i, none⟩)) = some x := fun gk i x hx => load_at (gk.get (by omega) c1) (by rw [Nat.zero_add]; exact hx)
  have oc : OwnRow Ha.next 3 Hc sl (ints sp) := osl.grown gc
  have rc : readInts Hc sl = some (sp.map .ofNat) := readInts_own (by rw [← ints_Z]; exact oc) (by rw [List.length_map]; omega)
  have htc : Tabs Hc := ht.grown (ga.trans (g1.trans gc))
  have hsm : sawMostT (.ofNat w) (.ofNat h) (sp.map .ofNat) = some (m, 0) := by
    unfold sawMostT
    rw [hle]
    show withX (mostT (nearTo w g (w * h)) g w) (fun r => some (r, 0)) = _
    rw [hmost]; rfl
  obtain ⟨v1, H4, hgd, ov1, g4⟩ := good_run M lo (w := w) (h := h) rfl q5 rc (by omega) (fun H' gk c => by
    rw [hM]; exact (mCall_spec rfl lo _ H').trans (sContains_at (by have := gk.next; omega) (readInts_grown rc gk)))
  rw [hgood] at ov1
  rw [← hsv] at hgd
  have cgd : C lo 5 [sv] Hc = some (v1, H4) := by
    rw [hC, callW_ne (by decide)]
    rw [hM] at hgd
    exact (mCall_text (F := F5) rfl (by kernel_rfl) lo _ Hc).trans hgd
  have n4 := g4.next
  have hln : evLenS v1 = some (.int .i64 (.ofNat (evBits g).length)) := by rw [ov1.len, ints_length]
  have cmo : ∀ {K : AH}, Grown Hc K → C lo 6 [sv] K = some (.tuple ⟨[.int .i64 (.ofNat m), .int .i64 (.ofNat 0)]⟩, K) := fun {K} gk => by
    rw [hC, callW_ne (by decide), hsv]
    exact (mCall_spec rfl lo _ K).trans (sSawMost_at (readInts_grown rc gk) (htc.grown gk) (by have := gk.next; omega) hsm)
  have k0 : ∀ x y : Value, evComp (.tuple ⟨[x, y]⟩) 0 = some x := fun _ _ => rfl
  have k1 : ∀ x y : Value, evComp (.tuple ⟨[x, y]⟩) 1 = some y := fun _ _ => rfl
  have cwk : ∀ {K : AH}, Grown Hc K → C lo 7 [] K = some (.bool true, K) := fun gk => by rw [hC]; exact works_at (htc.grown gk)
  have e00 : evEql .int (.int .i64 (.ofNat 0)) (.int .i64 (.ofNat 0)) = some (.bool true) := by rw [eql_n]; rfl
  have n00 : evNeq .int (.int .i64 (.ofNat 0)) (.int .i64 (.ofNat 0)) = some (.bool false) := by rw [neq_n]; rfl
  by_cases he : evBits g = []
  · have hm : m = 0 := hm0 he
    subst hm
    have hl0 : (evBits g).length = 0 := by rw [he]; rfl
    rw [hl0] at hln
    refine ⟨H4, ?_⟩
    simp only [F3, C3, leave_all, lowOf_all, argAt_zero, argAt_succ, argAt_nil, seqE_eq, leaf_eq, seqR_normal, seqR_ret, newPtr_eq, bv_some, bh_some, ← hn, ← hHa, la, cmd, ← hp, ← hHb, hst, lsv (.refl Hc), cgd, hln, e00, condE_eq, condB_true, lsv g4, cmo g4, k0, k1, guarded_tt, pairVH_eq, pick_true, cwk g4, doneE_eq, resE_ret, oneOf_one]
  · obtain ⟨k, hk⟩ : ∃ k, k = (evBits g).length := ⟨_, rfl⟩
    have hk0 : 0 < k := by rw [hk]; exact List.length_pos_iff.2 he
    rw [← hk] at hln
    have hl0 : evEql .int (.int .i64 (.ofNat k)) (.int .i64 (.ofNat 0)) = some (.bool false) := by rw [eql_n, beqf (by omega)]
    have hcv : evConv .i64 (.int .u8 (.ofNat o)) = some (.int .i64 (.ofNat o)) := conv_n .u8 (by omega)
    have hrm : evRem (.int .i64 (.ofNat o)) (.int .i64 (.ofNat k)) = some (.int .i64 (.ofNat (o % k))) := rem_n hk0
    have hj : o % k < (ints (evBits g)).length := by rw [ints_length, ← hk]; exact Nat.mod_lt _ hk0
    obtain ⟨ad, hidx, hld⟩ := ov1.at hj
    obtain ⟨c, hcm, hce⟩ := ints_at hj
    rw [hce] at hld
    obtain ⟨hsome, hbb⟩ := hall c hcm
    obtain ⟨must, hmu⟩ : ∃ must, must = mustT (nearTo w g (w * h)) g w m c := ⟨_, rfl⟩
    rw [← hmu] at hbb
    obtain ⟨mb, hmb⟩ : ∃ mb, mb = cond must (m - 1) m := ⟨_, rfl⟩
    rw [← hmb] at hbb
    -- the copy, one more, sorted
    obtain ⟨v2, H5, hcl, ov2, g5⟩ := clone_run M (lo := lo) (oc.grown g4) (by rw [ints_length]; omega) (ints_single sp)
    have ccl : C lo 8 [sl] H4 = some (v2, H5) := by
      rw [hC, callW_ne (by decide)]
      rw [hM] at hcl
      exact (mCall_text (F := F8) rfl (by kernel_rfl) lo _ H4).trans hcl
    have n5 := g5.next
    obtain ⟨v3, H6, hap, ov3, n6, k6⟩ := ov2.append (lo := lo) (bytes := 8) (x := .int .i64 (.ofNat c)) (by omega) (by omega) (by rw [ints_length]; exact roomFor_of (by omega) (by omega)) rfl
    have g6 : Grown H4 H6 := ⟨by omega, fun i hi => (k6 i (by omega) (OwnRow.fresh ov2 hi)).trans (g5.same i hi)⟩
    obtain ⟨zs, hzs⟩ : ∃ zs : List Int, zs = sp.map .ofNat ++ [.ofNat c] := ⟨_, rfl⟩
    have hzl : zs.length = sp.length + 1 := by rw [hzs]; simp
    have ov3 : OwnRow H4.next 3 H6 v3 (intsZ zs) := by
      have e : intsZ zs = ints sp ++ [.int .i64 (.ofNat c)] := by rw [hzs, ints_Z]; unfold intsZ; rw [List.map_append]; rfl
      rw [e]; exact ov3
    rw [← hzs] at hbb
    obtain ⟨u, H7, hso, ov4, n7, k7⟩ := sort_run 4 lo ov3 (by omega) (by omega)
    have cso : C lo 9 [v3] H6 = some (u, H7) := by
      rw [hC, callW_ne (by decide)]
      exact (mCall_text (F := F9) rfl (by kernel_rfl) lo _ H6).trans hso
    have g7 : Grown H4 H7 := ⟨by have := g6.next; omega, fun i hi => (k7 i (OwnRow.fresh ov3 hi)).trans (g6.same i hi)⟩
    have gc7 : Grown Hc H7 := g4.trans g7
    have n7' := g7.next
    obtain ⟨H8, hsb, g8⟩ := slab_run M lo (w := .ofNat w) (h := .ofNat h) (v := v3) (H := H7) (OwnRow.sliceForm ov4) (by omega)
    have csb : C lo 10 [.int .i64 (.ofNat w), .int .i64 (.ofNat h), v3] H7 = some (.agg ⟨[.int .i64 (.ofNat w), .int .i64 (.ofNat h), v3]⟩, H8) := by
      rw [hC, callW_ne (by decide)]
      rw [hM] at hsb
      exact (mCall_text (F := F10) rfl (by kernel_rfl) lo _ H7).trans hsb
    have hil : (isortT zs).length = zs.length := by
      have := ov3.len.symm.trans ov4.len
      rw [intsZ_length, intsZ_length] at this
      injection this with this
      injection this with _ this
      injection this with this
      exact this.symm
    have gc8 : Grown Hc H8 := gc7.trans g8
    have n8 := gc8.next
    have r8 : readInts H8 v3 = some (isortT zs) := readInts_own (ov4.grown g8) (by omega)
    have cm8 : C lo 6 [.agg ⟨[.int .i64 (.ofNat w), .int .i64 (.ofNat h), v3]⟩] H8 = some (.tuple ⟨[.int .i64 (.ofNat mb), .int .i64 (.ofNat 0)]⟩, H8) := by
      rw [hC, callW_ne (by decide)]
      exact (mCall_spec rfl lo _ H8).trans (sSawMost_at r8 (htc.grown gc8) (by omega) hbb)
    obtain ⟨v4, H9, hid, g9, hor⟩ := idle_run 5 lo (readInts_grown rc gc8) (htc.grown gc8) (by omega) hle (near := nearTo w g (w * h)) rfl hmost (fun c hc => (hall c hc).1)
    rw [← hsv] at hid
    have cid : C lo 11 [sv] H8 = some (.tuple ⟨[v4, .int .i64 (.ofNat 0)]⟩, H9) := by
      rw [hC, callW_ne (by decide)]
      exact (mCall_text (F := F11) rfl (by kernel_rfl) lo _ H8).trans hid
    have gc9 : Grown Hc H9 := gc8.trans g9
    have n9 := gc9.next
    have hfl : ((evBits g).filter fun c => !mustT (nearTo w g (w * h)) g w m c).length ≤ 64 := Nat.le_trans (List.length_filter_le ..) (ev_bits_length g)
    have r9 : readInts H9 v4 = some (((evBits g).filter fun c => !mustT (nearTo w g (w * h)) g w m c).map .ofNat) := by
      rcases hor with ⟨h1, h2⟩ | ⟨_, blk, tail, _, h2, h3, h4⟩
      · refine readInts_own (by rw [← ints_Z]; exact (congrArg (fun l => OwnRow H8.next 3 H9 v4 (ints l)) h1).mpr h2) (by rw [List.length_map]; omega)
      · rw [h3]
        refine readInts_slice (tail := tail) h2 (by rw [← ints_Z]; exact h4) (List.length_map ..).symm (List.length_filter_le ..) (by rw [List.length_map]; omega)
    have cct : C lo 12 [v4, .int .i64 (.ofNat c)] H9 = some (.bool (!must), H9) := by
      rw [hC, callW_ne (by decide)]
      have e : hasT (.ofNat c) (((evBits g).filter fun c => !mustT (nearTo w g (w * h)) g w m c).map .ofNat) = !must := by
        rw [Bool.eq_iff_iff, hasT_mem, List.mem_map, hmu]
        constructor
        · rintro ⟨x, hx, hxe⟩
          have : x = c := Int.ofNat.inj hxe
          subst this
          exact (List.mem_filter.1 hx).2
        · intro hx
          exact ⟨c, List.mem_filter.2 ⟨hcm, hx⟩, rfl⟩
      rw [← e]
      exact (mCall_spec rfl lo _ H9).trans (sContains_at (by omega) r9)
    have hlt : evLss (.int .i64 (.ofNat m)) (.int .i64 (.ofNat 0)) = some (.bool false) := by rw [lss_n, blt_f (by omega)]
    have hgt : evGtr (.int .i64 (.ofNat m)) (.int .i64 (.ofNat 8)) = some (.bool false) := by rw [gtr_n, blt_f (by omega)]
    have hsu : evSub (.int .i64 (.ofNat m)) (.int .i64 (.ofNat 1)) = some (.int .i64 (Int.ofNat m - 1)) := sub_i (y := Int.ofNat 1) (by constructor <;> (show _; simp; omega))
    have hfi : evFill [(0, 1, .int .i64 (.ofNat c))] (zeros (cellsOf (.int .i64 (.ofNat 0))) 1) = some [.int .i64 (.ofNat c)] := fill_int _ _ _
    refine ⟨H9, ?_⟩
    cases hmv : must with
    | false =>
      rw [hmv] at cct hmb
      have hmb : mb = m := hmb
      have heq : evEql .int (.int .i64 (.ofNat mb)) (.int .i64 (.ofNat m)) = some (.bool true) := by rw [hmb, eql_n, beqt rfl]
      simp only [F3, C3, leave_all, lowOf_all, argAt_zero, argAt_succ, argAt_nil, seqE_eq, leaf_eq, seqR_normal, seqR_ret, newPtr_eq, bv_some, bh_some, ← hn, ← hHa, la, cmd, ← hp, ← hHb, hst, lsv (.refl Hc), cgd, hln, hl0, condE_eq, condB_true, condB_false, k0, k1,
        guarded_tt, guarded_ff, pairVH_eq, pick_true, pick_false, doneE_eq, hcv, hrm, hidx, hld, shift_eq, lof g4 2 sl rfl, ccl, hfi, mul11, hap, cso, lsv gc7, cmo gc7, lof gc7 0 _ rfl, lof gc7 1 _ rfl, csb, cm8, lsv gc8, cid, n00, hlt, hgt, hsu, cct, Bool.not_false, heq, cwk gc9, resE_ret, oneOf_one]
    | true =>
      rw [hmv] at cct hmb
      have hmb : mb = m - 1 := hmb
      have hm1 : 1 ≤ m := by
        have : mustT (nearTo w g (w * h)) g w m c = true := by rw [← hmu, hmv]
        unfold mustT at this
        rw [Nat.blt_eq] at this
        omega
      have hzz : Int.ofNat m - 1 = Int.ofNat (m - 1) := by show (m : Int) - 1 = ((m - 1 : Nat) : Int); omega
      rw [hzz] at hsu
      have heq : evEql .int (.int .i64 (.ofNat mb)) (.int .i64 (.ofNat (m - 1))) = some (.bool true) := by rw [hmb, eql_n, beqt rfl]
      simp only [F3, C3, leave_all, lowOf_all, argAt_zero, argAt_succ, argAt_nil, seqE_eq, leaf_eq, seqR_normal, seqR_ret, newPtr_eq, bv_some, bh_some, ← hn, ← hHa, la, cmd, ← hp, ← hHb, hst, lsv (.refl Hc), cgd, hln, hl0, condE_eq, condB_true, condB_false, k0, k1,
        guarded_tt, guarded_ff, pairVH_eq, pick_true, pick_false, doneE_eq, hcv, hrm, hidx, hld, shift_eq, lof g4 2 sl rfl, ccl, hfi, mul11, hap, cso, lsv gc7, cmo gc7, lof gc7 0 _ rfl, lof gc7 1 _ rfl, csb, cm8, lsv gc8, cid, n00, hlt, hgt, hsu, cct, Bool.not_true, heq, cwk gc9, resE_ret, oneOf_one]
end
end Go.Proofs.YtnnfpbdimgagdaaGreatDoor
