/- Contracts of functions of package saw, and of those that it calls (merged from SwF, SwG, SwH).
   Conditions: none. -/
import Derived.Test.YtnnfpbdimgagdaaGreatDoorSxA
namespace Go.Proofs.YtnnfpbdimgagdaaGreatDoor
open Go Go.Ev
set_option maxRecDepth 100000
noncomputable section

theorem and_lt16 {a b : Nat} (hb : b < 65536) : a &&& b < 65536 := Nat.lt_of_le_of_lt Nat.and_le_right hb
theorem bits_lt16 {s : Nat} (hs : s < 65536) : ∀ d ∈ evBits s, d < 16 := by
  intro d hd
  rw [ev_mem_bits (by omega)] at hd
  rcases Nat.lt_or_ge d 16 with h | h
  · exact h
  · have : s < 2 ^ d := Nat.lt_of_lt_of_le hs (by have := Nat.pow_le_pow_right (n := 2) (by decide) h; simpa using this)
    rw [Nat.testBit_lt_two_pow this] at hd; cases hd
theorem pow_lt16 {c : Nat} (hc : c < 16) : 2 ^ c < 65536 := by
  have := Nat.pow_lt_pow_right (a := 2) (by decide) hc
  simpa using this

theorem try_run {n : Nat} {w h : Int} {g : Nat} {near : List Nat} {free lo : Nat} (hn : ∀ x ∈ near, x < 65536) (hnl : near.length = 16) (hfree : free < 65536) (hlo : lo ≤ n) (h2n : 2 ≤ n) :
    ∀ (f c seen : Nat) (mate : List Int) (H : AH) (r : Bool × Nat × List Int), c < 16 → tryT near free f c seen mate = some r → TrySt n w h g near free H seen mate → Tabs H →
      ∃ H1, mCall P ctx table specs3 (f + 1) lo 45 [.int .i64 (.ofNat c), .pointer (some ⟨n, 0, none⟩), .pointer (some ⟨n + 1, 0, none⟩), .pointer (some ⟨n + 3, 0, none⟩), .pointer (some ⟨n + 2, 0, none⟩), .pointer (some ⟨n + 4, 0, none⟩)] H = some (.bool r.1, H1) ∧
        TrySt n w h g near free H1 r.2.1 r.2.2 ∧ Kept2 n H H1 := by
  intro f
  induction f with
  | zero => intro c seen mate H r _ hr; cases hr
  | succ f ih =>
    intro c seen mate H r hc hr st ht
    rw [mCall_text (F := F45) rfl (by kernel_rfl)]
    have hr : goT (tryT near free f) c (evBits (near[c]?.getD 0 &&& free)) seen mate = some r := hr
    have hnc : near[c]?.getD 0 < 65536 := by rw [List.getElem?_eq_getElem (by omega)]; exact hn _ (List.getElem_mem _)
    obtain ⟨ds, hds⟩ : ∃ ds, ds = evBits (near[c]?.getD 0 &&& free) := ⟨_, rfl⟩
    have hds16 : ∀ d ∈ ds, d < 16 := by rw [hds]; exact bits_lt16 (and_lt16 hfree)
    have hdl : ds.length ≤ 64 := by rw [hds]; exact ev_bits_length _
    rw [← hds] at hr
    have hl1 : evLoad H false 1 (.pointer (some ⟨n, 0 + 3 + c * 1, none⟩)) = some (.int .u64 (.ofNat (near[c]?.getD 0))) := load_at st.pl (by rw [Nat.zero_add, Nat.mul_one]; exact plC_at _ _ _ _ _ (by omega))
    have hl2 : evLoad H false 1 (.pointer (some ⟨n + 1, 0, none⟩)) = some (.int .u64 (.ofNat free)) := load_box st.fr
    have ha1 : evAnd (.int .u64 (.ofNat (near[c]?.getD 0))) (.int .u64 (.ofNat free)) = some (.int .u64 (.ofNat (near[c]?.getD 0 &&& free))) := and_u (by omega) (by omega)
    have hcl : mCall P ctx table specs3 (f + 1) lo 41 [.int .u64 (.ofNat (near[c]?.getD 0 &&& free))] H = some (rowV H (ints ds), rowH H 3 (ints ds)) := by
      rw [hds]
      exact (mCall_spec rfl lo _ H).trans (sList_at (by have := and_lt16 (a := near[c]?.getD 0) hfree; omega) ht (by have := st.next; omega))
    have hix : evIdxArr 16 1 (.pointer (some ⟨n, 0 + 3, none⟩)) (.int .i64 (.ofNat c)) = some (.pointer (some ⟨n, 0 + 3 + c * 1, none⟩)) := idx_arr hc
    have hsh : evShift (.pointer (some ⟨n, 0, none⟩)) 3 = some (.pointer (some ⟨n, 0 + 3, none⟩)) := rfl
    obtain ⟨v0, hv0⟩ : ∃ v0, v0 = rowV H (ints ds) := ⟨_, rfl⟩
    obtain ⟨H0, hH0⟩ : ∃ H0, H0 = rowH H 3 (ints ds) := ⟨_, rfl⟩
    have hown : OwnRow H.next 3 H0 v0 (ints ds) := by rw [hv0, hH0]; exact rowH_own _ _ _
    have hg0 : Grown H H0 := by rw [hH0]; exact rowH_grown _ _ _
    rw [← hv0, ← hH0] at hcl
    have hlen : evLenS v0 = some (.int .i64 (.ofNat ds.length)) := by rw [hown.len, ints_length]
    have st0 : TrySt n w h g near free H0 seen mate := st.keep hg0.next fun i h1 h2 => hg0.same i (by have := st.next; omega)
    simp only [F45, leave_all]
    have key : ∀ (C : CallF), (∀ m seen mate H r, m < 16 → tryT near free f m seen mate = some r → TrySt n w h g near free H seen mate → Tabs H →
        ∃ H1, C lo 45 [.int .i64 (.ofNat m), .pointer (some ⟨n, 0, none⟩), .pointer (some ⟨n + 1, 0, none⟩), .pointer (some ⟨n + 3, 0, none⟩), .pointer (some ⟨n + 2, 0, none⟩), .pointer (some ⟨n + 4, 0, none⟩)] H = some (.bool r.1, H1) ∧
          TrySt n w h g near free H1 r.2.1 r.2.2 ∧ Kept2 n H H1) →
        C lo 41 [.int .u64 (.ofNat (near[c]?.getD 0 &&& free))] H = some (v0, H0) →
        EvEnds (C45 C lo (.int .i64 (.ofNat c), .pointer (some ⟨n, 0, none⟩), .pointer (some ⟨n + 1, 0, none⟩), .pointer (some ⟨n + 3, 0, none⟩), .pointer (some ⟨n + 2, 0, none⟩), .pointer (some ⟨n + 4, 0, none⟩), undef, undef, undef, undef, undef, undef, undef, undef, ()) H)
          fun e S H1 => e = .ret ∧ S.2.2.2.2.2.2.1 = .bool r.1 ∧ TrySt n w h g near free H1 r.2.1 r.2.2 ∧ Kept2 n H H1 := by
      intro C hC hL
      simp only [C45, seqE_eq, leaf_eq, seqR_normal, doneE_eq, hsh, hix, hl1, hl2, ha1, hL, hlen, bv_some, bh_some, blockE_eq]
      refine EvEnds.seqR (EvEnds.blockR (EvEnds.mono (Q := fun e S H1 => ((e = .exit 0 ∧ r.1 = false) ∨ (e = .ret ∧ r.1 = true ∧ S.2.2.2.2.2.2.1 = .bool true)) ∧ TrySt n w h g near free H1 r.2.1 r.2.2 ∧ Kept2 n H H1) ?_ ?_))
      rotate_left
      · rintro e S H1 ⟨⟨rfl, h1⟩ | ⟨rfl, h1, h3⟩, h2⟩
        · exact ⟨.ret, _, _, rfl, rfl, by rw [h1], h2⟩
        · exact ⟨rfl, by rw [h1]; exact h3, h2⟩
      refine EvEnds.loop (fun k S H1 => ∃ j seen mate x7 x11 x12 x13, S = (.int .i64 (.ofNat c), .pointer (some ⟨n, 0, none⟩), .pointer (some ⟨n + 1, 0, none⟩), .pointer (some ⟨n + 3, 0, none⟩), .pointer (some ⟨n + 2, 0, none⟩), .pointer (some ⟨n + 4, 0, none⟩), .bool false, x7, v0, .int .i64 (.ofNat ds.length), .int .i64 (.ofNat j), x11, x12, x13, ()) ∧
        j ≤ ds.length ∧ k = ds.length - j ∧ goT (tryT near free f) c (ds.drop j) seen mate = some r ∧ TrySt n w h g near free H1 seen mate ∧ Kept2 n H0 H1) ?_ fuel ds.length _ _ (Nat.lt_of_le_of_lt hdl (by decide))
        ⟨0, seen, mate, _, _, _, _, rfl, Nat.zero_le _, rfl, hr, st0, .refl _ _⟩
      rintro k S H1 ⟨j, seen, mate, x7, x11, x12, x13, rfl, hj, rfl, hgo, st1, hk1⟩
      have hk01 : Kept2 n H H1 := (Kept2.grown hg0).trans hk1
      rcases Nat.eq_or_lt_of_le hj with hj | hj
      · subst hj
        have hlt : evLss (.int .i64 (.ofNat ds.length)) (.int .i64 (.ofNat ds.length)) = some (.bool false) := by rw [lss_n, blt_f (Nat.le_refl _)]
        rw [List.drop_length] at hgo
        cases hgo
        refine ⟨.exit 0, (.int .i64 (.ofNat c), .pointer (some ⟨n, 0, none⟩), .pointer (some ⟨n + 1, 0, none⟩), .pointer (some ⟨n + 3, 0, none⟩), .pointer (some ⟨n + 2, 0, none⟩), .pointer (some ⟨n + 4, 0, none⟩), .bool false, x7, v0, .int .i64 (.ofNat ds.length), .int .i64 (.ofNat ds.length), .bool false, x12, x13, ()), H1, ?_, .inl ⟨rfl, rfl⟩, st1, hk01⟩
        simp only [seqE_eq, leaf_eq, bv_some, seqR_normal, seqR_exit, condE_eq, condB_false, doneE_eq, hlt]
      · have hlt : evLss (.int .i64 (.ofNat j)) (.int .i64 (.ofNat ds.length)) = some (.bool true) := by rw [lss_n, blt_t hj]
        have hdrop : ds.drop j = ds[j] :: ds.drop (j + 1) := List.drop_eq_getElem_cons hj
        obtain ⟨d, hd⟩ : ∃ d, d = ds[j] := ⟨_, rfl⟩
        rw [hdrop, ← hd] at hgo
        have hd16 : d < 16 := by rw [hd]; exact hds16 _ (List.getElem_mem _)
        obtain ⟨ad, had, hld⟩ := (hk1.own (Nat.le_trans st.next (Nat.le_refl _)) hown).at (j := j) (by rw [ints_length]; exact hj)
        have hld : evLoad H1 false 1 ad = some (.int .i64 (.ofNat d)) := by
          rw [hld, hd]
          congr 1
          simp [ints]
        have hadd : evAdd (.int .i64 (.ofNat j)) (.int .i64 (.ofNat 1)) = some (.int .i64 (.ofNat (j + 1))) := add_n (by omega)
        obtain ⟨b1, b2, b3⟩ := bit_u (g := seen) (c := d) (by omega) (by have := st1.seen; omega)
        have hls : evLoad H1 false 1 (.pointer (some ⟨n + 3, 0, none⟩)) = some (.int .u64 (.ofNat seen)) := load_box st1.se
        cases hin : isIn seen d with
        | true =>
          rw [hin] at b3
          have hgo : goT (tryT near free f) c (ds.drop (j + 1)) seen mate = some r := by
            have : goT (tryT near free f) c (d :: ds.drop (j + 1)) seen mate = goT (tryT near free f) c (ds.drop (j + 1)) seen mate := by
              show cond (isIn seen d) _ _ = _
              rw [hin]; rfl
            rw [← this]; exact hgo
          refine ⟨.normal, (.int .i64 (.ofNat c), .pointer (some ⟨n, 0, none⟩), .pointer (some ⟨n + 1, 0, none⟩), .pointer (some ⟨n + 3, 0, none⟩), .pointer (some ⟨n + 2, 0, none⟩), .pointer (some ⟨n + 4, 0, none⟩), .bool false, .int .i64 (.ofNat d), v0, .int .i64 (.ofNat ds.length), .int .i64 (.ofNat (j + 1)), .bool true, .bool true, x13, ()), H1, ?_, ds.length - (j + 1), by omega, j + 1, seen, mate, _, _, _, _, rfl, hj, rfl, hgo, st1, hk1⟩
          simp only [seqE_eq, leaf_eq, bv_some, seqR_normal, seqR_exit, condE_eq, condB_true, doneE_eq, blockE_eq, blockR_exit, hlt, had, hld, hls, b1, b2, b3, hadd]
        | false =>
          rw [hin] at b3
          have hgo1 : goT (tryT near free f) c (d :: ds.drop (j + 1)) seen mate = (match mate[d]? with
              | none => none
              | some (.negSucc _) => some (true, seen ||| 2 ^ d, mate.set d (.ofNat c))
              | some (.ofNat m) => match tryT near free f m (seen ||| 2 ^ d) mate with
                | none => none
                | some (true, s2, m2) => some (true, s2, m2.set d (.ofNat c))
                | some (false, s2, m2) => goT (tryT near free f) c (ds.drop (j + 1)) s2 m2) := by
            show cond (isIn seen d) _ _ = _
            rw [hin]; rfl
          rw [hgo1] at hgo
          have hd2 := pow_lt16 hd16
          have hs1 : seen ||| 2 ^ d < 65536 := Nat.or_lt_two_pow (n := 16) st1.seen hd2
          have hshl : evShl (.int .u64 (.ofNat 1)) (.int .i64 (.ofNat d)) = some (.int .u64 (.ofNat (1 * 2 ^ d))) := shl_u (by omega) (by omega)
          have hor : evOr (.int .u64 (.ofNat seen)) (.int .u64 (.ofNat (1 * 2 ^ d))) = some (.int .u64 (.ofNat (seen ||| 2 ^ d))) := by
            rw [Nat.one_mul]; exact or_u (by have := st1.seen; omega) (by omega)
          obtain ⟨H2, hH2⟩ : ∃ H2, H2 = H1.set (n + 3) (.cells 1 [.int .u64 (.ofNat (seen ||| 2 ^ d))] 41) := ⟨_, rfl⟩
          have hst : evStore lo H1 1 (.pointer (some ⟨n + 3, 0, none⟩)) (.int .u64 (.ofNat (seen ||| 2 ^ d))) = some H2 := by rw [hH2]; exact store_box st1.se (by omega) rfl rfl
          have st2 : TrySt n w h g near free H2 (seen ||| 2 ^ d) mate := by rw [hH2]; exact st1.setSeen hs1
          have hk2 : Kept2 n H0 H2 := by rw [hH2]; exact hk1.trans (.set3 _ _ _)
          have hk02 : Kept2 n H H2 := (Kept2.grown hg0).trans hk2
          have him : evIdxArr 16 1 (.pointer (some ⟨n + 2, 0, none⟩)) (.int .i64 (.ofNat d)) = some (.pointer (some ⟨n + 2, 0 + d * 1, none⟩)) := idx_arr hd16
          have hmd : mate[d]? = some (mate[d]'(by have := st1.len; omega)) := List.getElem?_eq_getElem (by have := st1.len; omega)
          obtain ⟨x, hx⟩ : ∃ x, x = mate[d]'(by have := st1.len; omega) := ⟨_, rfl⟩
          have hxm : x ∈ mate := by rw [hx]; exact List.getElem_mem _
          rw [← hx] at hmd
          rw [hmd] at hgo
          have ldm : ∀ {Hx : AH} {sx : Nat} {mx : List Int} {y : Int}, TrySt n w h g near free Hx sx mx → mx[d]? = some y → evLoad Hx false 1 (.pointer (some ⟨n + 2, 0 + d * 1, none⟩)) = some (.int .i64 y) := by
            intro Hx sx mx y stx hy
            obtain ⟨e, h1⟩ := stx.ma
            refine load_at h1 ?_
            rw [Nat.zero_add, Nat.mul_one]
            unfold mateC
            rw [List.getElem?_map, hy]; rfl
          have hlm := ldm st2 hmd
          have stm : ∀ {Hx : AH} {sx : Nat} {mx : List Int}, TrySt n w h g near free Hx sx mx → ∃ H3, evStore lo Hx 1 (.pointer (some ⟨n + 2, 0 + d * 1, none⟩)) (.int .i64 (.ofNat c)) = some H3 ∧ TrySt n w h g near free H3 sx (mx.set d (.ofNat c)) ∧ Kept2 n Hx H3 := by
            intro Hx sx mx stx
            obtain ⟨e, h1⟩ := stx.ma
            refine ⟨_, store_at h1 (by unfold mateC; rw [List.length_map]; exact stx.len) (by omega) (by omega) rfl rfl, ?_, .set2 _ _ _⟩
            rw [Nat.zero_add, Nat.mul_one]
            have e2 : (mateC mx).set d (.int .i64 (.ofNat c)) = mateC (mx.set d (.ofNat c)) := by unfold mateC; rw [List.map_set]
            rw [e2]
            exact stx.setMate hc
          rcases st1.mates x hxm with h0 | ⟨m, hm, h0⟩
          · rw [h0] at hlm hgo
            cases hgo
            have hlz : evLss (.int .i64 (.negSucc 0)) (.int .i64 (.ofNat 0)) = some (.bool true) := rfl
            obtain ⟨H3, hs3, st3, hk3⟩ := stm st2
            refine ⟨.ret, (.int .i64 (.ofNat c), .pointer (some ⟨n, 0, none⟩), .pointer (some ⟨n + 1, 0, none⟩), .pointer (some ⟨n + 3, 0, none⟩), .pointer (some ⟨n + 2, 0, none⟩), .pointer (some ⟨n + 4, 0, none⟩), .bool true, .int .i64 (.ofNat d), v0, .int .i64 (.ofNat ds.length), .int .i64 (.ofNat j), .bool true, .bool false, .bool true, ()), H3, ?_, .inr ⟨rfl, rfl, rfl⟩, st3, hk02.trans hk3⟩
            simp only [seqE_eq, leaf_eq, bv_some, bh_some, seqR_normal, seqR_ret, condE_eq, condB_true, condB_false, doneE_eq, blockE_eq, blockR_ret, hlt, had, hld, hls, b1, b2, b3, hshl, hor, hst, him, hlm, hlz, guarded_tf, pick_true, hs3]
          · rw [h0] at hlm hgo
            have hlz : evLss (.int .i64 (.ofNat m)) (.int .i64 (.ofNat 0)) = some (.bool false) := by rw [lss_n, blt_f (Nat.zero_le _)]
            have ht2 : Tabs H2 := hk02.tabs h2n ht
            obtain ⟨e4, htr⟩ := st2.tr
            have hlf := load_box htr
            have hgo : (match tryT near free f m (seen ||| 2 ^ d) mate with
                | none => none
                | some (true, s2, m2) => some (true, s2, m2.set d (.ofNat c))
                | some (false, s2, m2) => goT (tryT near free f) c (ds.drop (j + 1)) s2 m2) = some r := hgo
            cases hrec : tryT near free f m (seen ||| 2 ^ d) mate with
            | none => rw [hrec] at hgo; cases hgo
            | some r2 =>
              obtain ⟨b, s2, m2⟩ := r2
              obtain ⟨H3, hcall, st3, hk3⟩ := hC m _ _ H2 _ hm hrec st2 ht2
              rw [hrec] at hgo
              have hcv := fun (k : Value → AH → Option (Value × AH)) => callVal_func (k := k) (f := ⟨[]⟩) (vs := [.int .i64 (.ofNat m)]) (c := ⟨[.pointer (some ⟨n, 0, none⟩), .pointer (some ⟨n + 1, 0, none⟩), .pointer (some ⟨n + 3, 0, none⟩), .pointer (some ⟨n + 2, 0, none⟩), .pointer (some ⟨n + 4, 0, none⟩)]⟩) rfl hcall
              cases b with
              | true =>
                cases hgo
                obtain ⟨H4, hs4, st4, hk4⟩ := stm st3
                refine ⟨.ret, (.int .i64 (.ofNat c), .pointer (some ⟨n, 0, none⟩), .pointer (some ⟨n + 1, 0, none⟩), .pointer (some ⟨n + 3, 0, none⟩), .pointer (some ⟨n + 2, 0, none⟩), .pointer (some ⟨n + 4, 0, none⟩), .bool true, .int .i64 (.ofNat d), v0, .int .i64 (.ofNat ds.length), .int .i64 (.ofNat j), .bool true, .bool false, .bool true, ()), H4, ?_, .inr ⟨rfl, rfl, rfl⟩, st4, (hk02.trans hk3).trans hk4⟩
                simp only [seqE_eq, leaf_eq, bv_some, bh_some, seqR_normal, seqR_ret, condE_eq, condB_true, condB_false, doneE_eq, blockE_eq, blockR_ret, hlt, had, hld, hls, b1, b2, b3, hshl, hor, hst, him, hlm, hlz, guarded_ff, pairVH_eq, hlf, hcv, pick_false, hs4]
              | false =>
                refine ⟨.normal, (.int .i64 (.ofNat c), .pointer (some ⟨n, 0, none⟩), .pointer (some ⟨n + 1, 0, none⟩), .pointer (some ⟨n + 3, 0, none⟩), .pointer (some ⟨n + 2, 0, none⟩), .pointer (some ⟨n + 4, 0, none⟩), .bool false, .int .i64 (.ofNat d), v0, .int .i64 (.ofNat ds.length), .int .i64 (.ofNat (j + 1)), .bool true, .bool false, .bool false, ()), H3, ?_, ds.length - (j + 1), by omega, j + 1, s2, m2, _, _, _, _, rfl, hj, rfl, hgo, st3, hk2.trans hk3⟩
                simp only [seqE_eq, leaf_eq, bv_some, bh_some, seqR_normal, seqR_ret, condE_eq, condB_true, condB_false, doneE_eq, blockE_eq, blockR_normal, hlt, had, hld, hls, b1, b2, b3, hshl, hor, hst, him, hlm, hlz, guarded_ff, pairVH_eq, hlf, hcv, pick_false, hadd]
    obtain ⟨v, H1, h1, h2, h3⟩ := EvEnds.body (R := fun v H1 => v = .bool r.1 ∧ TrySt n w h g near free H1 r.2.1 r.2.2 ∧ Kept2 n H H1) (key _ ih hcl) (res := fun p => resE p.1 (some (oneOf [p.2.1.2.2.2.2.2.2.1], p.2.2))) (by
      rintro e S H1 ⟨rfl, h1, h2, h3⟩
      exact ⟨_, _, rfl, h1, h2, h3⟩)
    subst h2
    exact ⟨H1, h1, h3⟩
end
end Go.Proofs.YtnnfpbdimgagdaaGreatDoor

namespace Go.Proofs.YtnnfpbdimgagdaaGreatDoor
open Go Go.Ev
set_option maxRecDepth 100000
noncomputable section

/-- all cells in turn -/
def goM (near : List Nat) (free w : Nat) : List Nat → Nat → List Int → Option Nat
  | [], n, _ => some n
  | c :: cs, n, mate => cond (lightP w c) (goM near free w cs n mate)
      (match tryT near free 20 c 0 mate with
       | none => none
       | some (b, _, m) => goM near free w cs (cond b (n + 1) n) m)
/-- the greatest number of blanks -/
def mostT (near : List Nat) (free w : Nat) : Option Nat := goM near free w (evBits free) 0 (List.replicate 16 (.negSucc 0))

/-- unsigned numbers below 65536 -/
def natsOf : List Value → Option (List Nat)
  | [] => some []
  | v :: vs => match v with
    | .int .u64 (.ofNat x) => cond (Nat.blt x 65536) (withX (natsOf vs) fun l => some (x :: l)) none
    | _ => none
theorem natsOf_eq : ∀ {vs : List Value} {l : List Nat}, natsOf vs = some l → vs = l.map (fun x => .int .u64 (.ofNat x)) ∧ ∀ x ∈ l, x < 65536
  | [], l, h => by cases h; simp
  | v :: vs, l, h => by
    unfold natsOf at h
    split at h
    · rename_i x
      obtain ⟨h1, h2⟩ := cond_none_eq h
      obtain ⟨l2, h3, h4⟩ := withX_eq h2
      cases h4
      obtain ⟨h5, h6⟩ := natsOf_eq h3
      rw [Nat.blt_eq] at h1
      refine ⟨by rw [h5]; rfl, fun y hy => ?_⟩
      rcases List.mem_cons.1 hy with rfl | hy
      · exact h1
      · exact h6 y hy
    · cases h
theorem natsOf_of : ∀ {l : List Nat}, (∀ x ∈ l, x < 65536) → natsOf (l.map fun x => .int .u64 (.ofNat x)) = some l
  | [], _ => rfl
  | x :: l, h => by
    show cond (Nat.blt x 65536) (withX (natsOf (l.map fun x => .int .u64 (.ofNat x))) fun l => some (x :: l)) none = _
    rw [natsOf_of fun y hy => h y (List.mem_cons_of_mem _ hy), blt_t (h x (List.mem_cons_self ..))]; rfl

theorem newPtr_eq (H : AH) : newPtr H = .pointer (some ⟨H.next, 0, none⟩) := rfl

theorem most_run (lo : Nat) {w : Nat} {h : Int} {g : Nat} {near : List Nat} {free : Nat} {H : AH} (hn : ∀ x ∈ near, x < 65536) (hnl : near.length = 16) (hfree : free < 65536) (hw : 0 < w) (hlo : lo ≤ H.next) (ht : Tabs H)
    {r : Nat} (hr : mostT near free w = some r) :
    ∃ H1, F14 (mCall P ctx table specs3 21) lo [.agg ⟨plC (.ofNat w) h g near⟩, .int .u64 (.ofNat free)] H = some (.int .i64 (.ofNat r), H1) ∧ Grown H H1 := by
  obtain ⟨n, hnn⟩ : ∃ n, n = H.next := ⟨_, rfl⟩
  have h2n : 2 ≤ n := by rw [hnn]; exact ht.1
  simp only [F14, leave_all]
  have key : ∀ (C : CallF), C = mCall P ctx table specs3 21 → EvEnds (C14 C lo (.agg ⟨plC (.ofNat w) h g near⟩, .int .u64 (.ofNat free), undef, undef, undef, undef, undef, undef, undef, undef, undef, undef, undef, undef, undef, undef, undef, undef, undef, ()) H)
      fun e S H1 => e = .ret ∧ S.2.2.2.2.1 = .int .i64 (.ofNat r) ∧ Grown H H1 := by
    intro C hC
    have b0 : (pushBox H 44 (.agg ⟨plC (.ofNat w) h g near⟩)).next = n + 1 := by rw [box_next, hnn]
    obtain ⟨Ha, hHa⟩ : ∃ Ha, Ha = pushBox H 44 (.agg ⟨plC (.ofNat w) h g near⟩) := ⟨_, rfl⟩
    rw [← hHa] at b0
    obtain ⟨Hb, hHb⟩ : ∃ Hb, Hb = pushBox Ha 41 (.int .u64 (.ofNat free)) := ⟨_, rfl⟩
    have b1 : Hb.next = n + 2 := by rw [hHb, box_next, b0]
    obtain ⟨Hc, hHc⟩ : ∃ Hc, Hc = pushBox Hb 70 z70 := ⟨_, rfl⟩
    have b2 : Hc.next = n + 3 := by rw [hHc, box_next, b1]
    have gc0 : Hc.get n = some (.cells 19 (plC (.ofNat w) h g near) 44) := by
      rw [hHc, box_old (by omega), hHb, box_old (by omega), hHa, hnn, box_get]
      show some (AObj.cells (lenN (plC (.ofNat w) h g near)) (plC (.ofNat w) h g near) _) = _
      rw [lenN_eq, plC_length, hnl]
    have gc1 : Hc.get (n + 1) = some (.cells 1 [.int .u64 (.ofNat free)] 41) := by
      rw [hHc, box_old (by omega), hHb, ← b0, box_get]; rfl
    have gc2 : Hc.get (n + 2) = some (.cells 16 (mateC (List.replicate 0 (.negSucc 0) ++ List.replicate 16 0)) 70) := by
      rw [hHc, ← b1, box_get]; rfl
    have gH : Grown H Hc := by
      rw [hHc, hHb, hHa]
      exact ((Grown.push _ _).trans (.push _ _)).trans (.push _ _)
    simp only [C14, seqE_eq, leaf_eq, seqR_normal, newPtr_eq, ← hnn, ← hHa, b0, ← hHb, b1, ← hHc, blockE_eq]
    refine EvEnds.seqBlock (K := fun S H1 => (∃ x6 x11 x12, S = (.agg ⟨plC (.ofNat w) h g near⟩, .int .u64 (.ofNat free), .pointer (some ⟨n, 0, none⟩), .pointer (some ⟨n + 1, 0, none⟩), .int .i64 (.ofNat 0), .pointer (some ⟨n + 2, 0, none⟩), x6, undef, undef, undef, undef, x11, x12, undef, undef, undef, undef, undef, undef, ())) ∧
      H1.next = n + 3 ∧ (∀ i, i ≠ n + 2 → H1.get i = Hc.get i) ∧ H1.get (n + 2) = some (.cells 16 (mateC (List.replicate 16 (.negSucc 0))) 70)) ?_ ?_
    · refine EvEnds.loop (fun k S H1 => ∃ j x6 x12, S = (.agg ⟨plC (.ofNat w) h g near⟩, .int .u64 (.ofNat free), .pointer (some ⟨n, 0, none⟩), .pointer (some ⟨n + 1, 0, none⟩), .int .i64 (.ofNat 0), .pointer (some ⟨n + 2, 0, none⟩), x6, undef, undef, undef, undef, .int .i64 (.ofNat j), x12, undef, undef, undef, undef, undef, undef, ()) ∧
        j ≤ 16 ∧ k = 16 - j ∧ H1.next = n + 3 ∧ (∀ i, i ≠ n + 2 → H1.get i = Hc.get i) ∧ H1.get (n + 2) = some (.cells 16 (mateC (List.replicate j (.negSucc 0) ++ List.replicate (16 - j) 0)) 70)) ?_ fuel 16 _ _ (by decide)
        ⟨0, _, _, rfl, by omega, rfl, b2, fun _ _ => rfl, gc2⟩
      rintro k S H1 ⟨j, x6, x12, rfl, hj, rfl, hnx, hsame, hma⟩
      rcases Nat.eq_or_lt_of_le hj with hj | hj
      · subst hj
        have hlt : evLss (.int .i64 (.ofNat 16)) (.int .i64 (.ofNat 16)) = some (.bool false) := rfl
        refine ⟨.exit 0, (.agg ⟨plC (.ofNat w) h g near⟩, .int .u64 (.ofNat free), .pointer (some ⟨n, 0, none⟩), .pointer (some ⟨n + 1, 0, none⟩), .int .i64 (.ofNat 0), .pointer (some ⟨n + 2, 0, none⟩), x6, undef, undef, undef, undef, .int .i64 (.ofNat 16), .bool false, undef, undef, undef, undef, undef, undef, ()), H1, ?_, rfl, ⟨_, _, _, rfl⟩, hnx, hsame, by simpa using hma⟩
        simp only [seqE_eq, leaf_eq, bv_some, seqR_normal, seqR_exit, condE_eq, condB_false, doneE_eq, hlt]
      · have hlt : evLss (.int .i64 (.ofNat j)) (.int .i64 (.ofNat 16)) = some (.bool true) := by rw [lss_n, blt_t hj]
        have hadd : evAdd (.int .i64 (.ofNat j)) (.int .i64 (.ofNat 1)) = some (.int .i64 (.ofNat (j + 1))) := add_n (by omega)
        have hix : evIdxArr 16 1 (.pointer (some ⟨n + 2, 0, none⟩)) (.int .i64 (.ofNat j)) = some (.pointer (some ⟨n + 2, 0 + j * 1, none⟩)) := idx_arr hj
        obtain ⟨H2, hH2⟩ : ∃ H2, H2 = H1.set (n + 2) (.cells 16 ((mateC (List.replicate j (.negSucc 0) ++ List.replicate (16 - j) 0)).set (0 + j * 1) (.int .i64 (.negSucc 0))) 70) := ⟨_, rfl⟩
        have hst : evStore lo H1 1 (.pointer (some ⟨n + 2, 0 + j * 1, none⟩)) (.int .i64 (.negSucc 0)) = some H2 := by
          rw [hH2]; exact store_at hma (by unfold mateC; simp; omega) (by omega) (by omega) rfl rfl
        refine ⟨.normal, (.agg ⟨plC (.ofNat w) h g near⟩, .int .u64 (.ofNat free), .pointer (some ⟨n, 0, none⟩), .pointer (some ⟨n + 1, 0, none⟩), .int .i64 (.ofNat 0), .pointer (some ⟨n + 2, 0, none⟩), .int .i64 (.ofNat j), undef, undef, undef, undef, .int .i64 (.ofNat (j + 1)), .bool true, undef, undef, undef, undef, undef, undef, ()), H2, ?_, 16 - (j + 1), by omega, j + 1, _, _, rfl, hj, rfl, ?_, ?_, ?_⟩
        · simp only [seqE_eq, leaf_eq, bv_some, seqR_normal, condE_eq, condB_true, doneE_eq, blockE_eq, blockR_normal, hlt, hix, hst, hadd]
        · rw [hH2, AH.next_set]; exact hnx
        · intro i hi; rw [hH2, AH.get_set, if_neg hi]; exact hsame i hi
        · rw [hH2, AH.get_set, if_pos rfl]
          congr 2
          rw [Nat.zero_add, Nat.mul_one]
          unfold mateC
          rw [← List.map_set (f := fun z => Value.int .i64 z)]
          congr 1
          apply List.ext_getElem?
          intro i
          simp only [List.getElem?_set, List.getElem?_append, List.getElem?_replicate, List.length_append, List.length_replicate]
          repeat' split
          all_goals first | rfl | omega
    · rintro S H1 ⟨⟨x6, x11, x12, rfl⟩, hnx, hsame, hma⟩
      obtain ⟨Hd, hHd⟩ : ∃ Hd, Hd = pushBox H1 41 (.int .u64 (.ofNat 0)) := ⟨_, rfl⟩
      have d1 : Hd.next = n + 4 := by rw [hHd, box_next, hnx]
      have d2 : Hd.get (n + 3) = some (.cells 1 [.int .u64 (.ofNat 0)] 41) := by rw [hHd, ← hnx, box_get]; rfl
      obtain ⟨He, hHe⟩ : ∃ He, He = Hd.set (n + 3) (.cells 1 [.int .u64 (.ofNat 0)] 41) := ⟨_, rfl⟩
      have sd : evStore lo Hd 1 (.pointer (some ⟨n + 3, 0, none⟩)) (.int .u64 (.ofNat 0)) = some He := by rw [hHe]; exact store_box d2 (by omega) rfl rfl
      have e1 : He.next = n + 4 := by rw [hHe, AH.next_set, d1]
      obtain ⟨Hf, hHf⟩ : ∃ Hf, Hf = pushBox He 67 .nilFunc := ⟨_, rfl⟩
      have f1 : Hf.next = n + 5 := by rw [hHf, box_next, e1]
      have f2 : Hf.get (n + 4) = some (.cells 1 [.nilFunc] 67) := by rw [hHf, ← e1, box_get]; rfl
      obtain ⟨fv, hfv⟩ : ∃ fv, fv = Value.func (.func 45) ⟨[]⟩ ⟨[.pointer (some ⟨n, 0, none⟩), .pointer (some ⟨n + 1, 0, none⟩), .pointer (some ⟨n + 3, 0, none⟩), .pointer (some ⟨n + 2, 0, none⟩), .pointer (some ⟨n + 4, 0, none⟩)]⟩ := ⟨_, rfl⟩
      obtain ⟨Hg, hHg⟩ : ∃ Hg, Hg = Hf.set (n + 4) (.cells 1 [fv] 67) := ⟨_, rfl⟩
      have sf : evStore lo Hf 1 (.pointer (some ⟨n + 4, 0, none⟩)) fv = some Hg := by rw [hHg]; exact store_box f2 (by omega) (by rw [hfv]; rfl) (by rw [hfv]; rfl)
      have old : ∀ i, i < n + 3 → i ≠ n + 2 → Hg.get i = Hc.get i := by
        intro i hi h2
        rw [hHg, AH.get_set, if_neg (by omega), hHf, box_old (by omega), hHe, AH.get_set, if_neg (by omega), hHd, box_old (by omega), hsame i h2]
      have st : TrySt n (.ofNat w) h g near free Hg 0 (List.replicate 16 (.negSucc 0)) := by
        refine ⟨by unfold PlAt; rw [old n (by omega) (by omega)]; exact gc0, by rw [old (n + 1) (by omega) (by omega)]; exact gc1, ⟨70, ?_⟩, ?_, ⟨67, by rw [hHg, AH.get_set, if_pos rfl, hfv]⟩, by rw [hHg, AH.next_set, f1]; omega, by simp, ?_, by decide⟩
        · rw [hHg, AH.get_set, if_neg (by omega), hHf, box_old (by omega), hHe, AH.get_set, if_neg (by omega), hHd, box_old (by omega)]; exact hma
        · rw [hHg, AH.get_set, if_neg (by omega), hHf, box_old (by omega), hHe, AH.get_set, if_pos rfl]
        · intro x hx
          rw [List.mem_replicate] at hx
          exact .inl hx.2
      have gHg : Grown H Hg := ⟨by rw [hHg, AH.next_set, f1]; omega, fun i hi => by rw [old i (by omega) (by omega), gH.same i hi]⟩
      have tg : Tabs Hg := ht.grown gHg
      obtain ⟨ds, hds⟩ : ∃ ds, ds = evBits free := ⟨_, rfl⟩
      have hds16 : ∀ d ∈ ds, d < 16 := by rw [hds]; exact bits_lt16 hfree
      have hdl : ds.length ≤ 64 := by rw [hds]; exact ev_bits_length _
      obtain ⟨v0, hv0⟩ : ∃ v0, v0 = rowV Hg (ints ds) := ⟨_, rfl⟩
      obtain ⟨Hh, hHh⟩ : ∃ Hh, Hh = rowH Hg 3 (ints ds) := ⟨_, rfl⟩
      have hcl : C lo 41 [.int .u64 (.ofNat free)] Hg = some (v0, Hh) := by
        rw [hC, hv0, hHh, hds]
        exact (mCall_spec rfl lo _ Hg).trans (sList_at (by omega) tg (by have := gHg.next; omega))
      have hown : OwnRow Hg.next 3 Hh v0 (ints ds) := by rw [hv0, hHh]; exact rowH_own _ _ _
      have hgh : Grown Hg Hh := by rw [hHh]; exact rowH_grown _ _ _
      have hlen : evLenS v0 = some (.int .i64 (.ofNat ds.length)) := by rw [hown.len, ints_length]
      have st0 := st.keep hgh.next fun i _ h2 => hgh.same i (by have := st.next; omega)
      have hl3 : evLoad Hg false 1 (.pointer (some ⟨n + 1, 0, none⟩)) = some (.int .u64 (.ofNat free)) := load_box st.fr
      have hr : goM near free w ds 0 (List.replicate 16 (.negSucc 0)) = some r := by rw [hds]; exact hr
      simp only [seqE_eq, leaf_eq, seqR_normal, newPtr_eq, hnx, ← hHd, bv_some, sd, e1, ← hHf, ← hfv, sf, hl3, hcl, bh_some, hlen, blockE_eq]
      refine EvEnds.seqBlock (K := fun S H1 => S.2.2.2.2.2.2.2.1 = .int .i64 (.ofNat r) ∧ Grown H H1) ?_ ?_
      rotate_left
      · rintro S H1 ⟨h1, h2⟩
        exact ⟨.ret, _, _, rfl, rfl, h1, h2⟩
      refine EvEnds.loop (fun k S H1 => ∃ j cnt seen mate x10 x16 x17 x18, S = (.agg ⟨plC (.ofNat w) h g near⟩, .int .u64 (.ofNat free), .pointer (some ⟨n, 0, none⟩), .pointer (some ⟨n + 1, 0, none⟩), .int .i64 (.ofNat 0), .pointer (some ⟨n + 2, 0, none⟩), x6, .int .i64 (.ofNat cnt), .pointer (some ⟨n + 3, 0, none⟩), .pointer (some ⟨n + 4, 0, none⟩), x10, x11, x12, v0, .int .i64 (.ofNat ds.length), .int .i64 (.ofNat j), x16, x17, x18, ()) ∧
        j ≤ ds.length ∧ k = ds.length - j ∧ cnt ≤ j ∧ goM near free w (ds.drop j) cnt mate = some r ∧ TrySt n (.ofNat w) h g near free H1 seen mate ∧ Kept2 n Hh H1) ?_ fuel ds.length _ _ (Nat.lt_of_le_of_lt hdl (by decide))
        ⟨0, 0, 0, _, _, _, _, _, rfl, Nat.zero_le _, rfl, Nat.le_refl _, hr, st0, .refl _ _⟩
      rintro k S H1 ⟨j, cnt, seen, mate, x10, x16, x17, x18, rfl, hj, rfl, hcnt, hgo, st1, hk1⟩
      have gk : ∀ {Hx : AH}, Kept2 n Hh Hx → Grown H Hx := fun hk => ⟨Nat.le_trans (Nat.le_trans gHg.next hgh.next) hk.next, fun i hi => by
        rw [hk.same i (by have := gHg.next; have := hgh.next; omega) (by omega) (by omega), hgh.same i (by have := gHg.next; omega), gHg.same i hi]⟩
      rcases Nat.eq_or_lt_of_le hj with hj | hj
      · subst hj
        have hlt : evLss (.int .i64 (.ofNat ds.length)) (.int .i64 (.ofNat ds.length)) = some (.bool false) := by rw [lss_n, blt_f (Nat.le_refl _)]
        rw [List.drop_length] at hgo
        cases hgo
        refine ⟨.exit 2, (.agg ⟨plC (.ofNat w) h g near⟩, .int .u64 (.ofNat free), .pointer (some ⟨n, 0, none⟩), .pointer (some ⟨n + 1, 0, none⟩), .int .i64 (.ofNat 0), .pointer (some ⟨n + 2, 0, none⟩), x6, .int .i64 (.ofNat r), .pointer (some ⟨n + 3, 0, none⟩), .pointer (some ⟨n + 4, 0, none⟩), x10, x11, x12, v0, .int .i64 (.ofNat ds.length), .int .i64 (.ofNat ds.length), .bool false, x17, x18, ()), H1, ?_, rfl, rfl, gk hk1⟩
        simp only [seqE_eq, leaf_eq, bv_some, seqR_normal, seqR_exit, condE_eq, condB_false, doneE_eq, hlt]
      · have hlt : evLss (.int .i64 (.ofNat j)) (.int .i64 (.ofNat ds.length)) = some (.bool true) := by rw [lss_n, blt_t hj]
        have hdrop : ds.drop j = ds[j] :: ds.drop (j + 1) := List.drop_eq_getElem_cons hj
        obtain ⟨c, hc⟩ : ∃ c, c = ds[j] := ⟨_, rfl⟩
        rw [hdrop, ← hc] at hgo
        have hc16 : c < 16 := by rw [hc]; exact hds16 _ (List.getElem_mem _)
        obtain ⟨ad, had, hld⟩ := (hk1.own st.next hown).at (j := j) (by rw [ints_length]; exact hj)
        have hld : evLoad H1 false 1 ad = some (.int .i64 (.ofNat c)) := by
          rw [hld, hc]
          congr 1
          simp [ints]
        have hadd : evAdd (.int .i64 (.ofNat j)) (.int .i64 (.ofNat 1)) = some (.int .i64 (.ofNat (j + 1))) := add_n (by omega)
        have hagg : evLoad H1 true 19 (.pointer (some ⟨n, 0, none⟩)) = some (.agg ⟨plC (.ofNat w) h g near⟩) := by
          have h1 := load_agg (n := 19) (off := 0) st1.pl (by omega)
          rwa [seg_eq, List.drop_zero, List.take_of_length_le (by rw [plC_length, hnl]; omega)] at h1
        have t1 : Tabs H1 := ht.grown (gk hk1)
        have hli : C lo 46 [.agg ⟨plC (.ofNat w) h g near⟩, .int .i64 (.ofNat c)] H1 = some (.bool (lightP w c), H1) := by
          rw [hC]; exact (mCall_spec rfl lo _ H1).trans (sLight_at t1.1 hw (by omega))
        cases hlp : lightP w c with
        | true =>
          rw [hlp] at hli
          have hgo : goM near free w (ds.drop (j + 1)) cnt mate = some r := by
            have : goM near free w (c :: ds.drop (j + 1)) cnt mate = goM near free w (ds.drop (j + 1)) cnt mate := by
              show cond (lightP w c) _ _ = _
              rw [hlp]; rfl
            rw [← this]; exact hgo
          refine ⟨.normal, (.agg ⟨plC (.ofNat w) h g near⟩, .int .u64 (.ofNat free), .pointer (some ⟨n, 0, none⟩), .pointer (some ⟨n + 1, 0, none⟩), .int .i64 (.ofNat 0), .pointer (some ⟨n + 2, 0, none⟩), x6, .int .i64 (.ofNat cnt), .pointer (some ⟨n + 3, 0, none⟩), .pointer (some ⟨n + 4, 0, none⟩), .int .i64 (.ofNat c), x11, x12, v0, .int .i64 (.ofNat ds.length), .int .i64 (.ofNat (j + 1)), .bool true, .bool true, x18, ()), H1, ?_, ds.length - (j + 1), by omega, j + 1, cnt, seen, mate, _, _, _, _, rfl, hj, rfl, by omega, hgo, st1, hk1⟩
          simp only [seqE_eq, leaf_eq, bv_some, bh_some, seqR_normal, seqR_exit, condE_eq, condB_true, doneE_eq, blockE_eq, blockR_exit, hlt, had, hld, hagg, hli, hadd]
        | false =>
          rw [hlp] at hli
          have hgo1 : goM near free w (c :: ds.drop (j + 1)) cnt mate = (match tryT near free 20 c 0 mate with
              | none => none
              | some (b, _, m) => goM near free w (ds.drop (j + 1)) (cond b (cnt + 1) cnt) m) := by
            show cond (lightP w c) _ _ = _
            rw [hlp]; rfl
          rw [hgo1] at hgo
          obtain ⟨H2, hH2⟩ : ∃ H2, H2 = H1.set (n + 3) (.cells 1 [.int .u64 (.ofNat 0)] 41) := ⟨_, rfl⟩
          have hst : evStore lo H1 1 (.pointer (some ⟨n + 3, 0, none⟩)) (.int .u64 (.ofNat 0)) = some H2 := by rw [hH2]; exact store_box st1.se (by omega) rfl rfl
          have st2 : TrySt n (.ofNat w) h g near free H2 0 mate := by rw [hH2]; exact st1.setSeen (by decide)
          have hk2 : Kept2 n Hh H2 := by rw [hH2]; exact hk1.trans (.set3 _ _ _)
          obtain ⟨e4, htr⟩ := st2.tr
          have hlf := load_box htr
          rw [← hfv] at hlf
          cases hrec : tryT near free 20 c 0 mate with
          | none => rw [hrec] at hgo; cases hgo
          | some r2 =>
            obtain ⟨b, s2, m2⟩ := r2
            rw [hrec] at hgo
            obtain ⟨H3, hcall, st3, hk3⟩ := try_run hn hnl hfree (by omega : lo ≤ n) h2n 20 c 0 mate H2 _ hc16 hrec st2 (ht.grown (gk hk2))
            have hcall : C lo 45 [.int .i64 (.ofNat c), .pointer (some ⟨n, 0, none⟩), .pointer (some ⟨n + 1, 0, none⟩), .pointer (some ⟨n + 3, 0, none⟩), .pointer (some ⟨n + 2, 0, none⟩), .pointer (some ⟨n + 4, 0, none⟩)] H2 = some (.bool b, H3) := by rw [hC]; exact hcall
            have hcv : ∀ {β : Type} (k : Value → AH → Option β), callVal C lo fv [.int .i64 (.ofNat c)] H2 k = bindVH (some (.bool b, H3)) k := fun k => by
              rw [hfv]; exact callVal_func (k := k) (f := ⟨[]⟩) rfl hcall
            cases b with
            | true =>
              have hcn : evAdd (.int .i64 (.ofNat cnt)) (.int .i64 (.ofNat 1)) = some (.int .i64 (.ofNat (cnt + 1))) := add_n (by omega)
              refine ⟨.normal, (.agg ⟨plC (.ofNat w) h g near⟩, .int .u64 (.ofNat free), .pointer (some ⟨n, 0, none⟩), .pointer (some ⟨n + 1, 0, none⟩), .int .i64 (.ofNat 0), .pointer (some ⟨n + 2, 0, none⟩), x6, .int .i64 (.ofNat (cnt + 1)), .pointer (some ⟨n + 3, 0, none⟩), .pointer (some ⟨n + 4, 0, none⟩), .int .i64 (.ofNat c), x11, x12, v0, .int .i64 (.ofNat ds.length), .int .i64 (.ofNat (j + 1)), .bool true, .bool false, .bool true, ()), H3, ?_, ds.length - (j + 1), by omega, j + 1, cnt + 1, s2, m2, _, _, _, _, rfl, hj, rfl, by omega, hgo, st3, hk2.trans hk3⟩
              simp only [seqE_eq, leaf_eq, bv_some, bh_some, seqR_normal, condE_eq, condB_true, condB_false, doneE_eq, blockE_eq, blockR_normal, hlt, had, hld, hagg, hli, hst, hlf, hcv, hcn, hadd]
            | false =>
              refine ⟨.normal, (.agg ⟨plC (.ofNat w) h g near⟩, .int .u64 (.ofNat free), .pointer (some ⟨n, 0, none⟩), .pointer (some ⟨n + 1, 0, none⟩), .int .i64 (.ofNat 0), .pointer (some ⟨n + 2, 0, none⟩), x6, .int .i64 (.ofNat cnt), .pointer (some ⟨n + 3, 0, none⟩), .pointer (some ⟨n + 4, 0, none⟩), .int .i64 (.ofNat c), x11, x12, v0, .int .i64 (.ofNat ds.length), .int .i64 (.ofNat (j + 1)), .bool true, .bool false, .bool false, ()), H3, ?_, ds.length - (j + 1), by omega, j + 1, cnt, s2, m2, _, _, _, _, rfl, hj, rfl, by omega, hgo, st3, hk2.trans hk3⟩
              simp only [seqE_eq, leaf_eq, bv_some, bh_some, seqR_normal, condE_eq, condB_true, condB_false, doneE_eq, blockE_eq, blockR_normal, hlt, had, hld, hagg, hli, hst, hlf, hcv, hadd]
  obtain ⟨v, H1, h1, h2, h3⟩ := EvEnds.body (R := fun v H1 => v = .int .i64 (.ofNat r) ∧ Grown H H1) (key _ rfl) (res := fun p => resE p.1 (some (oneOf [p.2.1.2.2.2.2.1], p.2.2))) (by
    rintro e S H1 ⟨rfl, h1, h2⟩
    exact ⟨_, _, rfl, h1, h2⟩)
  subst h2
  exact ⟨H1, h1, h3⟩
end
end Go.Proofs.YtnnfpbdimgagdaaGreatDoor

namespace Go.Proofs.YtnnfpbdimgagdaaGreatDoor
open Go Go.Ev
set_option maxRecDepth 100000
noncomputable section

def sMost : FnF := fun lo args H => match args with
  | [.agg ⟨.int .i64 (.ofNat w) :: .int .i64 _ :: .int .u64 (.ofNat _) :: rest⟩, .int .u64 (.ofNat free)] => need (tabsB H && Nat.ble lo H.next) (need (Nat.blt 0 w && Nat.blt free 65536)
      (withX (natsOf rest) fun near => need (Nat.beq near.length 16) (withX (mostT near free w) fun r => some (.int .i64 (.ofNat r), H))))
  | _ => none

theorem sMost_ok : SpecOk P 2 14 sMost := SpecOk.shrink fun lo args H v H' hlo hh => by
  unfold sMost at hh
  split at hh
  · rename_i w h g rest free
    obtain ⟨h1, hA⟩ := need_eq hh
    obtain ⟨h2, hB⟩ := need_eq hA
    obtain ⟨near, h3, hC⟩ := withX_eq hB
    obtain ⟨h4, hD⟩ := need_eq hC
    obtain ⟨r, h5, hE⟩ := withX_eq hD
    cases hE
    rw [Bool.and_eq_true] at h1
    rw [Bool.and_eq_true, Nat.blt_eq, Nat.blt_eq] at h2
    obtain ⟨rfl, h6⟩ := natsOf_eq h3
    have ht := tabsB_eq h1.1
    obtain ⟨H1, hr, hg⟩ := most_run lo (h := h) (g := g) h6 (eq_of_beq' h4) h2.2 h2.1 (le_of_ble' h1.2) ht h5
    exact ⟨mCall P ctx table specs3 22, mCall_ok mixed ctx table (table_ok rows_ok) specs3 specs3_ok 22, _, H1, id, (mCall_text (F := F14) rfl (by kernel_rfl) lo _ H).trans hr, .plain hg ht.1 rfl⟩
  · cases hh

theorem sMost_at {lo w : Nat} {h : Int} {g : Nat} {near : List Nat} {free r : Nat} {H : AH} (hn : ∀ x ∈ near, x < 65536) (hnl : near.length = 16) (hfree : free < 65536) (hw : 0 < w) (hlo : lo ≤ H.next) (ht : Tabs H) (hr : mostT near free w = some r) :
    sMost lo [.agg ⟨plC (.ofNat w) h g near⟩, .int .u64 (.ofNat free)] H = some (.int .i64 (.ofNat r), H) := by
  show need (tabsB H && Nat.ble lo H.next) (need (Nat.blt 0 w && Nat.blt free 65536)
      (withX (natsOf (near.map fun x => .int .u64 (.ofNat x))) fun near => need (Nat.beq near.length 16) (withX (mostT near free w) fun r => some (Value.int .i64 (.ofNat r), H)))) = _
  rw [ht.test, Nat.ble_eq_true_of_le hlo, blt_t hw, blt_t hfree, natsOf_of hn, withX_some, beqt hnl, hr]; rfl
end
end Go.Proofs.YtnnfpbdimgagdaaGreatDoor
