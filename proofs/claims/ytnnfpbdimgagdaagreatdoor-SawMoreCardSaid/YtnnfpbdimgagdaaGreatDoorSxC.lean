/- Contracts of functions of package saw, and of those that it calls (merged from SwI, SwJ, SwK).
   Conditions: none. -/
import Derived.Test.YtnnfpbdimgagdaaGreatDoorSxB
namespace Go.Proofs.YtnnfpbdimgagdaaGreatDoor
open Go Go.Ev
set_option maxRecDepth 100000
noncomputable section

/-- one cell more is joined to those before it -/
def nearStep (w g c : Nat) (near : List Nat) : List Nat :=
  cond (Nat.blt c w) (cond (Nat.blt 0 (Nat.mod c w)) (joinP g (Nat.sub c 1) c near) near)
    (joinP g (Nat.sub c w) c (cond (Nat.blt 0 (Nat.mod c w)) (joinP g (Nat.sub c 1) c near) near))
/-- the neighbours of the first cells -/
def nearTo (w g : Nat) : Nat → List Nat
  | 0 => List.replicate 16 0
  | c + 1 => nearStep w g c (nearTo w g c)
theorem nearStep_length (w g c : Nat) (near : List Nat) : (nearStep w g c near).length = near.length := by
  unfold nearStep
  cases Nat.blt c w <;> cases Nat.blt 0 (Nat.mod c w) <;> simp [joinP_length]
theorem nearTo_length (w g : Nat) : ∀ c, (nearTo w g c).length = 16
  | 0 => by simp [nearTo]
  | c + 1 => by rw [nearTo, nearStep_length, nearTo_length w g c]
theorem joinP_lt {g a b : Nat} {near : List Nat} (ha : a < 16) (hb : b < 16) (h : ∀ x ∈ near, x < 65536) : ∀ x ∈ joinP g a b near, x < 65536 := by
  have el : ∀ {l : List Nat} {i : Nat}, (∀ x ∈ l, x < 65536) → l[i]?.getD 0 < 65536 := by
    intro l i hl
    cases hi : l[i]? with
    | none => show 0 < 65536; decide
    | some y => exact hl y (List.mem_of_getElem? hi)
  have p2 : ∀ {c}, c < 16 → 2 ^ c < 65536 := fun hc => pow_lt16 hc
  unfold joinP
  cases (isIn g a && isIn g b) with
  | false => exact h
  | true =>
    have h1 : ∀ x ∈ near.set a (near[a]?.getD 0 ||| 2 ^ b), x < 65536 := by
      intro x hx
      rcases List.mem_or_eq_of_mem_set hx with h3 | h3
      · exact h x h3
      · rw [h3]; exact Nat.or_lt_two_pow (n := 16) (el h) (p2 hb)
    intro x hx
    rcases List.mem_or_eq_of_mem_set hx with h3 | h3
    · exact h1 x h3
    · rw [h3]; exact Nat.or_lt_two_pow (n := 16) (el h1) (p2 ha)
theorem nearStep_lt {w g c : Nat} {near : List Nat} (hw : 0 < w) (hc : c < 16) (h : ∀ x ∈ near, x < 65536) : ∀ x ∈ nearStep w g c near, x < 65536 := by
  unfold nearStep
  have h1 : ∀ x ∈ cond (Nat.blt 0 (Nat.mod c w)) (joinP g (Nat.sub c 1) c near) near, x < 65536 := by
    cases Nat.blt 0 (Nat.mod c w) with
    | false => exact h
    | true => exact joinP_lt (by show c - 1 < 16; omega) hc h
  cases Nat.blt c w with
  | true => exact h1
  | false => exact joinP_lt (by show c - w < 16; omega) hc h1
theorem nearTo_lt {w g : Nat} (hw : 0 < w) : ∀ c, c ≤ 16 → ∀ x ∈ nearTo w g c, x < 65536
  | 0, _ => by
    intro x hx
    rw [nearTo, List.mem_replicate] at hx
    rw [hx.2]; decide
  | c + 1, h => nearStep_lt hw (by omega) (nearTo_lt hw c (by omega))

/-- spoiled cells, one after the other: the error, or the good cells -/
def spoilP (n : Int) : List Int → Int → Nat → Nat × Nat
  | [], _, g => (0, g)
  | c :: cs, last, g => cond (decide (c < 0) || decide (n ≤ c)) (2, 0) (cond (decide (c ≤ last)) (7, 0) (spoilP n cs c (dif g (2 ^ c.toNat))))

theorem plC_zero : cellsOf z44 = plC 0 0 0 (List.replicate 16 0) := rfl

/-- what is said of the heap while a slab is laid -/
structure LaidSt (n : Nat) (H0 : AH) (w h : Int) (sl : Value) (g : Nat) (near : List Nat) (H : AH) : Prop where
  s : ∃ e, H.get n = some (.cells 3 [.int .i64 w, .int .i64 h, sl] e)
  z : PlAt H (n + 1) 44 0 0 0 (List.replicate 16 0)
  p : PlAt H (n + 2) 44 w h g near
  next : H.next = n + 3
  old : ∀ i, i < n → H.get i = H0.get i
end
end Go.Proofs.YtnnfpbdimgagdaaGreatDoor

namespace Go.Proofs.YtnnfpbdimgagdaaGreatDoor
open Go Go.Ev
set_option maxRecDepth 100000
noncomputable section

def zeroC : List Value := plC 0 0 0 (List.replicate 16 0)
/-- a slab laid: the error, and the plate's cells -/
def laidP (w h : Int) (sp : List Int) : Nat × List Value :=
  if w < 1 ∨ 8 < w ∨ h < 1 ∨ 8 < h then (1, zeroC)
  else if 16 < w * h then (3, zeroC)
  else match spoilP (w * h) sp (-1) (2 ^ (w * h).toNat - 1) with
    | (0, g) => (0, plC w h g (nearTo w.toNat g (w * h).toNat))
    | (e, _) => (e, zeroC)

theorem plC_single (w h : Int) (g : Nat) (near : List Nat) : (plC w h g near).all single = true := by
  show (true && (true && (true && (near.map fun x => Value.int .u64 (.ofNat x)).all single))) = true
  have : (near.map fun x => Value.int .u64 (.ofNat x)).all single = true := by
    rw [List.all_eq_true]
    intro x hx
    obtain ⟨y, _, rfl⟩ := List.mem_map.1 hx
    rfl
  rw [this]; rfl

theorem LaidSt.setP {n : Nat} {H0 : AH} {w h : Int} {sl : Value} {g : Nat} {near : List Nat} {H : AH} (st : LaidSt n H0 w h sl g near H) (g' : Nat) (near' : List Nat) :
    LaidSt n H0 w h sl g' near' (H.set (n + 2) (.cells 19 (plC w h g' near') 44)) := by
  obtain ⟨e, hs⟩ := st.s
  have hk : ∀ i, i ≠ n + 2 → (H.set (n + 2) (.cells 19 (plC w h g' near') 44)).get i = H.get i := fun i hi => by rw [AH.get_set, if_neg hi]
  exact ⟨⟨e, (hk n (by omega)).trans hs⟩, (hk (n + 1) (by omega)).trans st.z, by unfold PlAt; rw [AH.get_set, if_pos rfl], by rw [AH.next_set]; exact st.next, fun i hi => (hk i (by omega)).trans (st.old i hi)⟩

theorem laid_run (k lo : Nat) {w h : Int} {sl : Value} {sp : List Int} {H : AH} (hs : RowAt H sl (sp.map fun z => .int .i64 z)) (hlen : sp.length < 90000) (hlo : lo ≤ H.next) :
    ∃ H1, F13 (mCall P ctx table specs3 (k + 1)) lo [.agg ⟨[.int .i64 w, .int .i64 h, sl]⟩] H = some (.tuple ⟨[.agg ⟨(laidP w h sp).2⟩, .int .i64 (.ofNat (laidP w h sp).1)]⟩, H1) ∧ Grown H H1 := by
  obtain ⟨n, hnn⟩ : ∃ n, n = H.next := ⟨_, rfl⟩
  simp only [F13, leave_all]
  obtain ⟨C, hC⟩ : ∃ C, C = mCall P ctx table specs3 (k + 1) := ⟨_, rfl⟩
  rw [← hC]
  have key : EvEnds (C13 C lo (.agg ⟨[.int .i64 w, .int .i64 h, sl]⟩, undef, undef, undef, undef, undef, undef, undef, undef, undef, undef, undef, undef, undef, undef, undef, undef, undef, undef, undef, undef, undef, ()) H)
      fun e S H1 => e = .ret ∧ S.2.2.1 = .pointer (some ⟨n + 1, 0, none⟩) ∧ S.2.2.2.1 = .int .i64 (.ofNat (laidP w h sp).1) ∧ H1.get (n + 1) = some (.cells 19 (laidP w h sp).2 44) ∧ (laidP w h sp).2.length = 19 ∧ Grown H H1 := by
    obtain ⟨Ha, hHa⟩ : ∃ Ha, Ha = pushBox H 27 (.agg ⟨[.int .i64 w, .int .i64 h, sl]⟩) := ⟨_, rfl⟩
    have a1 : Ha.next = n + 1 := by rw [hHa, box_next, hnn]
    obtain ⟨Hb, hHb⟩ : ∃ Hb, Hb = pushBox Ha 44 z44 := ⟨_, rfl⟩
    have b1 : Hb.next = n + 2 := by rw [hHb, box_next, a1]
    have b2 : Hb.get n = some (.cells 3 [.int .i64 w, .int .i64 h, sl] 27) := by rw [hHb, box_old (by omega), hHa, hnn, box_get]; rfl
    have b3 : Hb.get (n + 1) = some (.cells 19 zeroC 44) := by rw [hHb, ← a1, box_get]; rfl
    have gb : Grown H Hb := by rw [hHb, hHa]; exact (Grown.push _ _).trans (.push _ _)
    have zl : zeroC.length = 19 := rfl
    -- an error: nothing is laid
    have errs : ∀ {Hx : AH}, Hx.get (n + 1) = some (.cells 19 zeroC 44) → Grown H Hx → ∃ Hy, evStore lo Hx 19 (.pointer (some ⟨n + 1, 0, none⟩)) (.agg ⟨zeroC⟩) = some Hy ∧ Hy.get (n + 1) = some (.cells 19 zeroC 44) ∧ Grown H Hy := by
      intro Hx hx hg
      exact ⟨_, store_all hx zl zl (by omega) (plC_single _ _ _ _), by rw [AH.get_set, if_pos rfl], hg.set (by omega) _⟩
    have hagg : evAgg [] (cellsOf z44) = some (.agg ⟨zeroC⟩) := rfl
    have l0 : ∀ {Hx : AH}, Hx.get n = Hb.get n → evLoad Hx false 1 (.pointer (some ⟨n, 0 + 0, none⟩)) = some (.int .i64 w) ∧ evLoad Hx false 1 (.pointer (some ⟨n, 0 + 1, none⟩)) = some (.int .i64 h) ∧ evLoad Hx false 1 (.pointer (some ⟨n, 0 + 2, none⟩)) = some sl :=
      fun hx => ⟨load_at (hx.trans b2) rfl, load_at (hx.trans b2) rfl, load_at (hx.trans b2) rfl⟩
    obtain ⟨lw, lh, lsl⟩ := l0 (Hx := Hb) rfl
    have hsh : ∀ i d, evShift (.pointer (some ⟨i, 0, none⟩)) d = some (.pointer (some ⟨i, 0 + d, none⟩)) := fun i d => rfl
    have c1 : evLss (.int .i64 w) (.int .i64 (.ofNat 1)) = some (.bool (decide (w < 1))) := lss_i _ _ _
    have c2 : evGtr (.int .i64 w) (.int .i64 (.ofNat 8)) = some (.bool (decide (8 < w))) := gtr_i _ _ _
    have c3 : evLss (.int .i64 h) (.int .i64 (.ofNat 1)) = some (.bool (decide (h < 1))) := lss_i _ _ _
    have c4 : evGtr (.int .i64 h) (.int .i64 (.ofNat 8)) = some (.bool (decide (8 < h))) := gtr_i _ _ _
    simp only [C13, seqE_eq, leaf_eq, seqR_normal, newPtr_eq, ← hnn, ← hHa, a1, ← hHb, blockE_eq, hsh, lw, lh, c1, c2, c3, c4, bv_some]
    by_cases hbad : w < 1 ∨ 8 < w ∨ h < 1 ∨ 8 < h
    · have hP : laidP w h sp = (1, zeroC) := by unfold laidP; rw [if_pos hbad]
      rw [hP]
      obtain ⟨Hy, hy1, hy2, hy3⟩ := errs b3 gb
      refine ⟨.ret, (.agg ⟨[.int .i64 w, .int .i64 h, sl]⟩, .pointer (some ⟨n, 0, none⟩), .pointer (some ⟨n + 1, 0, none⟩), .int .i64 (.ofNat 1), undef, undef, undef, undef, undef, .bool true, undef, undef, undef, undef, undef, undef, undef, undef, undef, undef, undef, undef, ()), Hy, ?_, rfl, rfl, rfl, hy2, zl, hy3⟩
      have hcases : (w < 1) ∨ (¬ w < 1 ∧ 8 < w) ∨ (¬ w < 1 ∧ ¬ 8 < w ∧ h < 1) ∨ (¬ w < 1 ∧ ¬ 8 < w ∧ ¬ h < 1 ∧ 8 < h) := by omega
      rcases hcases with q1 | ⟨q1, q2⟩ | ⟨q1, q2, q3⟩ | ⟨q1, q2, q3, q4⟩
      · rw [decide_eq_true q1]
        simp only [guarded_tf, bv_some, pick_true, seqR_normal, seqR_ret, condE_eq, condB_true, seqE_eq, leaf_eq, doneE_eq, blockR_ret, hagg, hy1]
      · rw [decide_eq_true q2] at c2
        rw [decide_eq_false q1]
        simp only [guarded_tf, guarded_ff, pairVH_eq, bv_some, bh_some, hsh, lw, lh, c2, pick_true, pick_false, seqR_normal, seqR_ret, condE_eq, condB_true, seqE_eq, leaf_eq, doneE_eq, blockR_ret, hagg, hy1]
      · rw [decide_eq_false q2] at c2
        rw [decide_eq_true q3] at c3
        rw [decide_eq_false q1]
        simp only [guarded_tf, guarded_ff, pairVH_eq, bv_some, bh_some, hsh, lw, lh, c2, c3, pick_true, pick_false, seqR_normal, seqR_ret, condE_eq, condB_true, seqE_eq, leaf_eq, doneE_eq, blockR_ret, hagg, hy1]
      · rw [decide_eq_false q2] at c2
        rw [decide_eq_false q3] at c3
        rw [decide_eq_true q4] at c4
        rw [decide_eq_false q1]
        simp only [guarded_tf, guarded_ff, pairVH_eq, bv_some, bh_some, hsh, lw, lh, c2, c3, c4, pick_true, pick_false, seqR_normal, seqR_ret, condE_eq, condB_true, seqE_eq, leaf_eq, doneE_eq, blockR_ret, hagg, hy1]
    · have q1 : ¬ w < 1 := by omega
      have q2 : ¬ 8 < w := by omega
      have q3 : ¬ h < 1 := by omega
      have q4 : ¬ 8 < h := by omega
      rw [decide_eq_false q2] at c2
      rw [decide_eq_false q3] at c3
      rw [decide_eq_false q4] at c4
      rw [decide_eq_false q1]
      have hP0 : laidP w h sp = if 16 < w * h then (3, zeroC) else match spoilP (w * h) sp (-1) (2 ^ (w * h).toNat - 1) with
          | (0, g) => (0, plC w h g (nearTo w.toNat g (w * h).toNat))
          | (e, _) => (e, zeroC) := by unfold laidP; rw [if_neg hbad]
      clear hbad
      obtain ⟨w', rfl⟩ : ∃ w' : Nat, w = Int.ofNat w' := ⟨w.toNat, by show w = ((w.toNat : Nat) : Int); omega⟩
      obtain ⟨h', rfl⟩ : ∃ h' : Nat, h = Int.ofNat h' := ⟨h.toNat, by show h = ((h.toNat : Nat) : Int); omega⟩
      have qw : 1 ≤ w' ∧ w' ≤ 8 := by
        have r1 : ¬ ((w' : Nat) : Int) < 1 := q1
        have r2 : ¬ 8 < ((w' : Nat) : Int) := q2
        omega
      have qh : 1 ≤ h' ∧ h' ≤ 8 := by
        have r1 : ¬ ((h' : Nat) : Int) < 1 := q3
        have r2 : ¬ 8 < ((h' : Nat) : Int) := q4
        omega
      obtain ⟨nn, hnn2⟩ : ∃ nn, nn = w' * h' := ⟨_, rfl⟩
      have hmm : Int.ofNat w' * Int.ofNat h' = Int.ofNat nn := by rw [hnn2]; rfl
      have nn64 : nn ≤ 64 := by rw [hnn2]; exact Nat.mul_le_mul qw.2 qh.2
      rw [hmm] at hP0
      have hmul : evMul (.int .i64 (.ofNat w')) (.int .i64 (.ofNat h')) = some (.int .i64 (.ofNat nn)) := by rw [hnn2]; exact mul_n (by rw [← hnn2]; omega)
      have hgt : evGtr (.int .i64 (.ofNat nn)) (.int .i64 (.ofNat 16)) = some (.bool (Nat.blt 16 nn)) := gtr_n _ _ _
      by_cases h16 : 16 < nn
      · rw [if_pos (by show (16 : Int) < ((nn : Nat) : Int); omega)] at hP0
        rw [hP0]
        rw [blt_t h16] at hgt
        obtain ⟨Hy, hy1, hy2, hy3⟩ := errs b3 gb
        refine ⟨.ret, (.agg ⟨[.int .i64 (.ofNat w'), .int .i64 (.ofNat h'), sl]⟩, .pointer (some ⟨n, 0, none⟩), .pointer (some ⟨n + 1, 0, none⟩), .int .i64 (.ofNat 3), undef, undef, undef, undef, undef, .bool false, .bool true, undef, undef, undef, undef, undef, undef, undef, undef, undef, undef, undef, ()), Hy, ?_, rfl, rfl, rfl, hy2, zl, hy3⟩
        simp only [guarded_tf, guarded_ff, pairVH_eq, bv_some, bh_some, hsh, lw, lh, c2, c3, c4, pick_true, pick_false, seqR_normal, seqR_ret, condE_eq, condB_true, condB_false, seqE_eq, leaf_eq, doneE_eq, blockR_ret, hagg, hy1, hmul, hgt]
      · rw [if_neg (by show ¬ (16 : Int) < ((nn : Nat) : Int); omega)] at hP0
        rw [blt_f (by omega)] at hgt
        have hto : (Int.ofNat nn).toNat = nn := rfl
        have htw : (Int.ofNat w').toNat = w' := rfl
        rw [hto, htw] at hP0
        have p16 : 2 ^ nn ≤ 65536 := by
          have := Nat.pow_le_pow_right (n := 2) (by decide) (show nn ≤ 16 by omega)
          simpa using this
        have hshl : evShl (.int .u64 (.ofNat 1)) (.int .i64 (.ofNat nn)) = some (.int .u64 (.ofNat (1 * 2 ^ nn))) := shl_u (by omega) (by omega)
        have p1 : 1 ≤ 2 ^ nn := Nat.one_le_two_pow
        have hsub : evSub (.int .u64 (.ofNat (1 * 2 ^ nn))) (.int .u64 (.ofNat 1)) = some (.int .u64 (.ofNat (2 ^ nn - 1))) := by rw [Nat.one_mul]; exact sub_u p1 (by omega)
        obtain ⟨g0, hg0⟩ : ∃ g0, g0 = 2 ^ nn - 1 := ⟨_, rfl⟩
        have g016 : g0 < 65536 := by omega
        rw [← hg0] at hP0 hsub
        have hbld : evAgg [(0, 1, .int .i64 (.ofNat w')), (1, 1, .int .i64 (.ofNat h')), (2, 1, .int .u64 (.ofNat g0))] (cellsOf z44) = some (.agg ⟨plC (.ofNat w') (.ofNat h') g0 (List.replicate 16 0)⟩) := rfl
        obtain ⟨Hc0, hHc0⟩ : ∃ Hc0, Hc0 = pushBox Hb 44 z44 := ⟨_, rfl⟩
        have c01 : Hc0.next = n + 3 := by rw [hHc0, box_next, b1]
        have c02 : Hc0.get (n + 2) = some (.cells 19 zeroC 44) := by rw [hHc0, ← b1, box_get]; rfl
        obtain ⟨Hc, hHc⟩ : ∃ Hc, Hc = Hc0.set (n + 2) (.cells 19 (plC (.ofNat w') (.ofNat h') g0 (List.replicate 16 0)) 44) := ⟨_, rfl⟩
        have hstc : evStore lo Hc0 19 (.pointer (some ⟨n + 2, 0, none⟩)) (.agg ⟨plC (.ofNat w') (.ofNat h') g0 (List.replicate 16 0)⟩) = some Hc := by
          rw [hHc]; exact store_all c02 zl rfl (by omega) (plC_single _ _ _ _)
        have oldc : ∀ i, i < n + 2 → Hc.get i = Hb.get i := fun i hi => by rw [hHc, AH.get_set, if_neg (by omega), hHc0, box_old (by omega)]
        have stc : LaidSt n H (.ofNat w') (.ofNat h') sl g0 (List.replicate 16 0) Hc :=
          ⟨⟨_, (oldc n (by omega)).trans b2⟩, (oldc (n + 1) (by omega)).trans b3, by unfold PlAt; rw [hHc, AH.get_set, if_pos rfl], by rw [hHc, AH.next_set, c01], fun i hi => (oldc i (by omega)).trans (gb.same i (by omega))⟩
        have grow : ∀ {g near Hx}, LaidSt n H (.ofNat w') (.ofNat h') sl g near Hx → Grown H Hx := fun st => ⟨by rw [st.next]; omega, fun i hi => st.old i (by omega)⟩
        have lds : ∀ {g near Hx}, LaidSt n H (.ofNat w') (.ofNat h') sl g near Hx → evLoad Hx false 1 (.pointer (some ⟨n, 0 + 0, none⟩)) = some (.int .i64 (.ofNat w')) ∧ evLoad Hx false 1 (.pointer (some ⟨n, 0 + 2, none⟩)) = some sl := fun st => by
          obtain ⟨e, h1⟩ := st.s
          exact ⟨load_at h1 rfl, load_at h1 rfl⟩
        have hsl := (lds stc).2
        have hlen1 : evLenS sl = some (.int .i64 (.ofNat sp.length)) := by rw [hs.len, List.length_map]
        simp only [guarded_tf, guarded_ff, pairVH_eq, bv_some, bh_some, hsh, lw, lh, c2, c3, c4, pick_true, pick_false, seqR_normal, condE_eq, condB_true, condB_false, seqE_eq, leaf_eq, doneE_eq, blockR_normal, blockE_eq, hmul, hgt, hshl, hsub, hbld, newPtr_eq, b1, ← hHc0, hstc, hsl, hlen1]
        obtain ⟨res, hres⟩ : ∃ res, res = spoilP (.ofNat nn) sp (-1) g0 := ⟨_, rfl⟩
        rw [← hres] at hP0
        refine EvEnds.seqR (EvEnds.blockR (EvEnds.mono (Q := fun e S H1 => (e = .exit 1 ∧ res.1 = 0 ∧ (∃ x6 x7 x12 x13 x14 x15 x16, S = (.agg ⟨[.int .i64 (.ofNat w'), .int .i64 (.ofNat h'), sl]⟩, .pointer (some ⟨n, 0, none⟩), .pointer (some ⟨n + 1, 0, none⟩), .int .i64 (.ofNat 0), .int .i64 (.ofNat nn), .pointer (some ⟨n + 2, 0, none⟩), x6, x7, undef, .bool false, .bool false, sl, x12, x13, x14, x15, x16, undef, undef, undef, undef, undef, ())) ∧ LaidSt n H (.ofNat w') (.ofNat h') sl res.2 (List.replicate 16 0) H1 ∧ res.2 < 65536) ∨
            (e = .ret ∧ res.1 ≠ 0 ∧ S.2.2.1 = .pointer (some ⟨n + 1, 0, none⟩) ∧ S.2.2.2.1 = .int .i64 (.ofNat res.1) ∧ H1.get (n + 1) = some (.cells 19 zeroC 44) ∧ Grown H H1)) ?_ ?_))
        · refine EvEnds.loop (fun k S H1 => ∃ i last g x7 x14 x15 x16, S = (.agg ⟨[.int .i64 (.ofNat w'), .int .i64 (.ofNat h'), sl]⟩, .pointer (some ⟨n, 0, none⟩), .pointer (some ⟨n + 1, 0, none⟩), .int .i64 (.ofNat 0), .int .i64 (.ofNat nn), .pointer (some ⟨n + 2, 0, none⟩), .int .i64 last, x7, undef, .bool false, .bool false, sl, .int .i64 (.ofNat sp.length), .int .i64 (.ofNat i), x14, x15, x16, undef, undef, undef, undef, undef, ()) ∧
            i ≤ sp.length ∧ k = sp.length - i ∧ spoilP (.ofNat nn) (sp.drop i) last g = res ∧ LaidSt n H (.ofNat w') (.ofNat h') sl g (List.replicate 16 0) H1 ∧ g < 65536) ?_ fuel sp.length _ _ (show sp.length < 100000 by omega)
            ⟨0, .negSucc 0, g0, _, _, _, _, rfl, Nat.zero_le _, rfl, hres.symm, stc, g016⟩
          rintro k S H1 ⟨i, last, g, x7, x14, x15, x16, rfl, hi, rfl, hgo, st, hg⟩
          rcases Nat.eq_or_lt_of_le hi with hi | hi
          · subst hi
            have hlt : evLss (.int .i64 (.ofNat sp.length)) (.int .i64 (.ofNat sp.length)) = some (.bool false) := by rw [lss_n, blt_f (Nat.le_refl _)]
            rw [List.drop_length] at hgo
            have hgo : (0, g) = res := hgo
            subst hgo
            refine ⟨.exit 1, (.agg ⟨[.int .i64 (.ofNat w'), .int .i64 (.ofNat h'), sl]⟩, .pointer (some ⟨n, 0, none⟩), .pointer (some ⟨n + 1, 0, none⟩), .int .i64 (.ofNat 0), .int .i64 (.ofNat nn), .pointer (some ⟨n + 2, 0, none⟩), .int .i64 last, x7, undef, .bool false, .bool false, sl, .int .i64 (.ofNat sp.length), .int .i64 (.ofNat sp.length), .bool false, x15, x16, undef, undef, undef, undef, undef, ()), H1, ?_, .inl ⟨rfl, rfl, ⟨_, _, _, _, _, _, _, rfl⟩, st, hg⟩⟩
            simp only [seqE_eq, leaf_eq, bv_some, seqR_normal, seqR_exit, condE_eq, condB_false, doneE_eq, hlt]
          · have hlt : evLss (.int .i64 (.ofNat i)) (.int .i64 (.ofNat sp.length)) = some (.bool true) := by rw [lss_n, blt_t hi]
            have hdrop : sp.drop i = sp[i] :: sp.drop (i + 1) := List.drop_eq_getElem_cons hi
            obtain ⟨c, hc⟩ : ∃ c, c = sp[i] := ⟨_, rfl⟩
            rw [hdrop, ← hc] at hgo
            have hgo : cond (decide (c < 0) || decide (Int.ofNat nn ≤ c)) (2, 0) (cond (decide (c ≤ last)) (7, 0) (spoilP (.ofNat nn) (sp.drop (i + 1)) c (dif g (2 ^ c.toNat)))) = res := hgo
            obtain ⟨ad, had, hld⟩ := (hs.grown (grow st)).at (j := i) (by rw [List.length_map]; exact hi)
            have hld : evLoad H1 false 1 ad = some (.int .i64 c) := by
              rw [hld, hc]
              congr 1
              simp
            have hadd : evAdd (.int .i64 (.ofNat i)) (.int .i64 (.ofNat 1)) = some (.int .i64 (.ofNat (i + 1))) := add_n (by omega)
            have d1 : evLss (.int .i64 c) (.int .i64 (.ofNat 0)) = some (.bool (decide (c < 0))) := lss_i _ _ _
            have d2 : evGeq (.int .i64 c) (.int .i64 (.ofNat nn)) = some (.bool (decide (Int.ofNat nn ≤ c))) := geq_i _ _ _
            have d3 : evLeq (.int .i64 c) (.int .i64 last) = some (.bool (decide (c ≤ last))) := leq_i _ _ _
            by_cases e1 : c < 0
            · rw [decide_eq_true e1] at hgo d1
              have hgo : (2, 0) = res := hgo
              subst hgo
              obtain ⟨Hy, hy1, hy2, hy3⟩ := errs st.z (grow st)
              refine ⟨.ret, (.agg ⟨[.int .i64 (.ofNat w'), .int .i64 (.ofNat h'), sl]⟩, .pointer (some ⟨n, 0, none⟩), .pointer (some ⟨n + 1, 0, none⟩), .int .i64 (.ofNat 2), .int .i64 (.ofNat nn), .pointer (some ⟨n + 2, 0, none⟩), .int .i64 last, .int .i64 c, undef, .bool false, .bool false, sl, .int .i64 (.ofNat sp.length), .int .i64 (.ofNat i), .bool true, .bool true, x16, undef, undef, undef, undef, undef, ()), Hy, ?_, .inr ⟨rfl, by decide, rfl, rfl, hy2, hy3⟩⟩
              simp only [seqE_eq, leaf_eq, bv_some, bh_some, seqR_normal, seqR_ret, condE_eq, condB_true, doneE_eq, blockE_eq, blockR_ret, hlt, had, hld, d1, guarded_tf, pick_true, hagg, hy1]
            · rw [decide_eq_false e1] at hgo d1
              by_cases e2 : Int.ofNat nn ≤ c
              · rw [decide_eq_true e2] at hgo d2
                have hgo : (2, 0) = res := hgo
                subst hgo
                obtain ⟨Hy, hy1, hy2, hy3⟩ := errs st.z (grow st)
                refine ⟨.ret, (.agg ⟨[.int .i64 (.ofNat w'), .int .i64 (.ofNat h'), sl]⟩, .pointer (some ⟨n, 0, none⟩), .pointer (some ⟨n + 1, 0, none⟩), .int .i64 (.ofNat 2), .int .i64 (.ofNat nn), .pointer (some ⟨n + 2, 0, none⟩), .int .i64 last, .int .i64 c, undef, .bool false, .bool false, sl, .int .i64 (.ofNat sp.length), .int .i64 (.ofNat i), .bool true, .bool true, x16, undef, undef, undef, undef, undef, ()), Hy, ?_, .inr ⟨rfl, by decide, rfl, rfl, hy2, hy3⟩⟩
                simp only [seqE_eq, leaf_eq, bv_some, bh_some, seqR_normal, seqR_ret, condE_eq, condB_true, doneE_eq, blockE_eq, blockR_ret, hlt, had, hld, d1, d2, guarded_ff, pairVH_eq, pick_false, hagg, hy1]
              · rw [decide_eq_false e2] at hgo d2
                by_cases e3 : c ≤ last
                · rw [decide_eq_true e3] at hgo d3
                  have hgo : (7, 0) = res := hgo
                  subst hgo
                  obtain ⟨Hy, hy1, hy2, hy3⟩ := errs st.z (grow st)
                  refine ⟨.ret, (.agg ⟨[.int .i64 (.ofNat w'), .int .i64 (.ofNat h'), sl]⟩, .pointer (some ⟨n, 0, none⟩), .pointer (some ⟨n + 1, 0, none⟩), .int .i64 (.ofNat 7), .int .i64 (.ofNat nn), .pointer (some ⟨n + 2, 0, none⟩), .int .i64 last, .int .i64 c, undef, .bool false, .bool false, sl, .int .i64 (.ofNat sp.length), .int .i64 (.ofNat i), .bool true, .bool false, .bool true, undef, undef, undef, undef, undef, ()), Hy, ?_, .inr ⟨rfl, by decide, rfl, rfl, hy2, hy3⟩⟩
                  simp only [seqE_eq, leaf_eq, bv_some, bh_some, seqR_normal, seqR_ret, condE_eq, condB_true, condB_false, doneE_eq, blockE_eq, blockR_ret, hlt, had, hld, d1, d2, d3, guarded_ff, pairVH_eq, pick_false, hagg, hy1]
                · rw [decide_eq_false e3] at hgo d3
                  have hgo : spoilP (.ofNat nn) (sp.drop (i + 1)) c (dif g (2 ^ c.toNat)) = res := hgo
                  obtain ⟨c', hcc⟩ : ∃ c' : Nat, c = Int.ofNat c' := ⟨c.toNat, by show c = ((c.toNat : Nat) : Int); omega⟩
                  have hc' : c' < nn := by
                    have r2 : ¬ ((nn : Nat) : Int) ≤ c := e2
                    have r3 : c = ((c' : Nat) : Int) := hcc
                    omega
                  rw [hcc] at hgo hld d1 d2 d3
                  have hgo : spoilP (.ofNat nn) (sp.drop (i + 1)) (.ofNat c') (dif g (2 ^ c')) = res := hgo
                  have hpc := pow_lt16 (show c' < 16 by omega)
                  have hlg : evLoad H1 false 1 (.pointer (some ⟨n + 2, 0 + 2, none⟩)) = some (.int .u64 (.ofNat g)) := load_at st.p rfl
                  have hshc : evShl (.int .u64 (.ofNat 1)) (.int .i64 (.ofNat c')) = some (.int .u64 (.ofNat (1 * 2 ^ c'))) := shl_u (by omega) (by omega)
                  have han : evAndNot (.int .u64 (.ofNat g)) (.int .u64 (.ofNat (1 * 2 ^ c'))) = some (.int .u64 (.ofNat (dif g (2 ^ c')))) := by rw [Nat.one_mul]; exact andnot_u (by omega) (by omega)
                  obtain ⟨H2, hH2⟩ : ∃ H2, H2 = H1.set (n + 2) (.cells 19 (plC (.ofNat w') (.ofNat h') (dif g (2 ^ c')) (List.replicate 16 0)) 44) := ⟨_, rfl⟩
                  have hst : evStore lo H1 1 (.pointer (some ⟨n + 2, 0 + 2, none⟩)) (.int .u64 (.ofNat (dif g (2 ^ c')))) = some H2 := by
                    rw [hH2]; exact store_at st.p rfl (by decide) (by omega) rfl rfl
                  have hdl : dif g (2 ^ c') < 65536 := Nat.lt_of_le_of_lt (Nat.and_le_left : dif g (2 ^ c') ≤ g) hg
                  refine ⟨.normal, (.agg ⟨[.int .i64 (.ofNat w'), .int .i64 (.ofNat h'), sl]⟩, .pointer (some ⟨n, 0, none⟩), .pointer (some ⟨n + 1, 0, none⟩), .int .i64 (.ofNat 0), .int .i64 (.ofNat nn), .pointer (some ⟨n + 2, 0, none⟩), .int .i64 (.ofNat c'), .int .i64 (.ofNat c'), undef, .bool false, .bool false, sl, .int .i64 (.ofNat sp.length), .int .i64 (.ofNat (i + 1)), .bool true, .bool false, .bool false, undef, undef, undef, undef, undef, ()), H2, ?_, sp.length - (i + 1), by omega, i + 1, .ofNat c', dif g (2 ^ c'), _, _, _, _, rfl, hi, rfl, hgo, by rw [hH2]; exact st.setP _ _, hdl⟩
                  simp only [seqE_eq, leaf_eq, bv_some, bh_some, seqR_normal, condE_eq, condB_true, condB_false, doneE_eq, blockE_eq, blockR_normal, hlt, had, hld, d1, d2, d3, guarded_ff, pairVH_eq, pick_false, hsh, hlg, hshc, han, hst, hadd]
        · rintro e S H1 (⟨rfl, r0, ⟨x6, x7, x12, x13, x14, x15, x16, rfl⟩, st1, rg⟩ | ⟨rfl, r0, s1, s2, s3, s4⟩)
          · show (if (1 : Nat) = 1 then _ else _)
            rw [if_pos rfl]
            show EvEnds _ _
            simp only [seqE_eq, leaf_eq, seqR_normal, blockE_eq]
            have hP : laidP (.ofNat w') (.ofNat h') sp = (0, plC (.ofNat w') (.ofNat h') res.2 (nearTo w' res.2 nn)) := by
              rw [hP0]
              obtain ⟨e, g⟩ := res
              cases r0
              rfl
            rw [hP]
            refine EvEnds.seqBlock (K := fun S H1 => (∃ x6 x7 x8 x12 x13 x14 x15 x16 x18 x19 x20 x21, S = (.agg ⟨[.int .i64 (.ofNat w'), .int .i64 (.ofNat h'), sl]⟩, .pointer (some ⟨n, 0, none⟩), .pointer (some ⟨n + 1, 0, none⟩), .int .i64 (.ofNat 0), .int .i64 (.ofNat nn), .pointer (some ⟨n + 2, 0, none⟩), x6, x7, x8, .bool false, .bool false, sl, x12, x13, x14, x15, x16, .int .i64 (.ofNat nn), x18, x19, x20, x21, ())) ∧ LaidSt n H (.ofNat w') (.ofNat h') sl res.2 (nearTo w' res.2 nn) H1) ?_ ?_
            · have hjoin : ∀ {a b near Hx}, a < 16 → b < 16 → LaidSt n H (.ofNat w') (.ofNat h') sl res.2 near Hx → near.length = 16 → (∀ x ∈ near, x < 65536) →
                  ∃ v H1, C lo 44 [.pointer (some ⟨n + 2, 0, none⟩), .int .i64 (.ofNat a), .int .i64 (.ofNat b)] Hx = some (v, H1) ∧ LaidSt n H (.ofNat w') (.ofNat h') sl res.2 (joinP res.2 a b near) H1 := by
                intro a b near Hx ha hb st hl hlt
                obtain ⟨v, H1, h1, h2, h3, h4⟩ := join_run (mCall P ctx table specs3 k) (lo := lo) st.p hl (by omega) rg hlt ha hb
                refine ⟨v, H1, ?_, ?_⟩
                · rw [hC, mCall_text (F := F44) rfl (by kernel_rfl)]; exact h1
                · obtain ⟨e, hse⟩ := st.s
                  exact ⟨⟨e, (h4 n (by omega)).trans hse⟩, (h4 (n + 1) (by omega)).trans st.z, h2, h3.trans st.next, fun i hi => (h4 i (by omega)).trans (st.old i hi)⟩
              refine EvEnds.loop (fun k S H1 => ∃ j x8 x19 x20 x21, S = (.agg ⟨[.int .i64 (.ofNat w'), .int .i64 (.ofNat h'), sl]⟩, .pointer (some ⟨n, 0, none⟩), .pointer (some ⟨n + 1, 0, none⟩), .int .i64 (.ofNat 0), .int .i64 (.ofNat nn), .pointer (some ⟨n + 2, 0, none⟩), x6, x7, x8, .bool false, .bool false, sl, x12, x13, x14, x15, x16, .int .i64 (.ofNat nn), .int .i64 (.ofNat j), x19, x20, x21, ()) ∧ j ≤ nn ∧ k = nn - j ∧ LaidSt n H (.ofNat w') (.ofNat h') sl res.2 (nearTo w' res.2 j) H1) ?_ fuel nn _ _ (show nn < 100000 by omega)
                ⟨0, _, _, _, _, rfl, Nat.zero_le _, rfl, st1⟩
              rintro k S H1 ⟨j, x8, x19, x20, x21, rfl, hj, rfl, st⟩
              rcases Nat.eq_or_lt_of_le hj with hj | hj
              · have hlt : evLss (.int .i64 (.ofNat j)) (.int .i64 (.ofNat nn)) = some (.bool false) := by rw [lss_n, blt_f (by omega)]
                refine ⟨.exit 4, (.agg ⟨[.int .i64 (.ofNat w'), .int .i64 (.ofNat h'), sl]⟩, .pointer (some ⟨n, 0, none⟩), .pointer (some ⟨n + 1, 0, none⟩), .int .i64 (.ofNat 0), .int .i64 (.ofNat nn), .pointer (some ⟨n + 2, 0, none⟩), x6, x7, x8, .bool false, .bool false, sl, x12, x13, x14, x15, x16, .int .i64 (.ofNat nn), .int .i64 (.ofNat j), .bool false, x20, x21, ()), H1, ?_, rfl, ⟨_, _, _, _, _, _, _, _, _, _, _, _, rfl⟩, by rw [← hj]; exact st⟩
                simp only [seqE_eq, leaf_eq, bv_some, seqR_normal, seqR_exit, condE_eq, condB_false, doneE_eq, hlt]
              · have hlt : evLss (.int .i64 (.ofNat j)) (.int .i64 (.ofNat nn)) = some (.bool true) := by rw [lss_n, blt_t hj]
                have hadd : evAdd (.int .i64 (.ofNat j)) (.int .i64 (.ofNat 1)) = some (.int .i64 (.ofNat (j + 1))) := add_n (by omega)
                have hrem : evRem (.int .i64 (.ofNat j)) (.int .i64 (.ofNat w')) = some (.int .i64 (.ofNat (j % w'))) := rem_n (by omega)
                have hgz : evGtr (.int .i64 (.ofNat (j % w'))) (.int .i64 (.ofNat 0)) = some (.bool (Nat.blt 0 (j % w'))) := gtr_n _ _ _
                have hgw : evGeq (.int .i64 (.ofNat j)) (.int .i64 (.ofNat w')) = some (.bool (!Nat.blt j w')) := geq_n _ _ _
                have hlw := (lds st).1
                have hnl := nearTo_length w' res.2 j
                have hnlt := nearTo_lt (g := res.2) (show 0 < w' by omega) j (by omega)
                have hstep : nearTo w' res.2 (j + 1) = nearStep w' res.2 j (nearTo w' res.2 j) := rfl
                have fst : ∃ H2, (∀ b, Nat.blt 0 (j % w') = b → (b = false → H2 = H1) ∧ (b = true → ∃ v, C lo 44 [.pointer (some ⟨n + 2, 0, none⟩), .int .i64 (.ofNat (j - 1)), .int .i64 (.ofNat j)] H1 = some (v, H2))) ∧
                    LaidSt n H (.ofNat w') (.ofNat h') sl res.2 (cond (Nat.blt 0 (j % w')) (joinP res.2 (j - 1) j (nearTo w' res.2 j)) (nearTo w' res.2 j)) H2 := by
                  cases hb : Nat.blt 0 (j % w') with
                  | false => exact ⟨H1, fun b e => by subst e; exact ⟨fun _ => rfl, (fun h => by cases h)⟩, st⟩
                  | true =>
                    obtain ⟨v, H2, h1, h2⟩ := hjoin (a := j - 1) (b := j) (by omega) (by omega) st hnl hnlt
                    exact ⟨H2, fun b e => by subst e; exact ⟨(fun h => by cases h), fun _ => ⟨v, h1⟩⟩, h2⟩
                obtain ⟨H2, hH2, st2⟩ := fst
                have hnl2 : (cond (Nat.blt 0 (j % w')) (joinP res.2 (j - 1) j (nearTo w' res.2 j)) (nearTo w' res.2 j)).length = 16 := by
                  cases Nat.blt 0 (j % w') <;> simp [joinP_length, hnl]
                have hnlt2 : ∀ x ∈ cond (Nat.blt 0 (j % w')) (joinP res.2 (j - 1) j (nearTo w' res.2 j)) (nearTo w' res.2 j), x < 65536 := by
                  cases Nat.blt 0 (j % w') with
                  | false => exact hnlt
                  | true => exact joinP_lt (by omega) (by omega) hnlt
                have hlw2 := (lds st2).1
                have hs1 : 0 < j % w' → evSub (.int .i64 (.ofNat j)) (.int .i64 (.ofNat 1)) = some (.int .i64 (.ofNat (j - 1))) := fun hp => sub_n (by have := Nat.mod_le j w'; omega) (by omega)
                cases hw2 : Nat.blt j w' with
                | true =>
                  rw [hw2] at hgw
                  have hst3 : nearTo w' res.2 (j + 1) = cond (Nat.blt 0 (j % w')) (joinP res.2 (j - 1) j (nearTo w' res.2 j)) (nearTo w' res.2 j) := by
                    rw [hstep]
                    show cond (Nat.blt j w') _ _ = _
                    rw [hw2]; rfl
                  rw [← hst3] at st2
                  cases hb : Nat.blt 0 (j % w') with
                  | false =>
                    rw [hb] at hgz
                    have := (hH2 false hb).1 rfl
                    subst this
                    refine ⟨.normal, (.agg ⟨[.int .i64 (.ofNat w'), .int .i64 (.ofNat h'), sl]⟩, .pointer (some ⟨n, 0, none⟩), .pointer (some ⟨n + 1, 0, none⟩), .int .i64 (.ofNat 0), .int .i64 (.ofNat nn), .pointer (some ⟨n + 2, 0, none⟩), x6, x7, .int .i64 (.ofNat j), .bool false, .bool false, sl, x12, x13, x14, x15, x16, .int .i64 (.ofNat nn), .int .i64 (.ofNat (j + 1)), .bool true, .bool false, .bool false, ()), H2, ?_, nn - (j + 1), by omega, j + 1, _, _, _, _, rfl, hj, rfl, st2⟩
                    simp only [seqE_eq, leaf_eq, bv_some, bh_some, seqR_normal, condE_eq, condB_true, condB_false, doneE_eq, blockE_eq, blockR_normal, hlt, hsh, hlw, hrem, hgz, hgw, hadd, Bool.not_true]
                  | true =>
                    rw [hb] at hgz
                    obtain ⟨v, hv⟩ := (hH2 true hb).2 rfl
                    rw [Nat.blt_eq] at hb
                    have hs1 := hs1 hb
                    refine ⟨.normal, (.agg ⟨[.int .i64 (.ofNat w'), .int .i64 (.ofNat h'), sl]⟩, .pointer (some ⟨n, 0, none⟩), .pointer (some ⟨n + 1, 0, none⟩), .int .i64 (.ofNat 0), .int .i64 (.ofNat nn), .pointer (some ⟨n + 2, 0, none⟩), x6, x7, .int .i64 (.ofNat j), .bool false, .bool false, sl, x12, x13, x14, x15, x16, .int .i64 (.ofNat nn), .int .i64 (.ofNat (j + 1)), .bool true, .bool true, .bool false, ()), H2, ?_, nn - (j + 1), by omega, j + 1, _, _, _, _, rfl, hj, rfl, st2⟩
                    simp only [seqE_eq, leaf_eq, bv_some, bh_some, seqR_normal, condE_eq, condB_true, condB_false, doneE_eq, blockE_eq, blockR_normal, hlt, hsh, hlw, hlw2, hrem, hgz, hgw, hs1, hv, hadd, Bool.not_true]
                | false =>
                  rw [hw2] at hgw
                  have hjw : w' ≤ j := by
                    rcases Nat.lt_or_ge j w' with h1 | h1
                    · rw [blt_t h1] at hw2; cases hw2
                    · exact h1
                  have hst3 : nearTo w' res.2 (j + 1) = joinP res.2 (j - w') j (cond (Nat.blt 0 (j % w')) (joinP res.2 (j - 1) j (nearTo w' res.2 j)) (nearTo w' res.2 j)) := by
                    rw [hstep]
                    show cond (Nat.blt j w') _ _ = _
                    rw [hw2]; rfl
                  have hs2 : evSub (.int .i64 (.ofNat j)) (.int .i64 (.ofNat w')) = some (.int .i64 (.ofNat (j - w'))) := sub_n hjw (by omega)
                  obtain ⟨v3, H3, hv3, st3⟩ := hjoin (a := j - w') (b := j) (by omega) (by omega) st2 hnl2 hnlt2
                  rw [← hst3] at st3
                  cases hb : Nat.blt 0 (j % w') with
                  | false =>
                    rw [hb] at hgz
                    have := (hH2 false hb).1 rfl
                    subst this
                    refine ⟨.normal, (.agg ⟨[.int .i64 (.ofNat w'), .int .i64 (.ofNat h'), sl]⟩, .pointer (some ⟨n, 0, none⟩), .pointer (some ⟨n + 1, 0, none⟩), .int .i64 (.ofNat 0), .int .i64 (.ofNat nn), .pointer (some ⟨n + 2, 0, none⟩), x6, x7, .int .i64 (.ofNat j), .bool false, .bool false, sl, x12, x13, x14, x15, x16, .int .i64 (.ofNat nn), .int .i64 (.ofNat (j + 1)), .bool true, .bool false, .bool true, ()), H3, ?_, nn - (j + 1), by omega, j + 1, _, _, _, _, rfl, hj, rfl, st3⟩
                    simp only [seqE_eq, leaf_eq, bv_some, bh_some, seqR_normal, condE_eq, condB_true, condB_false, doneE_eq, blockE_eq, blockR_normal, hlt, hsh, hlw, hrem, hgz, hgw, hs2, hv3, hadd, Bool.not_false]
                  | true =>
                    rw [hb] at hgz
                    obtain ⟨v, hv⟩ := (hH2 true hb).2 rfl
                    rw [Nat.blt_eq] at hb
                    have hs1 := hs1 hb
                    refine ⟨.normal, (.agg ⟨[.int .i64 (.ofNat w'), .int .i64 (.ofNat h'), sl]⟩, .pointer (some ⟨n, 0, none⟩), .pointer (some ⟨n + 1, 0, none⟩), .int .i64 (.ofNat 0), .int .i64 (.ofNat nn), .pointer (some ⟨n + 2, 0, none⟩), x6, x7, .int .i64 (.ofNat j), .bool false, .bool false, sl, x12, x13, x14, x15, x16, .int .i64 (.ofNat nn), .int .i64 (.ofNat (j + 1)), .bool true, .bool true, .bool true, ()), H3, ?_, nn - (j + 1), by omega, j + 1, _, _, _, _, rfl, hj, rfl, st3⟩
                    simp only [seqE_eq, leaf_eq, bv_some, bh_some, seqR_normal, condE_eq, condB_true, condB_false, doneE_eq, blockE_eq, blockR_normal, hlt, hsh, hlw, hlw2, hrem, hgz, hgw, hs1, hs2, hv, hv3, hadd, Bool.not_false]
            · rintro S H2 ⟨⟨x6, x7, x8, x12, x13, x14, x15, x16, x18, x19, x20, x21, rfl⟩, st2⟩
              have pl := plC_length (.ofNat w') (.ofNat h') res.2 (nearTo w' res.2 nn)
              rw [nearTo_length] at pl
              have hla := load_all st2.p pl
              obtain ⟨Hz, hHz⟩ : ∃ Hz, Hz = H2.set (n + 1) (.cells 19 (plC (.ofNat w') (.ofNat h') res.2 (nearTo w' res.2 nn)) 44) := ⟨_, rfl⟩
              have hsz : evStore lo H2 19 (.pointer (some ⟨n + 1, 0, none⟩)) (.agg ⟨plC (.ofNat w') (.ofNat h') res.2 (nearTo w' res.2 nn)⟩) = some Hz := by
                rw [hHz]; exact store_all st2.z zl pl (by omega) (plC_single _ _ _ _)
              refine ⟨.ret, (.agg ⟨[.int .i64 (.ofNat w'), .int .i64 (.ofNat h'), sl]⟩, .pointer (some ⟨n, 0, none⟩), .pointer (some ⟨n + 1, 0, none⟩), .int .i64 (.ofNat 0), .int .i64 (.ofNat nn), .pointer (some ⟨n + 2, 0, none⟩), x6, x7, x8, .bool false, .bool false, sl, x12, x13, x14, x15, x16, .int .i64 (.ofNat nn), x18, x19, x20, x21, ()), Hz, ?_, rfl, rfl, rfl, by rw [hHz, AH.get_set, if_pos rfl], pl, by rw [hHz]; exact (grow st2).set (by omega) _⟩
              simp only [seqE_eq, leaf_eq, bv_some, seqR_normal, doneE_eq, hla, hsz]
          · have hP : laidP (.ofNat w') (.ofNat h') sp = (res.1, zeroC) := by
              rw [hP0]
              obtain ⟨e, g⟩ := res
              cases e with
              | zero => exact absurd rfl r0
              | succ e => rfl
            rw [hP]
            exact ⟨rfl, s1, s2, s3, zl, s4⟩
  obtain ⟨v, H1, h1, h2, h3⟩ := EvEnds.body (R := fun v H1 => v = .tuple ⟨[.agg ⟨(laidP w h sp).2⟩, .int .i64 (.ofNat (laidP w h sp).1)]⟩ ∧ Grown H H1) key (res := fun p => resE p.1 (bindV (evLoad p.2.2 true 19 p.2.1.2.2.1) fun r0 => some (oneOf [r0, p.2.1.2.2.2.1], p.2.2))) (by
    rintro e S H1 ⟨rfl, h1, h2, h3, h4, h5⟩
    refine ⟨_, _, ?_, rfl, h5⟩
    show resE .ret (bindV (evLoad H1 true 19 S.2.2.1) fun r0 => some (oneOf [r0, S.2.2.2.1], H1)) = _
    rw [h1, h2, load_all h3 h4]; rfl)
  subst h2
  exact ⟨H1, h1, h3⟩
end
end Go.Proofs.YtnnfpbdimgagdaaGreatDoor

namespace Go.Proofs.YtnnfpbdimgagdaaGreatDoor
open Go Go.Ev
set_option maxRecDepth 100000
noncomputable section

/-- a slab laid: the plate and the error -/
def laidV (w h : Int) (sp : List Int) : Value := .tuple ⟨[.agg ⟨(laidP w h sp).2⟩, .int .i64 (.ofNat (laidP w h sp).1)]⟩
def sLaid : FnF := fun lo args H => match args with
  | [.agg ⟨[.int .i64 w, .int .i64 h, sl]⟩] => need (Nat.ble 2 H.next && Nat.ble lo H.next) (withX (readRow H sl) fun l => withX (intsOf l) fun sp => need (Nat.blt sp.length 90000) (some (laidV w h sp, H)))
  | _ => none

theorem laidP_flat (w h : Int) (sp : List Int) : (laidP w h sp).2.all flat = true := by
  have pl : ∀ (w h : Int) (g : Nat) (near : List Nat), (plC w h g near).all flat = true := by
    intro w h g near
    show (true && (true && (true && (near.map fun x => Value.int .u64 (.ofNat x)).all flat))) = true
    have : (near.map fun x => Value.int .u64 (.ofNat x)).all flat = true := by
      rw [List.all_eq_true]
      intro x hx
      obtain ⟨y, _, rfl⟩ := List.mem_map.1 hx
      rfl
    rw [this]; rfl
  unfold laidP
  split
  · exact pl _ _ _ _
  · split
    · exact pl _ _ _ _
    · split
      · exact pl _ _ _ _
      · exact pl _ _ _ _

theorem sLaid_ok : SpecOk P 2 13 sLaid := SpecOk.shrink fun lo args H v H' hlo hh => by
  unfold sLaid at hh
  split at hh
  · rename_i w h sl
    obtain ⟨h1, hA⟩ := need_eq hh
    obtain ⟨l, h2, hB⟩ := withX_eq hA
    obtain ⟨sp, h3, hC⟩ := withX_eq hB
    obtain ⟨h4, hD⟩ := need_eq hC
    cases hD
    rw [Bool.and_eq_true] at h1
    rw [Nat.blt_eq] at h4
    have hr := readRow_eq h2
    rw [intsOf_eq h3] at hr
    obtain ⟨H1, h5, h6⟩ := laid_run 0 lo (w := w) (h := h) hr h4 (le_of_ble' h1.2)
    refine ⟨mCall P ctx table specs3 2, mCall_ok mixed ctx table (table_ok rows_ok) specs3 specs3_ok 2, _, H1, id, (mCall_text (F := F13) rfl (by kernel_rfl) lo _ H).trans h5, ?_⟩
    have hb := le_of_ble' h1.1
    exact ⟨Nat.le_refl _, fun _ _ => rfl, fun i h1 h2 => absurd h1 (by omega), fun i j _ _ h => h, fun i o hi ho => .inl ⟨hi, ho, h6.get hi ho⟩, fun i hi _ => rfl, hb,
      .tuple (.cons (.agg (.flats (laidP_flat w h sp))) (.cons (.flat rfl) .nil))⟩
  · cases hh

end
end Go.Proofs.YtnnfpbdimgagdaaGreatDoor
