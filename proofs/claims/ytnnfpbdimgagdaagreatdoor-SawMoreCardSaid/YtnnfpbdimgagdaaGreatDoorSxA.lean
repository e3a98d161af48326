/- Contracts of functions of package saw, and of those that it calls (merged from SwA, SwB, SwC, SwD, SwE).
   Conditions: none. -/
import Derived.Test.YtnnfpbdimgagdaaGreatDoorEvBb
import Derived.Test.YtnnfpbdimgagdaaGreatDoorEvS
namespace Go.Proofs.YtnnfpbdimgagdaaGreatDoor
open Go Go.Ev
set_option maxRecDepth 100000
noncomputable section

theorem mixed : P.follows .mixedOrders = true := by kernel_rfl

/-- the way of calling with the words so far -/
def call0 : CallF := mCall P ctx table .leaf 4
theorem call0_ok : CallOk P 2 call0 := mCall_ok mixed ctx table (table_ok rows_ok) .leaf (fun f S h => by cases h) 4

/-- the smallest member -/
def sTZ : FnF := fun _ args H => match args with
  | [a] => withX (argU a) fun s => need (!Nat.beq s 0) (need (tabsB H) (some (.int .i64 (.ofNat (low 64 s)), H)))
  | _ => none

theorem tz64_run (call : CallF) (lo : Nat) {s : Nat} (h0 : s ≠ 0) (hs : s < 18446744073709551616) {H : AH} (ht : Tabs H) :
    F100 call lo [.int .u64 (.ofNat s)] H = some (.int .i64 (.ofNat (low 64 s)), H) := by
  have hk := low_lt 64 s h0 hs
  have hn : evNeg (.int .u64 (.ofNat s)) = some (.int .u64 (.ofNat (18446744073709551616 - s))) := by
    show some (Value.int .u64 (wrapF .u64 (Int.sub 0 (.ofNat s)))) = _
    rw [wrapF_eq, IntKind.wrap_u64]
    have : (Int.sub 0 (Int.ofNat s)) % 18446744073709551616 = Int.ofNat (18446744073709551616 - s) := by
      show (0 - (s : Int)) % 18446744073709551616 = ((18446744073709551616 - s : Nat) : Int)
      omega
    rw [this]
  have ha : evAnd (.int .u64 (.ofNat s)) (.int .u64 (.ofNat (18446744073709551616 - s))) = some (.int .u64 (.ofNat (2 ^ low 64 s))) := by
    rw [and_u hs (by omega), and_neg 64 s h0 hs]
  have he : evEql .int (.int .u64 (.ofNat s)) (.int .u64 (.ofNat 0)) = some (.bool false) := by
    rw [eql_i, decide_eq_false (by intro h; exact h0 (Int.ofNat.inj h))]
  obtain ⟨k, hkk⟩ : ∃ k : Fin 64, k.val = low 64 s := ⟨⟨_, hk⟩, rfl⟩
  have hm : evMul (.int .u64 (.ofNat (2 ^ low 64 s))) (.int .u64 (.ofNat 285870213051353865)) = some (.int .u64 (.ofNat (2 ^ k.val * 285870213051353865 % 18446744073709551616))) := by
    rw [← hkk]
    exact mul_u _ _
  have hi : (2 ^ k.val * 285870213051353865 % 18446744073709551616) / 2 ^ 58 < 64 := by omega
  obtain ⟨_, _, e, h1⟩ := ht
  have hl : evLoad H false 1 (.pointer (some ⟨1, 0 + (2 ^ k.val * 285870213051353865 % 18446744073709551616) / 2 ^ 58 * 1, none⟩)) = some (.int .u8 (.ofNat (low 64 s))) := by
    refine load_at h1 ?_
    rw [Nat.zero_add, Nat.mul_one, List.getElem?_map, tab64_at k, hkk]; rfl
  have hc : evConv .i64 (.int .u8 (.ofNat (low 64 s))) = some (.int .i64 (.ofNat (low 64 s))) := by
    show some (Value.int .i64 (wrapF .i64 (.ofNat (low 64 s)))) = _
    rw [wrap_in (by unfold I64; exact ⟨by have := Int.natCast_nonneg (low 64 s); show _ ≤ ((low 64 s : Nat) : Int); omega, by show ((low 64 s : Nat) : Int) < _; omega⟩)]
  have hs2 : evShr (.int .u64 (.ofNat (2 ^ k.val * 285870213051353865 % 18446744073709551616))) (.int .u64 (.ofNat 58)) = some (.int .u64 (.ofNat ((2 ^ k.val * 285870213051353865 % 18446744073709551616) / 2 ^ 58))) := shr_u (by decide)
  have hx := idx_arr (n := 1) (i := 1) (off := 0) (k := .u64) hi
  simp only [F100, C100, leave_all, lowOf_all, seqE_eq, leaf_eq, seqR_normal, seqR_ret, doneE_eq, argAt_zero, argAt_succ, argAt_nil, condE_eq, bv_some, he, condB_false, hn, ha, hm, hs2, hx, hl, hc, resE_ret, oneOf_one]

theorem sTZ64_ok : SpecOk P 2 100 sTZ := SpecOk.shrink fun lo args H v H' hlo h => by
  unfold sTZ at h
  split at h
  · rename_i a
    obtain ⟨s, hs, h1⟩ := withX_eq h
    obtain ⟨rfl, hs2⟩ := argU_eq hs
    obtain ⟨h0, h2⟩ := need_eq h1
    obtain ⟨ht, h3⟩ := need_eq h2
    cases h3
    have ht := tabsB_eq ht
    refine ⟨call0, call0_ok, _, H, id, (mCall_text (F := F100) rfl (by kernel_rfl) lo _ H).trans (tz64_run _ lo (ne_of_beq' (by simpa using h0)) hs2 ht), .plain (.refl H) ht.1 rfl⟩
  · cases h

def specs1 : Tr FnF := specsOf [(100, sTZ)] .leaf
theorem specs1_ok : ∀ f S, specs1.get f = some S → SpecOk P 2 f S := specs_ok (by simp only [List.forall_mem_cons]; exact ⟨sTZ64_ok, by simp⟩)
def call1 : CallF := mCall P ctx table specs1 4
theorem call1_ok : CallOk P 2 call1 := mCall_ok mixed ctx table (table_ok rows_ok) specs1 specs1_ok 4

theorem sTZ_at {lo s : Nat} {H : AH} (h0 : s ≠ 0) (hs : s < 18446744073709551616) (ht : Tabs H) : sTZ lo [.int .u64 (.ofNat s)] H = some (.int .i64 (.ofNat (low 64 s)), H) := by
  show withX (argU (.int .u64 (.ofNat s))) (fun s => need (!Nat.beq s 0) (need (tabsB H) (some (Value.int .i64 (.ofNat (low 64 s)), H)))) = _
  rw [argU_of hs, withX_some, beqf h0, ht.test]; rfl

theorem sTZ_ok : SpecOk P 2 74 sTZ := SpecOk.shrink fun lo args H v H' hlo h => by
  have h' := h
  unfold sTZ at h
  split at h
  · rename_i a
    obtain ⟨s, hs, h1⟩ := withX_eq h
    obtain ⟨rfl, hs2⟩ := argU_eq hs
    obtain ⟨h0, h2⟩ := need_eq h1
    obtain ⟨ht, h3⟩ := need_eq h2
    cases h3
    have ht := tabsB_eq ht
    have e : mCall P ctx table specs1 3 lo 100 [.int .u64 (.ofNat s)] H = some (.int .i64 (.ofNat (low 64 s)), H) := (mCall_spec rfl lo _ H).trans h'
    refine ⟨call1, call1_ok, _, H, id, (mCall_text (F := F74) rfl (by kernel_rfl) lo _ H).trans ?_, .plain (.refl H) ht.1 rfl⟩
    simp only [F74, C74, leave_all, lowOf_all, seqE_eq, leaf_eq, seqR_normal, seqR_ret, doneE_eq, argAt_zero, argAt_succ, argAt_nil, condE_eq, bv_some, bh_some, condB_false, e, resE_ret, oneOf_one]
  · cases h
end
end Go.Proofs.YtnnfpbdimgagdaaGreatDoor

namespace Go.Proofs.YtnnfpbdimgagdaaGreatDoor
open Go Go.Ev
set_option maxRecDepth 100000
noncomputable section

theorem list_run (call : CallF) (lo : Nat) {s : Nat} (hs : s < 18446744073709551616) {H : AH} (ht : Tabs H) (hlo : lo ≤ H.next)
    (hcall : ∀ s H', s ≠ 0 → s < 18446744073709551616 → Tabs H' → call lo 74 [.int .u64 (.ofNat s)] H' = some (.int .i64 (.ofNat (low 64 s)), H')) :
    ∃ v1 H1, F41 call lo [.int .u64 (.ofNat s)] H = some (v1, H1) ∧ OwnRow H.next 3 H1 v1 (ints (evBits s)) ∧ Grown H H1 := by
  simp only [F41, leave_all]
  refine EvEnds.body (Q := fun e S H1 => e = .ret ∧ OwnRow H.next 3 H1 S.2.1 (ints (evBits s)) ∧ Grown H H1) ?_ ?_
  rotate_left
  · rintro e S H1 ⟨rfl, h1, h2⟩
    exact ⟨_, _, rfl, h1, h2⟩
  simp only [C41, seqE_eq, leaf_eq, seqR_normal, blockE_eq, argAt_zero, argAt_succ, argAt_nil, lowOf_all]
  refine EvEnds.seqR (EvEnds.blockR (EvEnds.mono (Q := fun e S H' => e = .exit 0 ∧ OwnRow H.next 3 H' S.2.2.1 (ints (evBits s)) ∧ Grown H H') ?_ ?_))
  rotate_left
  · rintro e S H1 ⟨rfl, h1, h2⟩
    exact ⟨.ret, _, _, rfl, rfl, h1, h2⟩
  refine EvEnds.loop (fun n S H' => ∃ s' pre out x y, S = (.int .u64 (.ofNat s'), x, out, y, ()) ∧ s' < 18446744073709551616 ∧ evBits s = pre ++ evBits s' ∧
    n = (evBits s').length ∧ OwnRow H.next 3 H' out (ints pre) ∧ Grown H H') ?_ fuel (evBits s).length _ _ (Nat.lt_of_le_of_lt (ev_bits_length s) (by decide)) ⟨s, [], _, _, _, rfl, hs, rfl, rfl, .nil _ _ _, .refl _⟩
  rintro n S H' ⟨s', pre, out, x, y, rfl, hs', hb, rfl, hown, hg⟩
  by_cases h0 : s' = 0
  · subst h0
    have hne : evNeq .int (.int .u64 (.ofNat 0)) (.int .u64 (.ofNat 0)) = some (.bool false) := by rw [neq_i]; rfl
    refine ⟨.exit 0, (.int .u64 (.ofNat 0), x, out, .bool false, ()), H', ?_, rfl, ?_, hg⟩
    · simp only [seqE_eq, leaf_eq, bv_some, seqR_normal, seqR_exit, condE_eq, condB_false, doneE_eq, hne]
    · rw [hb, ev_bits_zero, List.append_nil]; exact hown
  · have hne : evNeq .int (.int .u64 (.ofNat s')) (.int .u64 (.ofNat 0)) = some (.bool true) := by
      rw [neq_i, decide_eq_false (by intro h; exact h0 (Int.ofNat.inj h))]; rfl
    have hlen : (ints pre).length + 1 ≤ 65 := by
      have h1 := ev_bits_length s
      rw [hb, List.length_append] at h1
      rw [ints_length]; omega
    obtain ⟨v', H'', ha, ho, hn, hk⟩ := hown.append (bytes := 8) (x := .int .i64 (.ofNat (low 64 s'))) hlo (by have := hg.next; omega) (roomFor_of (by omega) (by omega)) rfl
    have hsub : evSub (.int .u64 (.ofNat s')) (.int .u64 (.ofNat 1)) = some (.int .u64 (.ofNat (s' - 1))) := sub_u (by omega) hs'
    have hand : evAnd (.int .u64 (.ofNat s')) (.int .u64 (.ofNat (s' - 1))) = some (.int .u64 (.ofNat (s' &&& (s' - 1)))) := and_u hs' (by omega)
    have hb' := ev_bits_low h0 hs'
    refine ⟨.normal, (.int .u64 (.ofNat (s' &&& (s' - 1))), x, v', .bool true, ()), H'', ?_, (evBits (s' &&& (s' - 1))).length, by rw [hb']; simp, ⟨s' &&& (s' - 1), pre ++ [low 64 s'], v', x, .bool true, rfl, ?_, ?_, rfl, ?_, ?_⟩⟩
    · simp only [seqE_eq, leaf_eq, bv_some, bh_some, seqR_normal, condE_eq, condB_true, doneE_eq, blockE_eq, blockR_normal, hne, hcall s' H' h0 hs' (ht.grown hg), fill_int, mul11, ha, hsub, hand]
    · have := and_pred_lt h0; omega
    · rw [hb, hb', List.append_assoc]; rfl
    · rw [ints_append]; exact ho
    · refine ⟨Nat.le_trans hg.next hn, fun i hi => ?_⟩
      rw [hk i (by have := hg.next; omega), hg.same i hi]
      intro hm
      rcases hown with ⟨_, h2⟩ | ⟨j, h1, _, h3, _⟩
      · subst h2; cases hm
      · subst h3
        simp only [idsOf, List.mem_singleton] at hm
        omega
end
end Go.Proofs.YtnnfpbdimgagdaaGreatDoor

namespace Go.Proofs.YtnnfpbdimgagdaaGreatDoor
open Go Go.Ev
set_option maxRecDepth 100000
noncomputable section

/-- the cells of a plate -/
def plC (w h : Int) (g : Nat) (near : List Nat) : List Value := .int .i64 w :: .int .i64 h :: .int .u64 (.ofNat g) :: near.map fun x => .int .u64 (.ofNat x)
theorem plC_length (w h : Int) (g : Nat) (near : List Nat) : (plC w h g near).length = 3 + near.length := by simp [plC]; omega
theorem plC_good (w h : Int) (g g' : Nat) (near : List Nat) : over (plC w h g near) 2 [.int .u64 (.ofNat g')] = plC w h g' near := rfl
theorem plC_near (w h : Int) (g : Nat) (near : List Nat) (a v : Nat) (ha : a < near.length) : over (plC w h g near) (3 + a) [.int .u64 (.ofNat v)] = plC w h g (near.set a v) := by
  rw [over_set _ _ _ (by rw [plC_length]; omega)]
  show (plC w h g near).set (3 + a) _ = _
  rw [Nat.add_comm]
  simp [plC, List.map_set]
theorem plC_at (w h : Int) (g : Nat) (near : List Nat) (a : Nat) (ha : a < near.length) : (plC w h g near)[3 + a]? = some (.int .u64 (.ofNat (near[a]?.getD 0))) := by
  rw [Nat.add_comm]
  simp [plC, List.getElem?_eq_getElem ha]

/-- is a cell in a set? -/
def isIn (g c : Nat) : Bool := Nat.beq (Nat.mod (Nat.div g (Nat.pow 2 c)) 2) 1
/-- two cells become neighbours -/
def joinP (g a b : Nat) (near : List Nat) : List Nat :=
  cond (isIn g a && isIn g b) ((near.set a (near[a]?.getD 0 ||| 2 ^ b)).set b ((near.set a (near[a]?.getD 0 ||| 2 ^ b))[b]?.getD 0 ||| 2 ^ a)) near
theorem joinP_length (g a b : Nat) (near : List Nat) : (joinP g a b near).length = near.length := by
  unfold joinP
  cases (isIn g a && isIn g b) <;> simp

theorem bit_u {g c : Nat} (hc : c ≤ 64) (hg : g < 18446744073709551616) :
    evShr (.int .u64 (.ofNat g)) (.int .i64 (.ofNat c)) = some (.int .u64 (.ofNat (g / 2 ^ c))) ∧ evAnd (.int .u64 (.ofNat (g / 2 ^ c))) (.int .u64 (.ofNat 1)) = some (.int .u64 (.ofNat (g / 2 ^ c % 2))) ∧
    evEql .int (.int .u64 (.ofNat (g / 2 ^ c % 2))) (.int .u64 (.ofNat 1)) = some (.bool (isIn g c)) := by
  have h1 : g / 2 ^ c < 18446744073709551616 := Nat.lt_of_le_of_lt (Nat.div_le_self ..) hg
  refine ⟨shr_u hc, ?_, ?_⟩
  · rw [and_u h1 (by decide), Nat.and_one_is_mod]
  · rw [eql_i]
    congr 2
    unfold isIn
    show decide (Int.ofNat (g / 2 ^ c % 2) = Int.ofNat 1) = Nat.beq (g / 2 ^ c % 2) 1
    by_cases h : g / 2 ^ c % 2 = 1
    · rw [h]; rfl
    · rw [beqf h, decide_eq_false (by intro h2; exact h (Int.ofNat.inj h2))]

/-- a plate in a block -/
def PlAt (H : AH) (p : Nat) (e : TypeId) (w h : Int) (g : Nat) (near : List Nat) : Prop := H.get p = some (.cells 19 (plC w h g near) e)

theorem store_near {H : AH} {lo p : Nat} {e : TypeId} {w h : Int} {g : Nat} {near : List Nat} (hp : PlAt H p e w h g near) (hl : near.length = 16) (hlo : lo ≤ p) {a v : Nat} (ha : a < 16) :
    evStore lo H 1 (.pointer (some ⟨p, 3 + a, none⟩)) (.int .u64 (.ofNat v)) = some (H.set p (.cells 19 (plC w h g (near.set a v)) e)) := by
  show evStoreL lo H 1 p (3 + a) [.int .u64 (.ofNat v)] = _
  unfold evStoreL withCells
  rw [show H.get p = _ from hp]
  show need (Nat.ble lo p) (need true (need (Nat.ble (3 + a + 1) 19) (need true (some (H.set p (.cells 19 (over (plC w h g near) (3 + a) [.int .u64 (.ofNat v)]) e)))))) = _
  rw [Nat.ble_eq_true_of_le hlo, Nat.ble_eq_true_of_le (by omega), plC_near _ _ _ _ _ _ (by omega)]; rfl

theorem join_run (call : CallF) {lo p : Nat} {H : AH} {e : TypeId} {w h : Int} {g : Nat} {near : List Nat} (hp : PlAt H p e w h g near) (hl : near.length = 16) (hlo : lo ≤ p) (hg : g < 65536) (hn : ∀ x ∈ near, x < 65536)
    {a b : Nat} (ha : a < 16) (hb : b < 16) :
    ∃ v H1, F44 call lo [.pointer (some ⟨p, 0, none⟩), .int .i64 (.ofNat a), .int .i64 (.ofNat b)] H = some (v, H1) ∧ PlAt H1 p e w h g (joinP g a b near) ∧
      H1.next = H.next ∧ ∀ i, i ≠ p → H1.get i = H.get i := by
  obtain ⟨a1, a2, a3⟩ := bit_u (g := g) (c := a) (by omega) (by omega)
  obtain ⟨b1, b2, b3⟩ := bit_u (g := g) (c := b) (by omega) (by omega)
  have hld : evLoad H false 1 (.pointer (some ⟨p, 0 + 2, none⟩)) = some (.int .u64 (.ofNat g)) := load_at hp rfl
  have hnil : evNil (.pointer (some ⟨p, 0, none⟩)) = some (.pointer (some ⟨p, 0, none⟩)) := rfl
  simp only [F44, leave_all]
  refine EvEnds.body (Q := fun e' S H1 => e' = .normal ∧ PlAt H1 p e w h g (joinP g a b near) ∧ H1.next = H.next ∧ ∀ i, i ≠ p → H1.get i = H.get i) ?_ ?_
  rotate_left
  · rintro e' S H1 ⟨rfl, h1⟩
    exact ⟨_, _, rfl, h1⟩
  have hsh : ∀ d, evShift (.pointer (some ⟨p, 0, none⟩)) d = some (.pointer (some ⟨p, 0 + d, none⟩)) := fun d => rfl
  have hia : evIdxArr 16 1 (.pointer (some ⟨p, 0 + 3, none⟩)) (.int .i64 (.ofNat a)) = some (.pointer (some ⟨p, 0 + 3 + a * 1, none⟩)) := idx_arr ha
  have hib : evIdxArr 16 1 (.pointer (some ⟨p, 0 + 3, none⟩)) (.int .i64 (.ofNat b)) = some (.pointer (some ⟨p, 0 + 3 + b * 1, none⟩)) := idx_arr hb
  cases h1 : isIn g a with
  | false =>
    rw [h1] at a3
    refine ⟨.normal, (.pointer (some ⟨p, 0, none⟩), .int .i64 (.ofNat a), .int .i64 (.ofNat b), .bool false, ()), H, ?_, rfl, by unfold joinP; rw [h1]; exact hp, rfl, fun _ _ => rfl⟩
    simp only [C44, seqE_eq, leaf_eq, seqR_normal, argAt_zero, argAt_succ, argAt_nil, lowOf_all, hnil, bv_some, hsh, hld, a1, a2, a3, guarded_ft, pick_false, condE_eq, condB_false, doneE_eq]
  | true =>
    rw [h1] at a3
    cases h2 : isIn g b with
    | false =>
      rw [h2] at b3
      refine ⟨.normal, (.pointer (some ⟨p, 0, none⟩), .int .i64 (.ofNat a), .int .i64 (.ofNat b), .bool false, ()), H, ?_, rfl, by unfold joinP; rw [h1, h2]; exact hp, rfl, fun _ _ => rfl⟩
      simp only [C44, seqE_eq, leaf_eq, seqR_normal, argAt_zero, argAt_succ, argAt_nil, lowOf_all, hnil, bv_some, bh_some, hsh, hld, a1, a2, a3, b1, b2, b3, guarded_tt, pairVH_eq, pick_true, condE_eq, condB_false, doneE_eq]
    | true =>
      rw [h2] at b3
      have na : near[a]?.getD 0 < 65536 := by rw [List.getElem?_eq_getElem (by omega)]; exact hn _ (List.getElem_mem _)
      have p2 : ∀ c, c < 16 → 2 ^ c < 65536 := fun c hc => by
        have := Nat.pow_lt_pow_right (a := 2) (by decide) hc
        simpa using this
      have hla : evLoad H false 1 (.pointer (some ⟨p, 0 + 3 + a * 1, none⟩)) = some (.int .u64 (.ofNat (near[a]?.getD 0))) := load_at hp (by rw [Nat.zero_add, Nat.mul_one]; exact plC_at _ _ _ _ _ (by omega))
      have hs1 : evShl (.int .u64 (.ofNat 1)) (.int .i64 (.ofNat b)) = some (.int .u64 (.ofNat (1 * 2 ^ b))) := shl_u (by omega) (by have := p2 b hb; omega)
      have hs2 : evShl (.int .u64 (.ofNat 1)) (.int .i64 (.ofNat a)) = some (.int .u64 (.ofNat (1 * 2 ^ a))) := shl_u (by omega) (by have := p2 a ha; omega)
      have ho1 : evOr (.int .u64 (.ofNat (near[a]?.getD 0))) (.int .u64 (.ofNat (1 * 2 ^ b))) = some (.int .u64 (.ofNat (near[a]?.getD 0 ||| 2 ^ b))) := by
        rw [Nat.one_mul]; exact or_u (by omega) (by have := p2 b hb; omega)
      have hst1 : evStore lo H 1 (.pointer (some ⟨p, 0 + 3 + a * 1, none⟩)) (.int .u64 (.ofNat (near[a]?.getD 0 ||| 2 ^ b))) = some (H.set p (.cells 19 (plC w h g (near.set a (near[a]?.getD 0 ||| 2 ^ b))) e)) := by
        rw [Nat.zero_add, Nat.mul_one]; exact store_near hp hl hlo ha
      obtain ⟨H8, hH8⟩ : ∃ H8, H8 = H.set p (.cells 19 (plC w h g (near.set a (near[a]?.getD 0 ||| 2 ^ b))) e) := ⟨_, rfl⟩
      obtain ⟨n1, hn1⟩ : ∃ n1, n1 = near.set a (near[a]?.getD 0 ||| 2 ^ b) := ⟨_, rfl⟩
      rw [← hH8] at hst1
      have hp8 : PlAt H8 p e w h g n1 := by unfold PlAt; rw [hH8, AH.get_set, if_pos rfl, hn1]
      have hl8 : n1.length = 16 := by rw [hn1, List.length_set, hl]
      have nb : n1[b]?.getD 0 < 65536 := by
        have hall : ∀ x ∈ n1, x < 65536 := by
          intro x hx
          rw [hn1] at hx
          rcases List.mem_or_eq_of_mem_set hx with h3 | h3
          · exact hn _ h3
          · rw [h3]; exact Nat.or_lt_two_pow (n := 16) na (p2 b hb)
        rw [List.getElem?_eq_getElem (by omega)]
        exact hall _ (List.getElem_mem _)
      have hlb : evLoad H8 false 1 (.pointer (some ⟨p, 0 + 3 + b * 1, none⟩)) = some (.int .u64 (.ofNat (n1[b]?.getD 0))) := load_at hp8 (by rw [Nat.zero_add, Nat.mul_one]; exact plC_at _ _ _ _ _ (by omega))
      have ho2 : evOr (.int .u64 (.ofNat (n1[b]?.getD 0))) (.int .u64 (.ofNat (1 * 2 ^ a))) = some (.int .u64 (.ofNat (n1[b]?.getD 0 ||| 2 ^ a))) := by
        rw [Nat.one_mul]; exact or_u (by omega) (by have := p2 a ha; omega)
      have hst2 : evStore lo H8 1 (.pointer (some ⟨p, 0 + 3 + b * 1, none⟩)) (.int .u64 (.ofNat (n1[b]?.getD 0 ||| 2 ^ a))) = some (H8.set p (.cells 19 (plC w h g (n1.set b (n1[b]?.getD 0 ||| 2 ^ a))) e)) := by
        rw [Nat.zero_add, Nat.mul_one]; exact store_near hp8 hl8 hlo hb
      refine ⟨.normal, (.pointer (some ⟨p, 0, none⟩), .int .i64 (.ofNat a), .int .i64 (.ofNat b), .bool true, ()), H8.set p (.cells 19 (plC w h g (n1.set b (n1[b]?.getD 0 ||| 2 ^ a))) e), ?_, rfl, ?_, ?_, ?_⟩
      · simp only [C44, seqE_eq, leaf_eq, seqR_normal, argAt_zero, argAt_succ, argAt_nil, lowOf_all, hnil, bv_some, bh_some, hsh, hld, a1, a2, a3, b1, b2, b3, guarded_tt, pairVH_eq, pick_true, condE_eq, condB_true, doneE_eq,
          hia, hib, hla, hs1, hs2, ho1, hst1, hlb, ho2, hst2]
      · unfold PlAt joinP
        rw [AH.get_set, if_pos rfl, h1, h2, ← hn1]; rfl
      · rw [AH.next_set, hH8, AH.next_set]
      · intro i hi
        rw [AH.get_set, if_neg hi, hH8, AH.get_set, if_neg hi]
end
end Go.Proofs.YtnnfpbdimgagdaaGreatDoor

namespace Go.Proofs.YtnnfpbdimgagdaaGreatDoor
open Go Go.Ev
set_option maxRecDepth 100000
noncomputable section

def specs2 : Tr FnF := specsOf [(100, sTZ), (74, sTZ)] .leaf
theorem specs2_ok : ∀ f S, specs2.get f = some S → SpecOk P 2 f S := specs_ok (by simp only [List.forall_mem_cons]; exact ⟨sTZ64_ok, sTZ_ok, by simp⟩)
def call2 : CallF := mCall P ctx table specs2 4
theorem call2_ok : CallOk P 2 call2 := mCall_ok mixed ctx table (table_ok rows_ok) specs2 specs2_ok 4

/-- a set as a list -/
def sList : FnF := fun lo args H => match args with
  | [a] => withX (argU a) fun s => need (tabsB H) (need (Nat.ble lo H.next) (some (rowV H (ints (evBits s)), rowH H 3 (ints (evBits s)))))
  | _ => none
theorem sList_at {lo s : Nat} {H : AH} (hs : s < 18446744073709551616) (ht : Tabs H) (hlo : lo ≤ H.next) :
    sList lo [.int .u64 (.ofNat s)] H = some (rowV H (ints (evBits s)), rowH H 3 (ints (evBits s))) := by
  show withX (argU (.int .u64 (.ofNat s))) (fun s => need (tabsB H) (need (Nat.ble lo H.next) (some (rowV H (ints (evBits s)), rowH H 3 (ints (evBits s)))))) = _
  rw [argU_of hs, withX_some, ht.test, Nat.ble_eq_true_of_le hlo]; rfl

theorem sList_ok : SpecOk P 2 41 sList := SpecOk.shrink fun lo args H v H' hlo h => by
  unfold sList at h
  split at h
  · rename_i a
    obtain ⟨s, hs, h1⟩ := withX_eq h
    obtain ⟨rfl, hs2⟩ := argU_eq hs
    obtain ⟨ht, h2⟩ := need_eq h1
    obtain ⟨hl, h3⟩ := need_eq h2
    cases h3
    have ht := tabsB_eq ht
    have hl := le_of_ble' hl
    obtain ⟨v1, H1, hr, ho, hg⟩ := list_run (mCall P ctx table specs2 3) lo hs2 ht hl (fun s H' h0 hs ht => (mCall_spec rfl lo _ H').trans (sTZ_at h0 hs ht))
    obtain ⟨σ, hσ⟩ := ho.shrink (base := 2) (lo := lo) hg ht.1 (ints_flat _)
    exact ⟨call2, call2_ok, v1, H1, σ, (mCall_text (F := F41) rfl (by kernel_rfl) lo _ H).trans hr, hσ⟩
  · cases h

/-- is a cell light? -/
def lightP (w c : Nat) : Bool := Nat.beq (Nat.mod (Nat.add (Nat.mod c w) (Nat.div c w)) 2) 1
def sLight : FnF := fun _ args H => match args with
  | [.agg ⟨.int .i64 (.ofNat w) :: _⟩, .int .i64 (.ofNat c)] => need (Nat.ble 2 H.next) (need (Nat.blt 0 w && Nat.blt c 1000) (some (.bool (lightP w c), H)))
  | _ => none

theorem light_run (call : CallF) (lo : Nat) {w c : Nat} (rest : List Value) (hw : 0 < w) (hc : c < 1000) (H : AH) :
    ∃ H1, F46 call lo [.agg ⟨.int .i64 (.ofNat w) :: rest⟩, .int .i64 (.ofNat c)] H = some (.bool (lightP w c), H1) ∧ Grown H H1 := by
  have hmod : c % w < 1000 := Nat.lt_of_le_of_lt (Nat.mod_le ..) hc
  have hdiv : c / w < 1000 := Nat.lt_of_le_of_lt (Nat.div_le_self ..) hc
  have h1 : evRem (.int .i64 (.ofNat c)) (.int .i64 (.ofNat w)) = some (.int .i64 (.ofNat (c % w))) := rem_n hw
  have h2 : evQuo (.int .i64 (.ofNat c)) (.int .i64 (.ofNat w)) = some (.int .i64 (.ofNat (c / w))) := quo_n hw (by omega)
  have h3 : evAdd (.int .i64 (.ofNat (c % w))) (.int .i64 (.ofNat (c / w))) = some (.int .i64 (.ofNat (c % w + c / w))) := add_n (by omega)
  have h4 : evRem (.int .i64 (.ofNat (c % w + c / w))) (.int .i64 (.ofNat 2)) = some (.int .i64 (.ofNat ((c % w + c / w) % 2))) := rem_n (by decide)
  have h5 : evEql .int (.int .i64 (.ofNat ((c % w + c / w) % 2))) (.int .i64 (.ofNat 1)) = some (.bool (lightP w c)) := eql_n _ _ _
  refine ⟨pushBox H 44 (.agg ⟨.int .i64 (.ofNat w) :: rest⟩), ?_, .push _ _⟩
  have hl : evLoad (pushBox H 44 (.agg ⟨.int .i64 (.ofNat w) :: rest⟩)) false 1 (.pointer (some ⟨H.next, 0 + 0, none⟩)) = some (.int .i64 (.ofNat w)) := by
    exact load_at (box_get _ _ _) rfl
  have hsh : evShift (newPtr H) 0 = some (.pointer (some ⟨H.next, 0 + 0, none⟩)) := rfl
  simp only [F46, C46, leave_all, lowOf_all, seqE_eq, leaf_eq, seqR_normal, argAt_zero, argAt_succ, argAt_nil, doneE_eq, bv_some, hsh, hl, h1, h2, h3, h4, h5, resE_ret, oneOf_one]

theorem sLight_ok : SpecOk P 2 46 sLight := SpecOk.shrink fun lo args H v H' hlo h => by
  unfold sLight at h
  split at h
  · rename_i w rest c
    obtain ⟨hn, h1⟩ := need_eq h
    obtain ⟨hw, h2⟩ := need_eq h1
    cases h2
    rw [Bool.and_eq_true, Nat.blt_eq, Nat.blt_eq] at hw
    obtain ⟨H1, hr, hg⟩ := light_run (mCall P ctx table specs2 3) lo rest hw.1 hw.2 H
    exact ⟨call2, call2_ok, _, H1, id, (mCall_text (F := F46) rfl (by kernel_rfl) lo _ H).trans hr, .plain hg (le_of_ble' hn) rfl⟩
  · cases h
theorem sLight_at {lo w c : Nat} {rest : List Value} {H : AH} (hn : 2 ≤ H.next) (hw : 0 < w) (hc : c < 1000) :
    sLight lo [.agg ⟨.int .i64 (.ofNat w) :: rest⟩, .int .i64 (.ofNat c)] H = some (.bool (lightP w c), H) := by
  show need (Nat.ble 2 H.next) (need (Nat.blt 0 w && Nat.blt c 1000) (some (Value.bool (lightP w c), H))) = _
  rw [Nat.ble_eq_true_of_le hn, show (Nat.blt 0 w && Nat.blt c 1000) = true from by rw [Bool.and_eq_true, Nat.blt_eq, Nat.blt_eq]; exact ⟨hw, hc⟩]; rfl
end
end Go.Proofs.YtnnfpbdimgagdaaGreatDoor

namespace Go.Proofs.YtnnfpbdimgagdaaGreatDoor
open Go Go.Ev
set_option maxRecDepth 100000
noncomputable section

def specs3 : Tr FnF := specsOf [(100, sTZ), (74, sTZ), (41, sList), (46, sLight)] .leaf
theorem specs3_ok : ∀ f S, specs3.get f = some S → SpecOk P 2 f S := specs_ok (by simp only [List.forall_mem_cons]; exact ⟨sTZ64_ok, sTZ_ok, sList_ok, sLight_ok, by simp⟩)

/-- the mates, as they lie -/
def mateC (mate : List Int) : List Value := mate.map fun z => .int .i64 z
/-- one cell's neighbours, in turn -/
def goT (rec : Nat → Nat → List Int → Option (Bool × Nat × List Int)) (c : Nat) : List Nat → Nat → List Int → Option (Bool × Nat × List Int)
  | [], seen, mate => some (false, seen, mate)
  | d :: ds, seen, mate => cond (isIn seen d) (goT rec c ds seen mate)
      (match mate[d]? with
       | none => none
       | some (.negSucc _) => some (true, seen ||| 2 ^ d, mate.set d (.ofNat c))
       | some (.ofNat m) => match rec m (seen ||| 2 ^ d) mate with
         | none => none
         | some (true, s2, m2) => some (true, s2, m2.set d (.ofNat c))
         | some (false, s2, m2) => goT rec c ds s2 m2)
/-- a way from a cell -/
def tryT (near : List Nat) (free : Nat) : Nat → Nat → Nat → List Int → Option (Bool × Nat × List Int)
  | 0, _, _, _ => none
  | f + 1, c, seen, mate => goT (tryT near free f) c (evBits (near[c]?.getD 0 &&& free)) seen mate

/-- the variables of most, in blocks one behind the other -/
structure TrySt (n : Nat) (w h : Int) (g : Nat) (near : List Nat) (free : Nat) (H : AH) (seen : Nat) (mate : List Int) : Prop where
  pl : PlAt H n 44 w h g near
  fr : H.get (n + 1) = some (.cells 1 [.int .u64 (.ofNat free)] 41)
  ma : ∃ e, H.get (n + 2) = some (.cells 16 (mateC mate) e)
  se : H.get (n + 3) = some (.cells 1 [.int .u64 (.ofNat seen)] 41)
  tr : ∃ e, H.get (n + 4) = some (.cells 1 [.func (.func 45) ⟨[]⟩ ⟨[.pointer (some ⟨n, 0, none⟩), .pointer (some ⟨n + 1, 0, none⟩), .pointer (some ⟨n + 3, 0, none⟩), .pointer (some ⟨n + 2, 0, none⟩), .pointer (some ⟨n + 4, 0, none⟩)]⟩] e)
  next : n + 5 ≤ H.next
  len : mate.length = 16
  mates : ∀ x ∈ mate, x = .negSucc 0 ∨ ∃ m, m < 16 ∧ x = .ofNat m
  seen : seen < 65536

theorem TrySt.keep {n : Nat} {w h : Int} {g : Nat} {near : List Nat} {free : Nat} {H H' : AH} {seen : Nat} {mate : List Int} (s : TrySt n w h g near free H seen mate) (hn : H.next ≤ H'.next) (hk : ∀ i, n ≤ i → i < n + 5 → H'.get i = H.get i) :
    TrySt n w h g near free H' seen mate := by
  obtain ⟨e1, h1⟩ := s.ma
  obtain ⟨e2, h2⟩ := s.tr
  exact ⟨by unfold PlAt; rw [hk n (by omega) (by omega)]; exact s.pl, by rw [hk _ (by omega) (by omega)]; exact s.fr, ⟨e1, by rw [hk _ (by omega) (by omega)]; exact h1⟩, by rw [hk _ (by omega) (by omega)]; exact s.se,
    ⟨e2, by rw [hk _ (by omega) (by omega)]; exact h2⟩, Nat.le_trans s.next hn, s.len, s.mates, s.seen⟩
theorem TrySt.setSeen {n : Nat} {w h : Int} {g : Nat} {near : List Nat} {free : Nat} {H : AH} {seen : Nat} {mate : List Int} (s : TrySt n w h g near free H seen mate) {seen' : Nat} (hs : seen' < 65536) :
    TrySt n w h g near free (H.set (n + 3) (.cells 1 [.int .u64 (.ofNat seen')] 41)) seen' mate := by
  obtain ⟨e1, h1⟩ := s.ma
  obtain ⟨e2, h2⟩ := s.tr
  have hk : ∀ i, i ≠ n + 3 → (H.set (n + 3) (.cells 1 [.int .u64 (.ofNat seen')] 41)).get i = H.get i := fun i hi => by rw [AH.get_set, if_neg hi]
  exact ⟨by unfold PlAt; rw [hk n (by omega)]; exact s.pl, by rw [hk _ (by omega)]; exact s.fr, ⟨e1, by rw [hk _ (by omega)]; exact h1⟩, by rw [AH.get_set, if_pos rfl],
    ⟨e2, by rw [hk _ (by omega)]; exact h2⟩, by rw [AH.next_set]; exact s.next, s.len, s.mates, hs⟩
theorem TrySt.setMate {n : Nat} {w h : Int} {g : Nat} {near : List Nat} {free : Nat} {H : AH} {seen : Nat} {mate : List Int} (s : TrySt n w h g near free H seen mate) {d c : Nat} (hc : c < 16) {e : TypeId} :
    TrySt n w h g near free (H.set (n + 2) (.cells 16 (mateC (mate.set d (.ofNat c))) e)) seen (mate.set d (.ofNat c)) := by
  obtain ⟨e2, h2⟩ := s.tr
  have hk : ∀ i, i ≠ n + 2 → (H.set (n + 2) (.cells 16 (mateC (mate.set d (.ofNat c))) e)).get i = H.get i := fun i hi => by rw [AH.get_set, if_neg hi]
  refine ⟨by unfold PlAt; rw [hk n (by omega)]; exact s.pl, by rw [hk _ (by omega)]; exact s.fr, ⟨e, by rw [AH.get_set, if_pos rfl]⟩, by rw [hk _ (by omega)]; exact s.se,
    ⟨e2, by rw [hk _ (by omega)]; exact h2⟩, by rw [AH.next_set]; exact s.next, by rw [List.length_set]; exact s.len, fun x hx => ?_, s.seen⟩
  rcases List.mem_or_eq_of_mem_set hx with h3 | h3
  · exact s.mates x h3
  · exact .inr ⟨c, hc, h3⟩

/-- what a way may change -/
structure Kept2 (n : Nat) (H H' : AH) : Prop where
  next : H.next ≤ H'.next
  same : ∀ i, i < H.next → i ≠ n + 2 → i ≠ n + 3 → H'.get i = H.get i
theorem Kept2.refl (n : Nat) (H : AH) : Kept2 n H H := ⟨Nat.le_refl _, fun _ _ _ _ => rfl⟩
theorem Kept2.trans {n : Nat} {A B C : AH} (h : Kept2 n A B) (k : Kept2 n B C) : Kept2 n A C :=
  ⟨Nat.le_trans h.next k.next, fun i hi h2 h3 => by rw [k.same i (by have := h.next; omega) h2 h3, h.same i hi h2 h3]⟩
theorem Kept2.grown {n : Nat} {A B : AH} (h : Grown A B) : Kept2 n A B := ⟨h.next, fun i hi _ _ => h.same i hi⟩
theorem Kept2.set2 (n : Nat) (H : AH) (o : AObj) : Kept2 n H (H.set (n + 2) o) := ⟨Nat.le_refl _, fun i _ h2 _ => by rw [AH.get_set, if_neg h2]⟩
theorem Kept2.set3 (n : Nat) (H : AH) (o : AObj) : Kept2 n H (H.set (n + 3) o) := ⟨Nat.le_refl _, fun i _ _ h3 => by rw [AH.get_set, if_neg h3]⟩
theorem Kept2.tabs {n : Nat} {A B : AH} (h : Kept2 n A B) (hn : 2 ≤ n) (t : Tabs A) : Tabs B := by
  obtain ⟨h1, ⟨e, h2⟩, e', h3⟩ := t
  exact ⟨Nat.le_trans h1 h.next, ⟨e, by rw [h.same 0 (by omega) (by omega) (by omega)]; exact h2⟩, e', by rw [h.same 1 (by omega) (by omega) (by omega)]; exact h3⟩
theorem Kept2.own {n b : Nat} {A B : AH} (h : Kept2 n A B) (hb : n + 5 ≤ b) {e : TypeId} {v : Value} {xs : List Value} (o : OwnRow b e A v xs) : OwnRow b e B v xs := by
  rcases o with o | ⟨j, h1, h2, h3, h4, h5⟩
  · exact .inl o
  · exact .inr ⟨j, h1, Nat.lt_of_lt_of_le h2 h.next, h3, by rw [h.same j h2 (by omega) (by omega)]; exact h4, h5⟩

end
end Go.Proofs.YtnnfpbdimgagdaaGreatDoor
