/- Sets of small numbers as evBits: their members in ascending order, the smallest one; the tables of package math/bits.
   Conditions: none. -/
import Derived.Test.YtmkimcdmnaknlaaGreatDoorEvBa
namespace Go.Ev
noncomputable section

/-- the members of a set, in ascending order -/
def evBitsF (f : Nat) : Nat → Nat → List Nat :=
  Nat.rec (motive := fun _ => Nat → Nat → List Nat) (fun _ _ => [])
    (fun _ ih s p => cond (Nat.beq s (nat_lit 0)) [] (cond (Nat.beq (Nat.mod s (nat_lit 2)) (nat_lit 1)) (p :: ih (Nat.div s (nat_lit 2)) (Nat.succ p)) (ih (Nat.div s (nat_lit 2)) (Nat.succ p)))) f
def evBits (s : Nat) : List Nat := evBitsF 64 s 0

theorem ev_bitsF_succ (f s p : Nat) : evBitsF (f + 1) s p = if s = 0 then [] else if s % 2 = 1 then p :: evBitsF f (s / 2) (p + 1) else evBitsF f (s / 2) (p + 1) := by
  show cond (Nat.beq s 0) [] (cond (Nat.beq (s % 2) 1) (p :: evBitsF f (s / 2) (p + 1)) (evBitsF f (s / 2) (p + 1))) = _
  by_cases h : s = 0
  · rw [beqt h, if_pos h]; rfl
  · rw [beqf h, if_neg h]
    by_cases h2 : s % 2 = 1
    · rw [beqt h2, if_pos h2]; rfl
    · rw [beqf h2, if_neg h2]; rfl
theorem ev_bitsF_zero (f p : Nat) : evBitsF f 0 p = [] := by
  cases f with
  | zero => rfl
  | succ f => rw [ev_bitsF_succ, if_pos rfl]

/-- the smallest member -/
def low : Nat → Nat → Nat
  | 0, _ => 0
  | f + 1, s => if s % 2 = 1 then 0 else low f (s / 2) + 1

theorem even_testBit0 {x : Nat} (h : x % 2 = 0) : x.testBit 0 = false := by simp [Nat.testBit_zero, h]
theorem and_even_left (x y : Nat) (h : x % 2 = 0) : (x &&& y) % 2 = 0 := by
  have : (x &&& y).testBit 0 = false := by rw [Nat.testBit_and, even_testBit0 h]; rfl
  rw [Nat.testBit_zero] at this
  have := of_decide_eq_false this
  omega
theorem and_pred_even (m : Nat) : (2 * m) &&& (2 * m - 1) = 2 * (m &&& (m - 1)) := by
  have h1 : ((2 * m) &&& (2 * m - 1)) / 2 = m &&& (m - 1) := by
    rw [Nat.and_div_two]
    congr 1 <;> omega
  have h2 : ((2 * m) &&& (2 * m - 1)) % 2 = 0 := by
    exact and_even_left _ _ (by omega)
  omega


theorem ev_bitsF_even (f m p : Nat) : evBitsF (f + 1) (2 * m) p = evBitsF f m (p + 1) := by
  rw [ev_bitsF_succ]
  by_cases h : m = 0
  · subst h; rw [if_pos rfl, ev_bitsF_zero]
  · rw [if_neg (by omega), if_neg (by omega), show 2 * m / 2 = m by omega]

theorem ev_bitsF_low : ∀ (f s p : Nat), s ≠ 0 → s < 2 ^ f → evBitsF f s p = (p + low f s) :: evBitsF f (s &&& (s - 1)) p
  | 0, s, p, h, h2 => by simp at h2; omega
  | f + 1, s, p, h, h2 => by
    have h3 : s / 2 < 2 ^ f := by rw [Nat.pow_succ] at h2; omega
    by_cases ho : s % 2 = 1
    · have e : s &&& (s - 1) = 2 * (s / 2) := by
        have h4 : (s &&& (s - 1)) / 2 = s / 2 := by
          rw [Nat.and_div_two, show (s - 1) / 2 = s / 2 by omega, Nat.and_self]
        have h5 : (s &&& (s - 1)) % 2 = 0 := by rw [Nat.and_comm]; exact and_even_left _ _ (by omega)
        omega
      rw [e, ev_bitsF_even, ev_bitsF_succ, if_neg h, if_pos ho]
      show _ = (p + (if s % 2 = 1 then 0 else low f (s / 2) + 1)) :: _
      rw [if_pos ho]; rfl
    · have hs : s = 2 * (s / 2) := by omega
      have hm : s / 2 ≠ 0 := by omega
      have e : s &&& (s - 1) = 2 * (s / 2 &&& (s / 2 - 1)) := by
        have := and_pred_even (s / 2)
        rwa [← hs] at this
      rw [e, ev_bitsF_even, ev_bitsF_succ, if_neg h, if_neg ho, ev_bitsF_low f (s / 2) (p + 1) hm h3]
      show _ = (p + (if s % 2 = 1 then 0 else low f (s / 2) + 1)) :: _
      rw [if_neg ho]
      congr 1
      omega

theorem low_lt : ∀ (f s : Nat), s ≠ 0 → s < 2 ^ f → low f s < f
  | 0, s, h, h2 => by simp at h2; omega
  | f + 1, s, h, h2 => by
    show (if s % 2 = 1 then 0 else low f (s / 2) + 1) < f + 1
    split
    · omega
    · have := low_lt f (s / 2) (by omega) (by rw [Nat.pow_succ] at h2; omega)
      omega

theorem and_compl {n m : Nat} (h : m < 2 ^ n) : m &&& (2 ^ n - (m + 1)) = 0 := by
  apply Nat.eq_of_testBit_eq
  intro i
  rw [Nat.testBit_and, Nat.testBit_two_pow_sub_succ h]
  cases m.testBit i <;> simp

theorem and_neg : ∀ (f s : Nat), s ≠ 0 → s < 2 ^ f → s &&& (2 ^ f - s) = 2 ^ low f s
  | 0, s, h, h2 => by simp at h2; omega
  | f + 1, s, h, h2 => by
    have h3 : s / 2 < 2 ^ f := by rw [Nat.pow_succ] at h2; omega
    have hp : 2 ^ (f + 1) = 2 * 2 ^ f := by rw [Nat.pow_succ]; omega
    show _ = 2 ^ (if s % 2 = 1 then 0 else low f (s / 2) + 1)
    by_cases ho : s % 2 = 1
    · rw [if_pos ho]
      have h4 : (s &&& (2 ^ (f + 1) - s)) / 2 = 0 := by
        rw [Nat.and_div_two, show (2 ^ (f + 1) - s) / 2 = 2 ^ f - (s / 2 + 1) by omega, and_compl h3]
      have h5 : (s &&& (2 ^ (f + 1) - s)) % 2 = 1 := by
        have : (s &&& (2 ^ (f + 1) - s)).testBit 0 = true := by
          rw [Nat.testBit_and]
          have h6 : (2 ^ (f + 1) - s) % 2 = 1 := by omega
          simp [Nat.testBit_zero, ho, h6]
        simpa [Nat.testBit_zero] using this
      omega
    · rw [if_neg ho]
      have h4 : (s &&& (2 ^ (f + 1) - s)) / 2 = 2 ^ low f (s / 2) := by
        rw [Nat.and_div_two, show (2 ^ (f + 1) - s) / 2 = 2 ^ f - s / 2 by omega]
        exact and_neg f (s / 2) (by omega) h3
      have h5 : (s &&& (2 ^ (f + 1) - s)) % 2 = 0 := and_even_left _ _ (by omega)
      have h7 : 2 ^ (low f (s / 2) + 1) = 2 * 2 ^ low f (s / 2) := by rw [Nat.pow_succ]; omega
      rw [h7]
      omega

theorem and_pred_lt {s : Nat} (h : s ≠ 0) : s &&& (s - 1) < s := Nat.lt_of_le_of_lt Nat.and_le_right (by omega)

theorem ev_bits_low {s : Nat} (h : s ≠ 0) (h2 : s < 2 ^ 64) : evBits s = low 64 s :: evBits (s &&& (s - 1)) := by
  have := ev_bitsF_low 64 s 0 h h2
  rwa [Nat.zero_add] at this
theorem ev_bits_zero : evBits 0 = [] := ev_bitsF_zero 64 0

theorem ev_bitsF_length : ∀ (f s p : Nat), (evBitsF f s p).length ≤ f
  | 0, _, _ => Nat.le_refl _
  | f + 1, s, p => by
    rw [ev_bitsF_succ]
    split
    · simp
    · have := ev_bitsF_length f (s / 2) (p + 1)
      split
      · simp; omega
      · omega
theorem ev_bits_length (s : Nat) : (evBits s).length ≤ 64 := ev_bitsF_length 64 s 0

theorem ev_mem_bitsF : ∀ (f s p q : Nat), s < 2 ^ f → (q ∈ evBitsF f s p ↔ p ≤ q ∧ s.testBit (q - p) = true)
  | 0, s, p, q, h => by
    have : s = 0 := by simp at h; exact h
    subst this
    show q ∈ ([] : List Nat) ↔ _
    simp
  | f + 1, s, p, q, h => by
    have h3 : s / 2 < 2 ^ f := by rw [Nat.pow_succ] at h; omega
    have ih := ev_mem_bitsF f (s / 2) (p + 1) q h3
    rw [ev_bitsF_succ]
    have key : ∀ (hq : p + 1 ≤ q), s.testBit (q - p) = (s / 2).testBit (q - (p + 1)) := by
      intro hq
      rw [show q - p = (q - (p + 1)) + 1 by omega, Nat.testBit_succ]
    by_cases h0 : s = 0
    · subst h0; simp
    · rw [if_neg h0]
      by_cases ho : s % 2 = 1
      · rw [if_pos ho, List.mem_cons, ih]
        constructor
        · rintro (rfl | ⟨h1, h2⟩)
          · exact ⟨Nat.le_refl _, by simp [Nat.testBit_zero, ho]⟩
          · exact ⟨by omega, by rw [key h1]; exact h2⟩
        · rintro ⟨h1, h2⟩
          by_cases hq : q = p
          · exact .inl hq
          · exact .inr ⟨by omega, by rw [← key (by omega)]; exact h2⟩
      · rw [if_neg ho, ih]
        constructor
        · rintro ⟨h1, h2⟩
          exact ⟨by omega, by rw [key h1]; exact h2⟩
        · rintro ⟨h1, h2⟩
          have hq : q ≠ p := by
            rintro rfl
            simp [Nat.testBit_zero] at h2
            omega
          exact ⟨by omega, by rw [← key (by omega)]; exact h2⟩
theorem ev_mem_bits {s q : Nat} (h : s < 2 ^ 64) : q ∈ evBits s ↔ s.testBit q = true := by
  have := ev_mem_bitsF 64 s 0 q h
  simpa [evBits] using this

/-! The tables. -/
def tab32 : List Int := [0, 1, 28, 2, 29, 14, 24, 3, 30, 22, 20, 15, 25, 17, 4, 8, 31, 27, 13, 23, 21, 19, 16, 7, 26, 12, 18, 6, 11, 5, 10, 9]
def tab64 : List Int := [0, 1, 56, 2, 57, 49, 28, 3, 61, 58, 42, 50, 38, 29, 17, 4, 62, 47, 59, 36, 45, 43, 51, 22, 53, 39, 33, 30, 24, 18, 12, 5, 63, 55, 48, 27, 60, 41, 37, 16, 46, 35, 44, 21, 52, 32, 23, 11, 54, 26, 40, 15, 34, 20, 31, 10, 25, 14, 19, 9, 13, 8, 7, 6]

/-- the tables lie where they should -/
def Tabs (H : AH) : Prop := 2 ≤ H.next ∧ (∃ e, H.get 0 = some (.cells 32 (tab32.map fun z => .int .u8 z) e)) ∧ ∃ e, H.get 1 = some (.cells 64 (tab64.map fun z => .int .u8 z) e)
theorem Tabs.grown {H H' : AH} (h : Tabs H) (g : Grown H H') : Tabs H' := by
  obtain ⟨h1, ⟨e, h2⟩, e', h3⟩ := h
  exact ⟨Nat.le_trans h1 g.next, ⟨e, g.get (by omega) h2⟩, e', g.get (by omega) h3⟩

/-- a test that the tables lie where they should -/
def tabsB (H : AH) : Bool := Nat.ble 2 H.next && (hasTabs .u8 tab32 tab64 H).isSome
theorem tabsB_eq {H : AH} (h : tabsB H = true) : Tabs H := by
  unfold tabsB at h
  rw [Bool.and_eq_true] at h
  obtain ⟨⟨e, e'⟩, h1⟩ := Option.isSome_iff_exists.1 h.2
  obtain ⟨g0, g1⟩ := hasTabs_eq h1
  exact ⟨le_of_ble' h.1, ⟨e, g0⟩, e', g1⟩
theorem intsAre_self (k : IntKind) : ∀ (zs : List Int), intsAre k (zs.map fun z => .int k z) zs = true
  | [] => rfl
  | z :: zs => by
    show cond (kindEq k k && intEq z z) (intsAre k (zs.map fun z => .int k z) zs) false = true
    rw [intsAre_self k zs, intEq_eq]
    have : kindEq k k = true := by cases k <;> rfl
    simp [this]
theorem Tabs.test {H : AH} (h : Tabs H) : tabsB H = true := by
  obtain ⟨h1, ⟨e, h2⟩, e', h3⟩ := h
  have : hasTabs .u8 tab32 tab64 H = some (e, e') := by
    unfold hasTabs withCells
    rw [h2]
    simp only [h3]
    rw [intsAre_self, intsAre_self]; rfl
  unfold tabsB
  rw [this, Nat.ble_eq_true_of_le h1]; rfl

theorem tab64_at : ∀ k : Fin 64, tab64[(2 ^ k.val * 285870213051353865 % 18446744073709551616) / 2 ^ 58]? = some (Int.ofNat k.val) := by decide +kernel
end
end Go.Ev
