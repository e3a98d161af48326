/- The evaluator's regions and code are the model's.
   Conditions: none. -/
import Derived.Test.YtmkimcdmnaknlaaGreatDoorEvW
namespace Go.Ev

theorem countP_less {p q : Nat → Bool} {i : Nat} : ∀ {l : List Nat}, (∀ x ∈ l, q x = true → p x = true) → i ∈ l → p i = true → q i = false → l.countP q + 1 ≤ l.countP p
  | [], _, h, _, _ => by cases h
  | x :: l, hh, h, hp, hq => by
    have hle : l.countP q ≤ l.countP p := List.countP_mono_left fun y hy => hh y (List.mem_cons_of_mem _ hy)
    rw [List.countP_cons, List.countP_cons]
    cases h with
    | head => rw [hp, hq]; simp; omega
    | tail _ hm =>
      have ih := countP_less (fun y hy => hh y (List.mem_cons_of_mem _ hy)) hm hp hq
      cases hqx : q x with
      | true => rw [hh x (List.mem_cons_self ..) hqx]; simp; omega
      | false => cases p x <;> simp <;> omega

section
variable {P : Program} {base lo nt : Nat} {ops : List Oper} {bs : List Nat} {Es : Nat → Env} {Hs : Nat → AH} {vs : Nat → Value} {on : Nat → Bool} {los : Nat → Nat} {ρ₀ : Map} {w₀ : World}

def Listed (l : Array Bool) (i : Nat) : Prop := l.getD i false = true

theorem draw_any (D : DC P base lo nt ops bs Es Hs vs on los) (hH : HRel P base (dom ρ₀) ρ₀ (Hs 0) w₀) {Q : Exit → Act → World → Prop}
    (hQ : ∀ ρ a w, TRel nt ρ (Es ops.length) a → Step P base (fun i => lo ≤ i) (dom ρ₀) ρ₀ (Hs 0) w₀ ρ (Hs ops.length) w → Q .normal a w) :
    ∀ (fuel : Nat) (listed : Array Bool) (ρ : Map) (a : Act) (w : World), listed.size = ops.length → (List.range ops.length).countP (fun i => !listed.getD i false) ≤ fuel →
      Inv P base lo nt ops Es Hs on los ρ₀ w₀ (Listed listed) ρ a w → wpAny P .any ops.toArray Q fuel listed a w := by
  have empty : ∀ (listed : Array Bool) (ρ : Map) (a : Act) (w : World), listed.size = ops.length → Inv P base lo nt ops Es Hs on los ρ₀ w₀ (Listed listed) ρ a w →
      Region.ready .any ops.toArray listed = [] → Q .normal a w := by
    intro listed ρ a w hsz I hr
    have all : ∀ j, j < ops.length → Listed listed j := by
      intro j
      induction j using Nat.strongRecOn with
      | _ j ih =>
        intro hj
        apply Classical.byContradiction
        intro hn
        have ho : ops[j]? = some ops[j] := List.getElem?_eq_getElem hj
        have hm : j ∈ Region.ready .any ops.toArray listed := by
          rw [mem_ready]
          refine ⟨?_, ops[j], by simp, fun e he hb => ?_⟩
          · have hlt : j < listed.size := by omega
            unfold Listed at hn
            simp only [Array.getD_eq_getD_getElem?, Array.getElem?_eq_getElem hlt, Option.getD_some] at hn ⊢
            simpa using hn
          · have hlt := D.plan.back j _ ho e he hb
            exact ih e.on hlt (by omega)
        rw [hr] at hm; cases hm
    obtain ⟨h1, h2⟩ := I.done D hH all
    exact hQ ρ a w h1 h2
  intro fuel
  induction fuel with
  | zero =>
    intro listed ρ a w hsz hc I
    have hnil : Region.ready .any ops.toArray listed = [] := by
      cases hr : Region.ready .any ops.toArray listed with
      | nil => rfl
      | cons j l =>
        exfalso
        have hm : j ∈ Region.ready .any ops.toArray listed := by rw [hr]; exact List.mem_cons_self ..
        obtain ⟨h1, o, ho, _⟩ := mem_ready.1 hm
        have hj : j < ops.length := by
          have := (Array.getElem?_eq_some_iff.1 ho).1
          simpa using this
        have : (List.range ops.length).countP (fun i => !listed.getD i false) ≠ 0 := by
          rw [Ne, List.countP_eq_zero]
          intro h
          have := h j (List.mem_range.2 hj)
          have hlt : j < listed.size := by omega
          simp only [Array.getD_eq_getD_getElem?, Array.getElem?_eq_getElem hlt, Option.getD_some] at h1 this
          rw [h1] at this; simp at this
        omega
    exact ⟨hnil, empty listed ρ a w hsz I hnil⟩
  | succ fuel ih =>
    intro listed ρ a w hsz hc I
    refine ⟨empty listed ρ a w hsz I, fun i hi => ?_⟩
    obtain ⟨h1, o, ho, h2⟩ := mem_ready.1 hi
    have hil : i < ops.length := by
      have := (Array.getElem?_eq_some_iff.1 ho).1
      simpa using this
    have hlt : i < listed.size := by omega
    have hni : listed.getD i false = false := by
      simp only [Array.getD_eq_getD_getElem?, Array.getElem?_eq_getElem hlt, Option.getD_some] at h1 ⊢
      exact h1
    refine I.step D hH (by simpa using ho) (by unfold Listed; rw [hni]; simp) h2 fun ρ' a' w' I' => ?_
    have hset : ∀ j, (listed.setIfInBounds i true).getD j false = (listed.getD j false || decide (j = i)) := by
      intro j
      by_cases hji : i = j
      · subst hji; simp [hlt]
      · rw [getD_set_ne false hji]
        have : ¬ j = i := fun e => hji e.symm
        simp [this]
    refine ih _ ρ' a' w' (by simpa using hsz) ?_ ?_
    · have := countP_less (p := fun i => !listed.getD i false) (q := fun j => !(listed.setIfInBounds i true).getD j false) (i := i) (l := List.range ops.length)
        (fun x _ hx => by rw [hset] at hx; simp at hx ⊢; exact hx.1) (List.mem_range.2 hil) (by simp only [hni]; rfl) (by rw [hset]; simp)
      omega
    · have e : Listed (listed.setIfInBounds i true) = fun j => Listed listed j ∨ j = i := by
        funext j
        apply propext
        unfold Listed
        rw [hset]; simp
      rw [e]; exact I'

theorem seq_pure {los : Nat → Nat} (hlos : ∀ i o, ops[i]? = some o → lo ≤ los i)
    (hf : ∀ i o, ops[i]? = some o → Facts P base (los i) nt ops o (Es i) (Hs i) (vs i) (Es (i + 1)) (Hs (i + 1)) (on i))
    (hH : HRel P base (dom ρ₀) ρ₀ (Hs 0) w₀) {a : Act} (hT : TRel nt ρ₀ (Es 0) a) : ∀ i o, ops[i]? = some o → Pure P (los i) o (Es i) (Hs i) (Hs (i + 1)) (on i) := by
  have h := seq_wp (P := P) (base := base) (Q := fun _ _ _ => ∀ i o, ops[i]? = some o → Pure P (los i) o (Es i) (Hs i) (Hs (i + 1)) (on i)) hlos hf (fun i l hl => (hH.dom i l hl).1)
    (fun _ _ _ _ _ h => h) ops.length 0 ρ₀ a w₀ (by omega) hT (Step.refl hH) (fun j o hj => absurd hj (by omega))
  obtain ⟨_, _, _, hq, _⟩ := wp_ops _ a w₀ h default [] []
  exact hq
end

section
variable {P : Program} {base : Nat}

theorem lookE_isSome {E : Env} {d : Option Tmp} {v : Value} {t : Tmp} (h : (lookE E t).isSome = true) : (lookE (putE E d v) t).isSome = true := by
  by_cases e : d = some t
  · subst e; rw [lookE_put_eq]; rfl
  · rw [lookE_put_ne e]; exact h

/-- a region -/
theorem region_wp {call : CallF} (hcall : CallOk P base call) (hm : P.follows .mixedOrders = true) {lo nt : Nat} (hlo : base ≤ lo) {β : Type} {ops : List Oper} {draw : Bool} {E : Env} {H : AH} {k : Env → AH → Option β} {r : β}
    (h : evRegion P call lo nt ops draw E H k = some r) :
    ∃ E' H', k E' H' = some r ∧ (∀ t, (lookE E t).isSome = true → (lookE E' t).isSome = true) ∧
      ∀ (ρ : Map) (a : Act) (w : World) (id : Nat) (Q : Exit → Act → World → Prop), HRel P base (dom ρ) ρ H w → TRel nt ρ E a →
        (∀ ρ' a' w', TRel nt ρ' E' a' → Step P base (fun i => lo ≤ i) (dom ρ) ρ H w ρ' H' w' → Q .normal a' w') → (Code.region id ops.toArray draw).wp P Q a w := by
  have grow : ∀ (Es : Nat → Env) (vs : Nat → Value), (∀ i o, ops[i]? = some o → Es (i + 1) = putE (Es i) o.dst (vs i)) → ∀ m, m ≤ ops.length → ∀ t, (lookE (Es 0) t).isSome = true → (lookE (Es m) t).isSome = true := by
    intro Es vs he m
    induction m with
    | zero => intro _ t h; exact h
    | succ m ih =>
      intro hm t ht
      rw [he m _ (List.getElem?_eq_getElem (by omega))]
      exact lookE_isSome (ih (by omega) t ht)
  unfold evRegion at h
  cases draw with
  | false =>
    simp only at h
    obtain ⟨Es, Hs, vs, on, h1, h2, h3, h4⟩ := evOps_trace hcall hlo h
    refine ⟨_, _, h4, ?_, fun ρ a w id Q hH hT hQ => ?_⟩
    · rw [← h1]; exact grow Es vs (fun i o ho => (h3 i o ho).env) _ (Nat.le_refl _)
    · subst h1 h2
      apply wp_region
      rw [List.range_eq_range']
      have := seq_wp (P := P) (base := base) (Q := Q) (los := fun _ => lo) (lo := lo) (fun _ _ _ => Nat.le_refl _) h3 (fun i l hl => (hH.dom i l hl).1)
        (fun ρ' a' w' ht hs _ => hQ ρ' a' w' ht hs) ops.length 0 ρ a w (by omega) hT (Step.refl hH) (fun j o hj => absurd hj (by omega))
      simpa using this
  | true =>
    simp only at h
    obtain ⟨hok, hA⟩ := cond_none_eq h
    obtain ⟨Es, Hs, vs, on, h1, h2, h3, h4⟩ := evOpsD_trace hcall hlo hA
    have hplan := planOk (ops := ops) (bs := befores ops []) hok
    have hrows : ∀ i o, ops[i]? = some o → (planOf ops (befores ops [])).rows[i]? = some (rowAt ops (befores ops []) i) := by
      intro i o ho
      have e : (planOf ops (befores ops [])).rows = (List.range ops.length).map (rowAt ops (befores ops [])) := rfl
      have hi := (List.getElem?_eq_some_iff.1 ho).1
      rw [e]; simp [hi]
    refine ⟨_, _, h4, ?_, fun ρ a w id Q hH hT hQ => ?_⟩
    · rw [← h1]
      refine grow Es vs (fun i o ho => ?_) _ (Nat.le_refl _)
      obtain ⟨row, _, _, _, hf⟩ := h3 i o ho
      exact hf.env
    · subst h1 h2
      have h5 : ∀ i o, ops[i]? = some o → lo ≤ (cond (rowAt ops (befores ops []) i).quiet (Hs i).next lo) ∧
          (∃ a b, idsAll P (Es i) (rowAt ops (befores ops []) i).apart = some a ∧ idsAll P (Es i) (rowAt ops (befores ops []) i).own = some b ∧ disjoint a b = true) ∧
          Facts P base (cond (rowAt ops (befores ops []) i).quiet (Hs i).next lo) nt ops o (Es i) (Hs i) (vs i) (Es (i + 1)) (Hs (i + 1)) (on i) := by
        intro i o ho
        obtain ⟨row, h6, h7⟩ := h3 i o ho
        rw [hrows i o ho] at h6; cases h6
        exact h7
      have hpure := seq_pure (los := fun i => cond (rowAt ops (befores ops []) i).quiet (Hs i).next lo) (lo := lo) (fun i o ho => (h5 i o ho).1) (fun i o ho => (h5 i o ho).2.2) hH hT
      have D : DC P base lo nt ops (befores ops []) Es Hs vs on (fun i => cond (rowAt ops (befores ops []) i).quiet (Hs i).next lo) :=
        ⟨hplan, rfl, fun i o ho => (h5 i o ho).1, fun i o ho => (h5 i o ho).2.2, hpure, fun i o _ hq => by simp only [hq, cond_true], fun i o ho => (h5 i o ho).2.1⟩
      apply wp_region_any hm
      refine draw_any D hH hQ _ _ ρ a _ (by simp) ?_ ?_
      · refine Nat.le_trans List.countP_le_length (by simp)
      · have e : Listed (Array.replicate ops.toArray.size false) = fun _ => False := by
          funext j
          apply propext
          unfold Listed
          simp only [Array.getD_eq_getD_getElem?, Array.getElem?_replicate, iff_false]
          split <;> simp
        rw [e]
        exact Inv.init D hH hT rfl ⟨rfl, rfl⟩
end
end Go.Ev
