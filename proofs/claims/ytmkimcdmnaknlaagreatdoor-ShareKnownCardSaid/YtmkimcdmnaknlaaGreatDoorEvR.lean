/- A region whose order is drawn: the invariant, kept by each operation.
   Conditions: none. -/
import Derived.Test.YtmkimcdmnaknlaaGreatDoorEvQ
namespace Go.Ev

def Cut (wr : Nat → Nat → Prop) (S : Nat → Prop) (i x : Nat) : Prop := ∀ k, wr k x → (S k ↔ k < i)
def CutT (ops : List Oper) (S : Nat → Prop) (i : Nat) (t : Tmp) : Prop := ∀ k o, ops[k]? = some o → o.dst = some t → (S k ↔ k < i)

/-- what is so when the operations of 'S' are done -/
structure Inv (P : Program) (base lo nt : Nat) (ops : List Oper) (Es : Nat → Env) (Hs : Nat → AH) (on : Nat → Bool) (los : Nat → Nat) (ρ₀ : Map) (w₀ : World) (S : Nat → Prop)
    (ρ : Map) (a : Act) (w : World) : Prop where
  lt : ∀ i, S i → i < ops.length
  closed : ∀ i o, S i → ops[i]? = some o → ∀ e ∈ o.after, Region.binds .any e = true → S e.on
  old : ∀ x, x < (Hs 0).next → ρ x = ρ₀ x
  domS : ∀ x l, ρ x = some l → l.blk < w.heap.size ∧ (x < (Hs 0).next ∨ ∃ i, S i ∧ (Hs i).next ≤ x ∧ x < (Hs (i + 1)).next)
  full : ∀ i x, S i → (Hs i).next ≤ x → x < (Hs (i + 1)).next → ∃ l, ρ x = some l
  hand : ∀ i o, S i → ops[i]? = some o → isWr (classOf o.op) = true → ∀ y ∈ handles o.op, ∀ v, evx P (Es i) y = some v → ∀ x ∈ idsOf v, dom ρ x
  tsize : nt ≤ a.tmps.size
  tdefs : a.defers = []
  val : ∀ t i v, i ≤ ops.length → CutT ops S i t → lookE (Es i) t = some v → VRel (res ρ (Hs i).next) v (a.eval (.tmp t))
  cont : ∀ x i l o, i ≤ ops.length → Cut (Wr P ops los Es Hs on) S i x → ρ x = some l → (Hs i).get x = some o → OFit P (res ρ (Hs i).next) o l w ∧ (base ≤ x → thawed w l.blk)
  inj : ∀ x y i j lx ly, i ≤ ops.length → j ≤ ops.length → Cut (Wr P ops los Es Hs on) S i x → Cut (Wr P ops los Es Hs on) S j y → ρ x = some lx → ρ y = some ly →
    (Hs i).get x ≠ none → (Hs j).get y ≠ none → lx.blk = ly.blk → x = y
  size : w₀.heap.size ≤ w.heap.size
  frame : ∀ b, b < w₀.heap.size → (∀ i l, lo ≤ i → (Hs 0).get i ≠ none → ρ₀ i = some l → l.blk ≠ b) → w.heap[b]? = w₀.heap[b]?
  newb : ∀ i l, (Hs 0).next ≤ i → ρ i = some l → w₀.heap.size ≤ l.blk ∨ ∃ j lj, lo ≤ j ∧ (Hs 0).get j ≠ none ∧ ρ₀ j = some lj ∧ lj.blk = l.blk
  env : SameEnv w₀ w
  melt : ∀ b, b < w₀.heap.size → thawed w₀ b → thawed w b

section
variable {P : Program} {base lo nt : Nat} {ops : List Oper} {bs : List Nat} {Es : Nat → Env} {Hs : Nat → AH} {vs : Nat → Value} {on : Nat → Bool} {los : Nat → Nat} {ρ₀ : Map} {w₀ : World}

theorem DC.alive (D : DC P base lo nt ops bs Es Hs vs on los) {i x : Nat} (hi : i ≤ ops.length) (hx : x < (Hs 0).next) (h : (Hs i).get x ≠ none) : (Hs 0).get x ≠ none := by
  induction i with
  | zero => exact h
  | succ i ih =>
    have ho : ops[i]? = some ops[i] := List.getElem?_eq_getElem (by omega)
    exact ih (by omega) ((D.pure i _ ho).alive x (Nat.lt_of_lt_of_le hx (D.next_mono (Nat.zero_le _) (by omega))) h)

theorem Inv.init (D : DC P base lo nt ops bs Es Hs vs on los) (hH : HRel P base (dom ρ₀) ρ₀ (Hs 0) w₀) {a : Act} (hT : TRel nt ρ₀ (Es 0) a) {w : World} (hw : w.heap = w₀.heap) (henv : SameEnv w₀ w) :
    Inv P base lo nt ops Es Hs on los ρ₀ w₀ (fun _ => False) ρ₀ a w where
  lt i h := h.elim
  closed i o h := h.elim
  old x _ := rfl
  domS x l h := ⟨by rw [hw]; exact (hH.dom x l h).2, .inl (hH.dom x l h).1⟩
  full i x h := h.elim
  hand i o h := h.elim
  tsize := hT.size
  tdefs := hT.defs
  val t i v hi hc hv := by
    rw [D.env_keep (Nat.zero_le i) hi fun k o _ hk ho hd => ((hc k o ho hd).2 hk)] at hv
    exact (hT.val t v hv).mono fun x l hx => res_some.2 ⟨Nat.lt_of_lt_of_le (hH.dom x l hx).1 (D.next_mono (Nat.zero_le _) hi), hx⟩
  cont x i l o hi hc hx ho := by
    have hlt := (hH.dom x l hx).1
    rw [D.keep_range (Nat.zero_le i) hi hlt fun k _ hk hw => (hc k hw).2 hk] at ho
    obtain ⟨l', h1, h2, h3⟩ := hH.fit x o (dom_some hx) ho
    rw [hx] at h1; cases h1
    refine ⟨(h2.mono fun y ly hy => res_some.2 ⟨Nat.lt_of_lt_of_le (hH.dom y ly hy).1 (D.next_mono (Nat.zero_le _) hi), hy⟩).same (by rw [hw]), fun hb => ?_⟩
    have := h3 hb
    unfold thawed at *
    rw [hw]; exact this
  inj x y i j lx ly hi hj hcx hcy hx hy ha hb he := by
    rw [D.keep_range (Nat.zero_le i) hi (hH.dom x lx hx).1 fun k _ hk hw => (hcx k hw).2 hk] at ha
    rw [D.keep_range (Nat.zero_le j) hj (hH.dom y ly hy).1 fun k _ hk hw => (hcy k hw).2 hk] at hb
    obtain ⟨ox, hox⟩ := Option.ne_none_iff_exists'.1 ha
    obtain ⟨oy, hoy⟩ := Option.ne_none_iff_exists'.1 hb
    exact hH.inj x y ox oy lx ly (dom_some hx) (dom_some hy) hox hoy hx hy he
  size := by rw [hw]; exact Nat.le_refl _
  frame b _ _ := by rw [hw]
  newb i l h1 h2 := absurd (hH.dom i l h2).1 (by omega)
  env := henv
  melt b _ hb := by unfold thawed at *; rw [hw]; exact hb

theorem Inv.done (D : DC P base lo nt ops bs Es Hs vs on los) (hH : HRel P base (dom ρ₀) ρ₀ (Hs 0) w₀) {S : Nat → Prop} {ρ : Map} {a : Act} {w : World}
    (I : Inv P base lo nt ops Es Hs on los ρ₀ w₀ S ρ a w) (hS : ∀ i, i < ops.length → S i) :
    TRel nt ρ (Es ops.length) a ∧ Step P base (fun i => lo ≤ i) (dom ρ₀) ρ₀ (Hs 0) w₀ ρ (Hs ops.length) w := by
  have cut : ∀ x, Cut (Wr P ops los Es Hs on) S ops.length x := fun x k hk => by
    obtain ⟨_, o, ho, _⟩ := hk
    have := (List.getElem?_eq_some_iff.1 ho).1
    exact ⟨fun _ => this, fun h => hS k h⟩
  have hext : Ext ρ₀ ρ := fun x l hx => by rw [I.old x (hH.dom x l hx).1]; exact hx
  have hmono := D.next_mono (Nat.zero_le ops.length) (Nat.le_refl _)
  have hdom : ∀ x l, ρ x = some l → x < (Hs ops.length).next := fun x l hx => by
    rcases (I.domS x l hx).2 with h | ⟨i, h1, _, h3⟩
    · omega
    · exact Nat.lt_of_lt_of_le h3 (D.next_mono (I.lt i h1) (Nat.le_refl _))
  have hK : ∀ x, (dom ρ₀ x ∨ ((Hs 0).next ≤ x ∧ (ρ x).isSome = true)) → ∃ l, ρ x = some l := by
    rintro x (h | ⟨_, h⟩)
    · obtain ⟨l, hl⟩ := Option.isSome_iff_exists.1 h
      exact ⟨l, hext x l hl⟩
    · exact Option.isSome_iff_exists.1 h
  refine ⟨⟨I.tsize, I.tdefs, fun t v hv => ?_⟩, ?_⟩
  · exact (I.val t ops.length v (Nat.le_refl _) (fun k o ho _ => ⟨fun h => I.lt k h, fun h => hS k h⟩) hv).mono (res_sub _ _)
  · refine ⟨fun i hi => I.old i hi, hmono, ⟨?_, ?_, fun i l hl => ⟨hdom i l hl, (I.domS i l hl).1⟩, ?_⟩, I.size, fun i hi ha => D.alive (Nat.le_refl _) hi ha, ?_, I.frame, I.newb, ?_, I.env, I.melt⟩
    · intro i o hk ho
      obtain ⟨l, hl⟩ := hK i hk
      obtain ⟨h1, h2⟩ := I.cont i ops.length l o (Nat.le_refl _) (cut i) hl ho
      exact ⟨l, hl, h1.mono (res_sub _ _), h2⟩
    · intro i j oi oj li lj hi hj hoi hoj hli hlj he
      exact I.inj i j ops.length ops.length li lj (Nat.le_refl _) (Nat.le_refl _) (cut i) (cut j) hli hlj (by rw [hoi]; simp) (by rw [hoj]; simp) he
    · intro g hg
      obtain ⟨l, h1, h2⟩ := hH.glob g hg
      exact ⟨l, hext g l h1, h2⟩
    · intro i hi hn
      refine D.keep_range (Nat.zero_le _) (Nat.le_refl _) hi fun k _ hk hw => ?_
      obtain ⟨_, o, ho, ⟨_, h⟩ | ⟨h, _⟩⟩ := hw
      · exact hn (Nat.le_trans (D.loLe k o ho) h.1)
      · have := D.next_mono (Nat.zero_le k) (Nat.le_of_lt hk); omega
    · intro i h1 h2
      have key : ∀ m, m ≤ ops.length → i < (Hs m).next → ∃ k, k < m ∧ (Hs k).next ≤ i ∧ i < (Hs (k + 1)).next := by
        intro m
        induction m with
        | zero => intro _ h; omega
        | succ m ih =>
          intro hm h
          rcases Nat.lt_or_ge i (Hs m).next with h3 | h3
          · obtain ⟨k, h4, h5⟩ := ih (by omega) h3
            exact ⟨k, by omega, h5⟩
          · exact ⟨m, by omega, h3, h⟩
      obtain ⟨k, h3, h4, h5⟩ := key ops.length (Nat.le_refl _) h2
      exact I.full k i (hS k h3) h4 h5

theorem tmpsApart_spec {o p : Oper} (h : tmpsApart ops o p = true) :
    (∀ d, o.dst = some d → d ∉ reads ops p ∧ p.dst ≠ some d) ∧ (∀ d, p.dst = some d → d ∉ reads ops o) := by
  unfold tmpsApart at h
  rw [Bool.and_eq_true] at h
  refine ⟨fun d hd => ?_, fun d hd => ?_⟩
  · have := h.1
    rw [hd] at this
    simp only [Bool.and_eq_true, Bool.not_eq_true'] at this
    refine ⟨fun hm => ?_, fun he => ?_⟩
    · rw [List.contains_iff_mem.2 hm] at this; cases this.1
    · rw [he] at this; simp at this
  · have := h.2
    rw [hd] at this
    simp only [Bool.not_eq_true'] at this
    intro hm
    rw [List.contains_iff_mem.2 hm] at this; cases this

theorem reads_op {o : Oper} {t : Tmp} (h : Operand.tmp t ∈ o.op.operands) : t ∈ reads ops o :=
  List.mem_append_left _ (List.mem_filterMap.2 ⟨.tmp t, by simpa using h, rfl⟩)
theorem reads_guard {o p : Oper} {g : Nat × Bool} {d : Tmp} (hg : o.guard = some g) (hp : ops[g.1]? = some p) (hd : p.dst = some d) : d ∈ reads ops o := by
  unfold reads
  refine List.mem_append_right _ ?_
  rw [hg]
  simp only [nth_eq, hp, hd]
  simp

theorem VRel.ids {ρ : Map} {v v' : Value} (h : VRel ρ v v') : ∀ x ∈ idsOf v, dom ρ x := by
  intro i hi
  cases h with
  | flat h => unfold Ev.flat at h; split at h <;> first | (simp [idsOf] at hi; done) | cases h
  | ptr h => simp [idsOf] at hi; subst hi; exact dom_some h
  | slice h => simp [idsOf] at hi; subst hi; exact dom_some h
  | sliceE h => simp [idsOf] at hi; subst hi; exact dom_some h
  | map h => simp [idsOf] at hi; subst hi; exact dom_some h
  | _ => simp [idsOf] at hi
end
end Go.Ev
