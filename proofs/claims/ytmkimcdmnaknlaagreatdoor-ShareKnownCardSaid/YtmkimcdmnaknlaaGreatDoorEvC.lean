/- Steps of the abstract heap beside a world's: what is made, written, moved; one behind the other.
   Conditions: none. -/
import Derived.Test.YtmkimcdmnaknlaaGreatDoorEvB
namespace Go.Ev

def dom (ρ : Map) (i : Nat) : Prop := (ρ i).isSome = true
theorem dom_some {ρ : Map} {i : Nat} {l : Loc} (h : ρ i = some l) : dom ρ i := by simp [dom, h]

variable {P : Program} {base : Nat} {W K : Nat → Prop} {ρ ρ' : Map} {H H' : AH} {w w' : World}

theorem HRel.weaken {K' : Nat → Prop} (h : HRel P base K ρ H w) (hk : ∀ i, K' i → K i) : HRel P base K' ρ H w :=
  ⟨fun i o hi => h.fit i o (hk i hi), fun i j oi oj li lj hi hj => h.inj i j oi oj li lj (hk i hi) (hk j hj), h.dom, h.glob⟩

theorem HRel.world (h : HRel P base K ρ H w) (e : w'.heap = w.heap) : HRel P base K ρ H w' :=
  ⟨fun i o hi ho => let ⟨l, a, b, c⟩ := h.fit i o hi ho; ⟨l, a, b.same (by rw [e]), fun hb => by simpa only [thawed, e] using c hb⟩,
   h.inj, fun i l hl => by rw [e]; exact h.dom i l hl, h.glob⟩

theorem Step.refl (h : HRel P base K ρ H w) : Step P base W K ρ H w ρ H w where
  agree _ _ := rfl
  next := Nat.le_refl _
  rel := h.weaken fun i hi => hi.elim id fun ⟨a, b⟩ => by
    obtain ⟨l, hl⟩ := Option.isSome_iff_exists.1 b
    exact absurd (h.dom i l hl).1 (by omega)
  size := Nat.le_refl _
  alive _ _ hi := hi
  keep _ _ _ := rfl
  frame _ _ _ := rfl
  newb i l hi hl := absurd (h.dom i l hl).1 (by omega)
  full i h1 h2 := absurd h1 (by omega)
  env := ⟨rfl, rfl⟩
  melt _ _ h := h

theorem Step.wider {W' : Nat → Prop} (h : Step P base W K ρ H w ρ' H' w') (hw : ∀ i, W i → W' i) : Step P base W' K ρ H w ρ' H' w' where
  agree := h.agree
  next := h.next
  rel := h.rel
  size := h.size
  alive := h.alive
  keep i hi hn := h.keep i hi fun x => hn (hw i x)
  frame b hb hh := h.frame b hb fun i l hi => hh i l (hw i hi)
  newb i l h1 h2 := (h.newb i l h1 h2).imp id fun ⟨j, lj, a, b, c, d⟩ => ⟨j, lj, hw j a, b, c, d⟩
  full := h.full
  env := h.env
  melt := h.melt

theorem Step.trans {W' : Nat → Prop} {ρ₁ ρ₂ : Map} {H₁ H₂ : AH} {w₁ w₂ : World} (h : Step P base W K ρ H w ρ₁ H₁ w₁)
    (h' : Step P base W' (fun i => K i ∨ (H.next ≤ i ∧ (ρ₁ i).isSome = true)) ρ₁ H₁ w₁ ρ₂ H₂ w₂) (hW : ∀ i, i < H.next → W' i → W i) :
    Step P base W K ρ H w ρ₂ H₂ w₂ where
  agree i hi := by rw [h'.agree i (by have := h.next; omega), h.agree i hi]
  next := Nat.le_trans h.next h'.next
  rel := h'.rel.weaken fun i hi => by
    rcases hi with hi | ⟨hi, hs⟩
    · exact .inl (.inl hi)
    · by_cases hlt : i < H₁.next
      · exact .inl (.inr ⟨hi, by rw [← h'.agree i hlt]; exact hs⟩)
      · exact .inr ⟨by omega, hs⟩
  size := Nat.le_trans h.size h'.size
  alive i hi ha := h.alive i hi (h'.alive i (by have := h.next; omega) ha)
  keep i hi hn := by rw [h'.keep i (by have := h.next; omega) fun x => hn (hW i hi x), h.keep i hi hn]
  frame b hb hh := by
    rw [h'.frame b (by have := h.size; omega) ?_, h.frame b hb hh]
    intro i l hi ha hl
    by_cases hlt : i < H.next
    · exact hh i l (hW i hlt hi) (h.alive i hlt ha) (by rw [← h.agree i hlt]; exact hl)
    · rcases h.newb i l (by omega) hl with hs | ⟨j, lj, a, b', c, d⟩
      · omega
      · rw [← d]; exact hh j lj a b' c
  newb i l hi hl := by
    by_cases hlt : i < H₁.next
    · exact h.newb i l hi (by rw [← h'.agree i hlt]; exact hl)
    · rcases h'.newb i l (by omega) hl with hs | ⟨j, lj, a, b', c, d⟩
      · left; have := h.size; omega
      · by_cases hj : j < H.next
        · exact .inr ⟨j, lj, hW j hj a, h.alive j hj b', by rw [← h.agree j hj]; exact c, d⟩
        · rw [← d]; exact h.newb j lj (by omega) c
  full i h1 h2 := by
    by_cases hlt : i < H₁.next
    · obtain ⟨l, hl⟩ := h.full i h1 hlt
      exact ⟨l, by rw [h'.agree i hlt]; exact hl⟩
    · exact h'.full i (by omega) h2
  env := ⟨h'.env.1.trans h.env.1, h'.env.2.trans h.env.2⟩
  melt b hl hb := h'.melt b (Nat.lt_of_lt_of_le hl h.size) (h.melt b hl hb)

/-- where the whole domain is known -/
theorem Step.relDom (h : Step P base W (dom ρ) ρ H w ρ' H' w') : HRel P base (dom ρ') ρ' H' w' :=
  h.rel.weaken fun i hi => by
    by_cases hlt : i < H.next
    · exact .inl (by unfold dom at *; rw [← h.agree i hlt]; exact hi)
    · exact .inr ⟨by omega, hi⟩

def upd (ρ : Map) (i : Nat) (l : Loc) : Map := fun j => if j = i then some l else ρ j
theorem upd_same (ρ : Map) (i : Nat) (l : Loc) : upd ρ i l i = some l := by simp [upd]
theorem upd_ne {ρ : Map} {i j : Nat} (l : Loc) (h : j ≠ i) : upd ρ i l j = ρ j := by simp [upd, h]
theorem upd_ext (h : HRel P base K ρ H w) (l : Loc) : Ext ρ (upd ρ H.next l) := fun i m hi => by
  have := (h.dom i m hi).1
  rw [upd_ne l (by omega)]; exact hi

theorem heap_push_lt {w w' : World} {o : Obj} (e : w'.heap = w.heap.push o) {b : Nat} (hb : b < w.heap.size) : w'.heap[b]? = w.heap[b]? := by
  rw [e, Array.getElem?_push, if_neg (by omega)]
theorem heap_push_eq {w w' : World} {o : Obj} (e : w'.heap = w.heap.push o) : w'.heap[w.heap.size]? = some o := by
  rw [e, Array.getElem?_push, if_pos rfl]

/-- a block is made -/
theorem Step.alloc (h : HRel P base K ρ H w) {ob : Obj} (e : w'.heap = w.heap.push ob) (l : Loc) (hl : l.blk = w.heap.size) (o : AObj)
    (hfit : OFit P (upd ρ H.next l) o l w') (hth : thawed w' l.blk) (henv : SameEnv w w') : Step P base W K ρ H w (upd ρ H.next l) (H.push o) w' := by
  have hsz : w'.heap.size = w.heap.size + 1 := by rw [e, Array.size_push]
  refine { agree := fun i hi => upd_ne l (by omega), next := by simp, rel := ⟨?_, ?_, ?_, ?_⟩, size := by omega, alive := ?_, keep := ?_, frame := fun b hb _ => heap_push_lt e hb, newb := ?_, full := ?_, env := henv, melt := ?_ }
  · intro i o' hk ho
    rw [AH.get_push] at ho
    by_cases hi : i = H.next
    · subst hi
      rw [if_pos rfl] at ho; cases ho
      exact ⟨l, upd_same _ _ _, hfit, fun _ => hth⟩
    · rw [if_neg hi] at ho
      have hk' : K i := by
        rcases hk with hk | ⟨h1, h2⟩
        · exact hk
        · rw [upd_ne l hi] at h2
          obtain ⟨m, hm⟩ := Option.isSome_iff_exists.1 h2
          exact absurd (h.dom i m hm).1 (by omega)
      obtain ⟨m, hm, hf, ht⟩ := h.fit i o' hk' ho
      have hlt := (h.dom i m hm).2
      exact ⟨m, by rw [upd_ne l hi]; exact hm, (hf.same (heap_push_lt e hlt)).mono (upd_ext h l), fun hb => by
        have := ht hb
        simpa only [thawed, heap_push_lt e hlt] using this⟩
  · intro i j oi oj li lj hki hkj hoi hoj hli hlj hbb
    rw [AH.get_push] at hoi hoj
    have aux : ∀ {i : Nat} {oi : AObj} {li : Loc}, i ≠ H.next → (K i ∨ (H.next ≤ i ∧ ((upd ρ H.next l) i).isSome = true)) → upd ρ H.next l i = some li → K i ∧ ρ i = some li ∧ li.blk < w.heap.size := by
      intro i _ li hi hk hli
      rw [upd_ne l hi] at hli
      have hd := h.dom i li hli
      refine ⟨?_, hli, hd.2⟩
      rcases hk with hk | ⟨h1, _⟩
      · exact hk
      · exact absurd hd.1 (by omega)
    by_cases hi : i = H.next
    · by_cases hj : j = H.next
      · rw [hi, hj]
      · obtain ⟨_, _, hb⟩ := aux (oi := oj) hj hkj hlj
        rw [hi, upd_same] at hli; cases hli
        omega
    · by_cases hj : j = H.next
      · obtain ⟨_, _, hb⟩ := aux (oi := oi) hi hki hli
        rw [hj, upd_same] at hlj; cases hlj
        omega
      · rw [if_neg hi] at hoi; rw [if_neg hj] at hoj
        obtain ⟨k1, r1, _⟩ := aux (oi := oi) hi hki hli
        obtain ⟨k2, r2, _⟩ := aux (oi := oj) hj hkj hlj
        exact h.inj i j oi oj li lj k1 k2 hoi hoj r1 r2 hbb
  · intro i m hm
    by_cases hi : i = H.next
    · rw [hi, upd_same] at hm; cases hm
      exact ⟨by simp [hi], by omega⟩
    · rw [upd_ne l hi] at hm
      have := h.dom i m hm
      exact ⟨by simp; omega, by omega⟩
  · intro g hg
    obtain ⟨m, hm, h1, h2⟩ := h.glob g hg
    exact ⟨m, upd_ext h l g m hm, h1, h2⟩
  · intro i hi ha
    rw [AH.get_push, if_neg (by omega)] at ha; exact ha
  · intro i hi _
    rw [AH.get_push, if_neg (by omega)]
  · intro i m hi hm
    by_cases hi' : i = H.next
    · rw [hi', upd_same] at hm; cases hm; left; omega
    · rw [upd_ne l hi'] at hm
      exact absurd (h.dom i m hm).1 (by omega)
  · intro i h1 h2
    have : i = H.next := by simp at h2; omega
    exact ⟨l, by rw [this, upd_same]⟩
  · intro b _ hb c e' fz hc
    rcases Nat.lt_trichotomy b w.heap.size with h1 | h1 | h1
    · rw [heap_push_lt e h1] at hc; exact hb c e' fz hc
    · rw [h1, ← hl] at hc; exact hth c e' fz hc
    · rw [Array.getElem?_eq_none (by omega)] at hc; cases hc

/-- a block is written -/
theorem Step.write (h : HRel P base K ρ H w) {i : Nat} {o o' : AObj} {l : Loc} (hk : K i) (ho : H.get i = some o) (hl : ρ i = some l) (hW : W i)
    (hs : w'.heap.size = w.heap.size) (he : ∀ b, b ≠ l.blk → w'.heap[b]? = w.heap[b]?) (hfit : OFit P ρ o' l w') (hth : thawed w' l.blk) (henv : SameEnv w w') :
    Step P base W K ρ H w ρ (H.set i o') w' := by
  have old : ∀ j, (K j ∨ (H.next ≤ j ∧ (ρ j).isSome = true)) → K j := fun j hj => hj.elim id fun ⟨a, b⟩ => by
    obtain ⟨m, hm⟩ := Option.isSome_iff_exists.1 b
    exact absurd (h.dom j m hm).1 (by omega)
  have get : ∀ j x, (H.set i o').get j = some x → ∃ y, H.get j = some y := fun j x hx => by
    rw [AH.get_set] at hx
    by_cases hj : j = i
    · exact ⟨o, by rw [hj]; exact ho⟩
    · rw [if_neg hj] at hx; exact ⟨x, hx⟩
  refine { agree := fun _ _ => rfl, next := Nat.le_refl _, rel := ⟨?_, ?_, ?_, h.glob⟩, size := by omega, alive := ?_, keep := ?_, frame := ?_, newb := ?_, full := fun _ _ _ => by simp at *; omega, env := henv, melt := ?_ }
  · intro j x hj hx
    have kj := old j hj
    by_cases hji : j = i
    · subst hji
      rw [AH.get_set, if_pos rfl] at hx; cases hx
      exact ⟨l, hl, hfit, fun _ => hth⟩
    · rw [AH.get_set, if_neg hji] at hx
      obtain ⟨m, hm, hf, ht⟩ := h.fit j x kj hx
      have hne : m.blk ≠ l.blk := fun e => hji (h.inj j i x o m l kj hk hx ho hm hl e)
      exact ⟨m, hm, hf.same (he _ hne), fun hb => by simpa only [thawed, he _ hne] using ht hb⟩
  · intro j k oj ok lj lk hj hk' hoj hok hlj hlk hb
    obtain ⟨y, hy⟩ := get j oj hoj
    obtain ⟨z, hz⟩ := get k ok hok
    exact h.inj j k y z lj lk (old j hj) (old k hk') hy hz hlj hlk hb
  · intro j m hm
    have := h.dom j m hm
    exact ⟨this.1, by omega⟩
  · intro j _ ha
    cases hx : (H.set i o').get j with
    | none => exact absurd hx ha
    | some x => obtain ⟨y, hy⟩ := get j x hx; rw [hy]; simp
  · intro j _ hn
    rw [AH.get_set, if_neg]
    intro e; subst e; exact hn hW
  · intro b hb hh
    exact he b fun e => hh i l hW (by rw [ho]; simp) hl e.symm
  · intro j m hj hm
    exact absurd (h.dom j m hm).1 (by omega)
  · intro b _ hb c e' fz hc
    by_cases h1 : b = l.blk
    · rw [h1] at hc; exact hth c e' fz hc
    · rw [he b h1] at hc; exact hb c e' fz hc

/-- a block is let go -/
theorem Step.kill (h : HRel P base K ρ H w) {i : Nat} (hW : W i) : Step P base W K ρ H w ρ (H.kill i) w := by
  have old : ∀ j, (K j ∨ (H.next ≤ j ∧ (ρ j).isSome = true)) → K j := fun j hj => hj.elim id fun ⟨a, b⟩ => by
    obtain ⟨m, hm⟩ := Option.isSome_iff_exists.1 b
    exact absurd (h.dom j m hm).1 (by omega)
  have get : ∀ j x, (H.kill i).get j = some x → H.get j = some x := fun j x hx => by
    rw [AH.get_kill] at hx
    by_cases hj : j = i
    · rw [if_pos hj] at hx; cases hx
    · rw [if_neg hj] at hx; exact hx
  refine { agree := fun _ _ => rfl, next := Nat.le_refl _, rel := ⟨?_, ?_, h.dom, h.glob⟩, size := Nat.le_refl _, alive := ?_, keep := ?_, frame := fun _ _ _ => rfl, newb := ?_, full := fun _ _ _ => by simp at *; omega, env := ⟨rfl, rfl⟩, melt := fun _ _ h => h }
  · intro j x hj hx
    exact h.fit j x (old j hj) (get j x hx)
  · intro j k oj ok lj lk hj hk' hoj hok hlj hlk hb
    exact h.inj j k oj ok lj lk (old j hj) (old k hk') (get _ _ hoj) (get _ _ hok) hlj hlk hb
  · intro j _ ha hn
    cases hx : (H.kill i).get j with
    | none => exact ha hx
    | some x => rw [get j x hx] at hn; cases hn
  · intro j _ hn
    rw [AH.get_kill, if_neg]
    intro e; subst e; exact hn hW
  · intro j m hj hm
    exact absurd (h.dom j m hm).1 (by omega)

/-- a block that is let go, and its memory taken for a new one -/
theorem Step.take (h : HRel P base K ρ H w) {i : Nat} {o o' : AObj} {l l' : Loc} (hk : K i) (ho : H.get i = some o) (hl : ρ i = some l) (hW : W i) (hb' : l'.blk = l.blk)
    (hs : w'.heap.size = w.heap.size) (he : ∀ b, b ≠ l.blk → w'.heap[b]? = w.heap[b]?) (hfit : OFit P (upd ρ H.next l') o' l' w') (hth : thawed w' l.blk) (henv : SameEnv w w') :
    Step P base W K ρ H w (upd ρ H.next l') ((H.kill i).push o') w' := by
  have hin := h.dom i l hl
  have old : ∀ j, j ≠ H.next → (K j ∨ (H.next ≤ j ∧ ((upd ρ H.next l') j).isSome = true)) → K j := fun j hne hj => hj.elim id fun ⟨a, b⟩ => by
    rw [upd_ne l' hne] at b
    obtain ⟨m, hm⟩ := Option.isSome_iff_exists.1 b
    exact absurd (h.dom j m hm).1 (by omega)
  have get : ∀ j x, j ≠ H.next → ((H.kill i).push o').get j = some x → j ≠ i ∧ H.get j = some x := fun j x hne hx => by
    rw [AH.get_push, AH.next_kill, if_neg hne, AH.get_kill] at hx
    by_cases hj : j = i
    · rw [if_pos hj] at hx; cases hx
    · rw [if_neg hj] at hx; exact ⟨hj, hx⟩
  refine { agree := fun i hi => upd_ne l' (by omega), next := by simp, rel := ⟨?_, ?_, ?_, ?_⟩, size := by omega, alive := ?_, keep := ?_, frame := ?_, newb := ?_, full := ?_, env := henv, melt := ?_ }
  · intro j x hj hx
    by_cases hn : j = H.next
    · subst hn
      rw [AH.get_push, AH.next_kill, if_pos rfl] at hx; cases hx
      exact ⟨l', upd_same _ _ _, hfit, fun _ => by rw [hb']; exact hth⟩
    · obtain ⟨hji, hx⟩ := get j x hn hx
      have kj := old j hn hj
      obtain ⟨m, hm, hf, ht⟩ := h.fit j x kj hx
      have hne : m.blk ≠ l.blk := fun e => hji (h.inj j i x o m l kj hk hx ho hm hl e)
      exact ⟨m, by rw [upd_ne l' hn]; exact hm, (hf.same (he _ hne)).mono (upd_ext h l'), fun hb => by simpa only [thawed, he _ hne] using ht hb⟩
  · intro j k oj ok lj lk hj hk' hoj hok hlj hlk hbb
    by_cases hjn : j = H.next
    · by_cases hkn : k = H.next
      · rw [hjn, hkn]
      · obtain ⟨hki, hok⟩ := get k ok hkn hok
        rw [hjn, upd_same] at hlj; cases hlj
        rw [upd_ne l' hkn] at hlk
        exact absurd (h.inj k i ok o lk l (old k hkn hk') hk hok ho hlk hl (by rw [← hbb]; exact hb')) hki
    · obtain ⟨hji, hoj⟩ := get j oj hjn hoj
      rw [upd_ne l' hjn] at hlj
      by_cases hkn : k = H.next
      · rw [hkn, upd_same] at hlk; cases hlk
        exact absurd (h.inj j i oj o lj l (old j hjn hj) hk hoj ho hlj hl (by rw [hbb]; exact hb')) hji
      · obtain ⟨hki, hok⟩ := get k ok hkn hok
        rw [upd_ne l' hkn] at hlk
        exact h.inj j k oj ok lj lk (old j hjn hj) (old k hkn hk') hoj hok hlj hlk hbb
  · intro j m hm
    by_cases hn : j = H.next
    · rw [hn, upd_same] at hm; cases hm
      exact ⟨by simp [hn], by omega⟩
    · rw [upd_ne l' hn] at hm
      have := h.dom j m hm
      exact ⟨by simp; omega, by omega⟩
  · intro g hg
    obtain ⟨m, hm, h1, h2⟩ := h.glob g hg
    exact ⟨m, upd_ext h l' g m hm, h1, h2⟩
  · intro j hj ha hn
    cases hx : ((H.kill i).push o').get j with
    | none => exact ha hx
    | some x => rw [(get j x (by omega) hx).2] at hn; cases hn
  · intro j hj hn
    rw [AH.get_push, AH.next_kill, if_neg (by omega), AH.get_kill, if_neg]
    intro e; subst e; exact hn hW
  · intro b hb hh
    exact he b fun e => hh i l hW (by rw [ho]; simp) hl e.symm
  · intro j m hj hm
    by_cases hn : j = H.next
    · rw [hn, upd_same] at hm; cases hm
      exact .inr ⟨i, l, hW, by rw [ho]; simp, hl, hb'.symm⟩
    · rw [upd_ne l' hn] at hm
      exact absurd (h.dom j m hm).1 (by omega)
  · intro j h1 h2
    have : j = H.next := by simp at h2; omega
    exact ⟨l', by rw [this, upd_same]⟩
  · intro b _ hb c e' fz hc
    by_cases h1 : b = l.blk
    · rw [h1] at hc; exact hth c e' fz hc
    · rw [he b h1] at hc; exact hb c e' fz hc

end Go.Ev
