/- What the evaluator does to memory is what the model does: loads, stores, addresses, what is built.
   Conditions: none. -/
import Derived.Test.YtmkimcdmnaknlaaGreatDoorEvD
import Derived.Laws.Tables
namespace Go.Ev

theorem withPtr_eq {β : Type} {v : Value} {k : Nat → Nat → Option β} {r : β} (h : withPtr v k = some r) : ∃ i off, v = .pointer (some ⟨i, off, none⟩) ∧ k i off = some r := by
  unfold withPtr at h
  split at h
  · exact ⟨_, _, rfl, h⟩
  · cases h
theorem withCells_eq {β : Type} {H : AH} {i : Nat} {k : Nat → List Value → TypeId → Option β} {r : β} (h : withCells H i k = some r) :
    ∃ s cs e, H.get i = some (.cells s cs e) ∧ k s cs e = some r := by
  unfold withCells at h
  split at h
  · rename_i hg; exact ⟨_, _, _, hg, h⟩
  · cases h
theorem withMap_eq {β : Type} {H : AH} {i : Nat} {k : List MapEntry → Nat → Option β} {r : β} (h : withMap H i k = some r) :
    ∃ es c, H.get i = some (.map es c) ∧ k es c = some r := by
  unfold withMap at h
  split at h
  · rename_i hg; exact ⟨_, _, hg, h⟩
  · cases h

theorem VRel.ptr_eq {ρ : Map} {i off : Nat} {v' : Value} (h : VRel ρ (.pointer (some ⟨i, off, none⟩)) v') :
    ∃ l, ρ i = some l ∧ v' = .pointer (some ⟨l.blk, l.sh + off, none⟩) := by
  cases h with
  | flat h => simp [Ev.flat] at h
  | ptr h => exact ⟨_, h, rfl⟩

section
variable {P : Program} {base : Nat} {W K : Nat → Prop} {ρ : Map} {H : AH} {w : World}

theorem cell_of {w : World} {b o : Nat} {c : Array Value} {e : TypeId} {fz : Nat × Nat} (h : w.heap[b]? = some (.cells c e fz)) : w.cell? ⟨b, o, none⟩ = c[o]? := by
  simp [World.cell?, h]

/-- the cells from a place on -/
theorem run_loadSeg (hH : HRel P base K ρ H w) {i : Nat} (hk : K i) {s : Nat} {cs : List Value} {e : TypeId} (hg : H.get i = some (.cells s cs e)) {l : Loc} (hl : ρ i = some l)
    (off n : Nat) (hn : off + n ≤ s) : ∃ vs : List Value, (∀ w' : World, w'.heap = w.heap → (loadCells ⟨l.blk, l.sh + off, none⟩ n).run P w' = .ok vs.toArray w') ∧ LRel ρ (seg cs off n) vs := by
  obtain ⟨l', hl', hf, _⟩ := hH.fit i _ hk hg
  rw [hl] at hl'; cases hl'
  obtain ⟨h1, h3, c, fz, h4, h5, h6⟩ := hf
  let vs := (c.toList.drop (l.sh + off)).take n
  have hlen : vs.length = n := by simp [vs]; omega
  refine ⟨vs, ?_, ?_⟩
  · intro w' hw'
    rw [← hlen]
    apply run_loadCells_list
    intro j v hj
    rw [Addr.add_lit, cell_of (by rw [hw']; exact h4)]
    simp only [vs, List.getElem?_take, List.getElem?_drop] at hj
    split at hj
    · rw [← hj, ← Array.getElem?_toList]
    · cases hj
  · apply LRel.of_get
    · rw [length_seg _ _ _ (by omega), hlen]
    · intro j v hj
      rw [get_seg] at hj
      split at hj
      · rename_i hjn
        obtain ⟨v', a, b⟩ := h6 _ _ hj
        refine ⟨v', ?_, b⟩
        simp only [vs, List.getElem?_take, if_pos hjn, List.getElem?_drop]
        rw [Array.getElem?_toList, Nat.add_assoc]; exact a
      · cases hj

theorem evLoad_run {t : TypeId} {i : TyI} (ht : tyI P t = some i) {v u v' : Value} (h : evLoad H i.agg i.size v = some u) (hv : VRel ρ v v') (hH : HRel P base K ρ H w)
    (hK : ∀ j ∈ idsOf v, K j) : ∃ u', (Instr.loadAt t v').run P w = .ok u' w ∧ VRel ρ u u' := by
  obtain ⟨j, off, rfl, h⟩ := withPtr_eq h
  obtain ⟨s, cs, e, hg, h⟩ := withCells_eq h
  obtain ⟨l, hl, rfl⟩ := hv.ptr_eq
  have hk : K j := hK j (by simp [idsOf])
  unfold cellAt at h
  cases hag : i.agg with
  | true =>
    rw [hag] at h
    obtain ⟨hb, h⟩ := need_eq h
    cases h
    obtain ⟨vs, h1, h2⟩ := run_loadSeg hH hk hg hl off i.size (le_of_ble' hb)
    have h1 := h1 w rfl
    refine ⟨.agg vs.toArray, ?_, .agg h2⟩
    simp [Instr.loadAt, Instr.sureAddr, loadVar, run_isAgg ht, hag, run_sizeOf ht, h1]
  | false =>
    rw [hag] at h
    simp only [cond_false] at h
    rw [nth_eq] at h
    obtain ⟨l', hl', hf, _⟩ := hH.fit j _ hk hg
    rw [hl] at hl'; cases hl'
    obtain ⟨h1, h3, c, fz, h4, h5, h6⟩ := hf
    obtain ⟨u', a, b⟩ := h6 _ _ h
    refine ⟨u', ?_, b⟩
    simp [Instr.loadAt, Instr.sureAddr, loadVar, run_isAgg ht, hag, cell_of h4, a]

/-- cells that are stored from a place on -/
theorem run_storeSeg (hH : HRel P base K ρ H w) {i : Nat} (hk : K i) (hW : W i) (hb : base ≤ i) {s : Nat} {cs : List Value} {e : TypeId} (hg : H.get i = some (.cells s cs e)) {l : Loc} (hl : ρ i = some l)
    (off : Nat) {vs vs' : List Value} (hn : off + vs.length ≤ s) (hr : LRel ρ vs vs') (h1 : ∀ v ∈ vs', v.oneCell' = true) :
    ∃ w', (storeCells ⟨l.blk, l.sh + off, none⟩ vs').run P w = .ok () w' ∧ Step P base W K ρ H w ρ (H.set i (.cells s (over cs off vs) e)) w' := by
  obtain ⟨l', hl', hf, ht⟩ := hH.fit i _ hk hg
  rw [hl] at hl'; cases hl'
  obtain ⟨h2, h4, c, fz, h5, h6, h7⟩ := hf
  have hfz := ht hb _ _ _ h5
  have hlen := hr.length
  have hrun := run_storeCells_atF P l.blk (l.sh + off) e fz vs' 0 c w h5 (by omega) (by omega) h1
  refine ⟨_, hrun, ?_⟩
  refine Step.write hH hk hg hl hW (setRow_size ..) (fun b hne => setRow_other w l.blk b _ hne) ?_ ?_ ⟨rfl, rfl⟩
  · refine ⟨by rw [length_over _ _ _ (by omega), h2], h4, _, fz, setRow_heap w l.blk c _ e fz h5, ?_, ?_⟩
    · simp; omega
    · intro j v hj
      rw [get_over _ _ _ _ (by omega)] at hj
      have key : ∀ m : Nat, (c.toList.take (l.sh + off + 0) ++ vs' ++ c.toList.drop (l.sh + off + 0 + vs'.length))[m]? =
          if m < l.sh + off then c[m]? else if m < l.sh + off + vs'.length then vs'[m - (l.sh + off)]? else c[m]? := by
        intro m
        have e1 : (c.toList.take (l.sh + off + 0)).length = l.sh + off := by simp; omega
        rw [List.append_assoc]
        by_cases a1 : m < l.sh + off
        · rw [if_pos a1, List.getElem?_append_left (by omega), List.getElem?_take, if_pos (by omega), Array.getElem?_toList]
        · rw [if_neg a1, List.getElem?_append_right (by omega), e1]
          by_cases a2 : m < l.sh + off + vs'.length
          · rw [if_pos a2, List.getElem?_append_left (by omega)]
          · rw [if_neg a2, List.getElem?_append_right (by omega), List.getElem?_drop, Array.getElem?_toList]
            congr 1; omega
      rw [List.getElem?_toArray, key]
      by_cases a1 : j < off
      · rw [if_pos a1] at hj
        rw [if_pos (by omega)]
        exact h7 _ _ hj
      · rw [if_neg a1] at hj
        rw [if_neg (by omega)]
        by_cases a2 : j < off + vs.length
        · rw [if_pos a2] at hj
          rw [if_pos (by omega)]
          have := hr.get _ _ hj
          rwa [show l.sh + j - (l.sh + off) = j - off from by omega]
        · rw [if_neg a2] at hj
          rw [if_neg (by omega)]
          exact h7 _ _ hj
  · intro c' e' fz' hc'
    rw [setRow_heap w l.blk c _ e fz h5] at hc'
    cases hc'
    exact hfz

theorem cellsOf_eq' (v : Value) : cellsOf v = v.cells.toList := by cases v <;> rfl

/-- a block of cells is made: what the abstract heap tells of it is its head -/
theorem Step.newCells (hH : HRel P base K ρ H w) (e : TypeId) (cs : List Value) (c : Array Value) (hc : ∀ (i : Nat) (v : Value), cs[i]? = some v → ∃ v', c[i]? = some v' ∧ VRel ρ v v')
    {w' : World} (hw : w'.heap = w.heap.push (.cells c e)) (henv : SameEnv w w') :
    Step P base W K ρ H w (upd ρ H.next ⟨w.heap.size, 0, c.size⟩) (H.push (.cells cs.length cs e)) w' := by
  have hlen : cs.length ≤ c.size := by
    rcases Nat.lt_or_ge c.size cs.length with h | h
    · have h1 : cs[c.size]? = some cs[c.size] := List.getElem?_eq_getElem h
      obtain ⟨v', h2, _⟩ := hc _ _ h1
      rw [Array.getElem?_eq_none (Nat.le_refl _)] at h2
      cases h2
    · exact h
  refine Step.alloc hH hw ⟨w.heap.size, 0, c.size⟩ rfl _ ⟨rfl, by simpa using hlen, c, (0, 0), heap_push_eq hw, rfl, ?_⟩ ?_ henv
  · intro i v hi
    obtain ⟨v', a, b⟩ := hc i v hi
    exact ⟨v', by simpa using a, b.mono (upd_ext hH _)⟩
  · intro c' e' fz h
    rw [heap_push_eq hw] at h
    cases h
    rfl

theorem LRel.cells {cs : List Value} {c : Array Value} (h : LRel ρ cs c.toList) : ∀ (i : Nat) (v : Value), cs[i]? = some v → ∃ v', c[i]? = some v' ∧ VRel ρ v v' := fun i v hi => by
  obtain ⟨v', a, b⟩ := h.get i v hi
  exact ⟨v', by rw [← Array.getElem?_toList]; exact a, b⟩

theorem newPtr_rel (H : AH) (l : Loc) (h : l.sh = 0) : VRel (upd ρ H.next l) (newPtr H) (.pointer (some ⟨l.blk, 0, none⟩)) := by
  have := VRel.ptr (ρ := upd ρ H.next l) (i := H.next) (off := 0) (l := l) (upd_same ..)
  rwa [h] at this
theorem newSlice_rel (H : AH) (l : Loc) (h : l.sh = 0) (len cap c : Nat) (h1 : cap < UNK → c = cap) (h2 : UNK ≤ cap → len ≤ c ∧ c * (cap - UNK) ≤ l.size) :
    VRel (upd ρ H.next l) (newSlice H len cap) (.slice (some ⟨l.blk, 0, none⟩) len c) := by
  have := VRel.slice (ρ := upd ρ H.next l) (i := H.next) (off := 0) (len := len) (cap := cap) (c := c) (l := l) (upd_same ..) h1 (fun e => by have := h2 e; exact ⟨this.1, by rw [h]; omega⟩)
  rwa [h] at this

/-- a variable is made -/
theorem run_newVar (hH : HRel P base K ρ H w) (e : TypeId) {v v' : Value} (hv : VRel ρ v v') :
    ∃ w' ρ', (newVar e v').run P w = .ok ⟨w.heap.size, 0, none⟩ w' ∧ VRel ρ' (newPtr H) (.pointer (some ⟨w.heap.size, 0, none⟩)) ∧ Step P base W K ρ H w ρ' (pushBox H e v) w' := by
  refine ⟨{ w with heap := w.heap.push (.cells v'.cells e) }, upd ρ H.next ⟨w.heap.size, 0, v'.cells.size⟩, rfl, newPtr_rel H ⟨w.heap.size, 0, v'.cells.size⟩ rfl, ?_⟩
  unfold pushBox
  rw [lenN_eq]
  exact Step.newCells hH e (cellsOf v) v'.cells (LRel.cells hv.cells) rfl ⟨rfl, rfl⟩

theorem evAlloc_run (hH : HRel P base K ρ H w) {e : TypeId} {i : TyI} (he : tyI P e = some i) {z : Value} (hz : zeroOf i = some z) :
    ∃ w' ρ' v', (Instr.alloc e true (.tuple #[])).run P w = .ok v' w' ∧ VRel ρ' (newPtr H) v' ∧ Step P base W K ρ H w ρ' (pushBox H e z) w' := by
  obtain ⟨w', ρ', h1, h2, h3⟩ := run_newVar (W := W) hH e (VRel.plain (ρ := ρ) (zeroOf_eq hz).2)
  refine ⟨w', ρ', _, ?_, h2, h3⟩
  simp [Instr.alloc, run_zeroValue he hz, h1]
theorem evBox_run (hH : HRel P base K ρ H w) (e : TypeId) {v v' : Value} (hv : VRel ρ v v') :
    ∃ w' ρ' u', (Instr.box e v').run P w = .ok u' w' ∧ VRel ρ' (newPtr H) u' ∧ Step P base W K ρ H w ρ' (pushBox H e v) w' := by
  obtain ⟨w', ρ', h1, h2, h3⟩ := run_newVar (W := W) hH e hv
  refine ⟨w', ρ', _, ?_, h2, h3⟩
  simp [Instr.box, h1]

/-! What is built. -/
theorem foldl_set (vs : List Value) : ∀ (k off : Nat) (cs : Array Value), off + k + vs.length ≤ cs.size →
    ((vs.zipIdx k).foldl (fun cs (p : Value × Nat) => cs.setIfInBounds (off + p.2) p.1) cs).toList = cs.toList.take (off + k) ++ vs ++ cs.toList.drop (off + k + vs.length) := by
  induction vs with
  | nil => intro k off cs h; simp
  | cons v vs ih =>
    intro k off cs h
    simp only [List.length_cons] at h
    rw [List.zipIdx_cons, List.foldl_cons, ih (k + 1) off _ (by simp; omega)]
    rw [Array.toList_setIfInBounds]
    have hlt : off + k < cs.toList.length := by simp; omega
    apply List.ext_getElem?
    intro j
    simp only [List.append_assoc]
    have e1 : (List.take (off + (k + 1)) (cs.toList.set (off + k) v)).length = off + k + 1 := by simp; omega
    have e2 : (List.take (off + k) cs.toList).length = off + k := by simp; omega
    by_cases a : j < off + k
    · rw [List.getElem?_append_left (by omega), List.getElem?_append_left (by omega), List.getElem?_take, List.getElem?_take, if_pos (by omega), if_pos (by omega), List.getElem?_set_ne (by omega)]
    · by_cases b : j = off + k
      · subst b
        rw [List.getElem?_append_left (by omega), List.getElem?_take, if_pos (by omega), List.getElem?_set_self (by omega), List.getElem?_append_right (by omega), e2]
        simp
      · rw [List.getElem?_append_right (by omega), e1, List.getElem?_append_right (l₁ := List.take (off + k) cs.toList) (by omega), e2]
        rw [show j - (off + k) = (j - (off + k + 1)) + 1 from by omega, List.cons_append, List.getElem?_cons_succ]
        by_cases c : j - (off + k + 1) < vs.length
        · rw [List.getElem?_append_left c, List.getElem?_append_left c]
        · rw [List.getElem?_append_right (by omega), List.getElem?_append_right (by omega), List.getElem?_drop, List.getElem?_drop, List.getElem?_set_ne (by omega)]
          congr 1; simp; omega

theorem evFill_run {place : Nat → Option (Nat × Nat)} : ∀ {ps : List (Nat × Nat × Value)} {qs : List (Nat × Value)} {cs out : List Value} {c : Array Value},
    evFill ps cs = some out → (∀ (j : Nat) (p : Nat × Nat × Value), ps[j]? = some p → ∃ q, qs[j]? = some q ∧ place q.1 = some (p.1, p.2.1) ∧ VRel ρ p.2.2 q.2) → ps.length = qs.length → LRel ρ cs c.toList →
    ∃ c', Instr.fill place c qs = some c' ∧ LRel ρ out c'.toList
  | [], [], cs, out, c, h, _, _, hr => by cases h; exact ⟨c, rfl, hr⟩
  | [], _ :: _, _, _, _, _, _, hl, _ => by simp at hl
  | _ :: _, [], _, _, _, _, _, hl, _ => by simp at hl
  | (off, size, v) :: ps, (i, v') :: qs, cs, out, c, h, hh, hl, hr => by
    simp only [evFill] at h
    obtain ⟨h1, h⟩ := need_eq h
    obtain ⟨h2, h⟩ := need_eq h
    have h1 := eq_of_beq' h1
    have h2 : off + size ≤ lenN cs := le_of_ble' h2
    rw [lenN_eq] at h1 h2
    obtain ⟨q, hq, hp, hv⟩ := hh 0 (off, size, v) rfl
    simp at hq; subst hq
    simp only at hp hv
    have hcl := hv.cells
    have hsz : v'.cells.size = size := by rw [← h1, hcl.length]; simp
    have hcs : cs.length = c.size := by rw [hr.length]; simp
    have hfold := foldl_set v'.cells.toList 0 off c (by simp; omega)
    have hov : LRel ρ (over cs off (cellsOf v)) ((v'.cells.zipIdx.foldl (fun cs (p : Value × Nat) => cs.setIfInBounds (off + p.2) p.1) c)).toList := by
      have e : (v'.cells.zipIdx.foldl (fun cs (p : Value × Nat) => cs.setIfInBounds (off + p.2) p.1) c) = (v'.cells.toList.zipIdx 0).foldl (fun cs (p : Value × Nat) => cs.setIfInBounds (off + p.2) p.1) c := by
        rw [← Array.foldl_toList]; simp
      rw [e, hfold, over_eq _ _ _ (by omega), ← List.append_assoc]
      refine LRel.append (LRel.append ?_ hcl) ?_
      · simpa using LRel.take off hr
      · rw [hcl.length]; simpa using LRel.drop (off + v'.cells.toList.length) hr
    obtain ⟨c', h3, h4⟩ := evFill_run (place := place) h (fun j p hj => by simpa using hh (j + 1) p (by simpa using hj)) (by simpa using hl) hov
    refine ⟨c', ?_, h4⟩
    simp only [Instr.fill, hp]
    rw [if_neg (by simp; omega)]
    exact h3

theorem places_ok : ∀ (fs : List Field), (fs.all fun f => (tyI P f.type).isSome) = true →
    ∃ places, fs.mapM (fun f => (P.info? f.type).map fun i => (f.offset, i.size)) = some places ∧ ∀ j p, fieldPlaces P fs j = some p → places[j]? = some p
  | [], _ => ⟨[], rfl, fun j p h => by simp [fieldPlaces, nth_eq] at h⟩
  | f :: fs, h => by
    simp only [List.all_cons, Bool.and_eq_true] at h
    obtain ⟨i, hi⟩ := Option.isSome_iff_exists.1 h.1
    obtain ⟨inf, _, h2, h3, _⟩ := tyI_eq hi
    obtain ⟨places, h4, h5⟩ := places_ok fs h.2
    refine ⟨(f.offset, inf.size) :: places, ?_, ?_⟩
    · simp [List.mapM_cons, h2, h4]
    · intro j p hj
      cases j with
      | zero =>
        simp only [fieldPlaces, nth_eq, List.getElem?_cons_zero, withX_some, hi] at hj
        cases hj
        simp [h3]
      | succ j =>
        rw [List.getElem?_cons_succ]
        apply h5
        simpa [fieldPlaces, nth_eq] using hj

theorem partsX_eq {E : Env} {place : Nat → Option (Nat × Nat)} : ∀ {xs : List (Nat × Operand)} {ps : List (Nat × Nat × Value)}, partsX P E place xs = some ps →
    ps.length = xs.length ∧ ∀ (j : Nat) (p : Nat × Nat × Value), ps[j]? = some p → ∃ i x, xs[j]? = some (i, x) ∧ evx P E x = some p.2.2 ∧ place i = some (p.1, p.2.1)
  | [], ps, h => by cases h; exact ⟨rfl, fun j p h => by simp at h⟩
  | (i, x) :: xs, ps, h => by
    simp only [partsX] at h
    obtain ⟨v, hv, h⟩ := withX_eq h
    obtain ⟨p, hp, h⟩ := withX_eq h
    obtain ⟨vs, hvs, h⟩ := withX_eq h
    cases h
    obtain ⟨h1, h2⟩ := partsX_eq hvs
    refine ⟨by simp [h1], fun j q hq => ?_⟩
    cases j with
    | zero => simp at hq; subst hq; exact ⟨i, x, rfl, hv, hp⟩
    | succ j => simpa using h2 j q (by simpa using hq)

/-- what the operands are on the other side -/
def XRel (P : Program) (ρ : Map) (E : Env) (ev : Operand → Value) : Prop := ∀ x v, evx P E x = some v → VRel ρ v (ev x)

theorem evFill_parts {E : Env} {ev : Operand → Value} (hX : XRel P ρ E ev) {place : Nat → Option (Nat × Nat)} {place' : Nat → Option (Nat × Nat)} (hpl : ∀ i p, place i = some p → place' i = some p)
    {parts : List (Nat × Operand)} {ps : List (Nat × Nat × Value)} (hp : partsX P E place parts = some ps) {cs out : List Value} {c : Array Value} (h : evFill ps cs = some out) (hr : LRel ρ cs c.toList) :
    ∃ c', Instr.fill place' c (parts.map fun p => (p.1, ev p.2)) = some c' ∧ LRel ρ out c'.toList := by
  obtain ⟨h1, h2⟩ := partsX_eq hp
  refine evFill_run h (fun j p hj => ?_) (by simp [h1]) hr
  obtain ⟨i, x, a, b, c⟩ := h2 j p hj
  exact ⟨(i, ev x), by simp [a], hpl _ _ c, hX _ _ b⟩

theorem opBuild_run {β : Type} {E : Env} {t : TypeId} {parts : List (Nat × Operand)} {k : Value → Option β} {r : β} (h : opBuild P E t parts k = some r) :
    ∃ u, k u = some r ∧ ∀ (ρ : Map) (ev : Operand → Value), XRel P ρ E ev → ∀ w : World, ∃ u', (Instr.build t (parts.map fun p => (p.1, ev p.2)).toArray).run P w = .ok u' w ∧ VRel ρ u u' := by
  unfold opBuild at h
  obtain ⟨i, hi, h⟩ := withX_eq h
  obtain ⟨z, hz, h⟩ := withX_eq h
  obtain ⟨inf, hu, hinf, hsz, _, hzz, _⟩ := tyI_eq hi
  have hz' := zeroOf_eq hz
  split at h
  · rename_i fs hd
    obtain ⟨hall, h⟩ := need_eq h
    obtain ⟨ps, hps, h⟩ := withX_eq h
    obtain ⟨u, hu', h⟩ := bindV_eq h
    unfold evAgg at hu'
    obtain ⟨cs, hcs, hu'⟩ := withX_eq hu'
    cases hu'
    refine ⟨_, h, fun ρ ev hX w => ?_⟩
    obtain ⟨places, hp1, hp2⟩ := places_ok fs.toList hall
    obtain ⟨c', h1, h2⟩ := evFill_parts hX (place' := fun x => places[x]?) (fun j p hj => hp2 j p hj) hps hcs (c := z.cells) (VRel.plain (ρ := ρ) hz'.2).cells
    refine ⟨.agg c', ?_, .agg h2⟩
    rw [hd] at hu
    simp [Instr.build, run_underlying hu, run_zeroValue hi hz, Array.mapM_eq_mapM_toList, run_places w _ _ hp1, h1]
  · rename_i n e hd
    obtain ⟨j, hj, h⟩ := withX_eq h
    obtain ⟨ps, hps, h⟩ := withX_eq h
    obtain ⟨u, hu', h⟩ := bindV_eq h
    unfold evAgg at hu'
    obtain ⟨cs, hcs, hu'⟩ := withX_eq hu'
    cases hu'
    refine ⟨_, h, fun ρ ev hX w => ?_⟩
    obtain ⟨c', h1, h2⟩ := evFill_parts hX (place' := fun x => some (x * j.size, j.size)) (fun j p hj => hj) hps hcs (c := z.cells) (VRel.plain (ρ := ρ) hz'.2).cells
    refine ⟨.agg c', ?_, .agg h2⟩
    rw [hd] at hu
    simp [Instr.build, run_underlying hu, run_zeroValue hi hz, run_sizeOf hj, h1]
  · cases h

theorem tyElem_eq {t e : TypeId} (h : tyElem P t = some e) : P.underlying t = some (.slice e) := by
  unfold tyElem at h
  obtain ⟨i, hi, h⟩ := withX_eq h
  obtain ⟨_, hu, _⟩ := tyI_eq hi
  cases hd : i.desc <;> simp [hd, sliceElem] at h
  rw [hd] at hu; subst h; exact hu

theorem get_zeros (z : List Value) : ∀ (n i : Nat), i < n * z.length → (zeros z n)[i]? = z[i % z.length]?
  | 0, i, h => by simp at h
  | n + 1, i, h => by
    rw [zeros_succ]
    have hz : 0 < z.length := by
      rcases Nat.eq_zero_or_pos z.length with h' | h'
      · rw [h'] at h; simp at h
      · exact h'
    by_cases hi : i < z.length
    · rw [List.getElem?_append_left hi, Nat.mod_eq_of_lt hi]
    · rw [List.getElem?_append_right (by omega), get_zeros z n (i - z.length) (by rw [Nat.add_mul, Nat.one_mul] at h; omega)]
      congr 1
      exact (Nat.mod_eq_sub_mod (by omega)).symm
theorem zeros_array (z : Value) (n m : Nat) (hm : m = n * z.cells.size) : ((Array.range m).map (z.cells[· % z.cells.size]!)).toList = zeros (cellsOf z) n := by
  subst hm
  rw [cellsOf_eq']
  apply List.ext_getElem?
  intro i
  by_cases hi : i < n * z.cells.size
  · rw [get_zeros _ _ _ (by simpa using hi)]
    have hpos : 0 < z.cells.size := by
      rcases Nat.eq_zero_or_pos z.cells.size with h' | h'
      · rw [h'] at hi; simp at hi
      · exact h'
    have hlt := Nat.mod_lt i hpos
    simp only [Array.toList_map, Array.toList_range, List.getElem?_map, List.getElem?_range hi, Option.map_some]
    rw [Array.length_toList, Array.getElem?_toList, Array.getElem?_eq_getElem hlt]
    simp [hlt]
  · rw [List.getElem?_eq_none (by simp; omega), List.getElem?_eq_none (by rw [length_zeros]; simp; omega)]
theorem zeros_plain {z : Value} (hz : plain z = true) (n : Nat) : LRel ρ (zeros (cellsOf z) n) (zeros (cellsOf z) n) := by
  have h1 : LRel ρ (cellsOf z) (cellsOf z) := by
    have := (VRel.plain (ρ := ρ) hz).cells
    rwa [← cellsOf_eq'] at this
  induction n with
  | zero => exact .nil
  | succ n ih => rw [zeros_succ]; exact LRel.append h1 ih

theorem opBuildSlice_run {β : Type} {E : Env} {t : TypeId} {len : Nat} {parts : List (Nat × Operand)} {k : Value → AH → Option β} {r : β} (h : opBuildSlice P E H t len parts k = some r) :
    ∃ u H', k u H' = some r ∧ ∀ (ρ : Map) (K : Nat → Prop) (w : World) (ev : Operand → Value), HRel P base K ρ H w → XRel P ρ E ev →
      ∃ u' w' ρ', (Instr.buildSlice t len (parts.map fun p => (p.1, ev p.2)).toArray).run P w = .ok u' w' ∧ VRel ρ' u u' ∧ Step P base W K ρ H w ρ' H' w' := by
  unfold opBuildSlice at h
  obtain ⟨e, he, h⟩ := withX_eq h
  obtain ⟨i, hi, h⟩ := withX_eq h
  obtain ⟨z, hz, h⟩ := withX_eq h
  obtain ⟨h0, h⟩ := need_eq h
  rw [Nat.blt_eq] at h0
  obtain ⟨h1, h⟩ := need_eq h
  obtain ⟨h2, h⟩ := need_eq h
  obtain ⟨ps, hps, h⟩ := withX_eq h
  obtain ⟨cs, hcs, h⟩ := bindV_eq h
  have h1 : len * i.size ≤ 16777216 := le_of_ble' h1
  have h2 := eq_of_beq' h2
  rw [lenN_eq, cellsOf_eq', Array.length_toList] at h2
  refine ⟨_, _, h, fun ρ K w ev hH hX => ?_⟩
  have hz' := zeroOf_eq hz
  have hu := tyElem_eq he
  have hzl := zeros_array z len (len * i.size) (by rw [h2])
  obtain ⟨c', h3, h4⟩ := evFill_parts hX (place' := fun x => some (x * i.size, i.size)) (fun j p hj => hj) hps hcs (c := ((Array.range (len * i.size)).map (z.cells[· % z.cells.size]!)))
    (by rw [hzl]; exact zeros_plain hz'.2 len)
  have hlen : cs.length = len * i.size := by
    have e1 : ∀ {ps : List (Nat × Nat × Value)} {a b : List Value}, evFill ps a = some b → b.length = a.length := by
      intro ps
      induction ps with
      | nil => intro a b h; cases h; rfl
      | cons p ps ih =>
        intro a b h
        obtain ⟨off, size, v⟩ := p
        simp only [evFill] at h
        obtain ⟨q1, h⟩ := need_eq h
        obtain ⟨q2, h⟩ := need_eq h
        have q1 := eq_of_beq' q1
        have q2 : off + size ≤ lenN a := le_of_ble' q2
        rw [lenN_eq] at q1 q2
        rw [ih h, length_over _ _ _ (by omega)]
    rw [e1 hcs, length_zeros, cellsOf_eq', Array.length_toList, h2]
  let w' : World := { w with heap := w.heap.push (.cells c' e) }
  let l : Loc := ⟨w.heap.size, 0, c'.size⟩
  refine ⟨.slice (some ⟨w.heap.size, 0, none⟩) len len, w', upd ρ H.next l, ?_, newSlice_rel H l rfl len len len (fun _ => rfl) (fun hU => absurd hU (by omega)), ?_⟩
  · have hcond : ¬ (len * i.size > 2 ^ 24) := by omega
    by_cases h0 : len * i.size = 0
    · have hA : ∀ f : Nat → Value, (Array.range (len * i.size)).map f = #[] := by intro f; rw [h0]; simp
      rw [hA] at h3
      simp only [Instr.buildSlice, Sem.run_bind, run_underlying hu, Result.andThen_ok, run_sizeOf hi, if_neg hcond, if_pos h0, Sem.run_pure, hA, h3]
      rfl
    · simp only [Instr.buildSlice, Sem.run_bind, run_underlying hu, Result.andThen_ok, run_sizeOf hi, if_neg hcond, if_neg h0, Sem.run_pure, run_zeroValue hi hz, h3]
      rfl
  · have := Step.newCells (W := W) hH e cs c' (LRel.cells h4) (w' := w') rfl ⟨rfl, rfl⟩
    rw [hlen] at this
    exact this
end
end Go.Ev
