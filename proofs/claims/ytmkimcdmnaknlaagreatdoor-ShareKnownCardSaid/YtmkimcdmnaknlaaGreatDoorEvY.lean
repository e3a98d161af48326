/- A function's clean word may stand for the function: what a call has made may be told by fewer blocks, under other names.
   Conditions: none. -/
import Derived.Test.YtmkimcdmnaknlaaGreatDoorEvX
namespace Go.Ev
noncomputable section

/-! Values under other names: 'σ' tells the block's name in the greater heap 'H1'; names are below 'n'. -/
mutual
inductive NRel (n : Nat) (σ : Nat → Nat) (H1 : AH) : Value → Value → Prop where
  | flat {v : Value} (h : flat v = true) : NRel n σ H1 v v
  | ptr {i off : Nat} (h : i < n) : NRel n σ H1 (.pointer (some ⟨i, off, none⟩)) (.pointer (some ⟨σ i, off, none⟩))
  | slice {i off len cap : Nat} (h : i < n) : NRel n σ H1 (.slice (some ⟨i, off, none⟩) len cap) (.slice (some ⟨σ i, off, none⟩) len cap)
  | sliceU {i off len c size s : Nat} {cs : List Value} {e : TypeId} (h : i < n) (ho : H1.get (σ i) = some (.cells s cs e)) (hc : c < UNK) (hl : len ≤ c) (hs : off + c * size ≤ s) :
      NRel n σ H1 (.slice (some ⟨i, off, none⟩) len (UNK + size)) (.slice (some ⟨σ i, off, none⟩) len c)
  | map {i : Nat} (h : i < n) : NRel n σ H1 (.map (some i)) (.map (some (σ i)))
  | func {fn : Fn} {f f' c c' : Array Value} (h : NRelL n σ H1 f.toList f'.toList) (h' : NRelL n σ H1 c.toList c'.toList) : NRel n σ H1 (.func fn f c) (.func fn f' c')
  | iface {t : TypeId} {v v' : Value} (h : NRel n σ H1 v v') : NRel n σ H1 (.iface t v) (.iface t v')
  | agg {cs ds : Array Value} (h : NRelL n σ H1 cs.toList ds.toList) : NRel n σ H1 (.agg cs) (.agg ds)
  | tuple {cs ds : Array Value} (h : NRelL n σ H1 cs.toList ds.toList) : NRel n σ H1 (.tuple cs) (.tuple ds)
inductive NRelL (n : Nat) (σ : Nat → Nat) (H1 : AH) : List Value → List Value → Prop where
  | nil : NRelL n σ H1 [] []
  | cons {v v' : Value} {l l' : List Value} (h : NRel n σ H1 v v') (t : NRelL n σ H1 l l') : NRelL n σ H1 (v :: l) (v' :: l')
end

/-- the places of the lesser heap -/
def cutMap (n : Nat) (σ : Nat → Nat) (ρ1 : Map) : Map := fun i => if i < n then ρ1 (σ i) else none

section
variable {P : Program} {n : Nat} {σ : Nat → Nat} {H1 : AH} {ρ1 : Map} {w : World}

/-- every known block lies where it is said -/
def Fits (P : Program) (H1 : AH) (ρ1 : Map) (w : World) : Prop := ∀ i o l, H1.get i = some o → ρ1 i = some l → OFit P ρ1 o l w

theorem cutMap_at {i : Nat} (h : i < n) : cutMap n σ ρ1 i = ρ1 (σ i) := if_pos h

mutual
theorem NRel.rel (hf : Fits P H1 ρ1 w) : ∀ {v v1 x : Value}, NRel n σ H1 v v1 → VRel ρ1 v1 x → VRel (cutMap n σ ρ1) v x
  | _, _, _, .flat h, hx => by rw [flat_same hx h]; exact .flat h
  | _, _, _, .ptr h, hx => by
    obtain ⟨l, hl, rfl⟩ := hx.ptr_eq
    exact .ptr (by rw [cutMap_at h]; exact hl)
  | _, _, _, .slice h, hx => by
    cases hx with
    | flat hh => simp [Ev.flat] at hh
    | slice hl h1 h2 => exact .slice (by rw [cutMap_at h]; exact hl) h1 h2
    | sliceE hl ha hc => exact .sliceE (by rw [cutMap_at h]; exact hl) ha hc
  | _, _, _, .sliceU h ho hc hl hs, hx => by
    cases hx with
    | flat hh => simp [Ev.flat] at hh
    | slice hl' h1 h2 =>
      obtain ⟨h3, h4, _⟩ := hf _ _ _ ho hl'
      have e := h1 hc
      subst e
      refine .slice (by rw [cutMap_at h]; exact hl') (fun hh => by omega) (fun _ => ⟨hl, ?_⟩)
      rw [Nat.add_sub_cancel_left]
      omega
    | sliceE hl' ha hc' => exact .sliceE (by rw [cutMap_at h]; exact hl') ha (.inl (by omega))
  | _, _, _, .map h, hx => by
    cases hx with
    | flat hh => simp [Ev.flat] at hh
    | map hl => exact .map (by rw [cutMap_at h]; exact hl)
  | _, _, _, .func h h', hx => by
    obtain ⟨f', c', rfl, h1, h2⟩ := hx.func_eq
    exact .func (NRelL.rel hf h h1) (NRelL.rel hf h' h2)
  | _, _, _, .iface h, hx => by
    obtain ⟨u, rfl, h1⟩ := hx.iface_eq
    exact .iface (NRel.rel hf h h1)
  | _, _, _, .agg h, hx => by
    cases hx with
    | flat hh => simp [Ev.flat] at hh
    | agg h1 => exact .agg (NRelL.rel hf h h1)
  | _, _, _, .tuple h, hx => by
    obtain ⟨u, rfl, h1⟩ := hx.tuple_eq
    exact .tuple (NRelL.rel hf h h1)
theorem NRelL.rel (hf : Fits P H1 ρ1 w) : ∀ {v v1 x : List Value}, NRelL n σ H1 v v1 → LRel ρ1 v1 x → LRel (cutMap n σ ρ1) v x
  | _, _, _, .nil, hx => by cases hx; exact .nil
  | _, _, _, .cons h t, hx => by
    cases hx with
    | cons h1 t1 => exact .cons (NRel.rel hf h h1) (NRelL.rel hf t t1)
end

theorem NRelL.length : ∀ {l l' : List Value}, NRelL n σ H1 l l' → l.length = l'.length
  | _, _, .nil => rfl
  | _, _, .cons _ t => by simp [NRelL.length t]
theorem NRelL.get : ∀ {l l' : List Value}, NRelL n σ H1 l l' → ∀ (i : Nat) (v : Value), l[i]? = some v → ∃ v', l'[i]? = some v' ∧ NRel n σ H1 v v'
  | _, _, .nil, i, v, h => by simp at h
  | _, _, .cons h t, i, v, hi => by
    cases i with
    | zero => simp at hi; subst hi; exact ⟨_, rfl, h⟩
    | succ i => simp at hi; simpa using NRelL.get t i v hi
theorem NRelL.flats : ∀ {l : List Value}, l.all Ev.flat = true → NRelL n σ H1 l l
  | [], _ => .nil
  | _ :: l, h => by
    simp at h
    exact .cons (.flat h.1) (NRelL.flats (by simpa using h.2))
theorem NRel.plain {v : Value} (h : Ev.plain v = true) : NRel n σ H1 v v := by
  unfold Ev.plain at h
  split at h
  · exact .agg (NRelL.flats h)
  · exact .tuple (NRelL.flats h)
  · exact .flat h

inductive NRelE (n : Nat) (σ : Nat → Nat) (H1 : AH) : List MapEntry → List MapEntry → Prop where
  | nil : NRelE n σ H1 [] []
  | cons {e e' : MapEntry} {l l' : List MapEntry} (hk : NRel n σ H1 e.key e'.key) (hv : NRel n σ H1 e.val e'.val) (hb : e.born = e'.born) (t : NRelE n σ H1 l l') : NRelE n σ H1 (e :: l) (e' :: l')
theorem NRelE.rel (hf : Fits P H1 ρ1 w) : ∀ {l l1 x : List MapEntry}, NRelE n σ H1 l l1 → ERel ρ1 l1 x → ERel (cutMap n σ ρ1) l x
  | _, _, _, .nil, hx => by cases hx; exact .nil
  | _, _, _, .cons hk hv hb t, hx => by
    cases hx with
    | cons hk1 hv1 hb1 t1 => exact .cons (hk.rel hf hk1) (hv.rel hf hv1) (hb.trans hb1) (NRelE.rel hf t t1)

/-- a block under another name; of cells a beginning may be told alone -/
inductive NObj (n : Nat) (σ : Nat → Nat) (H1 : AH) : AObj → AObj → Prop where
  | cells {s s' : Nat} {cs ds : List Value} {e : TypeId} (hl : cs.length = s) (hs : s ≤ s') (h : NRelL n σ H1 cs (ds.take s)) : NObj n σ H1 (.cells s cs e) (.cells s' ds e)
  | map {es fs : List MapEntry} {c : Nat} (h : NRelE n σ H1 es fs) : NObj n σ H1 (.map es c) (.map fs c)

theorem NObj.fit (hf : Fits P H1 ρ1 w) {o o1 : AObj} {l : Loc} (h : NObj n σ H1 o o1) (h1 : OFit P ρ1 o1 l w) : OFit P (cutMap n σ ρ1) o l w := by
  cases h with
  | cells hl hs h =>
    obtain ⟨a, b, c, fz, d, e, f⟩ := h1
    refine ⟨hl, by omega, c, fz, d, e, fun i v hi => ?_⟩
    obtain ⟨v1, h2, h3⟩ := h.get i v hi
    rw [List.getElem?_take] at h2
    split at h2
    · obtain ⟨v', h4, h5⟩ := f i v1 h2
      exact ⟨v', h4, h3.rel hf h5⟩
    · cases h2
  | map h =>
    obtain ⟨es', a, b⟩ := h1
    exact ⟨es', a, h.rel hf b⟩
end

mutual
theorem VRel.redirect {ρ ρ1 ρ2 : Map} (hr : ∀ i l, ρ i = some l → ρ2 i = ρ1 i) : ∀ {v x0 x : Value}, VRel ρ v x0 → VRel ρ1 v x → VRel ρ2 v x
  | _, _, _, .flat h, hx => by rw [flat_same hx h]; exact .flat h
  | _, _, _, .ptr h, hx => by
    obtain ⟨l, hl, rfl⟩ := hx.ptr_eq
    exact .ptr (by rw [hr _ _ h]; exact hl)
  | _, _, _, .slice h _ _, hx => by
    cases hx with
    | flat hh => simp [Ev.flat] at hh
    | slice hl h1 h2 => exact .slice (by rw [hr _ _ h]; exact hl) h1 h2
    | sliceE hl ha hc => exact .sliceE (by rw [hr _ _ h]; exact hl) ha hc
  | _, _, _, .sliceE h _ _, hx => by
    cases hx with
    | flat hh => simp [Ev.flat] at hh
    | slice hl h1 h2 => exact .slice (by rw [hr _ _ h]; exact hl) h1 h2
    | sliceE hl ha hc => exact .sliceE (by rw [hr _ _ h]; exact hl) ha hc
  | _, _, _, .map h, hx => by
    cases hx with
    | flat hh => simp [Ev.flat] at hh
    | map hl => exact .map (by rw [hr _ _ h]; exact hl)
  | _, _, _, .func h h', hx => by
    obtain ⟨f', c', rfl, h1, h2⟩ := hx.func_eq
    exact .func (LRel.redirect hr h h1) (LRel.redirect hr h' h2)
  | _, _, _, .iface h, hx => by
    obtain ⟨u, rfl, h1⟩ := hx.iface_eq
    exact .iface (VRel.redirect hr h h1)
  | _, _, _, .agg h, hx => by
    cases hx with
    | flat hh => simp [Ev.flat] at hh
    | agg h1 => exact .agg (LRel.redirect hr h h1)
  | _, _, _, .tuple h, hx => by
    obtain ⟨u, rfl, h1⟩ := hx.tuple_eq
    exact .tuple (LRel.redirect hr h h1)
theorem LRel.redirect {ρ ρ1 ρ2 : Map} (hr : ∀ i l, ρ i = some l → ρ2 i = ρ1 i) : ∀ {v x0 x : List Value}, LRel ρ v x0 → LRel ρ1 v x → LRel ρ2 v x
  | _, _, _, .nil, hx => by cases hx; exact .nil
  | _, _, _, .cons h t, hx => by
    cases hx with
    | cons h1 t1 => exact .cons (VRel.redirect hr h h1) (LRel.redirect hr t t1)
end
theorem ERel.redirect {ρ ρ1 ρ2 : Map} (hr : ∀ i l, ρ i = some l → ρ2 i = ρ1 i) : ∀ {v x0 x : List MapEntry}, ERel ρ v x0 → ERel ρ1 v x → ERel ρ2 v x
  | _, _, _, .nil, hx => by cases hx; exact .nil
  | _, _, _, .cons hk hv hb t, hx => by
    cases hx with
    | cons hk1 hv1 hb1 t1 => exact .cons (hk.redirect hr hk1) (hv.redirect hr hv1) hb1 (ERel.redirect hr t t1)
theorem OFit.redirect {P : Program} {ρ ρ1 ρ2 : Map} (hr : ∀ i l, ρ i = some l → ρ2 i = ρ1 i) {o : AObj} {l l1 : Loc} {w w1 : World} (h : OFit P ρ o l w) (h1 : OFit P ρ1 o l1 w1) : OFit P ρ2 o l1 w1 := by
  cases o with
  | cells s cs e =>
    obtain ⟨_, _, _, _, _, _, f⟩ := h
    obtain ⟨a, b, c, fz, d, m, q⟩ := h1
    refine ⟨a, b, c, fz, d, m, fun i v hi => ?_⟩
    obtain ⟨x0, _, h2⟩ := f i v hi
    obtain ⟨x, h3, h4⟩ := q i v hi
    exact ⟨x, h3, h2.redirect hr h4⟩
  | map es c =>
    obtain ⟨_, _, f⟩ := h
    obtain ⟨es', a, b⟩ := h1
    exact ⟨es', a, f.redirect hr b⟩

/-- what a call answers in '(v1, H1)' may be told as '(v, H')' -/
structure Shrink (base lo : Nat) (σ : Nat → Nat) (H : AH) (v1 : Value) (H1 : AH) (v : Value) (H' : AH) : Prop where
  next : H.next ≤ H'.next
  old : ∀ i, i < H.next → σ i = i
  new : ∀ i, H.next ≤ i → i < H'.next → H.next ≤ σ i ∧ σ i < H1.next
  inj : ∀ i j, i < H'.next → j < H'.next → σ i = σ j → i = j
  objs : ∀ i o, i < H'.next → H'.get i = some o → (i < H.next ∧ H.get i = some o ∧ H1.get i = some o) ∨ ∃ o1, H1.get (σ i) = some o1 ∧ NObj H'.next σ H1 o o1
  low : ∀ i, i < H.next → ¬ lo ≤ i → H'.get i = H.get i
  base : base ≤ H.next
  val : NRel H'.next σ H1 v v1

theorem Step.shrink {P : Program} {base lo : Nat} {ρ ρ1 : Map} {H H1 H' : AH} {w w1 : World} {σ : Nat → Nat} {v v1 x : Value} (hs : Step P base (fun i => lo ≤ i) (dom ρ) ρ H w ρ1 H1 w1) (hH : HRel P base (dom ρ) ρ H w)
    (h : Shrink base lo σ H v1 H1 v H') (hv : VRel ρ1 v1 x) :
    VRel (cutMap H'.next σ ρ1) v x ∧ Step P base (fun i => lo ≤ i) (dom ρ) ρ H w (cutMap H'.next σ ρ1) H' w1 := by
  have hr := hs.relDom
  have hf : Fits P H1 ρ1 w1 := fun i o l ho hl => by
    obtain ⟨l', h1, h2, _⟩ := hr.fit i o (dom_some hl) ho
    rw [hl] at h1; cases h1; exact h2
  have hdom : ∀ i l, cutMap H'.next σ ρ1 i = some l → i < H'.next ∧ ρ1 (σ i) = some l := by
    intro i l hl
    unfold cutMap at hl
    split at hl
    · rename_i hi; exact ⟨hi, hl⟩
    · cases hl
  have hold : ∀ i, i < H.next → cutMap H'.next σ ρ1 i = ρ i := fun i hi => by
    rw [cutMap_at (by have := h.next; omega), h.old i hi, hs.agree i hi]
  refine ⟨h.val.rel hf hv, ?_⟩
  refine { agree := hold, next := h.next, rel := ⟨?_, ?_, ?_, ?_⟩, size := hs.size, alive := ?_, keep := fun i hi hn => h.low i hi hn, frame := hs.frame, newb := ?_, full := ?_, env := hs.env, melt := hs.melt }
  · intro i o hk ho
    have hd : (cutMap H'.next σ ρ1 i).isSome = true := by
      rcases hk with hk | hk
      · obtain ⟨l, hl⟩ := Option.isSome_iff_exists.1 hk
        rw [hold i (hH.dom i l hl).1, hl]; rfl
      · exact hk.2
    obtain ⟨l, hl⟩ := Option.isSome_iff_exists.1 hd
    obtain ⟨hi, hl1⟩ := hdom i l hl
    rcases h.objs i o hi ho with ⟨hlt, hg, hg1⟩ | ⟨o1, h1, h2⟩
    · have hi0 : ρ i = some l := by rw [← hold i hlt]; exact hl
      obtain ⟨l0, h1, h2, _⟩ := hH.fit i o (dom_some hi0) hg
      rw [h.old i hlt] at hl1
      obtain ⟨l', h3, h4, h5⟩ := hr.fit i o (dom_some hl1) hg1
      rw [hl1] at h3; cases h3
      refine ⟨l, hl, h2.redirect (fun j m hj => ?_) h4, h5⟩
      have := (hH.dom j m hj).1
      rw [cutMap_at (by have := h.next; omega), h.old j this]
    · obtain ⟨l', h3, h4, h5⟩ := hr.fit (σ i) o1 (dom_some hl1) h1
      rw [hl1] at h3; cases h3
      refine ⟨l, hl, h2.fit hf h4, fun hb => h5 ?_⟩
      by_cases hlt : i < H.next
      · rw [h.old i hlt]; exact hb
      · have := (h.new i (by omega) hi).1
        have := h.base
        omega
  · intro i j oi oj li lj _ _ hoi hoj hli hlj hb
    obtain ⟨hi, hli1⟩ := hdom i li hli
    obtain ⟨hj, hlj1⟩ := hdom j lj hlj
    have some1 : ∀ k o, k < H'.next → H'.get k = some o → ∃ o1, H1.get (σ k) = some o1 := fun k o hk ho => by
      rcases h.objs k o hk ho with ⟨hlt, _, h1⟩ | ⟨o1, h1, _⟩
      · rw [h.old k hlt]; exact ⟨_, h1⟩
      · exact ⟨_, h1⟩
    obtain ⟨oi1, h1⟩ := some1 i oi hi hoi
    obtain ⟨oj1, h2⟩ := some1 j oj hj hoj
    exact h.inj i j hi hj (hr.inj _ _ _ _ _ _ (dom_some hli1) (dom_some hlj1) h1 h2 hli1 hlj1 hb)
  · intro i l hl
    obtain ⟨hi, hl1⟩ := hdom i l hl
    exact ⟨hi, (hr.dom _ _ hl1).2⟩
  · intro g hg
    obtain ⟨l, h1, h2⟩ := hH.glob g hg
    exact ⟨l, by rw [hold g (hH.dom g l h1).1]; exact h1, h2⟩
  · intro i hi hne
    cases ho : H'.get i with
    | none => exact absurd ho hne
    | some o =>
      rcases h.objs i o (by have := h.next; omega) ho with ⟨_, h1, _⟩ | ⟨o1, h1, _⟩
      · rw [h1]; simp
      · rw [h.old i hi] at h1
        exact hs.alive i hi (by rw [h1]; simp)
  · intro i l hi hl
    obtain ⟨hi', hl1⟩ := hdom i l hl
    exact hs.newb (σ i) l (h.new i hi hi').1 hl1
  · intro i h1 h2
    obtain ⟨a, b⟩ := h.new i h1 h2
    obtain ⟨l, hl⟩ := hs.full (σ i) a b
    exact ⟨l, by rw [cutMap_at h2]; exact hl⟩

/-! Words that stand for functions. -/
def only (f : Nat) (S : FnF) : CallF := fun lo g args H => cond (Nat.beq g f) (S lo args H) none
/-- a function's word is true -/
def SpecOk (P : Program) (base : Nat) (f : Nat) (S : FnF) : Prop := CallOk P base (only f S)

theorem SpecOk.run {P : Program} {base f : Nat} {S : FnF} (h : SpecOk P base f S) {lo : Nat} {args : List Value} {H : AH} {v : Value} {H' : AH} (hlo : base ≤ lo) (hr : S lo args H = some (v, H')) :
    (∃ fn, P.funcs[f]? = some fn ∧ fn.body.isNone = false ∧ (fn.name == "runtime.NumGoroutine") = false) ∧
    ∀ ρ w args', HRel P base (dom ρ) ρ H w → LRel ρ args args' →
      Calls P f args'.toArray w fun e w' => ∃ v' ρ', e = .returned v' ∧ VRel ρ' v v' ∧ Step P base (fun i => lo ≤ i) (dom ρ) ρ H w ρ' H' w' :=
  h lo f args H v H' hlo (by unfold only; rw [beqt rfl]; exact hr)

theorem SpecOk.of {P : Program} {base f : Nat} {S : FnF} (h : ∀ lo args H v H', base ≤ lo → S lo args H = some (v, H') →
    (∃ fn, P.funcs[f]? = some fn ∧ fn.body.isNone = false ∧ (fn.name == "runtime.NumGoroutine") = false) ∧
    ∀ ρ w args', HRel P base (dom ρ) ρ H w → LRel ρ args args' →
      Calls P f args'.toArray w fun e w' => ∃ v' ρ', e = .returned v' ∧ VRel ρ' v v' ∧ Step P base (fun i => lo ≤ i) (dom ρ) ρ H w ρ' H' w') : SpecOk P base f S := by
  intro lo g args H v H' hlo hr
  unfold only at hr
  obtain ⟨hb, hr2⟩ := cond_none_eq hr
  have hg := eq_of_beq' hb
  subst hg
  exact h lo args H v H' hlo hr2

/-- a word is true if some true way of calling answers so, told shorter -/
theorem SpecOk.shrink {P : Program} {base f : Nat} {S : FnF} (h : ∀ lo args H v H', base ≤ lo → S lo args H = some (v, H') →
    ∃ call, CallOk P base call ∧ ∃ v1 H1 σ, call lo f args H = some (v1, H1) ∧ Shrink base lo σ H v1 H1 v H') : SpecOk P base f S := by
  refine SpecOk.of fun lo args H v H' hlo hr => ?_
  obtain ⟨call, hc, v1, H1, σ, h1, h2⟩ := h lo args H v H' hlo hr
  obtain ⟨h3, h4⟩ := hc lo f args H v1 H1 hlo h1
  refine ⟨h3, fun ρ w args' hH ha => Calls.mono (h4 ρ w args' hH ha) fun e w' => ?_⟩
  rintro ⟨v', ρ', rfl, hv, hs⟩
  obtain ⟨h5, h6⟩ := hs.shrink hH h2 hv
  exact ⟨v', _, rfl, h5, h6⟩

/-- calls: a function's word where there is one, else its text -/
def mCall (P : Program) (C : Ctx) (table : Tr (CallF → FnF)) (specs : Tr FnF) (d : Nat) : CallF :=
  Nat.rec (motive := fun _ => CallF) (fun _ _ _ _ => none)
    (fun _ ih lo f args H => Option.rec (motive := fun _ => Option (Value × AH))
      (Option.rec (motive := fun _ => Option (Value × AH)) (evFn P C ih lo f args H) (fun F => F ih lo args H) (table.get f))
      (fun S => S lo args H) (specs.get f)) d

theorem mCall_spec {P : Program} {C : Ctx} {table : Tr (CallF → FnF)} {specs : Tr FnF} {d : Nat} {f : Nat} {S : FnF} (h : specs.get f = some S) (lo : Nat) (args : List Value) (H : AH) :
    mCall P C table specs (d + 1) lo f args H = S lo args H := by
  show Option.rec (motive := fun _ => Option (Value × AH)) _ (fun S => S lo args H) (specs.get f) = _
  rw [h]
theorem mCall_text {P : Program} {C : Ctx} {table : Tr (CallF → FnF)} {specs : Tr FnF} {d : Nat} {f : Nat} {F : CallF → FnF} (h : specs.get f = none) (hF : table.get f = some F) (lo : Nat) (args : List Value) (H : AH) :
    mCall P C table specs (d + 1) lo f args H = F (mCall P C table specs d) lo args H := by
  show Option.rec (motive := fun _ => Option (Value × AH)) (Option.rec (motive := fun _ => Option (Value × AH)) _ (fun F => F (mCall P C table specs d) lo args H) (table.get f)) _ (specs.get f) = _
  rw [h, hF]

theorem mCall_ok {P : Program} {base : Nat} (hm : P.follows .mixedOrders = true) (C : Ctx) (table : Tr (CallF → FnF))
    (ht : ∀ f F, table.get f = some F → ∀ call lo args H, evFn P C call lo f args H = F call lo args H) (specs : Tr FnF) (hsp : ∀ f S, specs.get f = some S → SpecOk P base f S) : ∀ d, CallOk P base (mCall P C table specs d)
  | 0 => by intro lo f args H v H' _ h; cases h
  | d + 1 => by
    have ih := mCall_ok hm C table ht specs hsp d
    intro lo f args H v H' hlo h
    have h : Option.rec (motive := fun _ => Option (Value × AH))
      (Option.rec (motive := fun _ => Option (Value × AH)) (evFn P C (mCall P C table specs d) lo f args H) (fun F => F (mCall P C table specs d) lo args H) (table.get f))
      (fun S => S lo args H) (specs.get f) = some (v, H') := h
    cases hg : specs.get f with
    | some S =>
      rw [hg] at h
      exact (hsp f S hg).run hlo h
    | none =>
      rw [hg] at h
      have h : Option.rec (motive := fun _ => Option (Value × AH)) (evFn P C (mCall P C table specs d) lo f args H) (fun F => F (mCall P C table specs d) lo args H) (table.get f) = some (v, H') := h
      refine fn_ok ih hm C lo f args H v H' hlo ?_
      cases hg2 : table.get f with
      | none => rw [hg2] at h; exact h
      | some F => rw [hg2] at h; rw [ht f F hg2]; exact h

/-- specs in a list -/
def specsOf : List (Nat × FnF) → Tr FnF → Tr FnF
  | [], t => t
  | r :: l, t => specsOf l (t.put r.1 (some r.2))
theorem specs_get : ∀ (l : List (Nat × FnF)) (t : Tr FnF) (f : Nat) (S : FnF), (specsOf l t).get f = some S → (f, S) ∈ l ∨ t.get f = some S
  | [], t, f, S, h => .inr h
  | r :: l, t, f, S, h => by
    rcases specs_get l _ f S h with h | h
    · exact .inl (List.mem_cons_of_mem _ h)
    · rw [Tr.get_put] at h
      split at h
      · rename_i e
        cases h
        left; rw [e]; exact List.mem_cons_self ..
      · exact .inr h
theorem specs_ok {P : Program} {base : Nat} {l : List (Nat × FnF)} (h : ∀ r ∈ l, SpecOk P base r.1 r.2) (f : Nat) (S : FnF) (hg : (specsOf l .leaf).get f = some S) : SpecOk P base f S := by
  rcases specs_get l .leaf f S hg with h1 | h1
  · exact h _ h1
  · cases h1

/-! A run over a few blocks stands for one over more of them, where the answer is plain. -/
theorem hrel_sub {P : Program} {base : Nat} {ρ ρ0 : Map} {H H0 : AH} {w : World} (h : HRel P base (dom ρ) ρ H w) (hρ : ∀ i l, ρ0 i = some l → ρ i = some l ∧ i < H0.next) (hg : ∀ i, dom ρ0 i → H0.get i = H.get i)
    (hglob : ∀ g, g < P.globals.size → dom ρ0 g) (hself : ∀ i o, H0.get i = some o → ∀ l, ρ0 i = some l → OFit P ρ o l w → OFit P ρ0 o l w) : HRel P base (dom ρ0) ρ0 H0 w := by
  refine ⟨?_, ?_, ?_, ?_⟩
  · intro i o hk ho
    obtain ⟨l, hl⟩ := Option.isSome_iff_exists.1 hk
    obtain ⟨h1, _⟩ := hρ i l hl
    have ho' := ho
    rw [hg i hk] at ho
    obtain ⟨l', h2, h3, h4⟩ := h.fit i o (dom_some h1) ho
    rw [h1] at h2; cases h2
    exact ⟨l, hl, hself i o ho' l hl h3, h4⟩
  · intro i j oi oj li lj hi hj hoi hoj hli hlj
    rw [hg i hi] at hoi
    rw [hg j hj] at hoj
    exact h.inj i j oi oj li lj (dom_some (hρ i li hli).1) (dom_some (hρ j lj hlj).1) hoi hoj (hρ i li hli).1 (hρ j lj hlj).1
  · intro i l hl
    exact ⟨(hρ i l hl).2, (h.dom i l (hρ i l hl).1).2⟩
  · intro g hlt
    obtain ⟨l, h1, h2⟩ := h.glob g hlt
    obtain ⟨l', h3⟩ := Option.isSome_iff_exists.1 (hglob g hlt)
    have := (hρ g l' h3).1
    rw [h1] at this; cases this
    exact ⟨l, h3, h2⟩

/-- a step that wrote nothing that was there and whose blocks are forgotten -/
theorem Step.forget {P : Program} {base lo : Nat} {ρ ρ0 ρ1 : Map} {H H0 H1 : AH} {w w1 : World} {W : Nat → Prop} (hH : HRel P base (dom ρ) ρ H w) (hs : Step P base (fun i => lo ≤ i) (dom ρ0) ρ0 H0 w ρ1 H1 w1) (hd : ∀ i l, ρ0 i = some l → i < lo) :
    Step P base W (dom ρ) ρ H w ρ H w1 := by
  have same : ∀ b, b < w.heap.size → w1.heap[b]? = w.heap[b]? := fun b hb => hs.frame b hb fun i l hi _ hl => absurd (hd i l hl) (by omega)
  refine ⟨fun _ _ => rfl, Nat.le_refl _, ⟨?_, ?_, fun i l hl => ⟨(hH.dom i l hl).1, Nat.lt_of_lt_of_le (hH.dom i l hl).2 hs.size⟩, hH.glob⟩, hs.size, fun _ _ h => h, fun _ _ _ => rfl, fun b hb _ => same b hb,
    fun i l hi hl => absurd (hH.dom i l hl).1 (by omega), fun i h1 h2 => absurd h1 (by omega), hs.env, hs.melt⟩
  · intro i o hk ho
    have hk : dom ρ i := hk.elim id fun h => h.2
    obtain ⟨l, h4, h5, h6⟩ := hH.fit i o hk ho
    have e := same l.blk (hH.dom i l h4).2
    refine ⟨l, h4, h5.same e, fun hb => ?_⟩
    have := h6 hb
    unfold thawed at *
    rw [e]; exact this
  · intro i j oi oj li lj hi hj
    exact hH.inj i j oi oj li lj (hi.elim id fun h => h.2) (hj.elim id fun h => h.2)

/-! The two tables. -/
def intsAre (k : IntKind) : List Value → List Int → Bool
  | [], [] => true
  | .int k' a :: vs, b :: bs => cond (kindEq k' k && intEq a b) (intsAre k vs bs) false
  | _, _ => false

theorem intsAre_eq {k : IntKind} : ∀ {vs : List Value} {zs : List Int}, intsAre k vs zs = true → vs = zs.map fun z => .int k z
  | [], [], _ => rfl
  | v :: vs, [], h => by unfold intsAre at h; split at h <;> simp_all
  | [], b :: bs, h => by cases h
  | v :: vs, b :: bs, h => by
    unfold intsAre at h
    split at h
    · simp_all
    · rename_i k' a vs' b' bs' e1 e2
      cases e1; cases e2
      cases hc : (kindEq k' k && intEq a b) with
      | false => rw [hc] at h; cases h
      | true =>
        rw [hc] at h
        rw [Bool.and_eq_true] at hc
        have hk := kindEq_eq hc.1
        have ha : a = b := by have := hc.2; rw [intEq_eq] at this; simpa using this
        subst hk ha
        rw [intsAre_eq h]; rfl
    · cases h

/-- do the first two blocks hold the tables? -/
def hasTabs (k : IntKind) (xs ys : List Int) (H : AH) : Option (TypeId × TypeId) :=
  withCells H 0 fun s cs e => withCells H 1 fun s' cs' e' =>
    need (Nat.beq s xs.length) (need (Nat.beq s' ys.length) (need (intsAre k cs xs) (need (intsAre k cs' ys) (some (e, e')))))

theorem hasTabs_eq {k : IntKind} {xs ys : List Int} {H : AH} {e e' : TypeId} (h : hasTabs k xs ys H = some (e, e')) :
    H.get 0 = some (.cells xs.length (xs.map fun z => .int k z) e) ∧ H.get 1 = some (.cells ys.length (ys.map fun z => .int k z) e') := by
  unfold hasTabs withCells at h
  split at h
  · rename_i s cs e0 h0
    split at h
    · rename_i s' cs' e1 h1
      obtain ⟨a, h⟩ := need_eq h
      obtain ⟨b, h⟩ := need_eq h
      obtain ⟨c, h⟩ := need_eq h
      obtain ⟨d, h⟩ := need_eq h
      cases h
      rw [h0, h1, eq_of_beq' a, eq_of_beq' b, intsAre_eq c, intsAre_eq d]
      exact ⟨rfl, rfl⟩
    · cases h
  · cases h

/-- a function without parameters that answers a plain value over the tables alone answers it over more -/
def closedSpec (k : IntKind) (xs ys : List Int) (v : Value) : FnF := fun _ args H =>
  List.casesOn (motive := fun _ => Option (Value × AH)) args (withX (hasTabs k xs ys H) fun _ => some (v, H)) (fun _ _ => none)

theorem closedSpec_ok {P : Program} (hgl : P.globals.size = 2) {k : IntKind} {xs ys : List Int} {v : Value} {f : Nat} {call : CallF} (hc : CallOk P 2 call) (hv : plain v = true)
    (hr : ∀ e e', ∃ H', call 2 f [] (twoTabs k xs ys e e') = some (v, H')) : SpecOk P 2 f (closedSpec k xs ys v) := by
  refine SpecOk.of fun lo args H u H' hlo h => ?_
  unfold closedSpec at h
  cases args with
  | cons a l => cases h
  | nil =>
    obtain ⟨⟨e, e'⟩, h1, h2⟩ := withX_eq h
    cases h2
    obtain ⟨g0, g1⟩ := hasTabs_eq h1
    obtain ⟨H1, hrun⟩ := hr e e'
    obtain ⟨h3, h4⟩ := hc 2 f [] _ _ _ (Nat.le_refl 2) hrun
    refine ⟨h3, fun ρ w args' hH ha => ?_⟩
    have t0 : (twoTabs k xs ys e e').get 0 = some (.cells xs.length (xs.map fun z => .int k z) e) := by
      show ((Tr.leaf.put 0 _).put 1 _).get 0 = _
      rw [Tr.get_put, if_neg (by decide), Tr.get_put, if_pos rfl]
    have t1 : (twoTabs k xs ys e e').get 1 = some (.cells ys.length (ys.map fun z => .int k z) e') := by
      show ((Tr.leaf.put 0 _).put 1 _).get 1 = _
      rw [Tr.get_put, if_pos rfl]
    let ρ0 : Map := fun i => if i < 2 then ρ i else none
    have r0 : ∀ i l, ρ0 i = some l → ρ i = some l ∧ i < 2 := by
      intro i l hl
      show _ ∧ _
      have hl : (if i < 2 then ρ i else none) = some l := hl
      split at hl
      · rename_i hi; exact ⟨hl, hi⟩
      · cases hl
    have hsub : HRel P 2 (dom ρ0) ρ0 (twoTabs k xs ys e e') w := by
      refine hrel_sub hH (fun i l hl => r0 i l hl) ?_ ?_ ?_
      · intro i hi
        obtain ⟨l, hl⟩ := Option.isSome_iff_exists.1 hi
        have := (r0 i l hl).2
        rcases (by omega : i = 0 ∨ i = 1) with rfl | rfl
        · rw [t0, g0]
        · rw [t1, g1]
      · intro g hg
        obtain ⟨l, h5, _⟩ := hH.glob g hg
        have : ρ0 g = some l := by show (if g < 2 then ρ g else none) = _; rw [if_pos (by omega)]; exact h5
        exact dom_some this
      · intro i o ho l hl hfit
        have := (r0 i l hl).2
        have ints : ∀ (zs : List Int) (s : Nat) (e : TypeId), OFit P ρ (.cells s (zs.map fun z => .int k z) e) l w → OFit P ρ0 (.cells s (zs.map fun z => .int k z) e) l w := by
          rintro zs s e ⟨a, b, c, fz, d, m, q⟩
          refine ⟨a, b, c, fz, d, m, fun j u hu => ?_⟩
          obtain ⟨u', h6, h7⟩ := q j u hu
          refine ⟨u', h6, ?_⟩
          rw [List.getElem?_map] at hu
          cases hz : zs[j]? with
          | none => rw [hz] at hu; cases hu
          | some z => rw [hz] at hu; cases hu; rw [h7.int_eq]; exact .flat rfl
        rcases (by omega : i = 0 ∨ i = 1) with rfl | rfl
        · rw [t0] at ho; cases ho; exact ints _ _ _ hfit
        · rw [t1] at ho; cases ho; exact ints _ _ _ hfit
    cases ha
    refine Calls.mono (h4 ρ0 w [] hsub .nil) fun x w' => ?_
    rintro ⟨v', ρ', rfl, h5, h6⟩
    refine ⟨v', ρ, rfl, ?_, h6.forget hH fun i l hl => (r0 i l hl).2⟩
    rw [plain_same h5 hv]; exact .plain hv
end
end Go.Ev
