/- What the evaluator's regions tell, operation by operation; a region in the order of its text.
   Conditions: none. -/
import Derived.Test.YtmkimcdmnaknlaaGreatDoorEvN
namespace Go.Ev

/-- the temporaries fit -/
structure TRel (nt : Nat) (ρ : Map) (E : Env) (a : Act) : Prop where
  size : nt ≤ a.tmps.size
  defs : a.defers = []
  val : ∀ t v, lookE E t = some v → VRel ρ v (a.eval (.tmp t))

/-- is an operation done? -/
def isOn (ops : List Oper) (E : Env) (o : Oper) (on : Bool) : Prop :=
  (o.guard = none ∧ on = true) ∨ ∃ g p d u, o.guard = some g ∧ ops[g.1]? = some p ∧ p.dst = some d ∧ lookE E d = some u ∧ on = isB u g.2

/-- what one operation of a region tells -/
structure Facts (P : Program) (base lo nt : Nat) (ops : List Oper) (o : Oper) (E : Env) (H : AH) (v : Value) (E' : Env) (H' : AH) (on : Bool) : Prop where
  env : E' = putE E o.dst v
  bd : bound nt o.dst = true
  gd : isOn ops E o on
  off : on = false → v = undef ∧ H' = H
  still : (classOf o.op).touches = false → makes o.op = false → H' = H
  run : on = true → ∀ (ρ : Map) (K : Nat → Prop) (w : World) (a : Act), HRel P base K ρ H w → (∀ t, .tmp t ∈ o.op.operands → ∀ v, lookE E t = some v → VRel ρ v (a.eval (.tmp t))) → touchK P E ρ o.op K → OpOk P base (touchW P E lo o.op) K ρ H w a o v H'

section
variable {P : Program} {base nt : Nat} {K : Nat → Prop} {ρ : Map} {H : AH} {w : World}

def hasT (xs : List Operand) (t : Tmp) : Bool := xs.any fun | .tmp s => Nat.beq s t | _ => false
theorem hasT_iff {xs : List Operand} {t : Tmp} : hasT xs t = true ↔ Operand.tmp t ∈ xs := by
  unfold hasT
  rw [List.any_eq_true]
  constructor
  · rintro ⟨x, hx, h⟩
    cases x with
    | tmp u => rw [eq_of_beq' h] at hx; exact hx
    | _ => cases h
  · exact fun h => ⟨_, h, Nat.beq_refl t⟩
def cutE (E : Env) (xs : List Operand) : Env := E.filter fun p => hasT xs p.1

theorem lookE_cons (s t : Tmp) (v : Value) (E : Env) : lookE ((s, v) :: E) t = if s = t then some v else lookE E t := by
  show cond (Nat.beq s t) _ _ = _
  by_cases h : s = t
  · rw [beqt h, if_pos h]; rfl
  · rw [beqf h, if_neg h]; rfl

theorem lookE_cut (xs : List Operand) (t : Tmp) : ∀ (E : Env), lookE (cutE E xs) t = cond (hasT xs t) (lookE E t) none
  | [] => by cases h : hasT xs t <;> rfl
  | (s, v) :: E => by
    have ih := lookE_cut xs t E
    unfold cutE at ih ⊢
    rw [List.filter_cons, lookE_cons]
    by_cases hs : s = t
    · subst hs
      rw [if_pos rfl]
      cases h : hasT xs s with
      | true => simp only [if_true]; rw [lookE_cons, if_pos rfl]; rfl
      | false => rw [h] at ih; simpa using ih
    · rw [if_neg hs, ← ih]
      split
      · rw [lookE_cons, if_neg hs]
      · rfl

theorem evx_cut {E : Env} {xs : List Operand} {x : Operand} (h : x ∈ xs) : evx P E x = evx P (cutE E xs) x := by
  cases x with
  | tmp t => show lookE E t = lookE (cutE E xs) t; rw [lookE_cut, hasT_iff.2 h]; rfl
  | _ => rfl

theorem handles_sub {o : Op} {x : Operand} (h : x ∈ handles o) : x ∈ o.operands := by
  unfold handles at h
  split at h <;> simp [Op.operands, Call.operands] at h ⊢ <;> simp [h]

theorem OpOk.wider {W W' : Nat → Prop} {a : Act} {o : Oper} {v : Value} {H' : AH} (h : OpOk P base W K ρ H w a o v H') (hW : ∀ i, W i → W' i) : OpOk P base W' K ρ H w a o v H' :=
  fun next Q hn => h next Q fun v' ρ' w' h1 h2 => hn v' ρ' w' h1 (h2.wider hW)

theorem evOper_facts {β : Type} {call : CallF} {lo : Nat} {E : Env} {k : Value → AH → Option β} {r : β} (hcall : CallOk P base call) (hlo : base ≤ lo) (o : Oper)
    (h : evOper P call lo E H o.op k = some r) :
    ∃ v H', k v H' = some r ∧ ((classOf o.op).touches = false → makes o.op = false → H' = H) ∧
      ∀ (ρ : Map) (K : Nat → Prop) (w : World) (a : Act), HRel P base K ρ H w → (∀ t, .tmp t ∈ o.op.operands → ∀ v, lookE E t = some v → VRel ρ v (a.eval (.tmp t))) → touchK P E ρ o.op K →
        OpOk P base (touchW P E lo o.op) K ρ H w a o v H' := by
  have hc : ∀ x ∈ o.op.operands, evx P E x = evx P (cutE E o.op.operands.toList) x := fun x hx => evx_cut (by simpa using hx)
  rw [evOper_congr hc] at h
  obtain ⟨v, H', hk, hst, hr⟩ := evOper_ok hcall hlo o h
  refine ⟨v, H', hk, hst, fun ρ K w a hH hX hK => ?_⟩
  refine OpOk.wider (hr ρ K w a hH ?_ ?_) ?_
  · refine evx_rel (fun t v ht => ?_) (fun _ => rfl) (fun _ => rfl) (fun _ => rfl) hH.glob
    rw [lookE_cut] at ht
    cases hm : hasT o.op.operands.toList t with
    | true => rw [hm] at ht; exact hX t (by simpa using hasT_iff.1 hm) v ht
    | false => rw [hm] at ht; cases ht
  · exact ⟨fun x hx v hv => hK.1 x hx v (by rw [hc x (handles_sub hx)]; exact hv), hK.2⟩
  · rintro i ⟨h1, h2⟩
    exact ⟨h1, h2.imp id fun ⟨hw, x, hx, v, hv, hi⟩ => ⟨hw, x, hx, v, by rw [hc x (handles_sub hx)]; exact hv, hi⟩⟩

theorem evGuarded_facts {β : Type} {call : CallF} {lo : Nat} {ops : List Oper} {E : Env} {k : Value → AH → Option β} {r : β} (hcall : CallOk P base call) (hlo : base ≤ lo) {o : Oper}
    (hb : bound nt o.dst = true) (h : evGuarded P call lo ops E H o k = some r) : ∃ v H' on, k v H' = some r ∧ Facts P base lo nt ops o E H v (putE E o.dst v) H' on := by
  unfold evGuarded at h
  split at h
  · rename_i hg
    obtain ⟨v, H', hk, hst, hr⟩ := evOper_facts hcall hlo o h
    exact ⟨v, H', true, hk, rfl, hb, .inl ⟨hg, rfl⟩, fun h => (by cases h), hst, fun _ => hr⟩
  · rename_i g hg
    obtain ⟨p, hp, hA⟩ := withX_eq h
    obtain ⟨d, hd, hB⟩ := withX_eq hA
    obtain ⟨u, hu, hC⟩ := withX_eq hB
    rw [nth_eq] at hp
    obtain ⟨v, H', hD, hk⟩ := bindVH_eq hC
    refine ⟨v, H', isB u g.2, hk, rfl, hb, .inr ⟨g, p, d, u, hg, hp, hd, hu, rfl⟩, fun hon => ?_, fun h1 h2 => ?_, fun hon => ?_⟩
    · rw [hon] at hD
      cases hD; exact ⟨rfl, rfl⟩
    · cases hon : isB u g.2 with
      | false => rw [hon] at hD; cases hD; rfl
      | true =>
        rw [hon] at hD
        obtain ⟨v2, H2, hk2, hst, _⟩ := evOper_facts hcall hlo o (k := pairVH) hD
        cases hk2; exact hst h1 h2
    · rw [hon] at hD
      obtain ⟨v2, H2, hk2, _, hr⟩ := evOper_facts hcall hlo o (k := pairVH) hD
      cases hk2; exact hr

theorem evOps_trace {β : Type} {call : CallF} {lo : Nat} {ops : List Oper} {k : Env → AH → Option β} {r : β} (hcall : CallOk P base call) (hlo : base ≤ lo) : ∀ {rest : List Oper} {E : Env} {H : AH},
    evOps P call lo nt ops rest E H k = some r → ∃ (Es : Nat → Env) (Hs : Nat → AH) (vs : Nat → Value) (on : Nat → Bool), Es 0 = E ∧ Hs 0 = H ∧
      (∀ i o, rest[i]? = some o → Facts P base lo nt ops o (Es i) (Hs i) (vs i) (Es (i + 1)) (Hs (i + 1)) (on i)) ∧ k (Es rest.length) (Hs rest.length) = some r
  | [], E, H, h => ⟨fun _ => E, fun _ => H, fun _ => undef, fun _ => true, rfl, rfl, fun i o h => by simp at h, h⟩
  | o :: rest, E, H, h => by
    unfold evOps at h
    obtain ⟨hb, hA⟩ := cond_none_eq h
    obtain ⟨v, H', on, hk, hf⟩ := evGuarded_facts hcall hlo hb hA
    obtain ⟨Es, Hs, vs, on', h1, h2, h3, h4⟩ := evOps_trace hcall hlo hk
    refine ⟨fun | 0 => E | i + 1 => Es i, fun | 0 => H | i + 1 => Hs i, fun | 0 => v | i + 1 => vs i, fun | 0 => on | i + 1 => on' i, rfl, rfl, ?_, h4⟩
    intro i o' ho
    cases i with
    | zero =>
      simp at ho; subst ho
      simp only [h1, h2]; exact hf
    | succ i => exact h3 i o' (by simpa using ho)

theorem Step.rdom {W : Nat → Prop} {ρ' : Map} {H' : AH} {w' : World} (h : Step P base W K ρ H w ρ' H' w') (hH : HRel P base K ρ H w) : Ext ρ ρ' :=
  h.ext fun i l hi => (hH.dom i l hi).1

theorem eval_put_eq {a : Act} {d : Tmp} {v : Value} (h : d < a.tmps.size) : (a.put (some d) v).eval (.tmp d) = v := by
  simp [Act.eval, Act.put, h]
theorem eval_put_ne {a : Act} {d t : Tmp} {v : Value} (h : d ≠ t) : (a.put (some d) v).eval (.tmp t) = a.eval (.tmp t) := by
  simp [Act.eval, Act.put, Array.getElem?_setIfInBounds_ne h]
theorem put_size (a : Act) (d : Option Tmp) (v : Value) : (a.put d v).tmps.size = a.tmps.size := by
  cases d <;> simp [Act.put]
theorem put_defs (a : Act) (d : Option Tmp) (v : Value) : (a.put d v).defers = a.defers := by
  cases d <;> rfl
theorem lookE_put_ne {E : Env} {d : Option Tmp} {v : Value} {t : Tmp} (h : d ≠ some t) : lookE (putE E d v) t = lookE E t := by
  cases d with
  | none => rfl
  | some d =>
    have : Nat.beq d t = false := beqf fun e => h (by rw [e])
    simp [putE, lookE, this]
theorem lookE_put_eq {E : Env} {t : Tmp} {v : Value} : lookE (putE E (some t) v) t = some v := by
  simp [putE, lookE]

theorem TRel.put {E : Env} {a : Act} {d : Option Tmp} {v v' : Value} {ρ' : Map} (h : TRel nt ρ E a) (he : Ext ρ ρ') (hd : bound nt d = true) (hv : VRel ρ' v v') : TRel nt ρ' (putE E d v) (a.put d v') where
  size := by rw [put_size]; exact h.size
  defs := by rw [put_defs]; exact h.defs
  val t u hu := by
    by_cases e : d = some t
    · subst e
      rw [lookE_put_eq] at hu; cases hu
      rw [eval_put_eq]
      · exact hv
      · exact Nat.lt_of_lt_of_le (by simpa [bound] using hd) h.size
    · rw [lookE_put_ne e] at hu
      have : (a.put d v').eval (.tmp t) = a.eval (.tmp t) := by
        cases d with
        | none => rfl
        | some d => exact eval_put_ne fun e' => e (by rw [e'])
      rw [this]; exact (h.val t u hu).mono he

theorem TRel.xrel {E : Env} {a : Act} (h : TRel nt ρ E a) (hH : HRel P base K ρ H w) : XRel P ρ E a.eval :=
  evx_rel h.val (fun _ => rfl) (fun _ => rfl) (fun _ => rfl) hH.glob

/-- whether an operation is done -/
theorem wanted_eq {ops : List Oper} {E : Env} {o : Oper} {on : Bool} (hg : isOn ops E o on) {a : Act}
    (hv : ∀ d u, lookE E d = some u → (∃ p g, o.guard = some g ∧ ops[g.1]? = some p ∧ p.dst = some d) → VRel ρ u (a.eval (.tmp d))) :
    Region.wanted o (yielded ops.toArray a.tmps) = on := by
  unfold Region.wanted
  rcases hg with ⟨h1, rfl⟩ | ⟨g, p, d, u, h1, h2, h3, h4, h5⟩
  · rw [h1]
  · rw [h1]
    obtain ⟨g1, g2⟩ := g
    simp only at h2 h5 ⊢
    have h6 := hv d u h4 ⟨p, _, h1, h2, h3⟩
    unfold yielded
    have h7 : ((ops.toArray[g1]?).bind (·.dst)) = some d := by simp [h2, h3]
    rw [h7]
    simp only [Option.bind_some]
    unfold Act.eval at h6
    simp only [Array.getD_eq_getD_getElem?] at h6
    subst h5
    cases ht : a.tmps[d]? with
    | none =>
      rw [ht] at h6
      simp only [Option.getD_none] at h6
      have : isB u g2 = false := by
        cases u <;> first | rfl | cases h6
      rw [this]; rfl
    | some x =>
      rw [ht] at h6
      simp only [Option.getD_some] at h6
      cases h6 with
      | flat hf => cases u <;> first | (simp [isB]; done) | (simp [isB]; rename_i b; cases b <;> cases g2 <;> rfl)
      | _ => simp [isB]

/-- what is so of the abstract heap, whatever the world -/
structure Pure (P : Program) (lo : Nat) (o : Oper) (E : Env) (H H' : AH) (on : Bool) : Prop where
  next : H.next ≤ H'.next
  alive : ∀ i, i < H.next → H'.get i ≠ none → H.get i ≠ none
  keep : ∀ i, i < H.next → (on = true → ¬ touchW P E lo o.op i) → H'.get i = H.get i

/-- one operation, wherever it comes -/
theorem Facts.wp {lo : Nat} {ops : List Oper} {o : Oper} {E E' : Env} {H' : AH} {v : Value} {on : Bool} (h : Facts P base lo nt ops o E H v E' H' on) {a : Act}
    (hH : HRel P base K ρ H w) (hX : ∀ t, .tmp t ∈ o.op.operands → ∀ v, lookE E t = some v → VRel ρ v (a.eval (.tmp t))) (hK : on = true → touchK P E ρ o.op K)
    {i : Nat} (ho : ops[i]? = some o) {next : Act → World → Prop} {Q : Exit → Act → World → Prop}
    (hn : ∀ v' ρ' w', VRel ρ' v v' → Step P base (fun i => on = true ∧ touchW P E lo o.op i) K ρ H w ρ' H' w' → next (a.put o.dst v') w')
    (hv : ∀ d u, lookE E d = some u → (∃ p g, o.guard = some g ∧ ops[g.1]? = some p ∧ p.dst = some d) → VRel ρ u (a.eval (.tmp d))) : wpOp P ops.toArray Q i next a w := by
  unfold wpOp
  have hi : ops.toArray[i]? = some o := by simpa using ho
  rw [hi]
  simp only
  rw [wanted_eq h.gd hv]
  cases hon : on with
  | true =>
    simp only [if_true]
    subst hon
    exact .inl (h.run rfl ρ K w a hH hX (hK rfl) next Q fun v' ρ' w' h1 h2 => hn v' ρ' w' h1 (h2.wider fun _ hi => ⟨rfl, hi⟩))
  | false =>
    subst hon
    simp only [Bool.false_eq_true, if_false]
    obtain ⟨rfl, rfl⟩ := h.off rfl
    exact hn _ ρ w .undef (Step.refl hH)

theorem Step.pure {lo : Nat} {o : Oper} {E : Env} {H' : AH} {on : Bool} {ρ' : Map} {w' : World} (h : Step P base (fun i => on = true ∧ touchW P E lo o.op i) K ρ H w ρ' H' w') : Pure P lo o E H H' on where
  next := h.next
  alive := h.alive
  keep i hi hn := h.keep i hi fun ⟨h1, h2⟩ => hn h1 h2

theorem touchK_dom {E : Env} {a : Act} (hX : XRel P ρ E a.eval) (o : Op) : touchK P E ρ o (dom ρ) := by
  refine ⟨fun x _ v hv i hi => ?_, fun _ => rfl⟩
  have h1 := hX x v hv
  generalize a.eval x = v' at h1
  cases h1 with
  | flat h => unfold Ev.flat at h; split at h <;> first | (simp [idsOf] at hi; done) | cases h
  | ptr h => simp [idsOf] at hi; subst hi; exact dom_some h
  | slice h => simp [idsOf] at hi; subst hi; exact dom_some h
  | sliceE h => simp [idsOf] at hi; subst hi; exact dom_some h
  | map h => simp [idsOf] at hi; subst hi; exact dom_some h
  | _ => simp [idsOf] at hi

theorem Step.known {W : Nat → Prop} {ρ' : Map} {H' : AH} {w' : World} (h : Step P base W (dom ρ) ρ H w ρ' H' w') (hd : ∀ i l, ρ i = some l → i < H.next) :
    (fun i => dom ρ i ∨ (H.next ≤ i ∧ (ρ' i).isSome = true)) = dom ρ' := by
  funext i
  apply propext
  constructor
  · rintro (h1 | ⟨_, h1⟩)
    · obtain ⟨l, hl⟩ := Option.isSome_iff_exists.1 h1
      exact dom_some (h.ext hd i l hl)
    · exact h1
  · intro h1
    rcases Nat.lt_or_ge i H.next with h2 | h2
    · left; unfold dom at *; rw [← h.agree i h2]; exact h1
    · exact .inr ⟨h2, h1⟩

theorem Step.then {W : Nat → Prop} {ρ₁ ρ₂ : Map} {H₁ H₂ : AH} {w₁ w₂ : World} {W' : Nat → Prop} (h : Step P base W (dom ρ) ρ H w ρ₁ H₁ w₁) (hd : ∀ i l, ρ i = some l → i < H.next)
    (h' : Step P base W' (dom ρ₁) ρ₁ H₁ w₁ ρ₂ H₂ w₂) (hW : ∀ i, i < H.next → W' i → W i) : Step P base W (dom ρ) ρ H w ρ₂ H₂ w₂ :=
  h.trans (by rw [h.known hd]; exact h') hW

/-- a region in the order of its text -/
theorem seq_wp {ops : List Oper} {los : Nat → Nat} {lo : Nat} {Es : Nat → Env} {Hs : Nat → AH} {vs : Nat → Value} {on : Nat → Bool} (hlos : ∀ i o, ops[i]? = some o → lo ≤ los i)
    (hf : ∀ i o, ops[i]? = some o → Facts P base (los i) nt ops o (Es i) (Hs i) (vs i) (Es (i + 1)) (Hs (i + 1)) (on i))
    {Q : Exit → Act → World → Prop} {ρ₀ : Map} {w₀ : World} (hd : ∀ i l, ρ₀ i = some l → i < (Hs 0).next)
    (hQ : ∀ ρ' a' w', TRel nt ρ' (Es ops.length) a' → Step P base (fun i => lo ≤ i) (dom ρ₀) ρ₀ (Hs 0) w₀ ρ' (Hs ops.length) w' →
      (∀ i o, ops[i]? = some o → Pure P (los i) o (Es i) (Hs i) (Hs (i + 1)) (on i)) → Q .normal a' w') :
    ∀ (m i : Nat) (ρ : Map) (a : Act) (w : World), i + m = ops.length → TRel nt ρ (Es i) a → Step P base (fun i => lo ≤ i) (dom ρ₀) ρ₀ (Hs 0) w₀ ρ (Hs i) w →
      (∀ j o, j < i → ops[j]? = some o → Pure P (los j) o (Es j) (Hs j) (Hs (j + 1)) (on j)) → wpOps P ops.toArray Q (List.range' i m) a w
  | 0, i, ρ, a, w, hm, ht, hs, hp => by
    have : i = ops.length := by omega
    subst this
    exact hQ ρ a w ht hs fun j o hj => hp j o (List.getElem?_eq_some_iff.1 hj).1 hj
  | m + 1, i, ρ, a, w, hm, ht, hs, hp => by
    rw [List.range'_succ, wpOps_cons]
    have hi : i < ops.length := by omega
    have ho : ops[i]? = some ops[i] := List.getElem?_eq_getElem hi
    have F := hf i _ ho
    have hH := hs.relDom
    have hX := ht.xrel hH
    refine F.wp hH (fun t _ v hv => ht.val t v hv) (fun _ => touchK_dom hX _) ho ?_ ?_
    · intro v' ρ' w' h1 h2
      refine seq_wp hlos hf hd hQ m (i + 1) ρ' _ w' (by omega) ?_ ?_ ?_
      · rw [F.env]; exact ht.put (h2.rdom hH) F.bd h1
      · exact hs.then hd h2 fun j _ hj => Nat.le_trans (hlos i _ ho) hj.2.1
      · intro j o hj hjo
        rcases Nat.lt_or_ge j i with h | h
        · exact hp j o h hjo
        · have : j = i := by omega
          subst this
          rw [ho] at hjo; cases hjo
          exact h2.pure
    · intro d u hu _; exact ht.val d u hu
end
end Go.Ev
