/- A region whose order is drawn: one operation keeps the invariant; the region.
   Conditions: none. -/
import Derived.Test.YtmkimcdmnaknlaaGreatDoorEvR
namespace Go.Ev
section
variable {P : Program} {base lo nt : Nat} {ops : List Oper} {bs : List Nat} {Es : Nat → Env} {Hs : Nat → AH} {vs : Nat → Value} {on : Nat → Bool} {los : Nat → Nat} {ρ₀ : Map} {w₀ : World}

theorem Wr.touch {i x : Nat} {o : Oper} (h : touchW P (Es i) (los i) o.op x) : Touch P (Es i) o x :=
  h.2.imp id fun ⟨_, h⟩ => h

theorem Inv.step (D : DC P base lo nt ops bs Es Hs vs on los) (hH : HRel P base (dom ρ₀) ρ₀ (Hs 0) w₀) {S : Nat → Prop} {ρ : Map} {a : Act} {w : World}
    (I : Inv P base lo nt ops Es Hs on los ρ₀ w₀ S ρ a w) {i : Nat} {o : Oper} (ho : ops[i]? = some o) (hnS : ¬ S i) (hel : ∀ e ∈ o.after, Region.binds .any e = true → S e.on)
    {next : Act → World → Prop} {Q : Exit → Act → World → Prop} (hn : ∀ ρ' a' w', Inv P base lo nt ops Es Hs on los ρ₀ w₀ (fun j => S j ∨ j = i) ρ' a' w' → next a' w') :
    wpOp P ops.toArray Q i next a w := by
  have hi := (List.getElem?_eq_some_iff.1 ho).1
  have get : ∀ k, k < ops.length → ∃ p, ops[k]? = some p := fun k hk => ⟨_, List.getElem?_eq_getElem hk⟩
  have hbS : ∀ k, behind bs i k = true → S k := fun k h => behind_closed D.hb D.plan I.closed i k o ho hel h
  have unb : ∀ k, S k → behind bs k i = false := fun k hk => by
    cases hb : behind bs k i with
    | false => rfl
    | true =>
      obtain ⟨p, hp⟩ := get k (I.lt k hk)
      exact absurd (behind_closed D.hb D.plan I.closed k i p hp (fun e h1 h2 => I.closed k p hk hp e h1 h2) hb) hnS
  have lt_unb : ∀ k, k < i → behind bs k i = false := fun k hk => by
    cases hb : behind bs k i with
    | false => rfl
    | true => exact absurd (behind_lt D.hb D.plan _ _ hb) (by omega)
  have gt_unb : ∀ k, i < k → behind bs i k = false := fun k hk => by
    cases hb : behind bs i k with
    | false => rfl
    | true => exact absurd (behind_lt D.hb D.plan _ _ hb) (by omega)
  have nS_unb : ∀ k, ¬ S k → behind bs i k = false := fun k hk => by
    cases hb : behind bs i k with
    | false => rfl
    | true => exact absurd (hbS k hb) hk
  -- temporaries
  have hcutT : ∀ t, t ∈ reads ops o → CutT ops S i t := by
    intro t ht k p hp hd
    have hk := (List.getElem?_eq_some_iff.1 hp).1
    constructor
    · intro hSk
      rcases Nat.lt_trichotomy k i with h | h | h
      · exact h
      · subst h; exact absurd hSk hnS
      · have h1 := (D.plan.pair k i p o h hp ho (unb k hSk)).1
        exact absurd ht (((tmpsApart_spec h1).1 t hd).1)
    · intro h
      apply Classical.byContradiction
      intro hSk
      have h1 := (D.plan.pair i k o p h ho hp (nS_unb k hSk)).1
      exact absurd ht ((tmpsApart_spec h1).2 t hd)
  have hval : ∀ t, t ∈ reads ops o → ∀ v, lookE (Es i) t = some v → VRel (res ρ (Hs i).next) v (a.eval (.tmp t)) :=
    fun t ht v hv => I.val t i v (Nat.le_of_lt hi) (hcutT t ht) hv
  have hdomN : ∀ x l, ρ x = some l → x < (Hs ops.length).next := fun x l hx => by
    rcases (I.domS x l hx).2 with h | ⟨k, h1, _, h3⟩
    · exact Nat.lt_of_lt_of_le h (D.next_mono (Nat.zero_le _) (Nat.le_refl _))
    · exact Nat.lt_of_lt_of_le h3 (D.next_mono (I.lt k h1) (Nat.le_refl _))
  have hnext : (Hs i).next ≤ (Hs (i + 1)).next := D.next_mono (Nat.le_succ i) hi
  have hznext : (Hs 0).next ≤ (Hs i).next := D.next_mono (Nat.zero_le i) (Nat.le_of_lt hi)
  -- what is new in one operation is known after it alone
  have new_in : ∀ k x, k < ops.length → (Hs k).next ≤ x → x < (Hs (k + 1)).next → dom ρ x → S k := by
    intro k x hk h1 h2 hd
    obtain ⟨l, hl⟩ := Option.isSome_iff_exists.1 hd
    rcases (I.domS x l hl).2 with h | ⟨k', h3, h4, h5⟩
    · have := D.next_mono (Nat.zero_le k) (Nat.le_of_lt hk); omega
    · have := D.new_one hk (I.lt k' h3) h1 h2 h4 h5
      subst this; exact h3
  -- cuts of what is touched
  have hcut : ∀ x, dom ρ x → x < (Hs i).next → Touch P (Es i) o x → Cut (Wr P ops los Es Hs on) S i x := by
    intro x hd hx ht k hwr
    obtain ⟨hon, p, hp, hw⟩ := hwr
    have hk := (List.getElem?_eq_some_iff.1 hp).1
    constructor
    · intro hSk
      rcases Nat.lt_trichotomy k i with h | h | h
      · exact h
      · subst h; exact absurd hSk hnS
      · exfalso
        rcases hw with ⟨h1, h2⟩ | ⟨h1, _⟩
        · exact D.conf (by omega) ho hp (gt_unb k h) (unb k hSk) ht h1 h2
        · have := D.next_mono (Nat.le_of_lt h) (Nat.le_of_lt hk); omega
    · intro h
      apply Classical.byContradiction
      intro hSk
      rcases hw with ⟨h1, h2⟩ | ⟨h1, h2⟩
      · exact D.conf (by omega) ho hp (nS_unb k hSk) (lt_unb k h) ht h1 h2
      · exact hSk (new_in k x hk h1 h2 hd)
  -- what the operation writes, nothing later has written
  have later : ∀ x, Wr P ops los Es Hs on i x → (x < (Hs i).next → dom ρ x) → ∀ k, i < k → S k → ¬ Wr P ops los Es Hs on k x := by
    rintro x ⟨hon, o', ho', hw⟩ hd k hk hSk ⟨honk, p, hp, hwk⟩
    rw [ho] at ho'; cases ho'
    have hkl := I.lt k hSk
    have hm := D.next_mono (i := i + 1) (j := k) hk (Nat.le_of_lt hkl)
    rcases hw with ⟨h1, h2⟩ | ⟨h1, h2⟩
    · rcases hwk with ⟨h3, h4⟩ | ⟨h3, _⟩
      · exact D.conf (by omega) ho hp (gt_unb k hk) (unb k hSk) (Wr.touch h2) h3 h4
      · omega
    · rcases hwk with ⟨h3, h4⟩ | ⟨h3, _⟩
      · rcases h4 with ⟨h5, h6 | ⟨h6, y, hy, v, hv, hx⟩⟩
        · exact D.conf_new hk ho hp (unb k hSk) h1 h2 h6 h5
        · exact hnS (new_in i x hi h1 h2 (I.hand k p hSk hp h6 y hy v hv x hx))
      · omega
  -- the heap as the operation finds it
  let ρr := res ρ (Hs i).next
  let K : Nat → Prop := fun x => (isCall (classOf o.op) = true ∧ dom ρr x) ∨ ∃ y ∈ handles o.op, ∃ v, evx P (Es i) y = some v ∧ x ∈ idsOf v
  have hglob : ∀ g, g < P.globals.size → ∃ l, ρr g = some l ∧ l.blk = g ∧ l.sh = 0 := by
    intro g hg
    obtain ⟨l, h1, h2⟩ := hH.glob g hg
    have h3 := (hH.dom g l h1).1
    exact ⟨l, res_some.2 ⟨by omega, by rw [I.old g h3]; exact h1⟩, h2⟩
  have hX : ∀ t, Operand.tmp t ∈ o.op.operands → ∀ v, lookE (Es i) t = some v → VRel ρr v (a.eval (.tmp t)) := fun t ht v hv => hval t (reads_op ht) v hv
  have hhand : ∀ y ∈ handles o.op, ∀ v, evx P (Es i) y = some v → ∀ x ∈ idsOf v, dom ρr x := by
    intro y hy v hv x hx
    cases y with
    | tmp t => exact (hX t (handles_sub hy) v hv).ids x hx
    | const c =>
      obtain ⟨hp, h⟩ := need_eq hv
      cases h
      exact (VRel.plain (ρ := ρr) hp).ids x hx
    | global g =>
      obtain ⟨hp, h⟩ := need_eq hv
      cases h
      rw [Nat.blt_eq] at hp
      obtain ⟨l, h1, _⟩ := hglob g hp
      simp [idsOf] at hx; subst hx
      exact dom_some h1
    | func f => cases hv; simp [idsOf] at hx
  have hKdom : ∀ x, K x → ∃ l, ρ x = some l ∧ ρr x = some l ∧ x < (Hs i).next := by
    intro x hx
    have hd : dom ρr x := by
      rcases hx with ⟨_, h⟩ | ⟨y, hy, v, hv, hx⟩
      · exact h
      · exact hhand y hy v hv x hx
    obtain ⟨l, hl⟩ := Option.isSome_iff_exists.1 hd
    exact ⟨l, (res_some.1 hl).2, hl, (res_some.1 hl).1⟩
  have hKcut : ∀ x, K x → Cut (Wr P ops los Es Hs on) S i x := by
    intro x hx
    obtain ⟨l, h1, _, h3⟩ := hKdom x hx
    refine hcut x (dom_some h1) h3 ?_
    rcases hx with ⟨h, _⟩ | h
    · exact .inl h
    · exact .inr h
  have hHi : HRel P base K ρr (Hs i) w := by
    refine ⟨?_, ?_, fun x l hx => ⟨(res_some.1 hx).1, (I.domS x l (res_some.1 hx).2).1⟩, hglob⟩
    · intro x ob hx hob
      obtain ⟨l, h1, h2, h3⟩ := hKdom x hx
      obtain ⟨h4, h5⟩ := I.cont x i l ob (Nat.le_of_lt hi) (hKcut x hx) h1 hob
      exact ⟨l, h2, h4, h5⟩
    · intro x y ox oy lx ly hx hy hox hoy hlx hly he
      exact I.inj x y i i lx ly (Nat.le_of_lt hi) (Nat.le_of_lt hi) (hKcut x hx) (hKcut y hy) (res_some.1 hlx).2 (res_some.1 hly).2 (by rw [hox]; simp) (by rw [hoy]; simp) he
  have htK : touchK P (Es i) ρr o.op K := by
    refine ⟨fun y hy v hv x hx => .inr ⟨y, hy, v, hv, hx⟩, fun hc => ?_⟩
    funext x
    apply propext
    constructor
    · rintro (⟨_, h⟩ | ⟨y, hy, _⟩)
      · exact h
      · rw [handles_call hc] at hy; cases hy
    · exact fun h => .inl ⟨hc, h⟩
  have hWK : ∀ x, on i = true ∧ touchW P (Es i) (los i) o.op x → dom ρr x → K x := by
    rintro x ⟨_, _, h | ⟨_, h⟩⟩ hd
    · exact .inl ⟨h, hd⟩
    · exact .inr h
  refine (D.facts i o ho).wp hHi hX (fun _ => htK) ho ?_ ?_
  case refine_2 =>
    rintro d u hu ⟨p, g, h1, h2, h3⟩
    exact hval d (reads_guard h1 h2 h3) u hu
  intro v' ρ' w' hv hst
  -- the map after it
  let ρ2 : Map := fun x => if (Hs i).next ≤ x ∧ x < (Hs (i + 1)).next then ρ' x else ρ x
  have r2new : ∀ x, (Hs i).next ≤ x → x < (Hs (i + 1)).next → ρ2 x = ρ' x := fun x h1 h2 => if_pos ⟨h1, h2⟩
  have r2old : ∀ x, ¬ ((Hs i).next ≤ x ∧ x < (Hs (i + 1)).next) → ρ2 x = ρ x := fun x h => if_neg h
  have hrnone : ∀ x, (Hs i).next ≤ x → x < (Hs (i + 1)).next → ρ x = none := by
    intro x h1 h2
    cases hx : ρ x with
    | none => rfl
    | some l => exact absurd (new_in i x hi h1 h2 (dom_some hx)) hnS
  have e2 : Ext ρ ρ2 := by
    intro x l hx
    rw [r2old x fun h => ?_]; exact hx
    rw [hrnone x h.1 h.2] at hx; cases hx
  have e1 : Ext ρ' ρ2 := by
    intro x l hx
    have hlt := (hst.rel.dom x l hx).1
    by_cases h : (Hs i).next ≤ x
    · rw [r2new x h hlt]; exact hx
    · rw [r2old x fun h' => h h'.1]
      rw [hst.agree x (by omega)] at hx
      exact (res_some.1 hx).2
  have e1' : Ext ρ' (res ρ2 (Hs (i + 1)).next) := fun x l hx => res_some.2 ⟨(hst.rel.dom x l hx).1, e1 x l hx⟩
  -- the operation's writes, after
  have hWdom : ∀ x, Wr P ops los Es Hs on i x → dom ρ2 x → (x < (Hs i).next ∧ K x ∧ dom ρ x ∧ (on i = true ∧ touchW P (Es i) (los i) o.op x)) ∨ ((Hs i).next ≤ x ∧ x < (Hs (i + 1)).next) := by
    rintro x ⟨hon, o', ho', hw⟩ hd
    rw [ho] at ho'; cases ho'
    rcases hw with ⟨h1, h2⟩ | h
    · have hd' : dom ρ x := by unfold dom at *; rw [r2old x (by omega)] at hd; exact hd
      obtain ⟨l, hl⟩ := Option.isSome_iff_exists.1 hd'
      exact .inl ⟨h1, hWK x ⟨hon, h2⟩ (dom_some (res_some.2 ⟨h1, hl⟩)), hd', hon, h2⟩
    · exact .inr h
  have lemA : ∀ x j, j ≤ ops.length → Wr P ops los Es Hs on i x → dom ρ2 x → Cut (Wr P ops los Es Hs on) (fun j => S j ∨ j = i) j x → i < j ∧ (Hs j).get x = (Hs (i + 1)).get x := by
    intro x j hj hw hd hc
    have hij : i < j := (hc i hw).1 (.inr rfl)
    refine ⟨hij, D.keep_range hij hj ?_ fun k h1 h2 h3 => ?_⟩
    · rcases hWdom x hw hd with ⟨h, _⟩ | ⟨_, h⟩ <;> omega
    · have hSk : S k := by
        rcases (hc k h3).2 h2 with h | h
        · exact h
        · omega
      refine later x hw (fun hx => ?_) k (by omega) hSk h3
      rcases hWdom x hw hd with ⟨_, _, h, _⟩ | ⟨h, _⟩
      · exact h
      · omega
  have lemB : ∀ x j, ¬ Wr P ops los Es Hs on i x → Cut (Wr P ops los Es Hs on) (fun j => S j ∨ j = i) j x → Cut (Wr P ops los Es Hs on) S j x := by
    intro x j hw hc k hk
    rw [← hc k hk]
    constructor
    · exact .inl
    · rintro (h | h)
      · exact h
      · subst h; exact absurd hk hw
  have newWr : ∀ x, (Hs i).next ≤ x → x < (Hs (i + 1)).next → Wr P ops los Es Hs on i x := by
    intro x h1 h2
    cases hon : on i with
    | true => exact ⟨hon, o, ho, .inr ⟨h1, h2⟩⟩
    | false =>
      have := ((D.facts i o ho).off hon).2
      rw [this] at h2; omega
  have nwOld : ∀ x, ¬ Wr P ops los Es Hs on i x → ρ2 x = ρ x := fun x h => r2old x fun h' => h (newWr x h'.1 h'.2)
  -- what is known of what the operation wrote
  have relK : ∀ x l, Wr P ops los Es Hs on i x → ρ2 x = some l → (K x ∨ ((Hs i).next ≤ x ∧ (ρ' x).isSome = true)) ∧ ρ' x = some l := by
    intro x l hw hx
    rcases hWdom x hw (dom_some hx) with ⟨h1, h2, _⟩ | ⟨h1, h2⟩
    · refine ⟨.inl h2, ?_⟩
      rw [r2old x (by omega)] at hx
      rw [hst.agree x h1]
      exact res_some.2 ⟨h1, hx⟩
    · rw [r2new x h1 h2] at hx
      exact ⟨.inr ⟨h1, by rw [hx]; rfl⟩, hx⟩
  -- blocks that the operation leaves
  have quietB : ∀ x l j, j ≤ ops.length → ¬ Wr P ops los Es Hs on i x → ρ x = some l → (Hs j).get x ≠ none → Cut (Wr P ops los Es Hs on) S j x → w'.heap[l.blk]? = w.heap[l.blk]? := by
    intro x l j hj hw hx ha hc
    refine hst.frame l.blk (I.domS x l hx).1 fun y ly hy hya hly he => ?_
    have hky := hWK y hy (dom_some hly)
    have hly' := (res_some.1 hly)
    have := I.inj y x i j ly l (Nat.le_of_lt hi) hj (hKcut y hky) hc hly'.2 hx hya ha he
    subst this
    exact hw ⟨hy.1, o, ho, .inl ⟨hly'.1, hy.2⟩⟩
  refine hn ρ2 _ w' ?_
  refine ⟨?_, ?_, ?_, ?_, ?_, ?_, ?_, ?_, ?_, ?_, ?_, ?_, ?_, ?_, ⟨hst.env.1.trans I.env.1, hst.env.2.trans I.env.2⟩, fun b hl hb => hst.melt b (Nat.lt_of_lt_of_le hl I.size) (I.melt b hl hb)⟩
  · rintro k (h | rfl)
    · exact I.lt k h
    · exact hi
  · rintro k p (h | rfl) hp e h1 h2
    · exact .inl (I.closed k p h hp e h1 h2)
    · rw [ho] at hp; cases hp
      exact .inl (hel e h1 h2)
  · intro x hx
    rw [r2old x (by omega)]; exact I.old x hx
  · intro x l hx
    by_cases h : (Hs i).next ≤ x ∧ x < (Hs (i + 1)).next
    · rw [r2new x h.1 h.2] at hx
      exact ⟨(hst.rel.dom x l hx).2, .inr ⟨i, .inr rfl, h⟩⟩
    · rw [r2old x h] at hx
      obtain ⟨h1, h2⟩ := I.domS x l hx
      exact ⟨Nat.lt_of_lt_of_le h1 hst.size, h2.imp id fun ⟨k, h3, h4⟩ => ⟨k, .inl h3, h4⟩⟩
  · rintro k x (h | rfl) h1 h2
    · obtain ⟨l, hl⟩ := I.full k x h h1 h2
      exact ⟨l, e2 x l hl⟩
    · obtain ⟨l, hl⟩ := hst.full x h1 h2
      exact ⟨l, e1 x l hl⟩
  · rintro k p (h | rfl) hp hw y hy v hv x hx
    · obtain ⟨l, hl⟩ := Option.isSome_iff_exists.1 (I.hand k p h hp hw y hy v hv x hx)
      exact dom_some (e2 x l hl)
    · rw [ho] at hp; cases hp
      obtain ⟨l, h1, _⟩ := hKdom x (.inr ⟨y, hy, v, hv, hx⟩)
      exact dom_some (e2 x l h1)
  · rw [put_size]; exact I.tsize
  · rw [put_defs]; exact I.tdefs
  · -- temporaries
    intro t j u hj hc hu
    by_cases hd : o.dst = some t
    · have hij : i < j := (hc i o ho hd).1 (.inr rfl)
      have hnone : ∀ k p, i + 1 ≤ k → k < j → ops[k]? = some p → p.dst ≠ some t := by
        intro k p h1 h2 hp hpd
        have hSk : S k := by
          rcases (hc k p hp hpd).2 h2 with h | h
          · exact h
          · omega
        have h3 := (D.plan.pair k i p o (by omega) hp ho (unb k hSk)).1
        exact ((tmpsApart_spec h3).1 t hpd).2 hd
      rw [D.env_keep hij hj hnone, (D.facts i o ho).env, hd, lookE_put_eq] at hu
      cases hu
      rw [hd, eval_put_eq]
      · exact (hv.mono e1').mono (res_ext ρ2 (D.next_mono hij hj))
      · have hb := (D.facts i o ho).bd
        rw [hd] at hb
        exact Nat.lt_of_lt_of_le (by simpa [bound] using hb) I.tsize
    · have hc' : CutT ops S j t := by
        intro k p hp hpd
        rw [← hc k p hp hpd]
        constructor
        · exact .inl
        · rintro (h | rfl)
          · exact h
          · rw [ho] at hp; cases hp; exact absurd hpd hd
      have := I.val t j u hj hc' hu
      have e : (a.put o.dst v').eval (.tmp t) = a.eval (.tmp t) := by
        cases hod : o.dst with
        | none => rfl
        | some d => exact eval_put_ne fun e' => hd (by rw [hod, e'])
      rw [e]
      exact this.mono (res_mono e2 _)
  · -- contents
    intro x j l ob hj hc hx hob
    by_cases hw : Wr P ops los Es Hs on i x
    · obtain ⟨hij, hg⟩ := lemA x j hj hw (dom_some hx) hc
      rw [hg] at hob
      obtain ⟨hk, hx'⟩ := relK x l hw hx
      obtain ⟨l', h1, h2, h3⟩ := hst.rel.fit x ob hk hob
      rw [hx'] at h1; cases h1
      exact ⟨h2.mono (e1'.trans (res_ext ρ2 (D.next_mono hij hj))), h3⟩
    · rw [nwOld x hw] at hx
      have hc' := lemB x j hw hc
      obtain ⟨h1, h2⟩ := I.cont x j l ob hj hc' hx hob
      have hq := quietB x l j hj hw hx (by rw [hob]; simp) hc'
      refine ⟨(h1.mono (res_mono e2 _)).same hq, fun hb => ?_⟩
      have := h2 hb
      unfold thawed at *
      rw [hq]; exact this
  · -- one block, one id
    intro x y jx jy lx ly hjx hjy hcx hcy hx hy hax hay he
    -- what was not written, against what is alive ahead of the operation
    have mixed : ∀ x y jx jy lx ly, jx ≤ ops.length → jy ≤ ops.length → Wr P ops los Es Hs on i x → ¬ Wr P ops los Es Hs on i y →
        Cut (Wr P ops los Es Hs on) (fun j => S j ∨ j = i) jx x → Cut (Wr P ops los Es Hs on) (fun j => S j ∨ j = i) jy y → ρ2 x = some lx → ρ2 y = some ly →
        (Hs jx).get x ≠ none → (Hs jy).get y ≠ none → lx.blk = ly.blk → False := by
      intro x y jx jy lx ly hjx hjy hwx hwy hcx hcy hx hy hax hay he
      obtain ⟨_, hg⟩ := lemA x jx hjx hwx (dom_some hx) hcx
      rw [hg] at hax
      have hcy' := lemB y jy hwy hcy
      rw [nwOld y hwy] at hy
      rcases hWdom x hwx (dom_some hx) with ⟨h1, h2, _, _⟩ | ⟨h1, h2⟩
      · have hx' : ρ x = some lx := by rw [r2old x (by omega)] at hx; exact hx
        have := I.inj x y i jy lx ly (Nat.le_of_lt hi) hjy (hKcut x h2) hcy' hx' hy (hst.alive x h1 hax) hay he
        subst this; exact hwy hwx
      · rw [r2new x h1 h2] at hx
        rcases hst.newb x lx h1 hx with h | ⟨z, lz, hz, hza, hlz, hzb⟩
        · have := (I.domS y ly hy).1; omega
        · have hkz := hWK z hz (dom_some hlz)
          have hlz' := res_some.1 hlz
          have := I.inj z y i jy lz ly (Nat.le_of_lt hi) hjy (hKcut z hkz) hcy' hlz'.2 hy hza hay (hzb.trans he)
          subst this
          exact hwy ⟨hz.1, o, ho, .inl ⟨hlz'.1, hz.2⟩⟩
    by_cases hwx : Wr P ops los Es Hs on i x
    · by_cases hwy : Wr P ops los Es Hs on i y
      · obtain ⟨_, hgx⟩ := lemA x jx hjx hwx (dom_some hx) hcx
        obtain ⟨_, hgy⟩ := lemA y jy hjy hwy (dom_some hy) hcy
        rw [hgx] at hax
        rw [hgy] at hay
        obtain ⟨hkx, hx'⟩ := relK x lx hwx hx
        obtain ⟨hky, hy'⟩ := relK y ly hwy hy
        obtain ⟨ox, hox⟩ := Option.ne_none_iff_exists'.1 hax
        obtain ⟨oy, hoy⟩ := Option.ne_none_iff_exists'.1 hay
        exact hst.rel.inj x y ox oy lx ly hkx hky hox hoy hx' hy' he
      · exact (mixed x y jx jy lx ly hjx hjy hwx hwy hcx hcy hx hy hax hay he).elim
    · by_cases hwy : Wr P ops los Es Hs on i y
      · exact (mixed y x jy jx ly lx hjy hjx hwy hwx hcy hcx hy hx hay hax he.symm).elim
      · rw [nwOld x hwx] at hx
        rw [nwOld y hwy] at hy
        exact I.inj x y jx jy lx ly hjx hjy (lemB x jx hwx hcx) (lemB y jy hwy hcy) hx hy hax hay he
  · exact Nat.le_trans I.size hst.size
  · intro b hb hh
    rw [← I.frame b hb hh]
    refine hst.frame b (Nat.lt_of_lt_of_le hb I.size) fun y ly hy hya hly he => ?_
    have hly' := res_some.1 hly
    have hlo : lo ≤ y := Nat.le_trans (D.loLe i o ho) hy.2.1
    rcases Nat.lt_or_ge y (Hs 0).next with h | h
    · exact hh y ly hlo (D.alive (Nat.le_of_lt hi) h hya) (by rw [← I.old y h]; exact hly'.2) he
    · rcases I.newb y ly h hly'.2 with h1 | ⟨j, lj, h1, h2, h3, h4⟩
      · omega
      · exact hh j lj h1 h2 h3 (h4.trans he)
  · intro x l hx0 hx
    by_cases h : (Hs i).next ≤ x ∧ x < (Hs (i + 1)).next
    · rw [r2new x h.1 h.2] at hx
      rcases hst.newb x l h.1 hx with h1 | ⟨j, lj, hj, hja, hlj, hjb⟩
      · exact .inl (Nat.le_trans I.size h1)
      · have hlj' := res_some.1 hlj
        rcases Nat.lt_or_ge j (Hs 0).next with h1 | h1
        · exact .inr ⟨j, lj, Nat.le_trans (D.loLe i o ho) hj.2.1, D.alive (Nat.le_of_lt hi) h1 hja, by rw [← I.old j h1]; exact hlj'.2, hjb⟩
        · rw [← hjb]; exact I.newb j lj h1 hlj'.2
    · rw [r2old x h] at hx
      exact I.newb x l hx0 hx
end
end Go.Ev
