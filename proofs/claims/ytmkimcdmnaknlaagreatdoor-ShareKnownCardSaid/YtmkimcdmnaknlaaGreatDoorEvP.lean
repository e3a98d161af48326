/- The plan of a region whose order is drawn: what it tells.
   Conditions: none. -/
import Derived.Test.YtmkimcdmnaknlaaGreatDoorEvO
namespace Go.Ev

noncomputable def maskOf (o : Oper) (l : List Nat) : Nat :=
  o.after.toList.foldl (fun s e => cond (Region.binds .any e) (Nat.lor (Nat.lor s (2 ^ e.on)) ((nth l e.on).getD 0)) s) 0

theorem befores_spec : ∀ (rest : List Oper) (acc : List Nat), ∃ l, befores rest acc = acc.reverse ++ l ∧
    ∀ i o, rest[i]? = some o → l[i]? = some (maskOf o (acc.reverse ++ l.take i))
  | [], acc => ⟨[], by simp [befores], fun i o h => by simp at h⟩
  | o :: rest, acc => by
    obtain ⟨l, h1, h2⟩ := befores_spec rest (maskOf o acc.reverse :: acc)
    refine ⟨maskOf o acc.reverse :: l, ?_, ?_⟩
    · have : befores (o :: rest) acc = befores rest (maskOf o acc.reverse :: acc) := rfl
      rw [this, h1]; simp
    · intro i o' ho
      cases i with
      | zero => simp at ho; subst ho; simp
      | succ i =>
        have := h2 i o' (by simpa using ho)
        simpa using this

theorem mask_bit (l : List Nat) (j : Nat) : ∀ (es : List Edge) (s : Nat),
    Nat.testBit (es.foldl (fun s e => cond (Region.binds .any e) (Nat.lor (Nat.lor s (2 ^ e.on)) ((nth l e.on).getD 0)) s) s) j = true ↔
      Nat.testBit s j = true ∨ ∃ e ∈ es, Region.binds .any e = true ∧ (j = e.on ∨ Nat.testBit ((nth l e.on).getD 0) j = true)
  | [], s => by simp
  | e :: es, s => by
    rw [List.foldl_cons, mask_bit l j es]
    cases hb : Region.binds .any e with
    | false =>
      simp only [cond_false, List.mem_cons]
      constructor
      · rintro (h | ⟨e', h1, h2⟩)
        · exact .inl h
        · exact .inr ⟨e', .inr h1, h2⟩
      · rintro (h | ⟨e', rfl | h1, h2⟩)
        · exact .inl h
        · rw [hb] at h2; cases h2.1
        · exact .inr ⟨e', h1, h2⟩
    | true =>
      have h1 : Nat.testBit (Nat.lor (Nat.lor s (2 ^ e.on)) ((nth l e.on).getD 0)) j = true ↔ (Nat.testBit s j = true ∨ j = e.on) ∨ Nat.testBit ((nth l e.on).getD 0) j = true := by
        show Nat.testBit ((s ||| 2 ^ e.on) ||| ((nth l e.on).getD 0)) j = true ↔ _
        rw [Nat.testBit_or, Nat.testBit_or, Nat.testBit_two_pow]
        rw [Bool.or_eq_true, Bool.or_eq_true, decide_eq_true_eq]
        constructor
        · rintro ((h | h) | h)
          · exact .inl (.inl h)
          · exact .inl (.inr h.symm)
          · exact .inr h
        · rintro ((h | h) | h)
          · exact .inl (.inl h)
          · exact .inl (.inr h.symm)
          · exact .inr h
      rw [cond_true, h1]
      simp only [List.mem_cons]
      constructor
      · rintro (((h | h) | h) | ⟨e', h2, h3⟩)
        · exact .inl h
        · exact .inr ⟨e, .inl rfl, hb, .inl h⟩
        · exact .inr ⟨e, .inl rfl, hb, .inr h⟩
        · exact .inr ⟨e', .inr h2, h3⟩
      · rintro (h | ⟨e', rfl | h2, h3⟩)
        · exact .inl (.inl (.inl h))
        · rcases h3.2 with h | h
          · exact .inl (.inl (.inr h))
          · exact .inl (.inr h)
        · exact .inr ⟨e', h2, h3⟩

/-- what is checked of a region -/
structure PlanOk (ops : List Oper) (bs : List Nat) : Prop where
  back : ∀ (i : Nat) (o : Oper), ops[i]? = some o → ∀ e ∈ o.after, Region.binds .any e = true → e.on < i
  own : ∀ (i : Nat) (o : Oper), ops[i]? = some o → names (handles o.op) o.dst = false
  apart : ∀ (i j : Nat) (o p : Oper), j < i → ops[i]? = some o → ops[j]? = some p → names (handles p.op) o.dst = false
  pair : ∀ (i j : Nat) (o p : Oper), j < i → ops[i]? = some o → ops[j]? = some p → behind bs i j = false → tmpsApart ops o p = true ∧ ∃ b, pairOf (classOf o.op) (classOf p.op) = some b

theorem planOk {ops : List Oper} {bs : List Nat} (h : (planOf ops bs).ok = true) : PlanOk ops bs := by
  have h0 : ∀ (i : Nat) (o : Oper), ops[i]? = some o → okAt ops bs i = true := fun i o ho => by
    have h1 : (List.range ops.length).all (okAt ops bs) = true := h
    exact List.all_eq_true.1 h1 i (List.mem_range.2 (List.getElem?_eq_some_iff.1 ho).1)
  have h2 : ∀ (i : Nat) (o : Oper), ops[i]? = some o → names (handles o.op) o.dst = false ∧ (∀ e ∈ o.after, Region.binds .any e = true → e.on < i) ∧
      ∀ (j : Nat) (p : Oper), j < i → ops[j]? = some p → names (handles p.op) o.dst = false ∧ (behind bs i j = true ∨ (tmpsApart ops o p = true ∧ (pairOf (classOf o.op) (classOf p.op)).isSome = true)) := by
    intro i o ho
    have := h0 i o ho
    unfold okAt at this
    rw [nth_eq, ho] at this
    simp only [Bool.and_eq_true, Bool.not_eq_true', List.all_eq_true, Bool.or_eq_true, List.mem_range] at this
    obtain ⟨⟨h3, h4⟩, h5⟩ := this
    refine ⟨h3, fun e he hb => ?_, fun j p hj hp => ?_⟩
    · rcases h4 e (by simpa using he) with h | h
      · rw [hb] at h; cases h
      · rw [Nat.blt_eq] at h; exact h
    · have h6 := h5 j hj
      rw [nth_eq, hp] at h6
      simpa using h6
  refine ⟨fun i o ho => (h2 i o ho).2.1, fun i o ho => (h2 i o ho).1, fun i j o p hj ho hp => ((h2 i o ho).2.2 j p hj hp).1, fun i j o p hj ho hp hb => ?_⟩
  rcases ((h2 i o ho).2.2 j p hj hp).2 with h | ⟨h3, h4⟩
  · rw [hb] at h; cases h
  · exact ⟨h3, Option.isSome_iff_exists.1 h4⟩

section
variable {ops : List Oper} {bs : List Nat}

theorem behind_iff (hb : bs = befores ops []) (hp : PlanOk ops bs) {i : Nat} {o : Oper} (ho : ops[i]? = some o) (j : Nat) :
    behind bs i j = true ↔ ∃ e ∈ o.after, Region.binds .any e = true ∧ (j = e.on ∨ behind bs e.on j = true) := by
  obtain ⟨l, h1, h2⟩ := befores_spec ops []
  simp only [List.reverse_nil, List.nil_append] at h1 h2
  have hl : bs = l := hb.trans h1
  subst hl
  have h3 := h2 i o ho
  have h4 : behind bs i j = Nat.testBit (maskOf o (bs.take i)) j := by unfold behind; rw [nth_eq, h3]; rfl
  rw [h4]
  unfold maskOf
  rw [mask_bit]
  simp only [Nat.zero_testBit, Bool.false_eq_true, false_or]
  constructor
  · rintro ⟨e, he, hb, h⟩
    have he' : e ∈ o.after := by simpa using he
    refine ⟨e, he', hb, h.imp id fun h => ?_⟩
    have hlt := hp.back i o ho e he' hb
    unfold behind
    rw [nth_eq, List.getElem?_take, if_pos hlt] at h
    rw [nth_eq]; exact h
  · rintro ⟨e, he, hb, h⟩
    refine ⟨e, by simpa using he, hb, h.imp id fun h => ?_⟩
    have hlt := hp.back i o ho e he hb
    unfold behind at h
    rw [nth_eq, List.getElem?_take, if_pos hlt]
    rw [nth_eq] at h; exact h

theorem behind_some (hb : bs = befores ops []) {i j : Nat} (h : behind bs i j = true) : ∃ o, ops[i]? = some o := by
  obtain ⟨l, h1, h2⟩ := befores_spec ops []
  simp only [List.reverse_nil, List.nil_append] at h1 h2
  have hl : bs = l := hb.trans h1
  subst hl
  cases ho : ops[i]? with
  | some o => exact ⟨o, rfl⟩
  | none =>
    exfalso
    have hlen : ∀ (rest : List Oper) (acc : List Nat), (befores rest acc).length = rest.length + acc.length := by
      intro rest
      induction rest with
      | nil => intro acc; simp [befores]
      | cons o rest ih =>
        intro acc
        have : befores (o :: rest) acc = befores rest (maskOf o acc.reverse :: acc) := rfl
        rw [this, ih]; simp; omega
    have h3 := hlen ops []
    rw [← hb] at h3
    have h4 : bs[i]? = none := by
      rw [List.getElem?_eq_none_iff] at ho ⊢
      simp at h3; omega
    unfold behind at h
    rw [nth_eq, h4] at h
    simp at h

theorem behind_lt (hb : bs = befores ops []) (hp : PlanOk ops bs) : ∀ (i j : Nat), behind bs i j = true → j < i := by
  intro i
  induction i using Nat.strongRecOn with
  | _ i ih =>
    intro j h
    obtain ⟨o, ho⟩ := behind_some hb h
    obtain ⟨e, he, hbd, h1⟩ := (behind_iff hb hp ho j).1 h
    have h2 := hp.back i o ho e he hbd
    rcases h1 with rfl | h1
    · exact h2
    · exact Nat.lt_trans (ih e.on h2 j h1) h2

/-- what is done is closed -/
theorem behind_closed (hb : bs = befores ops []) (hp : PlanOk ops bs) {S : Nat → Prop} (hS : ∀ (i : Nat) (o : Oper), S i → ops[i]? = some o → ∀ e ∈ o.after, Region.binds .any e = true → S e.on) :
    ∀ (i j : Nat) (o : Oper), ops[i]? = some o → (∀ e ∈ o.after, Region.binds .any e = true → S e.on) → behind bs i j = true → S j := by
  intro i
  induction i using Nat.strongRecOn with
  | _ i ih =>
    intro j o ho he h
    obtain ⟨e, h1, h2, h3⟩ := (behind_iff hb hp ho j).1 h
    have h4 := he e h1 h2
    rcases h3 with rfl | h3
    · exact h4
    · obtain ⟨p, hp'⟩ := behind_some hb h3
      exact ih e.on (hp.back i o ho e h1 h2) j p hp' (fun e' h5 h6 => hS _ p h4 hp' e' h5 h6) h3
end

/-- the operations of a region whose order is drawn -/
theorem evOpsD_trace {P : Program} {base nt : Nat} {β : Type} {call : CallF} {lo : Nat} {ops : List Oper} {k : Env → AH → Option β} {r : β} (hcall : CallOk P base call) (hlo : base ≤ lo) :
    ∀ {rest : List Oper} {rows : List Row} {E : Env} {H : AH}, evOpsD P call lo nt ops rest rows E H k = some r →
      ∃ (Es : Nat → Env) (Hs : Nat → AH) (vs : Nat → Value) (on : Nat → Bool), Es 0 = E ∧ Hs 0 = H ∧
        (∀ (i : Nat) (o : Oper), rest[i]? = some o → ∃ row, rows[i]? = some row ∧ lo ≤ (cond row.quiet (Hs i).next lo) ∧
          (∃ a b, idsAll P (Es i) row.apart = some a ∧ idsAll P (Es i) row.own = some b ∧ disjoint a b = true) ∧
          Facts P base (cond row.quiet (Hs i).next lo) nt ops o (Es i) (Hs i) (vs i) (Es (i + 1)) (Hs (i + 1)) (on i)) ∧ k (Es rest.length) (Hs rest.length) = some r
  | [], rows, E, H, h => ⟨fun _ => E, fun _ => H, fun _ => undef, fun _ => true, rfl, rfl, fun i o h => by simp at h, by unfold evOpsD at h; exact h⟩
  | o :: rest, rows, E, H, h => by
    unfold evOpsD at h
    split at h
    · cases h
    · rename_i row rows
      obtain ⟨hb, hA⟩ := cond_none_eq h
      obtain ⟨a, ha, hB⟩ := withX_eq hA
      obtain ⟨b, hb', hC⟩ := withX_eq hB
      obtain ⟨hd, hD⟩ := need_eq hC
      obtain ⟨hq, hE⟩ := need_eq hD
      have hle : lo ≤ cond row.quiet H.next lo := by
        cases hr : row.quiet with
        | true => rw [hr] at hq; exact le_of_ble' hq
        | false => exact Nat.le_refl _
      obtain ⟨v, H', on, hk, hf⟩ := evGuarded_facts hcall (Nat.le_trans hlo hle) hb hE
      obtain ⟨Es, Hs, vs, on', h1, h2, h3, h4⟩ := evOpsD_trace hcall hlo hk
      refine ⟨fun | 0 => E | i + 1 => Es i, fun | 0 => H | i + 1 => Hs i, fun | 0 => v | i + 1 => vs i, fun | 0 => on | i + 1 => on' i, rfl, rfl, ?_, h4⟩
      intro i o' ho
      cases i with
      | zero =>
        simp at ho; subst ho
        refine ⟨row, rfl, hle, ⟨a, b, ha, hb', hd⟩, ?_⟩
        simp only [h1, h2]; exact hf
      | succ i =>
        obtain ⟨row', h5, h6⟩ := h3 i o' (by simpa using ho)
        exact ⟨row', by simpa using h5, h6⟩
end Go.Ev
