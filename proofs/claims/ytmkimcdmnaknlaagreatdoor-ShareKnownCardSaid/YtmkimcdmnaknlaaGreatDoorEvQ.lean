/- A region whose order is drawn: what may be swapped.
   Conditions: none. -/
import Derived.Test.YtmkimcdmnaknlaaGreatDoorEvP
namespace Go.Ev

def res (ρ : Map) (n : Nat) : Map := fun x => if x < n then ρ x else none
theorem res_some {ρ : Map} {n x : Nat} {l : Loc} : res ρ n x = some l ↔ x < n ∧ ρ x = some l := by
  unfold res
  by_cases h : x < n <;> simp [h]
theorem res_ext (ρ : Map) {n m : Nat} (h : n ≤ m) : Ext (res ρ n) (res ρ m) := fun _ _ hi => by
  rw [res_some] at hi ⊢; exact ⟨by omega, hi.2⟩
theorem res_sub (ρ : Map) (n : Nat) : Ext (res ρ n) ρ := fun _ _ hi => (res_some.1 hi).2
theorem res_mono {ρ ρ' : Map} (h : Ext ρ ρ') (n : Nat) : Ext (res ρ n) (res ρ' n) := fun _ _ hi => by
  rw [res_some] at hi ⊢; exact ⟨hi.1, h _ _ hi.2⟩
theorem Ext.trans {ρ ρ' ρ'' : Map} (h : Ext ρ ρ') (h' : Ext ρ' ρ'') : Ext ρ ρ'' := fun _ _ hi => h' _ _ (h _ _ hi)

/-- an operation writes a block, or makes it -/
def Wr (P : Program) (ops : List Oper) (los : Nat → Nat) (Es : Nat → Env) (Hs : Nat → AH) (on : Nat → Bool) (i x : Nat) : Prop :=
  on i = true ∧ ∃ o, ops[i]? = some o ∧ ((x < (Hs i).next ∧ touchW P (Es i) (los i) o.op x) ∨ ((Hs i).next ≤ x ∧ x < (Hs (i + 1)).next))

/-- an operation looks at a block, or writes it -/
def Touch (P : Program) (E : Env) (o : Oper) (x : Nat) : Prop :=
  isCall (classOf o.op) = true ∨ ∃ y ∈ handles o.op, ∃ v, evx P E y = some v ∧ x ∈ idsOf v

/-- the trace of a region whose order is drawn -/
structure DC (P : Program) (base lo nt : Nat) (ops : List Oper) (bs : List Nat) (Es : Nat → Env) (Hs : Nat → AH) (vs : Nat → Value) (on : Nat → Bool) (los : Nat → Nat) : Prop where
  plan : PlanOk ops bs
  hb : bs = befores ops []
  loLe : ∀ i o, ops[i]? = some o → lo ≤ los i
  facts : ∀ i o, ops[i]? = some o → Facts P base (los i) nt ops o (Es i) (Hs i) (vs i) (Es (i + 1)) (Hs (i + 1)) (on i)
  pure : ∀ i o, ops[i]? = some o → Pure P (los i) o (Es i) (Hs i) (Hs (i + 1)) (on i)
  quiet : ∀ i o, ops[i]? = some o → (rowAt ops bs i).quiet = true → los i = (Hs i).next
  dis : ∀ i o, ops[i]? = some o → ∃ a b, idsAll P (Es i) (rowAt ops bs i).apart = some a ∧ idsAll P (Es i) (rowAt ops bs i).own = some b ∧ disjoint a b = true

theorem handles_call {o : Op} (h : isCall (classOf o) = true) : handles o = [] := by
  cases o <;> first | rfl | exact nomatch (show false = true from h) | skip
  rename_i c
  obtain ⟨callee, args, ts⟩ := c
  cases callee <;> first | rfl | skip
  rename_i b
  cases b <;> first | rfl | exact nomatch (show false = true from h)
theorem handles_none {o : Op} (h : (classOf o).touches = false) : handles o = [] := by
  cases o <;> first | rfl | exact nomatch (show true = false from h) | skip
  rename_i c
  obtain ⟨callee, args, ts⟩ := c
  cases callee <;> first | rfl | exact nomatch (show true = false from h) | skip
  rename_i b
  cases b <;> first | rfl | exact nomatch (show true = false from h)

theorem names_mem {xs : List Operand} {d : Tmp} (h : names xs (some d) = false) : Operand.tmp d ∉ xs := by
  intro hm
  have : names xs (some d) = true := List.any_eq_true.2 ⟨_, hm, Nat.beq_refl d⟩
  rw [h] at this; cases this

theorem idsAll_mem {P : Program} {E : Env} : ∀ {xs : List Operand} {l : List (List Nat)}, idsAll P E xs = some l → ∀ {x : Operand} {v : Value}, x ∈ xs → evx P E x = some v → idsOf v ∈ l
  | [], _, _, _, _, hx, _ => by cases hx
  | y :: xs, l, h, x, v, hx, hv => by
    unfold idsAll at h
    obtain ⟨u, hu, h1⟩ := withX_eq h
    obtain ⟨l', hl', h2⟩ := withX_eq h1
    cases h2
    cases hx with
    | head => rw [hv] at hu; cases hu; exact List.mem_cons_self ..
    | tail _ hm => exact List.mem_cons_of_mem _ (idsAll_mem hl' hm hv)

theorem disjoint_no {a b : List (List Nat)} (h : disjoint a b = true) {s t : List Nat} (hs : s ∈ a) (ht : t ∈ b) {x : Nat} (h1 : x ∈ s) (h2 : x ∈ t) : False := by
  unfold disjoint at h
  have := List.all_eq_true.1 (List.all_eq_true.1 (List.all_eq_true.1 (List.all_eq_true.1 h s hs) t ht) x h1) x h2
  rw [Nat.beq_refl] at this; cases this

section
variable {P : Program} {base lo nt : Nat} {ops : List Oper} {bs : List Nat} {Es : Nat → Env} {Hs : Nat → AH} {vs : Nat → Value} {on : Nat → Bool} {los : Nat → Nat}

theorem DC.next_mono (D : DC P base lo nt ops bs Es Hs vs on los) {i j : Nat} (h : i ≤ j) (hj : j ≤ ops.length) : (Hs i).next ≤ (Hs j).next := by
  induction j with
  | zero => have : i = 0 := by omega
            subst this; exact Nat.le_refl _
  | succ j ih =>
    rcases Nat.lt_or_ge j i with h1 | h1
    · have : i = j + 1 := by omega
      subst this; exact Nat.le_refl _
    · exact Nat.le_trans (ih h1 (by omega)) (D.pure j _ (List.getElem?_eq_getElem (by omega))).next

theorem DC.keep_range (D : DC P base lo nt ops bs Es Hs vs on los) {i j x : Nat} (h : i ≤ j) (hj : j ≤ ops.length) (hx : x < (Hs i).next)
    (hw : ∀ k, i ≤ k → k < j → ¬ Wr P ops los Es Hs on k x) : (Hs j).get x = (Hs i).get x := by
  induction j with
  | zero => have : i = 0 := by omega
            subst this; rfl
  | succ j ih =>
    rcases Nat.lt_or_ge j i with h1 | h1
    · have : i = j + 1 := by omega
      subst this; rfl
    · have ho : ops[j]? = some ops[j] := List.getElem?_eq_getElem (by omega)
      have hlt := Nat.lt_of_lt_of_le hx (D.next_mono h1 (by omega))
      rw [(D.pure j _ ho).keep x hlt fun hon ht => hw j h1 (by omega) ⟨hon, _, ho, .inl ⟨hlt, ht⟩⟩]
      exact ih h1 (by omega) fun k h2 h3 => hw k h2 (by omega)

theorem DC.new_one (D : DC P base lo nt ops bs Es Hs vs on los) {i j x : Nat} (hi : i < ops.length) (hj : j < ops.length) (h1 : (Hs i).next ≤ x) (h2 : x < (Hs (i + 1)).next)
    (h3 : (Hs j).next ≤ x) (h4 : x < (Hs (j + 1)).next) : i = j := by
  rcases Nat.lt_trichotomy i j with h | h | h
  · have := D.next_mono (i := i + 1) (j := j) h (by omega); omega
  · exact h
  · have := D.next_mono (i := j + 1) (j := i) h (by omega); omega

theorem DC.env_keep (D : DC P base lo nt ops bs Es Hs vs on los) {j i : Nat} (h : j ≤ i) (hi : i ≤ ops.length) {t : Tmp} (hd : ∀ k o, j ≤ k → k < i → ops[k]? = some o → o.dst ≠ some t) :
    lookE (Es i) t = lookE (Es j) t := by
  induction i with
  | zero => have : j = 0 := by omega
            subst this; rfl
  | succ i ih =>
    rcases Nat.lt_or_ge i j with h1 | h1
    · have : j = i + 1 := by omega
      subst this; rfl
    · have ho : ops[i]? = some ops[i] := List.getElem?_eq_getElem (by omega)
      rw [(D.facts i _ ho).env, lookE_put_ne (hd i _ h1 (by omega) ho)]
      exact ih h1 (by omega) fun k o h2 h3 => hd k o h2 (by omega)

/-- the handles of an elder operation name what they named -/
theorem DC.handle_keep (D : DC P base lo nt ops bs Es Hs vs on los) {i j : Nat} {p : Oper} (h : j < i) (hi : i ≤ ops.length) (hp : ops[j]? = some p) {y : Operand} (hy : y ∈ handles p.op) :
    evx P (Es i) y = evx P (Es j) y := by
  cases y with
  | tmp t =>
    show lookE (Es i) t = lookE (Es j) t
    refine D.env_keep (Nat.le_of_lt h) hi fun k o h1 h2 ho hd => ?_
    rcases Nat.lt_or_ge j k with h3 | h3
    · have := D.plan.apart k j o p h3 ho hp
      rw [hd] at this
      exact names_mem this hy
    · have : k = j := by omega
      subst this
      rw [hp] at ho; cases ho
      have := D.plan.own k p hp
      rw [hd] at this
      exact names_mem this hy
  | _ => rfl

theorem clAt_eq {i : Nat} {o : Oper} (h : ops[i]? = some o) : clAt ops i = classOf o.op := by
  unfold clAt; rw [nth_eq, h]

theorem free_of {i j : Nat} (h : i ≠ j) (h1 : behind bs i j = false) (h2 : behind bs j i = false) : freeAt bs i j = true := by
  unfold freeAt; rw [beqf h, h1, h2]; rfl

/-- two operations that write, or read and write, through handles name other blocks -/
theorem DC.c1 (D : DC P base lo nt ops bs Es Hs vs on los) {i j : Nat} {o p : Oper} (h : j < i) (ho : ops[i]? = some o) (hp : ops[j]? = some p) (hf : behind bs i j = false)
    (hpair : pairOf (classOf o.op) (classOf p.op) = some true) {y y' : Operand} {u v : Value} {x : Nat} (hy : y ∈ handles p.op) (hu : evx P (Es j) y = some u)
    (hy' : y' ∈ handles o.op) (hv : evx P (Es i) y' = some v) (hx : x ∈ idsOf u) (hx' : x ∈ idsOf v) : False := by
  have hi := (List.getElem?_eq_some_iff.1 ho).1
  have hb2 : behind bs j i = false := by
    cases hb : behind bs j i with
    | false => rfl
    | true => exact absurd (behind_lt D.hb D.plan _ _ hb) (by omega)
  have hag : j ∈ againstAt ops bs i := by
    unfold againstAt
    rw [List.mem_filter, List.mem_range]
    refine ⟨h, ?_⟩
    rw [free_of (by omega) hf hb2, clAt_eq ho, clAt_eq hp, hpair]; rfl
  obtain ⟨a, b, h1, h2, h3⟩ := D.dis i o ho
  have hap : y ∈ (rowAt ops bs i).apart := by
    show y ∈ (againstAt ops bs i).flatMap (handlesAt ops)
    refine List.mem_flatMap.2 ⟨j, hag, ?_⟩
    unfold handlesAt; rw [nth_eq, hp]; exact hy
  have how : y' ∈ (rowAt ops bs i).own := by
    show y' ∈ cond (againstAt ops bs i).isEmpty [] (handlesAt ops i)
    have : (againstAt ops bs i).isEmpty = false := by
      cases hl : againstAt ops bs i with
      | nil => rw [hl] at hag; cases hag
      | cons => rfl
    rw [this]
    unfold handlesAt; rw [nth_eq, ho]; exact hy'
  exact disjoint_no h3 (idsAll_mem h1 hap (by rw [D.handle_keep h (by omega) hp hy]; exact hu)) (idsAll_mem h2 how hv) hx hx'

/-- a call beside what touches memory, or made a block ahead, is a quiet one -/
theorem DC.hush (D : DC P base lo nt ops bs Es Hs vs on los) {i j : Nat} {o p : Oper} (hij : i ≠ j) (ho : ops[i]? = some o) (hp : ops[j]? = some p) (h1 : behind bs i j = false) (h2 : behind bs j i = false)
    (hc : isCall (classOf o.op) = true) (ht : (classOf p.op).touches = true ∨ (j < i ∧ makes p.op = true)) : los i = (Hs i).next := by
  refine D.quiet i o ho ?_
  show (isCall (clAt ops i) && (List.range ops.length).any _) = true
  rw [clAt_eq ho, hc, Bool.true_and]
  refine List.any_eq_true.2 ⟨j, List.mem_range.2 (List.getElem?_eq_some_iff.1 hp).1, ?_⟩
  rw [free_of hij h1 h2, clAt_eq hp]
  rcases ht with h | ⟨h, h'⟩
  · rw [h]; rfl
  · have e1 : Nat.blt j i = true := by rw [Nat.blt_eq]; exact h
    have e2 : makesAt ops j = true := by unfold makesAt; rw [nth_eq, hp]; exact h'
    rw [e1, e2]; simp

theorem call_touches {c : Class} (h : isCall c = true) : c.touches = true := by cases c <;> first | rfl | cases h
theorem wr_touches {c : Class} (h : isWr c = true) : c.touches = true := by cases c <;> first | rfl | cases h

theorem Touch.touches {E : Env} {o : Oper} {x : Nat} (h : Touch P E o x) : (classOf o.op).touches = true := by
  rcases h with h | ⟨y, hy, _⟩
  · exact call_touches h
  · cases hc : (classOf o.op).touches with
    | true => rfl
    | false => rw [handles_none hc] at hy; cases hy

theorem DC.pairs (D : DC P base lo nt ops bs Es Hs vs on los) {i j : Nat} {o p : Oper} (hij : i ≠ j) (ho : ops[i]? = some o) (hp : ops[j]? = some p) (h1 : behind bs i j = false) (h2 : behind bs j i = false) :
    (j < i ∧ ∃ b, pairOf (classOf o.op) (classOf p.op) = some b) ∨ (i < j ∧ ∃ b, pairOf (classOf p.op) (classOf o.op) = some b) := by
  rcases Nat.lt_trichotomy i j with h | h | h
  · exact .inr ⟨h, (D.plan.pair j i p o h hp ho h2).2⟩
  · exact absurd h hij
  · exact .inl ⟨h, (D.plan.pair i j o p h ho hp h1).2⟩

/-- what one operation touches, another one in no order against it does not write -/
theorem DC.conf (D : DC P base lo nt ops bs Es Hs vs on los) {i j x : Nat} {o p : Oper} (hij : i ≠ j) (ho : ops[i]? = some o) (hp : ops[j]? = some p) (h1 : behind bs i j = false) (h2 : behind bs j i = false)
    (ht : Touch P (Es i) o x) (hx : x < (Hs j).next) (hw : touchW P (Es j) (los j) p.op x) : False := by
  have htt := ht.touches
  obtain ⟨hlo, hw⟩ := hw
  have hpr := D.pairs hij ho hp h1 h2
  rcases hw with hc | ⟨hwr, y, hy, v, hv, hxv⟩
  · have := D.hush (Ne.symm hij) hp ho h2 h1 hc (.inl htt)
    omega
  · have hcp : classOf p.op = .wr := by cases hcc : classOf p.op <;> rw [hcc] at hwr <;> first | rfl | cases hwr
    rcases ht with hc | ⟨y', hy', v', hv', hx'⟩
    · have hco : classOf o.op = .call := by cases hcc : classOf o.op <;> rw [hcc] at hc <;> first | rfl | cases hc
      rw [hcp, hco] at hpr
      rcases hpr with ⟨_, b, hb⟩ | ⟨_, b, hb⟩ <;> cases hb
    · have hco : classOf o.op = .rd ∨ classOf o.op = .wr := by
        cases hcc : classOf o.op with
        | none => rw [hcc] at htt; cases htt
        | rd => exact .inl rfl
        | wr => exact .inr rfl
        | call =>
          have := handles_call (o := o.op) (by rw [hcc]; rfl)
          rw [this] at hy'; cases hy'
      rcases hpr with ⟨hlt, _⟩ | ⟨hlt, _⟩
      · refine D.c1 hlt ho hp h1 ?_ hy hv hy' hv' hxv hx'
        rw [hcp]; rcases hco with h | h <;> rw [h] <;> rfl
      · refine D.c1 hlt hp ho h2 ?_ hy' hv' hy hv hx' hxv
        rw [hcp]; rcases hco with h | h <;> rw [h] <;> rfl

/-- a call does not write what an elder operation, in no order against it, made -/
theorem DC.conf_new (D : DC P base lo nt ops bs Es Hs vs on los) {i j x : Nat} {o p : Oper} (hij : i < j) (ho : ops[i]? = some o) (hp : ops[j]? = some p) (h2 : behind bs j i = false)
    (hx1 : (Hs i).next ≤ x) (hx2 : x < (Hs (i + 1)).next) (hc : isCall (classOf p.op) = true) (hlo : los j ≤ x) : False := by
  have hj := (List.getElem?_eq_some_iff.1 hp).1
  have h1 : behind bs i j = false := by
    cases hb : behind bs i j with
    | false => rfl
    | true => exact absurd (behind_lt D.hb D.plan _ _ hb) (by omega)
  have hlt := D.next_mono (i := i + 1) (j := j) hij (by omega)
  cases htt : (classOf o.op).touches with
  | true =>
    have := D.hush (by omega) hp ho h2 h1 hc (.inl htt)
    omega
  | false =>
    cases hm : makes o.op with
    | true =>
      have := D.hush (by omega) hp ho h2 h1 hc (.inr ⟨hij, hm⟩)
      omega
    | false =>
      have := (D.facts i o ho).still htt hm
      rw [this] at hx2; omega
end
end Go.Ev
