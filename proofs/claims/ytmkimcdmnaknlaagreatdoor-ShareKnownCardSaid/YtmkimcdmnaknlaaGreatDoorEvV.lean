/- The evaluator's code, functions and calls are the model's.
   Conditions: none. -/
import Derived.Test.YtmkimcdmnaknlaaGreatDoorEvU
namespace Go.Ev

theorem zip_cons (t : Tmp) (ts : List Tmp) (v : Value) (S : V ts) : zipE (t :: ts) (v, S) = (t, v) :: zipE ts S := rfl

theorem zip_some : ∀ (keep : List Tmp) (S : V keep) (t : Tmp), t ∈ keep → (lookE (zipE keep S) t).isSome = true
  | [], _, _, h => by cases h
  | s :: ts, (v, S), t, h => by
    rw [zip_cons, lookE_cons]
    by_cases e : s = t
    · rw [if_pos e]; rfl
    · rw [if_neg e]
      cases h with
      | head => exact absurd rfl e
      | tail _ hm => exact zip_some ts S t hm

theorem zip_mkV {E : Env} : ∀ (keep : List Tmp), (∀ t ∈ keep, (lookE E t).isSome = true) → ∀ (t : Tmp) (v : Value), lookE (zipE keep (mkV E keep)) t = some v → lookE E t = some v
  | [], _, t, v, h => by cases h
  | s :: ts, hk, t, v, h => by
    have e : zipE (s :: ts) (mkV E (s :: ts)) = (s, (lookE E s).getD undef) :: zipE ts (mkV E ts) := rfl
    rw [e, lookE_cons] at h
    by_cases e : s = t
    · rw [if_pos e] at h
      cases h
      subst e
      obtain ⟨u, hu⟩ := Option.isSome_iff_exists.1 (hk s (List.mem_cons_self ..))
      rw [hu]; rfl
    · rw [if_neg e] at h
      exact zip_mkV ts (fun t ht => hk t (List.mem_cons_of_mem _ ht)) t v h

theorem zip_init {args : List Value} : ∀ (keep : List Tmp) (t : Tmp) (v : Value), lookE (zipE keep (initV args keep)) t = some v → v = argAt args t
  | [], t, v, h => by cases h
  | s :: ts, t, v, h => by
    have e : zipE (s :: ts) (initV args (s :: ts)) = (s, argAt args s) :: zipE ts (initV args ts) := rfl
    rw [e, lookE_cons] at h
    by_cases e : s = t
    · rw [if_pos e] at h; cases h; subst e; rfl
    · rw [if_neg e] at h; exact zip_init ts t v h

theorem TRel.keep {nt : Nat} {ρ : Map} {E : Env} {a : Act} {keep : List Tmp} (h : TRel nt ρ E a) (hk : ∀ t ∈ keep, (lookE E t).isSome = true) : TRel nt ρ (zipE keep (mkV E keep)) a :=
  ⟨h.size, h.defs, fun t v hv => h.val t v (zip_mkV keep hk t v hv)⟩

def exOf : Ex → Exit
  | .normal => .normal
  | .exit id => .exit id
  | .ret => .ret

section
variable {P : Program} {base : Nat}

theorem Step.dom0 {W : Nat → Prop} {ρ ρ' : Map} {H H' : AH} {w w' : World} (h : Step P base W (dom ρ) ρ H w ρ' H' w') : HRel P base (dom ρ') ρ' H' w' := h.relDom

theorem leafE_eq {σ : Type} {f : σ → AH → (σ → AH → Ret σ) → Ret σ} {S : σ} {H : AH} : leafE f S H = f S H fun S H => some (.normal, S, H) := rfl

/-- what code does -/
def CodeOk (P : Program) (base lo nt : Nat) (keep : List Tmp) (c : Code) (f : Piece (V keep)) : Prop :=
  ∀ {S : V keep} {H : AH} {e : Ex} {S' : V keep} {H' : AH}, f S H = some (e, S', H') → ∀ (ρ : Map) (a : Act) (w : World) (Q : Exit → Act → World → Prop),
    HRel P base (dom ρ) ρ H w → TRel nt ρ (zipE keep S) a →
    (∀ ρ' a' w', TRel nt ρ' (zipE keep S') a' → Step P base (fun i => lo ≤ i) (dom ρ) ρ H w ρ' H' w' → Q (exOf e) a' w') → c.wp P Q a w

variable {lo nt : Nat} {keep : List Tmp}

theorem seq_ok {c d : Code} {f g : Piece (V keep)} (hc : CodeOk P base lo nt keep c f) (hd : CodeOk P base lo nt keep d g) : CodeOk P base lo nt keep (.seq c d) (seqE f g) := by
  intro S H e S' H' h ρ a w Q hH hT hQ
  have h : Option.rec (motive := fun _ => Ret (V keep)) none (fun p => Ex.casesOn (motive := fun _ => Ret (V keep)) p.1 (g p.2.1 p.2.2) (fun _ => some p) (some p)) (f S H) = some (e, S', H') := h
  cases hf : f S H with
  | none => rw [hf] at h; cases h
  | some p =>
    obtain ⟨e1, S1, H1⟩ := p
    rw [hf] at h
    apply wp_seq
    refine hc hf ρ a w _ hH hT fun ρ' a' w' hT' hs => ?_
    cases e1 with
    | normal =>
      exact hd h ρ' a' w' Q hs.relDom hT' fun ρ2 a2 w2 hT2 hs2 => hQ ρ2 a2 w2 hT2 (hs.then (fun i l hl => (hH.dom i l hl).1) hs2 fun _ _ h => h)
    | exit id => cases h; exact hQ ρ' a' w' hT' hs
    | ret => cases h; exact hQ ρ' a' w' hT' hs

theorem block_ok {id : Nat} {c : Code} {f : Piece (V keep)} (hc : CodeOk P base lo nt keep c f) : CodeOk P base lo nt keep (.block id c) (blockE id f) := by
  intro S H e S' H' h ρ a w Q hH hT hQ
  have h : Option.rec (motive := fun _ => Ret (V keep)) none (fun p => Ex.casesOn (motive := fun _ => Ret (V keep)) p.1 (some p) (fun id' => cond (Nat.beq id' id) (some (.normal, p.2)) (some p)) (some p)) (f S H) = some (e, S', H') := h
  cases hf : f S H with
  | none => rw [hf] at h; cases h
  | some p =>
    obtain ⟨e1, S1, H1⟩ := p
    rw [hf] at h
    apply wp_block
    refine hc hf ρ a w _ hH hT fun ρ' a' w' hT' hs => ?_
    cases e1 with
    | normal => cases h; exact hQ ρ' a' w' hT' hs
    | exit id' =>
      have h : cond (Nat.beq id' id) (some (Ex.normal, S1, H1)) (some (Ex.exit id', S1, H1)) = some (e, S', H') := h
      by_cases hid : id' = id
      · rw [beqt hid] at h
        cases h
        show (if id' = id then _ else _)
        rw [if_pos hid]; exact hQ ρ' a' w' hT' hs
      · rw [beqf hid] at h
        cases h
        show (if id' = id then _ else _)
        rw [if_neg hid]; exact hQ ρ' a' w' hT' hs
    | ret => cases h; exact hQ ρ' a' w' hT' hs

theorem loop_ok {c : Code} {f : Piece (V keep)} (hc : CodeOk P base lo nt keep c f) (fuel : Nat) : CodeOk P base lo nt keep (.loop c) (loopE f fuel) := by
  intro S H e S' H' h ρ a w Q hH hT hQ
  refine wp_loop_rounds fuel ?_
  have key : ∀ (n : Nat) (S : V keep) (H : AH) (ρ : Map) (a : Act) (w : World), loopE f n S H = some (e, S', H') → HRel P base (dom ρ) ρ H w → TRel nt ρ (zipE keep S) a →
      (∀ ρ' a' w', TRel nt ρ' (zipE keep S') a' → Step P base (fun i => lo ≤ i) (dom ρ) ρ H w ρ' H' w' → Q (exOf e) a' w') → Code.rounds P c Q n a w := by
    intro n
    induction n with
    | zero => intro S H ρ a w h; cases h
    | succ n ih =>
      intro S H ρ a w h hH hT hQ
      have h : Option.rec (motive := fun _ => Ret (V keep)) none (fun p => Ex.casesOn (motive := fun _ => Ret (V keep)) p.1 (loopE f n p.2.1 p.2.2) (fun _ => some p) (some p)) (f S H) = some (e, S', H') := h
      rw [rounds_succ]
      cases hf : f S H with
      | none => rw [hf] at h; cases h
      | some p =>
        obtain ⟨e1, S1, H1⟩ := p
        rw [hf] at h
        refine hc hf ρ a w _ hH hT fun ρ' a' w' hT' hs => ?_
        cases e1 with
        | normal =>
          exact ih S1 H1 ρ' a' w' h hs.relDom hT' fun ρ2 a2 w2 hT2 hs2 => hQ ρ2 a2 w2 hT2 (hs.then (fun i l hl => (hH.dom i l hl).1) hs2 fun _ _ h => h)
        | exit id => cases h; exact hQ ρ' a' w' hT' hs
        | ret => cases h; exact hQ ρ' a' w' hT' hs
  exact key fuel S H ρ a w h hH hT hQ

theorem code_ok {call : CallF} (hcall : CallOk P base call) (hm : P.follows .mixedOrders = true) (hlo : base ≤ lo) (fuel : Nat) : ∀ (c : Code), CodeOk P base lo nt keep c (evCode P call fuel lo nt keep c) := by
  intro c
  induction c with
  | skip =>
    intro S H e S' H' h ρ a w Q hH hT hQ
    cases h
    exact wp_skip (hQ ρ a w hT (Step.refl hH))
  | label l =>
    intro S H e S' H' h ρ a w Q hH hT hQ
    cases h
    exact wp_label (hQ ρ a w hT (Step.refl hH))
  | ret =>
    intro S H e S' H' h ρ a w Q hH hT hQ
    cases h
    exact wp_ret (hQ ρ a w hT (Step.refl hH))
  | exit id =>
    intro S H e S' H' h ρ a w Q hH hT hQ
    cases h
    exact wp_exit (hQ ρ a w hT (Step.refl hH))
  | region id ops draw =>
    intro S H e S' H' h ρ a w Q hH hT hQ
    obtain ⟨E1, H1, h1, h2, h3⟩ := region_wp hcall hm hlo (h : evRegion P call lo nt ops.toList draw (zipE keep S) H (fun E H => some (Ex.normal, mkV E keep, H)) = some (e, S', H'))
    cases h1
    have := h3 ρ a w id Q hH hT fun ρ' a' w' hT' hs => hQ ρ' a' w' (hT'.keep fun t ht => h2 t (zip_some keep S t ht)) hs
    simpa using this
  | seq c d hc hd => exact seq_ok hc hd
  | cond x c d hc hd =>
    intro S H e S' H' h ρ a w Q hH hT hQ
    obtain ⟨v, hv, hA⟩ := bindV_eq (h : bindV (evx P (zipE keep S) x) _ = some (e, S', H'))
    split at hA
    · rename_i t
      have h1 := ((hT.xrel hH) _ _ hv).bool_eq
      refine wp_cond h1 ?_
      cases t with
      | true => exact hc hA ρ a w Q hH hT hQ
      | false => exact hd hA ρ a w Q hH hT hQ
    · cases hA
  | block id c hc => exact block_ok hc
  | loop c hc => exact loop_ok hc fuel
  | scope c hc =>
    intro S H e S' H' h ρ a w Q hH hT hQ
    refine wp_scope_straight (hc h ρ a w _ hH hT fun ρ' a' w' hT' hs => ?_)
    have := hQ ρ' a' w' hT' hs
    cases e <;> exact this
  | rangeFunc f ps x c _ _ => intro S H e S' H' h; cases h
  | goto l => intro S H e S' H' h; cases h
  | refuse s => intro S H e S' H' h; cases h

def resG (tmps : Array Value) : ResultVar → Sem Value
  | .tmp t => pure (tmps.getD t undef)
  | .cell x t => do loadVar t (← asAddr (tmps.getD x undef))
theorem results_eq (fn : Func) (tmps : Array Value) : results fn tmps = (do
    let vs ← fn.results.mapM (resG tmps)
    pure (if h : vs.size = 1 then vs[0] else .tuple vs)) := by
  have e : (fun r => match r with
    | ResultVar.tmp t => (pure (tmps.getD t undef) : Sem Value)
    | .cell a t => do loadVar t (← asAddr (tmps.getD a undef))) = resG tmps := by
    funext r; cases r <;> rfl
  rw [← e]; rfl

theorem results_ok {ρ : Map} {H : AH} {w : World} (hH : HRel P base (dom ρ) ρ H w) {E : Env} {a : Act} (hT : TRel nt ρ E a) : ∀ {β : Type} {rs : List ResultVar} {k : List Value → Option β} {r : β}, evResults P E H rs k = some r →
    ∃ vs vs', k vs = some r ∧ (rs.mapM (resG a.tmps)).run P w = .ok vs' w ∧ LRel ρ vs vs'
  | _, [], k, r, h => ⟨[], [], h, by simp, .nil⟩
  | _, .tmp t :: rs, k, r, h => by
    obtain ⟨v, hv, hA⟩ := withX_eq h
    obtain ⟨vs, vs', h1, h2, h3⟩ := results_ok hH hT hA
    refine ⟨v :: vs, a.eval (.tmp t) :: vs', h1, ?_, .cons (hT.val t v hv) h3⟩
    rw [List.mapM_cons]
    simp only [resG, Sem.run_bind, Sem.run_pure, Result.andThen]
    rw [h2]
    rfl
  | _, .cell x t :: rs, k, r, h => by
    obtain ⟨v, hv, hA⟩ := withX_eq h
    obtain ⟨i, hi, hB⟩ := withX_eq hA
    obtain ⟨u, hu, hC⟩ := bindV_eq hB
    obtain ⟨vs, vs', h1, h2, h3⟩ := results_ok hH hT hC
    have hv' := hT.val x v hv
    obtain ⟨u', h4, h5⟩ := evLoad_run hi hu hv' hH hv'.ids
    refine ⟨u :: vs, u' :: vs', h1, ?_, .cons h5 h3⟩
    obtain ⟨j, off, rfl, _⟩ := withPtr_eq hu
    obtain ⟨l, hl, he⟩ := hv'.ptr_eq
    have he' : asAddr (a.tmps.getD x undef) = pure ⟨l.blk, l.sh + off, none⟩ := by
      rw [show a.tmps.getD x undef = .pointer (some ⟨l.blk, l.sh + off, none⟩) from he]; rfl
    rw [he] at h4
    rw [List.mapM_cons]
    simp only [resG, Sem.run_bind, he', Sem.run_pure, Result.andThen]
    simp only [Instr.loadAt, Instr.sureAddr, Sem.run_bind, Sem.run_pure, Result.andThen] at h4
    rw [h4]
    simp only
    rw [h2]

theorem oneOf_rel {ρ : Map} {vs vs' : List Value} (h : LRel ρ vs vs') : VRel ρ (oneOf vs) (if h : vs'.toArray.size = 1 then vs'.toArray[0] else .tuple vs'.toArray) := by
  cases h with
  | nil => exact .tuple .nil
  | cons h1 t =>
    cases t with
    | nil => exact h1
    | cons h2 t => exact .tuple (.cons h1 (.cons h2 t))

/-- a function's body -/
theorem body_calls {call : CallF} (hcall : CallOk P base call) (hm : P.follows .mixedOrders = true) (hlo : base ≤ lo) {fuel : Nat} {f : FuncId} {fn : Func} {c : Code} (hf : P.funcs[f]? = some fn) (hb : fn.body = some c)
    {args : List Value} {H H' : AH} {v : Value} (h : evBody P call fuel lo fn.ntmps keep c fn.results.toList args H = some (v, H')) {ρ : Map} {w : World} {args' : List Value}
    (hH : HRel P base (dom ρ) ρ H w) (ha : LRel ρ args args') :
    Calls P f args'.toArray w fun e w' => ∃ v' ρ', e = .returned v' ∧ VRel ρ' v v' ∧ Step P base (fun i => lo ≤ i) (dom ρ) ρ H w ρ' H' w' := by
  obtain ⟨⟨e, S', H1⟩, h1, h2⟩ := bindV_eq h
  refine calls_of_wp hf hb ?_
  have hT : TRel fn.ntmps ρ (zipE keep (initV args keep)) { tmps := args'.toArray ++ Array.replicate (fn.ntmps - args'.toArray.size) undef, defers := [] } := by
    refine ⟨by simp; omega, rfl, fun t u hu => ?_⟩
    have hu := zip_init keep t u hu
    subst hu
    unfold argAt Act.eval
    rw [nth_eq]
    simp only [Array.getD_eq_getD_getElem?]
    cases hg : args[t]? with
    | some x =>
      obtain ⟨x', h3, h4⟩ := ha.get t x hg
      have h5 : t < args'.length := (List.getElem?_eq_some_iff.1 h3).1
      rw [Array.getElem?_append_left (by simpa using h5)]
      simp only [List.getElem?_toArray, h3, Option.getD_some]
      exact h4
    | none =>
      have h3 : args'.length ≤ t := by rw [← ha.length]; exact List.getElem?_eq_none_iff.1 hg
      rw [Array.getElem?_append_right (by simpa using h3)]
      simp only [Option.getD_none, Array.getElem?_replicate]
      split <;> exact .undef
  refine code_ok hcall hm hlo fuel c h1 ρ _ w _ hH hT fun ρ' a' w' hT' hs => ?_
  have fin : ∀ {r : Value × AH}, evResults P (zipE keep S') H1 fn.results.toList (fun vs => some (oneOf vs, H1)) = some r → r = (v, H') →
      a'.defers = [] ∧ ∃ u, (results fn a'.tmps).run P w' = .ok u w' ∧ ∃ v' ρ'', Ending.returned u = .returned v' ∧ VRel ρ'' v v' ∧ Step P base (fun i => lo ≤ i) (dom ρ) ρ H w ρ'' H' w' := by
    intro r hr he
    obtain ⟨vs, vs', h3, h4, h5⟩ := results_ok hs.relDom hT' hr
    subst he
    cases h3
    refine ⟨hT'.defs, _, ?_, _, ρ', rfl, oneOf_rel h5, hs⟩
    rw [results_eq, Array.mapM_eq_mapM_toList]
    simp only [map_eq_pure_bind, bind_assoc, pure_bind, Sem.run_bind]
    rw [h4]
    rfl
  cases e with
  | normal => exact fin h2 rfl
  | exit id => cases h2
  | ret => exact fin h2 rfl

theorem flat_same {ρ : Map} {v v' : Value} (h : VRel ρ v v') (hf : Ev.flat v = true) : v' = v := by
  cases h with
  | flat _ => rfl
  | _ => simp [Ev.flat] at hf
theorem flats_same {ρ : Map} : ∀ {l l' : List Value}, LRel ρ l l' → l.all Ev.flat = true → l' = l
  | _, _, .nil, _ => rfl
  | _, _, .cons h t, hf => by
    simp only [List.all_cons, Bool.and_eq_true] at hf
    rw [flat_same h hf.1, flats_same t hf.2]
theorem plain_same {ρ : Map} {v v' : Value} (h : VRel ρ v v') (hp : Ev.plain v = true) : v' = v := by
  unfold Ev.plain at hp
  split at hp
  · cases h with
    | flat _ => rfl
    | agg h => exact congrArg Value.agg (Array.toList_inj.1 (flats_same h hp))
  · cases h with
    | flat _ => rfl
    | tuple h => exact congrArg Value.tuple (Array.toList_inj.1 (flats_same h hp))
  · exact flat_same h hp

/-- one function, as it is called -/
theorem fn_ok {call : CallF} (hcall : CallOk P base call) (hm : P.follows .mixedOrders = true) (C : Ctx) : CallOk P base (evFn P C call) := by
  intro lo f args H v H' hlo h
  obtain ⟨fn, hfn, hA⟩ := withX_eq (h : withX (nth P.funcs.toList f) _ = some (v, H'))
  obtain ⟨c, hc, hB⟩ := withX_eq hA
  obtain ⟨hn, hC⟩ := need_eq hB
  rw [nth_eq, Array.getElem?_toList] at hfn
  refine ⟨⟨fn, hfn, by rw [hc]; rfl, by simpa using hn⟩, fun ρ w args' hH ha => ?_⟩
  cases hmode : C.mode f with
  | all =>
    rw [hmode] at hC
    exact body_calls hcall hm hlo hfn hc hC hH ha
  | pure =>
    rw [hmode] at hC
    obtain ⟨v1, H1, h1, h2⟩ := bindVH_eq (show bindVH (evBody P call C.fuel (lowOf .pure lo H) fn.ntmps (C.keep f) c fn.results.toList args H) (fun v _ => need (plain v) (some (v, H))) = some (v, H') from hC)
    obtain ⟨hp, h3⟩ := need_eq h2
    cases h3
    have hle : base ≤ lowOf .pure lo H ∧ H.next ≤ lowOf .pure lo H := by
      unfold lowOf
      cases hb : Nat.ble lo H.next with
      | true => exact ⟨Nat.le_trans hlo (le_of_ble' hb), Nat.le_refl _⟩
      | false => exact ⟨hlo, Nat.le_of_lt (lt_of_ble' hb)⟩
    refine Calls.mono (body_calls hcall hm hle.1 hfn hc h1 hH ha) fun e w' => ?_
    rintro ⟨v', ρ', rfl, hv, hs⟩
    have same : ∀ b, b < w.heap.size → w'.heap[b]? = w.heap[b]? := fun b hb => hs.frame b hb fun i l hi _ hl => absurd (hH.dom i l hl).1 (by omega)
    refine ⟨v', ρ, rfl, ?_, ?_⟩
    · rw [plain_same hv hp]; exact .plain hp
    · refine ⟨fun _ _ => rfl, Nat.le_refl _, ⟨?_, ?_, fun i l hl => ⟨(hH.dom i l hl).1, Nat.lt_of_lt_of_le (hH.dom i l hl).2 hs.size⟩, hH.glob⟩, hs.size, fun _ _ h => h, fun _ _ _ => rfl, fun b hb _ => same b hb,
        fun i l hi hl => absurd (hH.dom i l hl).1 (by omega), fun i h1 h2 => absurd h1 (by omega), hs.env, hs.melt⟩
      · intro i o hk ho
        have hk : dom ρ i := hk.elim id fun h => h.2
        obtain ⟨l, h4, h5, h6⟩ := hH.fit i o hk ho
        have e := same l.blk (hH.dom i l h4).2
        refine ⟨l, h4, h5.same e, fun hb => ?_⟩
        have := h6 hb
        unfold thawed at *
        rw [e]; exact this
      · intro i j oi oj li lj hi hj
        exact hH.inj i j oi oj li lj (hi.elim id fun h => h.2) (hj.elim id fun h => h.2)

theorem call_ok (hm : P.follows .mixedOrders = true) (C : Ctx) (table : Tr (CallF → FnF))
    (ht : ∀ f F, table.get f = some F → ∀ call lo args H, evFn P C call lo f args H = F call lo args H) : ∀ d, CallOk P base (sCall P C table d)
  | 0 => by intro lo f args H v H' _ h; cases h
  | d + 1 => by
    have ih := call_ok hm C table ht d
    have e : sCall P C table (d + 1) = evFn P C (sCall P C table d) := by
      funext lo f args H
      show Option.rec (motive := fun _ => Option (Value × AH)) (evFn P C (sCall P C table d) lo f args H) (fun F => F (sCall P C table d) lo args H) (table.get f) = _
      cases hg : table.get f with
      | none => rfl
      | some F => exact (ht f F hg _ _ _ _).symm
    rw [e]; exact fn_ok ih hm C

theorem table_get : ∀ (l : List (Nat × (CallF → FnF))) (t : Tr (CallF → FnF)) (f : Nat) (F : CallF → FnF), (tableOf l t).get f = some F → (f, F) ∈ l ∨ t.get f = some F
  | [], t, f, F, h => .inr h
  | r :: l, t, f, F, h => by
    rcases table_get l _ f F h with h | h
    · exact .inl (List.mem_cons_of_mem _ h)
    · rw [Tr.get_put] at h
      split at h
      · rename_i e
        cases h
        left; rw [e]; exact List.mem_cons_self ..
      · exact .inr h

theorem table_ok {C : Ctx} {l : List (Nat × (CallF → FnF))} (h : ∀ r ∈ l, ∀ call lo args H, evFn P C call lo r.1 args H = r.2 call lo args H) (f : Nat) (F : CallF → FnF)
    (hg : (tableOf l .leaf).get f = some F) : ∀ call lo args H, evFn P C call lo f args H = F call lo args H := by
  rcases table_get l .leaf f F hg with h1 | h1
  · exact h _ h1
  · cases h1
end
end Go.Ev
