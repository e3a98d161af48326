/- One operation of the evaluator is the model's.
   Conditions: none. -/
import Derived.Test.YtmkimcdmnaknlaaGreatDoorEvK
namespace Go.Ev
section
variable {P : Program} {base : Nat} {W K : Nat → Prop} {ρ : Map} {H : AH} {w : World}

theorem evx_rel {E : Env} {ev : Operand → Value} (hE : ∀ t v, lookE E t = some v → VRel ρ v (ev (.tmp t))) (hc : ∀ v, ev (.const v) = v) (hg : ∀ g, ev (.global g) = .pointer (some ⟨g, 0, none⟩))
    (hf : ∀ f, ev (.func f) = .func (.func f) #[] #[]) (hglob : ∀ g, g < P.globals.size → ∃ l, ρ g = some l ∧ l.blk = g ∧ l.sh = 0) : XRel P ρ E ev := by
  intro x v h
  cases x with
  | tmp t => exact hE t v h
  | const c =>
    obtain ⟨hp, h'⟩ := need_eq h
    cases h'
    rw [hc]; exact VRel.plain hp
  | global g =>
    obtain ⟨hlt, h'⟩ := need_eq h
    cases h'
    rw [Nat.blt_eq] at hlt
    obtain ⟨l, h1, h2, h3⟩ := hglob g hlt
    rw [hg]
    have := VRel.ptr (ρ := ρ) (off := 0) h1
    rwa [h2, h3] at this
  | func f =>
    cases h
    rw [hf]; exact .func .nil .nil

theorem evxs_rel {E : Env} {ev : Operand → Value} (hX : XRel P ρ E ev) : ∀ {xs : List Operand} {vs : List Value}, evxs P E xs = some vs → LRel ρ vs (xs.map ev)
  | [], vs, h => by cases h; exact .nil
  | x :: xs, vs, h => by
    obtain ⟨v, hv, h1⟩ := withX_eq h
    obtain ⟨l, hl, h2⟩ := withX_eq h1
    cases h2
    exact .cons (hX _ _ hv) (evxs_rel hX hl)

/-- what an operation does is what the evaluator tells -/
def OpOk (P : Program) (base : Nat) (W K : Nat → Prop) (ρ : Map) (H : AH) (w : World) (a : Act) (o : Oper) (v : Value) (H' : AH) : Prop :=
  ∀ (next : Act → World → Prop) (Q : Exit → Act → World → Prop), (∀ v' ρ' w', VRel ρ' v v' → Step P base W K ρ H w ρ' H' w' → next (a.put o.dst v') w') → o.wp P a w next Q

theorem OpOk.value {a : Act} {o : Oper} {v v' : Value} {ρ' : Map} {H' : AH} {w' : World} (hr : (execOp a.eval o).run P w = .ok (.value v') w') (hv : VRel ρ' v v') (hs : Step P base W K ρ H w ρ' H' w') :
    OpOk P base W K ρ H w a o v H' := by
  intro next Q hn
  unfold Oper.wp
  rw [hr]
  exact hn _ _ _ hv hs
theorem OpOk.skip {a : Act} {o : Oper} {ρ' : Map} {H' : AH} {w' : World} (hr : (execOp a.eval o).run P w = .ok .skip w') (hs : Step P base W K ρ H w ρ' H' w') :
    OpOk P base W K ρ H w a o undef H' := by
  intro next Q hn
  unfold Oper.wp
  rw [hr]
  exact hn _ _ _ .undef hs

/-- a call of the evaluator is the model's -/
def CallOk (P : Program) (base : Nat) (call : CallF) : Prop :=
  ∀ lo f args H v H', base ≤ lo → call lo f args H = some (v, H') →
    (∃ fn, P.funcs[f]? = some fn ∧ fn.body.isNone = false ∧ (fn.name == "runtime.NumGoroutine") = false) ∧
    ∀ ρ w args', HRel P base (dom ρ) ρ H w → LRel ρ args args' →
      Calls P f args'.toArray w fun e w' => ∃ v' ρ', e = .returned v' ∧ VRel ρ' v v' ∧ Step P base (fun i => lo ≤ i) (dom ρ) ρ H w ρ' H' w'

def isWr : Class → Bool
  | .wr => true
  | _ => false
/-- the blocks that an operation may write -/
def touchW (P : Program) (E : Env) (lo : Nat) (o : Op) : Nat → Prop :=
  fun i => lo ≤ i ∧ (isCall (classOf o) = true ∨ (isWr (classOf o) = true ∧ ∃ x ∈ handles o, ∃ v, evx P E x = some v ∧ i ∈ idsOf v))
/-- the blocks that must be known -/
def touchK (P : Program) (E : Env) (ρ : Map) (o : Op) (K : Nat → Prop) : Prop :=
  (∀ x ∈ handles o, ∀ v, evx P E x = some v → ∀ i ∈ idsOf v, K i) ∧ (isCall (classOf o) = true → K = dom ρ)

theorem evBin_run {β : Type} {op : BinOp} {t : TypeId} {ox oy : Operand} {x y : Value} {k : Value → Option β} {r : β} (h : evBin P op t x y k = some r) :
    ∃ u, k u = some r ∧ ∀ (ρ : Map) (x' y' : Value), VRel ρ x x' → VRel ρ y y' → ∀ w : World,
      (eqGuard op t ox oy x' y').run P w = .ok () w ∧ (binOp op t x' y').run P w = .ok u w ∧ flat u = true := by
  have same : ∀ {ρ : Map} {x y x' y' : Value}, (∃ k a k' b, x = .int k a ∧ y = .int k' b) → VRel ρ x x' → VRel ρ y y' → x' = x ∧ y' = y := by
    rintro ρ x y x' y' ⟨k, a, k', b, rfl, rfl⟩ hx hy
    exact ⟨hx.int_eq, hy.int_eq⟩
  have i2 : ∀ {γ : Type} {x y : Value} {f : IntKind → Int → Int → Option γ} {u : γ}, ints2 x y f = some u → ∃ k a k' b, x = .int k a ∧ y = .int k' b := by
    intro γ x y f u hu
    obtain ⟨k, a, b, rfl, rfl, _⟩ := ints2_eq hu
    exact ⟨k, a, k, b, rfl, rfl⟩
  have num : ∀ {x y u : Value}, (∃ k a k' b, x = .int k a ∧ y = .int k' b) → (∀ w : World, (binOp op t x y).run P w = .ok u w ∧ flat u = true) → ∀ (ρ : Map) (x' y' : Value), VRel ρ x x' → VRel ρ y y' → ∀ w : World,
      (eqGuard op t ox oy x' y').run P w = .ok () w ∧ (binOp op t x' y').run P w = .ok u w ∧ flat u = true := by
    rintro x y u hxy hr ρ x' y' hx hy w
    obtain ⟨rfl, rfl⟩ := same hxy hx hy
    obtain ⟨k, a, k', b, rfl, rfl⟩ := hxy
    exact ⟨by rw [eqGuard_at_int]; rfl, hr w⟩
  have shift : ∀ {f : Value → Value → Option Value} {x y u : Value}, (f = evShl ∨ f = evShr) → f x y = some u → ∃ k a k' b, x = .int k a ∧ y = .int k' b := by
    rintro f x y u (rfl | rfl) hu
    · unfold evShl at hu
      split at hu
      · split at hu
        · exact ⟨_, _, _, _, rfl, rfl⟩
        · cases hu
      · cases hu
    · unfold evShr at hu
      split at hu
      · split at hu
        · exact ⟨_, _, _, _, rfl, rfl⟩
        · cases hu
      · cases hu
  unfold evBin at h
  cases op with
  | add => obtain ⟨u, hu, hk⟩ := bindV_eq h; exact ⟨u, hk, num (i2 hu) fun w => evAdd_run w t hu⟩
  | sub => obtain ⟨u, hu, hk⟩ := bindV_eq h; exact ⟨u, hk, num (i2 hu) fun w => evSub_run w t hu⟩
  | mul => obtain ⟨u, hu, hk⟩ := bindV_eq h; exact ⟨u, hk, num (i2 hu) fun w => evMul_run w t hu⟩
  | quo => obtain ⟨u, hu, hk⟩ := bindV_eq h; exact ⟨u, hk, num (i2 hu) fun w => evQuo_run w t hu⟩
  | rem => obtain ⟨u, hu, hk⟩ := bindV_eq h; exact ⟨u, hk, num (i2 hu) fun w => evRem_run w t hu⟩
  | and => obtain ⟨u, hu, hk⟩ := bindV_eq h; exact ⟨u, hk, num (i2 hu) fun w => evAnd_run w t hu⟩
  | or => obtain ⟨u, hu, hk⟩ := bindV_eq h; exact ⟨u, hk, num (i2 hu) fun w => evOr_run w t hu⟩
  | xor => obtain ⟨u, hu, hk⟩ := bindV_eq h; exact ⟨u, hk, num (i2 hu) fun w => evXor_run w t hu⟩
  | andNot => obtain ⟨u, hu, hk⟩ := bindV_eq h; exact ⟨u, hk, num (i2 hu) fun w => evAndNot_run w t hu⟩
  | shl => obtain ⟨u, hu, hk⟩ := bindV_eq h; exact ⟨u, hk, num (shift (.inl rfl) hu) fun w => evShl_run w t hu⟩
  | shr => obtain ⟨u, hu, hk⟩ := bindV_eq h; exact ⟨u, hk, num (shift (.inr rfl) hu) fun w => evShr_run w t hu⟩
  | lss => obtain ⟨u, hu, hk⟩ := bindV_eq h; exact ⟨u, hk, num (i2 hu) fun w => evLss_run w t hu⟩
  | leq => obtain ⟨u, hu, hk⟩ := bindV_eq h; exact ⟨u, hk, num (i2 hu) fun w => evLeq_run w t hu⟩
  | gtr => obtain ⟨u, hu, hk⟩ := bindV_eq h; exact ⟨u, hk, num (i2 hu) fun w => evGtr_run w t hu⟩
  | geq => obtain ⟨u, hu, hk⟩ := bindV_eq h; exact ⟨u, hk, num (i2 hu) fun w => evGeq_run w t hu⟩
  | eql =>
    obtain ⟨q, hq, hA⟩ := withX_eq h
    obtain ⟨u, hu, hk⟩ := bindV_eq hA
    unfold evEql at hu
    obtain ⟨b, hb, hB⟩ := withX_eq hu
    cases hB
    refine ⟨_, hk, fun ρ x' y' hx hy w => ?_⟩
    obtain ⟨h1, h2, _⟩ := evEqB_run hq hb hx hy w ox oy
    exact ⟨h1 _, h2, rfl⟩
  | neq =>
    obtain ⟨q, hq, hA⟩ := withX_eq h
    obtain ⟨u, hu, hk⟩ := bindV_eq hA
    unfold evNeq at hu
    obtain ⟨b, hb, hB⟩ := withX_eq hu
    cases hB
    refine ⟨_, hk, fun ρ x' y' hx hy w => ?_⟩
    obtain ⟨h1, _, h2⟩ := evEqB_run hq hb hx hy w ox oy
    exact ⟨h1 _, h2, rfl⟩

theorem evUn_run {β : Type} {op : UnOp} {x : Value} {k : Value → Option β} {r : β} (h : evUn op x k = some r) :
    ∃ u, k u = some r ∧ ∀ (ρ : Map) (x' : Value), VRel ρ x x' → ∀ w : World, (Op.unary op x').run P w = .ok u w ∧ flat u = true := by
  unfold evUn at h
  cases op with
  | neg =>
    obtain ⟨u, hu, hk⟩ := bindV_eq h
    unfold evNeg at hu
    split at hu
    · cases hu
      refine ⟨_, hk, fun ρ x' hx w => ?_⟩
      cases hx
      simp [Op.unary, Op.intArith, wrapF_eq, flat]; exact congrArg _ (Int.zero_sub _).symm
    · cases hu
  | xor =>
    obtain ⟨u, hu, hk⟩ := bindV_eq h
    unfold evInv at hu
    split at hu
    · cases hu
      refine ⟨_, hk, fun ρ x' hx w => ?_⟩
      cases hx
      refine ⟨?_, rfl⟩
      rename_i k n _
      have e : (cond k.signed (-1) k.max) = (if k.signed then -1 else k.max) := by cases k.signed <;> rfl
      simp only [Op.unary, Op.intBits, Sem.run_pure, wrapF_eq, bitsOf_eq, e, BitVec.toNat_xor]; rfl
    · cases hu
  | not =>
    obtain ⟨u, hu, hk⟩ := bindV_eq h
    unfold evNot at hu
    split at hu
    · cases hu
      refine ⟨_, hk, fun ρ x' hx w => ?_⟩
      cases hx
      simp [Op.unary, flat]
    · cases hu
  | plus => cases h
end
end Go.Ev
