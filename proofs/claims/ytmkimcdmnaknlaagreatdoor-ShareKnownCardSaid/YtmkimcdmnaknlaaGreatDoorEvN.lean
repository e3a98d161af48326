/- One operation of the evaluator is the model's: the theorem.
   Conditions: none. -/
import Derived.Test.YtmkimcdmnaknlaaGreatDoorEvM
namespace Go.Ev
section
variable {P : Program} {base : Nat} {ρ : Map} {H : AH} {w : World}

theorem LRel.array {l : List Value} {a : Array Value} (h : LRel ρ l a.toList) : LRel ρ l a.toList := h

theorem run_v {s : Sem Value} {w w' : World} {v : Value} (h : s.run P w = .ok v w') : (do pure (Next.value (← s)) : Sem Next).run P w = .ok (.value v) w' := by
  simp [h]
theorem run_u {s : Sem Unit} {w w' : World} (h : s.run P w = .ok () w') : (do s; pure Next.skip : Sem Next).run P w = .ok .skip w' := by
  simp [h]

theorem VRel.func_eq {fn : Fn} {f c : Array Value} {v' : Value} (h : VRel ρ (.func fn f c) v') : ∃ f' c', v' = .func fn f' c' ∧ LRel ρ f.toList f'.toList ∧ LRel ρ c.toList c'.toList := by
  cases h with
  | flat h => simp [Ev.flat] at h
  | func h h' => exact ⟨_, _, rfl, h, h'⟩
theorem VRel.tuple_eq {vs : Array Value} {v' : Value} (h : VRel ρ (.tuple vs) v') : ∃ vs', v' = .tuple vs' ∧ LRel ρ vs.toList vs'.toList := by
  cases h with
  | flat h => simp [Ev.flat] at h
  | tuple h => exact ⟨_, rfl, h⟩
theorem VRel.bool_eq {b : Bool} {v' : Value} (h : VRel ρ (.bool b) v') : v' = .bool b := by
  cases h; rfl

theorem parts_map {parts : Array (Nat × Operand)} {ev : Operand → Value} : (parts.map fun (i, x) => (i, ev x)) = (parts.toList.map fun p => (p.1, ev p.2)).toArray := by
  obtain ⟨l⟩ := parts; simp

theorem run_callFunc {g : FuncId} {fn : Func} (hfn : P.funcs[g]? = some fn) (hbody : fn.body.isNone = false) (hname : (fn.name == "runtime.NumGoroutine") = false) (args : Array Value) (w : World) :
    (callFunc g args).run P w = .ok (.enter g args) w := by
  have hp : (program).run P w = .ok P w := rfl
  unfold callFunc
  rw [Sem.run_bind, hp]
  simp only [Result.andThen, hfn, hname, hbody, Bool.false_eq_true, if_false]
  rfl

theorem evxs_congr {E E' : Env} : ∀ {xs : List Operand}, (∀ x ∈ xs, evx P E x = evx P E' x) → evxs P E xs = evxs P E' xs
  | [], _ => rfl
  | x :: xs, h => by
    unfold evxs
    rw [h x (by simp), evxs_congr fun y hy => h y (List.mem_cons_of_mem _ hy)]
theorem partsX_congr {E E' : Env} {place : Nat → Option (Nat × Nat)} : ∀ {xs : List (Nat × Operand)}, (∀ x ∈ xs.map (·.2), evx P E x = evx P E' x) → partsX P E place xs = partsX P E' place xs
  | [], _ => rfl
  | (i, x) :: xs, h => by
    unfold partsX
    rw [h x (by simp), partsX_congr fun y hy => h y (by simp at hy ⊢; exact .inr hy)]
theorem boundX_congr {E E' : Env} {x : Option Operand} (h : ∀ y, x = some y → evx P E y = evx P E' y) : boundX P E x = boundX P E' x := by
  cases x with
  | none => rfl
  | some y =>
    show withX (evx P E y) _ = withX (evx P E' y) _
    rw [h y rfl]

/-- an operation looks at its operands alone -/
theorem evOper_congr {β : Type} {call : CallF} {lo : Nat} {E E' : Env} {k : Value → AH → Option β} {o : Op} (h : ∀ x ∈ o.operands, evx P E x = evx P E' x) :
    evOper P call lo E H o k = evOper P call lo E' H o k := by
  cases o <;> unfold evOper <;> simp only [Op.operands] at h ⊢ <;> try rfl
  case build t parts =>
    have e : ∀ place, partsX P E place parts.toList = partsX P E' place parts.toList := fun place => partsX_congr fun x hx => h x (by simpa using hx)
    unfold opBuild; simp only [e]
  case buildSlice t n parts =>
    have e : ∀ place, partsX P E place parts.toList = partsX P E' place parts.toList := fun place => partsX_congr fun x hx => h x (by simpa using hx)
    unfold opBuildSlice; simp only [e]
  case makeFunc fn first captured =>
    rw [evxs_congr (xs := first.toList) fun x hx => h x (by simp at hx ⊢; exact .inl hx), evxs_congr (xs := captured.toList) fun x hx => h x (by simp at hx ⊢; exact .inr hx)]
  case makeMap t r =>
    cases r with
    | none => rfl
    | some x => simp only; rw [h x (by simp)]
  case slice t x l hi mx =>
    unfold opSlice
    rw [h x (by simp), boundX_congr (x := l) fun y hy => h y (by simp [hy]), boundX_congr (x := hi) fun y hy => h y (by simp [hy]), boundX_congr (x := mx) fun y hy => h y (by simp [hy])]
  case call c =>
    obtain ⟨callee, args, ts⟩ := c
    rw [evxs_congr (xs := args.toList) fun x hx => h x (by simp [Call.operands]; exact .inr (by simpa using hx))]
    cases callee with
    | value f => simp only; rw [h f (by simp [Call.operands])]
    | invoke r name => simp only; rw [h r (by simp [Call.operands])]
    | _ => rfl
  all_goals simp_all

theorem VRel.iface_eq {t : TypeId} {v v' : Value} (h : VRel ρ (.iface t v) v') : ∃ u, v' = .iface t u ∧ VRel ρ v u := by
  cases h with
  | flat h => simp [Ev.flat] at h
  | iface h => exact ⟨_, rfl, h⟩

theorem evMethod_run {t : TypeId} {name : String} {g : FuncId} (h : evMethod P t name = some g) (n : Nat) (v : Value) (w : World) : (method (n + 1) t v name).run P w = .ok (g, v) w := by
  obtain ⟨i, hi, hA⟩ := withX_eq h
  obtain ⟨j, hj, hB⟩ := withX_eq hA
  obtain ⟨hp, hC⟩ := need_eq hB
  obtain ⟨m, hm, hD⟩ := withX_eq hC
  obtain ⟨hpath, hE⟩ := need_eq hD
  split at hE
  · rename_i f hf
    cases hE
    obtain ⟨inf, hu, _⟩ := tyI_eq hj
    have hm' : i.methods.find? (·.name == name) = some m := by rw [← Array.find?_toList]; exact hm
    have hpn : m.path.toList = [] := List.isEmpty_iff.1 hpath
    unfold method
    rw [Sem.run_bind, run_typeInfo hi]
    simp only [Result.andThen_ok, hm', hpn, follow, Sem.run_bind, Sem.run_pure, hf]
    unfold receiverAt
    rw [Sem.run_bind, run_underlying hu]
    cases hd : j.desc <;> first | rfl | (rw [hd] at hp; cases hp)
  · cases hE

theorem run_assert {a xt : TypeId} {ok : Bool} {i : TyI} (hi : tyI P a = some i) (hn : notIface i.desc = true) {z : Value} (hz : zeroOf i = some z) {x x' u : Value} (h : evAssert a z x ok = some u) (hx : VRel ρ x x') (w : World) :
    ∃ u', (Instr.typeAssert x' xt a ok).run P w = .ok u' w ∧ VRel ρ u u' := by
  obtain ⟨inf, hu, _⟩ := tyI_eq hi
  have hz' := run_zeroValue hi hz w
  have zr : VRel ρ (.tuple #[z, .bool false]) (.tuple #[z, .bool false]) := .tuple (.cons (VRel.plain (zeroOf_eq hz).2) (.cons (.flat rfl) .nil))
  unfold evAssert at h
  split at h
  · cases ok with
    | false => cases h
    | true =>
      cases h
      cases hx
      refine ⟨_, ?_, zr⟩
      unfold Instr.typeAssert
      simp only [Sem.run_bind, run_underlying hu, Result.andThen_ok]
      cases hd : i.desc <;> first | (simp [hz']; done) | (rw [hd] at hn; cases hn)
  · rename_i t v
    obtain ⟨v', rfl, hv⟩ := hx.iface_eq
    by_cases ht : t = a
    · rw [beqt ht] at h
      cases h
      subst ht
      cases ok with
      | true =>
        refine ⟨.tuple #[v', .bool true], ?_, .tuple (.cons hv (.cons (.flat rfl) .nil))⟩
        unfold Instr.typeAssert
        simp only [Sem.run_bind, run_underlying hu, Result.andThen_ok]
        cases hd : i.desc <;> first | (simp; done) | (rw [hd] at hn; cases hn)
      | false =>
        refine ⟨v', ?_, hv⟩
        unfold Instr.typeAssert
        simp only [Sem.run_bind, run_underlying hu, Result.andThen_ok]
        cases hd : i.desc <;> first | (simp; done) | (rw [hd] at hn; cases hn)
    · rw [beqf ht] at h
      cases ok with
      | false => cases h
      | true =>
        cases h
        refine ⟨_, ?_, zr⟩
        unfold Instr.typeAssert
        simp only [Sem.run_bind, run_underlying hu, Result.andThen_ok]
        cases hd : i.desc <;> first | (simp [ht, hz']; done) | (rw [hd] at hn; cases hn)
  · cases h

theorem evOper_ok {β : Type} {call : CallF} {lo : Nat} {E : Env} {k : Value → AH → Option β} {r : β} (hcall : CallOk P base call) (hlo : base ≤ lo) (o : Oper)
    (h : evOper P call lo E H o.op k = some r) :
    ∃ v H', k v H' = some r ∧ ((classOf o.op).touches = false → makes o.op = false → H' = H) ∧ ∀ (ρ : Map) (K : Nat → Prop) (w : World) (a : Act), HRel P base K ρ H w → XRel P ρ E a.eval → touchK P E ρ o.op K → OpOk P base (touchW P E lo o.op) K ρ H w a o v H' := by
  obtain ⟨dst, op, type, pos, after, guard⟩ := o
  unfold evOper at h
  cases op <;> simp only at h ⊢ <;> try (cases h; done)
  case move x =>
    obtain ⟨v, hv, hk⟩ := withX_eq h
    exact ⟨v, H, hk, (by first | exact fun _ _ => rfl | exact fun h1 _ => nomatch (show true = false from h1) | exact fun _ h2 => nomatch (show true = false from h2)), fun ρ K w a hH hX hK => .value (v' := a.eval x) (by simp [execOp]) (hX _ _ hv) (Step.refl hH)⟩
  case assign x =>
    obtain ⟨v, hv, hk⟩ := withX_eq h
    exact ⟨v, H, hk, (by first | exact fun _ _ => rfl | exact fun h1 _ => nomatch (show true = false from h1) | exact fun _ h2 => nomatch (show true = false from h2)), fun ρ K w a hH hX hK => .value (v' := a.eval x) (by simp [execOp]) (hX _ _ hv) (Step.refl hH)⟩
  case pick c x y =>
    obtain ⟨c0, hc, hA⟩ := withX_eq h
    obtain ⟨x0, hx, hB⟩ := withX_eq hA
    obtain ⟨y0, hy, hC⟩ := withX_eq hB
    obtain ⟨v, hv, hk⟩ := bindV_eq hC
    refine ⟨v, H, hk, (by first | exact fun _ _ => rfl | exact fun h1 _ => nomatch (show true = false from h1) | exact fun _ h2 => nomatch (show true = false from h2)), fun ρ K w a hH hX hK => ?_⟩
    unfold evPick at hv
    split at hv
    · rename_i t
      cases hv
      have h1 := (hX _ _ hc).bool_eq
      cases t with
      | true => exact .value (v' := a.eval x) (by simp [execOp, h1, asBool]) (hX _ _ hx) (Step.refl hH)
      | false => exact .value (v' := a.eval y) (by simp [execOp, h1, asBool]) (hX _ _ hy) (Step.refl hH)
    · cases hv
  case alloc e =>
    obtain ⟨i, hi, hA⟩ := withX_eq h
    obtain ⟨z, hz, hk⟩ := withX_eq hA
    refine ⟨_, _, hk, (by first | exact fun _ _ => rfl | exact fun h1 _ => nomatch (show true = false from h1) | exact fun _ h2 => nomatch (show true = false from h2)), fun ρ K w a hH hX hK => ?_⟩
    obtain ⟨w', ρ', v', h1, h2, h3⟩ := evAlloc_run hH hi hz
    exact .value (run_v h1) h2 h3
  case box e x =>
    obtain ⟨v, hv, hk⟩ := withX_eq h
    refine ⟨_, _, hk, (by first | exact fun _ _ => rfl | exact fun h1 _ => nomatch (show true = false from h1) | exact fun _ h2 => nomatch (show true = false from h2)), fun ρ K w a hH hX hK => ?_⟩
    obtain ⟨w', ρ', v', h1, h2, h3⟩ := evBox_run hH e (hX _ _ hv)
    exact .value (run_v h1) h2 h3
  case build t parts =>
    obtain ⟨u, hk, hA⟩ := opBuild_run h
    refine ⟨u, H, hk, (by first | exact fun _ _ => rfl | exact fun h1 _ => nomatch (show true = false from h1) | exact fun _ h2 => nomatch (show true = false from h2)), fun ρ K w a hH hX hK => ?_⟩
    obtain ⟨u', h1, h2⟩ := hA ρ a.eval hX w
    exact .value (run_v (by rw [parts_map]; exact h1)) h2 (Step.refl hH)
  case buildSlice t len parts =>
    obtain ⟨u, H', hk, hA⟩ := opBuildSlice_run (base := base) (W := touchW P E lo (.buildSlice t len parts)) h
    refine ⟨u, H', hk, (by first | exact fun _ _ => rfl | exact fun h1 _ => nomatch (show true = false from h1) | exact fun _ h2 => nomatch (show true = false from h2)), fun ρ K w a hH hX hK => ?_⟩
    obtain ⟨u', w', ρ', h1, h2, h3⟩ := hA ρ K w a.eval hH hX
    exact .value (run_v (by rw [parts_map]; exact h1)) h2 h3
  case load t x =>
    obtain ⟨v, hv, hA⟩ := withX_eq h
    obtain ⟨i, hi, hB⟩ := withX_eq hA
    obtain ⟨u, hu, hk⟩ := bindV_eq hB
    refine ⟨u, H, hk, (by first | exact fun _ _ => rfl | exact fun h1 _ => nomatch (show true = false from h1) | exact fun _ h2 => nomatch (show true = false from h2)), fun ρ K w a hH hX hK => ?_⟩
    obtain ⟨u', h1, h2⟩ := evLoad_run hi hu (hX _ _ hv) hH (handle_K hK (by simp [handles]) hv)
    exact .value (run_v h1) h2 (Step.refl hH)
  case store t x y =>
    obtain ⟨v, hv, hA⟩ := withX_eq h
    obtain ⟨u, hu, hB⟩ := withX_eq hA
    obtain ⟨i, hi, hC⟩ := withX_eq hB
    obtain ⟨H', hH', hk⟩ := bindV_eq hC
    refine ⟨undef, H', hk, (by first | exact fun _ _ => rfl | exact fun h1 _ => nomatch (show true = false from h1) | exact fun _ h2 => nomatch (show true = false from h2)), fun ρ K w a hH hX hK => ?_⟩
    obtain ⟨w', h1, h2⟩ := evStore_run (W := touchW P E lo (.store t x y)) hi hH' hlo hH (hX _ _ hv) (hX _ _ hu) (handle_K hK (by simp [handles]) hv) (handle_W rfl (by simp [handles]) hv)
    exact .skip (run_u h1) h2
  case nilCheck x =>
    obtain ⟨v, hv, hA⟩ := withX_eq h
    obtain ⟨u, hu, hk⟩ := bindV_eq hA
    refine ⟨u, H, hk, (by first | exact fun _ _ => rfl | exact fun h1 _ => nomatch (show true = false from h1) | exact fun _ h2 => nomatch (show true = false from h2)), fun ρ K w a hH hX hK => ?_⟩
    unfold evNil at hu
    split at hu
    · cases hu
      have h1 := hX _ _ hv
      have h2 : ∃ q, a.eval x = .pointer (some q) := by
        generalize a.eval x = x' at h1
        cases h1 with
        | flat h => simp [Ev.flat] at h
        | ptr h => exact ⟨_, rfl⟩
      obtain ⟨q, hq⟩ := h2
      exact .value (v' := a.eval x) (by simp [execOp, hq]) h1 (Step.refl hH)
    · cases hu
  case binOp op t x y yt =>
    obtain ⟨v, hv, hA⟩ := withX_eq h
    obtain ⟨u, hu, hB⟩ := withX_eq hA
    obtain ⟨b, hk, hC⟩ := evBin_run (ox := x) (oy := y) hB
    refine ⟨b, H, hk, (by first | exact fun _ _ => rfl | exact fun h1 _ => nomatch (show true = false from h1) | exact fun _ h2 => nomatch (show true = false from h2)), fun ρ K w a hH hX hK => ?_⟩
    obtain ⟨h1, h2, h3⟩ := hC ρ _ _ (hX _ _ hv) (hX _ _ hu) w
    exact .value (run_v (by simp [h1, h2])) (.flat h3) (Step.refl hH)
  case unOp op t x =>
    obtain ⟨v, hv, hA⟩ := withX_eq h
    obtain ⟨b, hk, hC⟩ := evUn_run (P := P) hA
    refine ⟨b, H, hk, (by first | exact fun _ _ => rfl | exact fun h1 _ => nomatch (show true = false from h1) | exact fun _ h2 => nomatch (show true = false from h2)), fun ρ K w a hH hX hK => ?_⟩
    obtain ⟨h1, h2⟩ := hC ρ _ (hX _ _ hv) w
    exact .value (run_v h1) (.flat h2) (Step.refl hH)
  case convert s d x =>
    obtain ⟨v, hv, hA⟩ := withX_eq h
    obtain ⟨i, hi, hB⟩ := withX_eq hA
    obtain ⟨j, hj, hC⟩ := withX_eq hB
    obtain ⟨q, hq, hD⟩ := withX_eq hC
    obtain ⟨u, hu, hk⟩ := bindV_eq hD
    refine ⟨u, H, hk, (by first | exact fun _ _ => rfl | exact fun h1 _ => nomatch (show true = false from h1) | exact fun _ h2 => nomatch (show true = false from h2)), fun ρ K w a hH hX hK => ?_⟩
    unfold evConv at hu
    split at hu
    · rename_i k0 n
      cases hu
      have h1 := (hX _ _ hv).int_eq
      obtain ⟨_, h2, _⟩ := tyI_eq hi
      obtain ⟨_, h3, _⟩ := tyI_eq hj
      have h4 : j.desc = .int q := by
        unfold intOf at hq
        split at hq
        · cases hq; assumption
        · cases hq
      refine .value (v' := .int q (wrapF q n)) (run_v ?_) (.flat rfl) (Step.refl hH)
      rw [h1, wrapF_eq]
      simp [Go.convert, underlying, h2, h3, h4, Conv.intToInt]
    · cases hu
  case makeFunc fn first captured =>
    obtain ⟨f, hf, hA⟩ := withX_eq h
    obtain ⟨c, hc, hk⟩ := withX_eq hA
    refine ⟨_, H, hk, (by first | exact fun _ _ => rfl | exact fun h1 _ => nomatch (show true = false from h1) | exact fun _ h2 => nomatch (show true = false from h2)), fun ρ K w a hH hX hK => ?_⟩
    refine .value (v' := .func fn (first.map a.eval) (captured.map a.eval)) (run_v rfl) (.func ?_ ?_) (Step.refl hH)
    · rw [Array.toList_map]; exact evxs_rel hX hf
    · rw [Array.toList_map]; exact evxs_rel hX hc
  case makeMap t x =>
    have key : ∀ (ρ : Map) (K : Nat → Prop) (w : World), HRel P base K ρ H w → ∃ ρ' w', (newObj (.map #[] 0)).run P w = .ok w.heap.size w' ∧
        VRel ρ' (.map (some H.next)) (.map (some w.heap.size)) ∧ Step P base (touchW P E lo (.makeMap t x)) K ρ H w ρ' (H.push (.map [] 0)) w' := by
      intro ρ K w hH
      refine ⟨upd ρ H.next ⟨w.heap.size, 0, 0⟩, { w with heap := w.heap.push (.map #[] 0) }, rfl, ?_, ?_⟩
      · exact VRel.map (l := ⟨w.heap.size, 0, 0⟩) (upd_same _ _ _)
      · refine Step.alloc hH (ob := .map #[] 0) rfl _ rfl _ ?_ ?_ ⟨rfl, rfl⟩
        · exact ⟨#[], by simp, by simpa using ERel.nil⟩
        · intro c e fz hc
          simp at hc
    cases x with
    | none =>
      refine ⟨_, _, h, (by first | exact fun _ _ => rfl | exact fun h1 _ => nomatch (show true = false from h1) | exact fun _ h2 => nomatch (show true = false from h2)), fun ρ K w a hH hX hK => ?_⟩
      obtain ⟨ρ', w', h1, h2, h3⟩ := key ρ K w hH
      exact .value (run_v (by simp [Instr.makeMap, h1])) h2 h3
    | some x =>
      obtain ⟨v, hv, hA⟩ := withX_eq h
      obtain ⟨i, hi, hB⟩ := withX_eq hA
      obtain ⟨p, hp, hC⟩ := withX_eq hB
      obtain ⟨q, hq, hk⟩ := bindV_eq hC
      refine ⟨_, _, hk, (by first | exact fun _ _ => rfl | exact fun h1 _ => nomatch (show true = false from h1) | exact fun _ h2 => nomatch (show true = false from h2)), fun ρ K w a hH hX hK => ?_⟩
      obtain ⟨ρ', w', h1, h2, h3⟩ := key ρ K w hH
      obtain ⟨kk, n, rfl⟩ := asInt?_some (v := v) (by rw [hq]; rfl)
      have h4 := (hX _ _ hv).int_eq
      obtain ⟨_, h5, _⟩ := tyI_eq hi
      rw [mapOf_eq hp] at h5
      exact .value (run_v (by simp [Instr.makeMap, underlying, h5, h4, asInt, asIntOf, h1])) h2 h3
  case makeSlice t x y =>
    obtain ⟨v, hv, hA⟩ := withX_eq h
    obtain ⟨u, hu, hB⟩ := withX_eq hA
    obtain ⟨b, H', hk, hC⟩ := opMakeSlice_run (base := base) (W := touchW P E lo (.makeSlice t x y)) hB
    refine ⟨b, H', hk, (by first | exact fun _ _ => rfl | exact fun h1 _ => nomatch (show true = false from h1) | exact fun _ h2 => nomatch (show true = false from h2)), fun ρ K w a hH hX hK => ?_⟩
    obtain ⟨u', w', ρ', h1, h2, h3⟩ := hC ρ K w _ _ hH (hX _ _ hv) (hX _ _ hu)
    exact .value (run_v h1) h2 h3
  case slice t x l hi mx =>
    obtain ⟨v, hv, hA⟩ := withX_eq h
    obtain ⟨b, hk, hC⟩ := opSlice_run hA
    refine ⟨b, H, hk, (by first | exact fun _ _ => rfl | exact fun h1 _ => nomatch (show true = false from h1) | exact fun _ h2 => nomatch (show true = false from h2)), fun ρ K w a hH hX hK => ?_⟩
    obtain ⟨u', h1, h2⟩ := hC ρ a.eval _ hX (hX _ _ hv) w
    exact .value (run_v h1) h2 (Step.refl hH)
  case fieldAddr t x f =>
    obtain ⟨v, hv, hA⟩ := withX_eq h
    obtain ⟨b, hk, hC⟩ := opFieldAddr_run hA
    refine ⟨b, H, hk, (by first | exact fun _ _ => rfl | exact fun h1 _ => nomatch (show true = false from h1) | exact fun _ h2 => nomatch (show true = false from h2)), fun ρ K w a hH hX hK => ?_⟩
    obtain ⟨u', h1, h2⟩ := hC ρ _ (hX _ _ hv) w
    exact .value (run_v h1) h2 (Step.refl hH)
  case field t x f =>
    obtain ⟨v, hv, hA⟩ := withX_eq h
    obtain ⟨b, hk, hC⟩ := opField_run hA
    refine ⟨b, H, hk, (by first | exact fun _ _ => rfl | exact fun h1 _ => nomatch (show true = false from h1) | exact fun _ h2 => nomatch (show true = false from h2)), fun ρ K w a hH hX hK => ?_⟩
    obtain ⟨u', h1, h2⟩ := hC ρ _ (hX _ _ hv) w
    exact .value (run_v h1) h2 (Step.refl hH)
  case indexAddr t x i =>
    obtain ⟨v, hv, hA⟩ := withX_eq h
    obtain ⟨u, hu, hB⟩ := withX_eq hA
    obtain ⟨b, hk, hC⟩ := opIndexAddr_run hB
    refine ⟨b, H, hk, (by first | exact fun _ _ => rfl | exact fun h1 _ => nomatch (show true = false from h1) | exact fun _ h2 => nomatch (show true = false from h2)), fun ρ K w a hH hX hK => ?_⟩
    obtain ⟨u', h1, h2⟩ := hC ρ _ _ (hX _ _ hv) (hX _ _ hu) w
    exact .value (run_v h1) h2 (Step.refl hH)
  case index t x i =>
    obtain ⟨v, hv, hA⟩ := withX_eq h
    obtain ⟨u, hu, hB⟩ := withX_eq hA
    obtain ⟨b, hk, hC⟩ := opIndex_run hB
    refine ⟨b, H, hk, (by first | exact fun _ _ => rfl | exact fun h1 _ => nomatch (show true = false from h1) | exact fun _ h2 => nomatch (show true = false from h2)), fun ρ K w a hH hX hK => ?_⟩
    obtain ⟨u', h1, h2⟩ := hC ρ _ _ (hX _ _ hv) (hX _ _ hu) w
    exact .value (run_v h1) h2 (Step.refl hH)
  case lookup t x key ok =>
    obtain ⟨v, hv, hA⟩ := withX_eq h
    obtain ⟨u, hu, hB⟩ := withX_eq hA
    obtain ⟨b, hk, hC⟩ := opLookup_run (base := base) hB
    refine ⟨b, H, hk, (by first | exact fun _ _ => rfl | exact fun h1 _ => nomatch (show true = false from h1) | exact fun _ h2 => nomatch (show true = false from h2)), fun ρ K w a hH hX hK => ?_⟩
    obtain ⟨u', h1, h2⟩ := hC ρ K w _ _ hH (hX _ _ hv) (hX _ _ hu) (handle_K hK (by simp [handles]) hv)
    exact .value (run_v h1) h2 (Step.refl hH)
  case mapUpdate t m key x =>
    obtain ⟨v, hv, hA⟩ := withX_eq h
    obtain ⟨u, hu, hB⟩ := withX_eq hA
    obtain ⟨y, hy, hC⟩ := withX_eq hB
    obtain ⟨H', hk, hD⟩ := opUpdate_run (base := base) hC
    refine ⟨undef, H', hk, (by first | exact fun _ _ => rfl | exact fun h1 _ => nomatch (show true = false from h1) | exact fun _ h2 => nomatch (show true = false from h2)), fun ρ K w a hH hX hK => ?_⟩
    obtain ⟨w', h1, h2⟩ := hD ρ (touchW P E lo (.mapUpdate t m key x)) K w _ _ _ hH (hX _ _ hv) (hX _ _ hu) (hX _ _ hy) (handle_K hK (by simp [handles]) hv) (handle_W rfl (by simp [handles]) hv)
    exact .skip (run_u h1) h2
  case extract x i =>
    obtain ⟨v, hv, hA⟩ := withX_eq h
    obtain ⟨u, hu, hk⟩ := bindV_eq hA
    refine ⟨u, H, hk, (by first | exact fun _ _ => rfl | exact fun h1 _ => nomatch (show true = false from h1) | exact fun _ h2 => nomatch (show true = false from h2)), fun ρ K w a hH hX hK => ?_⟩
    unfold evComp at hu
    split at hu
    · rename_i vs
      rw [nth_eq] at hu
      obtain ⟨vs', h1, h2⟩ := (hX _ _ hv).tuple_eq
      obtain ⟨u', h3, h4⟩ := h2.get _ _ hu
      rw [Array.getElem?_toList] at h3
      exact .value (v' := u') (run_v (by simp [Instr.extract, h1, h3])) h4 (Step.refl hH)
    · cases hu
  case makeInterface t x =>
    obtain ⟨v, hv, hA⟩ := withX_eq h
    obtain ⟨i, hi, hB⟩ := withX_eq hA
    obtain ⟨hn, hk⟩ := need_eq hB
    refine ⟨_, H, hk, (by first | exact fun _ _ => rfl | exact fun h1 _ => nomatch (show true = false from h1) | exact fun _ h2 => nomatch (show true = false from h2)), fun ρ K w a hH hX hK => ?_⟩
    obtain ⟨_, hu, _⟩ := tyI_eq hi
    refine .value (v' := .iface t (a.eval x)) (run_v ?_) (.iface (hX _ _ hv)) (Step.refl hH)
    unfold Instr.makeInterface
    rw [Sem.run_bind, run_underlying hu]
    cases hd : i.desc <;> first | rfl | (rw [hd] at hn; cases hn)
  case typeAssert x xt t ok =>
    obtain ⟨v, hv, hA⟩ := withX_eq h
    obtain ⟨i, hi, hB⟩ := withX_eq hA
    obtain ⟨hn, hC⟩ := need_eq hB
    obtain ⟨z, hz, hD⟩ := withX_eq hC
    obtain ⟨u, hu, hk⟩ := bindV_eq hD
    refine ⟨u, H, hk, (by first | exact fun _ _ => rfl | exact fun h1 _ => nomatch (show true = false from h1) | exact fun _ h2 => nomatch (show true = false from h2)), fun ρ K w a hH hX hK => ?_⟩
    obtain ⟨u', h1, h2⟩ := run_assert (xt := xt) hi hn hz hu (hX _ _ hv) w
    exact .value (run_v h1) h2 (Step.refl hH)
  case call c =>
    obtain ⟨callee, args, ts⟩ := c
    obtain ⟨vs, hvs, hA⟩ := withX_eq h
    cases callee with
    | builtin b =>
      simp only at hA
      obtain ⟨v, H', hk, hst, hB⟩ := opBuiltin_ok (ty := type) (cs := args.map fun | .const _ => true | _ => false) hlo hvs hA
      refine ⟨v, H', hk, hst, fun ρ K w a hH hX hK => ?_⟩
      obtain ⟨v', ρ', w', h1, h2, h3⟩ := hB ρ K w a.eval hH hX hK
      exact .value (v' := v') h1 h2 h3
    | value f =>
      obtain ⟨fv, hf, hB⟩ := withX_eq hA
      unfold callVal at hB
      split at hB
      · rename_i g first captured
        obtain ⟨v, H', hr, hk⟩ := bindVH_eq hB
        refine ⟨v, H', hk, (by first | exact fun _ _ => rfl | exact fun h1 _ => nomatch (show true = false from h1) | exact fun _ h2 => nomatch (show true = false from h2)), fun ρ K w a hH hX hK => ?_⟩
        obtain ⟨⟨fn, hfn, hbody, hname⟩, hC⟩ := hcall _ _ _ _ _ _ hlo hr
        have hKd : K = dom ρ := hK.2 rfl
        subst hKd
        obtain ⟨first', captured', h1, h2, h3⟩ := (hX _ _ hf).func_eq
        have h4 : LRel ρ (List.append first.toList (List.append vs captured.toList)) (first' ++ args.map a.eval ++ captured').toList := by
          rw [Array.toList_append, Array.toList_append, Array.toList_map, List.append_assoc]
          exact h2.append ((evxs_rel hX hvs).append h3)
        have h5 := hC ρ w _ hH h4
        have hrun : (execOp a.eval ⟨dst, .call ⟨.value f, args, ts⟩, type, pos, after, guard⟩).run P w = .ok (.enter g (first' ++ args.map a.eval ++ captured')) w := by
          have e : (execOp a.eval ⟨dst, .call ⟨.value f, args, ts⟩, type, pos, after, guard⟩).run P w = (callFunc g (first' ++ args.map a.eval ++ captured')).run P w := by
            simp [execOp, resolve, h1, Deferred.ofValue, invoke]
          rw [e]; exact run_callFunc hfn hbody hname _ w
        intro next Q hn
        unfold Oper.wp
        rw [hrun, Oper.upon_enter]
        refine Calls.mono h5 fun e w' => ?_
        rintro ⟨v', ρ', rfl, h6, h7⟩
        refine hn v' ρ' w' h6 (h7.wider fun i hi => ⟨hi, .inl rfl⟩)
      · cases hB
    | invoke x name =>
      obtain ⟨fv, hf, hB⟩ := withX_eq hA
      unfold callMeth at hB
      split at hB
      · rename_i t v0
        obtain ⟨g, hg, hB⟩ := withX_eq hB
        obtain ⟨v, H', hr, hk⟩ := bindVH_eq hB
        refine ⟨v, H', hk, (by first | exact fun _ _ => rfl | exact fun h1 _ => nomatch (show true = false from h1) | exact fun _ h2 => nomatch (show true = false from h2)), fun ρ K w a hH hX hK => ?_⟩
        obtain ⟨⟨fn, hfn, hbody, hname⟩, hC⟩ := hcall _ _ _ _ _ _ hlo hr
        have hKd : K = dom ρ := hK.2 rfl
        subst hKd
        obtain ⟨v0', h1, h2⟩ := (hX _ _ hf).iface_eq
        have h4 : LRel ρ (v0 :: vs) (#[v0'] ++ args.map a.eval).toList := by
          rw [Array.toList_append, Array.toList_map]
          exact .cons h2 (evxs_rel hX hvs)
        have h5 := hC ρ w _ hH h4
        have hrun : (execOp a.eval ⟨dst, .call ⟨.invoke x name, args, ts⟩, type, pos, after, guard⟩).run P w = .ok (.enter g (#[v0'] ++ args.map a.eval)) w := by
          have e : (execOp a.eval ⟨dst, .call ⟨.invoke x name, args, ts⟩, type, pos, after, guard⟩).run P w = (callMethod (Value.iface t v0') name ((#[Value.iface t v0'] ++ args.map a.eval).extract 1 (#[Value.iface t v0'] ++ args.map a.eval).size)).run P w := by
            have e0 : (#[Value.iface t v0'] ++ Array.map a.eval args)[0]? = some (Value.iface t v0') := by rw [Array.getElem?_append_left (by simp)]; rfl
            simp [execOp, resolve, h1, invoke, e0]
          rw [e]
          unfold callMethod
          have hp : (program).run P w = .ok P w := rfl
          rw [Sem.run_bind, hp]
          simp only [Result.andThen_ok]
          obtain ⟨n, hn⟩ : ∃ n, P.types.size + Made.depth = n + 1 := ⟨P.types.size + (Made.depth - 1), rfl⟩
          rw [Sem.run_bind, hn, evMethod_run hg]
          simp only [Result.andThen_ok]
          rw [run_callFunc hfn hbody hname]
          congr 2
          simp only [Array.extract_append, Array.size_append, Array.size_map, List.size_toArray, List.length_cons, List.length_nil]
          apply Array.ext'
          simp
          exact List.take_of_length_le (by simp)
        intro next Q hn
        unfold Oper.wp
        rw [hrun, Oper.upon_enter]
        refine Calls.mono h5 fun e w' => ?_
        rintro ⟨v', ρ', rfl, h6, h7⟩
        refine hn v' ρ' w' h6 (h7.wider fun i hi => ⟨hi, .inl rfl⟩)
      · cases hB
end
end Go.Ev
