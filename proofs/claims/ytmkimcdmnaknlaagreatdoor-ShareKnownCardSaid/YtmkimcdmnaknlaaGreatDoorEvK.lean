/- Maps whose keys are ints or arrays of ints: the evaluator's are the model's.
   Conditions: none. -/
import Derived.Test.YtmkimcdmnaknlaaGreatDoorEvJ
namespace Go.Ev
section
variable {P : Program} {base : Nat} {W K : Nat → Prop} {ρ : Map} {H : AH} {w : World}

theorem keyKind_eq {t : TypeId} {q : KeyKind} (h : keyKind P t = some q) :
    match q with
    | .int => ∃ k, P.underlying t = some (.int k)
    | .ints n => ∃ e j kk, P.underlying t = some (.array n e) ∧ tyI P e = some j ∧ intOf j.desc = some kk ∧ j.size = 1 := by
  unfold keyKind at h
  obtain ⟨i, hi, hA⟩ := withX_eq h
  obtain ⟨_, hu, _⟩ := tyI_eq hi
  split at hA
  · rename_i k hd; cases hA; rw [hd] at hu; exact ⟨k, hu⟩
  · rename_i n e hd
    obtain ⟨j, hj, hB⟩ := withX_eq hA
    obtain ⟨kk, hk, hC⟩ := withX_eq hB
    obtain ⟨h1, hD⟩ := need_eq hC
    cases hD
    rw [hd] at hu
    exact ⟨e, j, kk, hu, hj, hk, eq_of_beq' h1⟩
  · cases hA

theorem asInt?_some {v : Value} (h : (asInt? v).isSome = true) : ∃ k n, v = .int k n := by
  unfold asInt? at h
  split at h
  · exact ⟨_, _, rfl⟩
  · cases h

/-- a key is, on the other side, the same -/
theorem keyOk_same {q : KeyKind} {k k' : Value} (h : keyOk q k = true) (hr : VRel ρ k k') : k' = k := by
  unfold keyOk at h
  split at h
  · cases hr; rfl
  · rename_i n a
    simp only [Bool.and_eq_true] at h
    cases hr with
    | flat hf => rfl
    | agg hl =>
      rename_i ds
      have : ds.toList = a.toList := by
        apply List.ext_getElem?
        intro i
        by_cases hi : i < a.toList.length
        · have e := List.getElem?_eq_getElem hi
          obtain ⟨v', hv, hr⟩ := hl.get i _ e
          obtain ⟨k, m, hk⟩ := asInt?_some (List.all_eq_true.1 h.2 _ (List.getElem_mem hi))
          rw [e, hv]
          rw [hk] at hr ⊢
          cases hr; rfl
        · have := hl.length
          rw [List.getElem?_eq_none (by omega), List.getElem?_eq_none (by omega)]
      exact congrArg Value.agg (Array.ext' this)
  · cases h

theorem run_checkInts {e : TypeId} {j : TyI} (he : tyI P e = some j) (hs : j.size = 1) {kk : IntKind} (hk : intOf j.desc = some kk) (em : Bool) (d : Nat) (a : Array Value) (w : World) :
    ∀ (m s : Nat), s + m ≤ a.size → (forIn (m := Sem) (List.range' s m) () fun i (_ : Unit) => do
        let s ← sizeOf e
        let x ← part e a (i * s)
        Instr.checkKey em (d + 1) e x
        pure (ForInStep.yield ())).run P w = .ok () w := by
  intro m
  induction m with
  | zero => intro s _; simp
  | succ m ih =>
    intro s h
    have ha : s < a.size := by omega
    have pa := run_part_int he hk (cs := a) (i := s * 1) (v := a[s]) (by rw [Nat.mul_one, Array.getElem?_eq_getElem ha]) w
    obtain ⟨_, hu, _⟩ := tyI_eq he
    have hd : ∃ kk', j.desc = .int kk' := by cases hd : j.desc <;> simp [hd, intOf] at hk; exact ⟨_, rfl⟩
    obtain ⟨kk', hd⟩ := hd
    rw [hd] at hu
    rw [List.range'_succ, List.forIn_cons]
    have hsz : (sizeOf e).run P w = .ok 1 w := by rw [run_sizeOf he, hs]
    simp only [Sem.run_bind, hsz, pa, Result.andThen_ok]
    have hc : (Instr.checkKey em (d + 1) e a[s]).run P w = .ok () w := by
      simp [Instr.checkKey, run_underlying hu]
    simp only [hc, Result.andThen_ok, Sem.run_pure]
    exact ih (s + 1) (by omega)

theorem run_checkKey_ok {t : TypeId} {q : KeyKind} (hq : keyKind P t = some q) {k : Value} (hk : keyOk q k = true) (em : Bool) (d : Nat) (w : World) : (Instr.checkKey em (d + 2) t k).run P w = .ok () w := by
  have hh := keyKind_eq hq
  unfold keyOk at hk
  split at hk
  · obtain ⟨kk, hu⟩ := hh
    simp [Instr.checkKey, run_underlying hu]
  · rename_i n a
    obtain ⟨e, j, kk, hu, hj, hkk, hs⟩ := hh
    simp only [Bool.and_eq_true] at hk
    have hn := eq_of_beq' hk.1
    have hl := run_checkInts hj hs hkk em d a w n 0 (by omega)
    unfold Instr.checkKey
    simp only [Sem.run_bind, run_underlying hu, Result.andThen_ok]
    simp only [Std.Legacy.Range.forIn_eq_forIn_range', Std.Legacy.Range.size, Nat.sub_zero, Nat.add_sub_cancel, Nat.div_one]
    rw [hl]
    rfl
  · cases hk
/-! Finding a key. -/
/-- a find's outcome on both sides -/
inductive FRel (ρ : Map) : Option (Nat × Value) → Option (Nat × Value) → Prop where
  | nil : FRel ρ none none
  | one {i : Nat} {v v' : Value} (h : VRel ρ v v') : FRel ρ (some (i, v)) (some (i, v'))

theorem evKeyEq_eq {q : KeyKind} {k e : Value} {b : Bool} (hk : keyOk q k = true) (h : evKeyEq k e = some b) :
    (∃ kk x y, q = .int ∧ k = .int kk x ∧ e = .int kk y ∧ b = (x == y)) ∨
    (∃ (n : Nat) (x y : Array Value), q = .ints n ∧ k = .agg x ∧ e = .agg y ∧ x.size = n ∧ y.size = n ∧ eqInts x.toList y.toList = some b) := by
  unfold evKeyEq at h
  split at h
  · obtain ⟨h1, h2⟩ := need_eq h
    cases kindEq_eq h1
    cases h2
    cases q with
    | int => exact .inl ⟨_, _, _, rfl, rfl, rfl, by rw [intEq_eq]⟩
    | ints n => simp [keyOk] at hk
  · obtain ⟨h1, h2⟩ := need_eq h
    have h1 := eq_of_beq' h1
    cases q with
    | int => simp [keyOk] at hk
    | ints n =>
      simp only [keyOk, Bool.and_eq_true] at hk
      have := eq_of_beq' hk.1
      exact .inr ⟨n, _, _, rfl, rfl, rfl, this, by omega, h2⟩
  · cases h

theorem find_int {t : TypeId} {k0 kk : IntKind} {x : Int} : ∀ {es es' : List MapEntry} {i : Nat} {r : Option (Nat × Value)}, ERel ρ es es' → evFind (.int kk x) es i = some r →
    ∃ r', Instr.findNow (.int k0) (.int kk x) es' i = some r' ∧ FRel ρ r r'
  | [], _, i, r, .nil, h => by cases h; exact ⟨none, rfl, .nil⟩
  | e :: es, _, i, r, .cons (e' := e') (l' := es') hk hv hb ht, h => by
    unfold evFind at h
    split at h
    · rename_i he
      rcases evKeyEq_eq (q := .int) rfl he with ⟨kk', x', y, _, h1, h2, h3⟩ | ⟨_, _, _, hq, _⟩
      · cases h1
        rw [h2] at hk
        cases h
        refine ⟨some (i, e'.val), ?_, .one hv⟩
        simp only [Instr.findNow]
        cases hk' : e'.key <;> rw [hk'] at hk <;> cases hk
        simp [Instr.sameNow, ← h3]
      · cases hq
    · rename_i he
      rcases evKeyEq_eq (q := .int) rfl he with ⟨kk', x', y, _, h1, h2, h3⟩ | ⟨_, _, _, hq, _⟩
      · cases h1
        rw [h2] at hk
        obtain ⟨r', h4, h5⟩ := find_int (t := t) (k0 := k0) ht h
        refine ⟨r', ?_, h5⟩
        simp only [Instr.findNow]
        cases hk' : e'.key <;> rw [hk'] at hk <;> cases hk
        simp only [Instr.sameNow, if_true, ← h3]
        exact h4
      · cases hq
    · cases h

theorem find_ints {t e : TypeId} {n : Nat} {j : TyI} (ht : P.underlying t = some (.array n e)) (he : tyI P e = some j) {kk : IntKind} (hk : intOf j.desc = some kk) (hs : j.size = 1)
    {a : Array Value} (ha : keyOk (.ints n) (.agg a) = true) (w : World) : ∀ {es es' : List MapEntry} {i : Nat} {r : Option (Nat × Value)}, ERel ρ es es' → evFind (.agg a) es i = some r →
    ∃ r', (Instr.findAsking t (.agg a) es' i).run P w = .ok r' w ∧ FRel ρ r r'
  | [], _, i, r, .nil, h => by cases h; exact ⟨none, by simp [Instr.findAsking], .nil⟩
  | e0 :: es, _, i, r, .cons (e' := e') (l' := es') hke hv hb htl, h => by
    have key : ∀ b, evKeyEq (.agg a) e0.key = some b → (Op.equal t (.agg a) e'.key).run P w = .ok b w := by
      intro b hb
      rcases evKeyEq_eq ha hb with ⟨_, _, _, hq, _⟩ | ⟨n', x, y, hq, h1, h2, h3, h4, h5⟩
      · cases hq
      · cases hq; cases h1
        rw [h2] at hke
        have hy : e'.key = .agg y := by
          cases hk' : e'.key <;> rw [hk'] at hke <;> cases hke
          · rename_i hf; simp [flat] at hf
          · rename_i hl
            exact congrArg Value.agg (Array.ext' (VRel.ints hl (.inr h5)))
        rw [hy]
        exact run_equalIn_ints ht he hk hs 9998 a y h3 h4 h5 w
    unfold evFind at h
    split at h
    · rename_i hb'
      cases h
      exact ⟨some (i, e'.val), by simp [Instr.findAsking, key _ hb'], .one hv⟩
    · rename_i hb'
      obtain ⟨r', h1, h2⟩ := find_ints ht he hk hs ha w htl h
      exact ⟨r', by simp [Instr.findAsking, key _ hb', h1], h2⟩
    · cases h

theorem find_run {t : TypeId} {q : KeyKind} (hq : keyKind P t = some q) {k : Value} (hk : keyOk q k = true) (w : World) {es es' : List MapEntry} {r : Option (Nat × Value)} (hr : ERel ρ es es') (h : evFind k es 0 = some r) :
    ∃ r', (Instr.findKey t k es').run P w = .ok r' w ∧ FRel ρ r r' := by
  have hh := keyKind_eq hq
  cases q with
  | int =>
    obtain ⟨k0, hu⟩ := hh
    unfold keyOk at hk
    split at hk
    · obtain ⟨r', h1, h2⟩ := find_int (t := t) (k0 := k0) hr h
      exact ⟨r', by simp [Instr.findKey, run_underlying hu, h1], h2⟩
    · contradiction
    · cases hk
  | ints n =>
    obtain ⟨e, j, kk, hu, hj, hkk, hs⟩ := hh
    have hk0 := hk
    unfold keyOk at hk
    split at hk
    · contradiction
    · rename_i hq'
      cases hq'
      obtain ⟨r', h1, h2⟩ := find_ints hu hj hkk hs hk0 w hr h
      cases es' with
      | nil => exact ⟨r', by simpa [Instr.findKey, run_underlying hu, Instr.findNow, Instr.findAsking] using h1, h2⟩
      | cons e' es' => exact ⟨r', by simp [Instr.findKey, run_underlying hu, Instr.findNow, Instr.sameNow, h1], h2⟩
    · cases hk

/-- a map that lies in a world -/
theorem map_at (hH : HRel P base K ρ H w) {i : Nat} (hk : K i) {es : List MapEntry} {c : Nat} (hg : H.get i = some (.map es c)) {l : Loc} (hl : ρ i = some l) :
    ∃ es', w.heap[l.blk]? = some (.map es' c) ∧ ERel ρ es es'.toList := by
  obtain ⟨l', hl', hf, _⟩ := hH.fit i _ hk hg
  rw [hl] at hl'; cases hl'
  exact hf

theorem run_getObj_map {w : World} {b c : Nat} {es : Array MapEntry} (h : w.heap[b]? = some (.map es c)) : (getObj b).run P w = .ok (.map es c) w := by
  simp [getObj, Sem.run, h]

theorem VRel.map_eq {i : Nat} {x' : Value} (h : VRel ρ (.map (some i)) x') : ∃ l, ρ i = some l ∧ x' = .map (some l.blk) := by
  cases h with
  | flat hf => simp [Ev.flat] at hf
  | map h => exact ⟨_, h, rfl⟩

theorem mapOf_eq {d : TypeDesc} {p : TypeId × TypeId} (h : mapOf d = some p) : d = .map p.1 p.2 := by
  cases d <;> simp [mapOf] at h
  rw [← h]

theorem opLookup_run {β : Type} {t : TypeId} {x k : Value} {ok : Bool} {c : Value → Option β} {r : β} (h : opLookup P H t x k ok c = some r) :
    ∃ u, c u = some r ∧ ∀ (ρ : Map) (K : Nat → Prop) (w : World) (x' k' : Value), HRel P base K ρ H w → VRel ρ x x' → VRel ρ k k' → (∀ j ∈ idsOf x, K j) →
      ∃ u', (Instr.lookup t x' k' ok).run P w = .ok u' w ∧ VRel ρ u u' := by
  unfold opLookup at h
  obtain ⟨i, hi, hA⟩ := withX_eq h
  obtain ⟨p, hp, hB⟩ := withX_eq hA
  obtain ⟨q, hq, hC⟩ := withX_eq hB
  obtain ⟨j, hj, hD⟩ := withX_eq hC
  obtain ⟨z, hz, hE⟩ := withX_eq hD
  obtain ⟨u, hu, hF⟩ := bindV_eq hE
  obtain ⟨_, hund, _⟩ := tyI_eq hi
  rw [mapOf_eq hp] at hund
  refine ⟨u, hF, fun ρ K w x' k' hH hx hkr hK => ?_⟩
  unfold evLookup at hu
  obtain ⟨hk, hG⟩ := need_eq hu
  have hk' := keyOk_same hk hkr
  rw [hk']
  have hzr : VRel ρ z z := VRel.plain (zeroOf_eq hz).2
  have pair : ∀ {v v' : Value} (b : Bool), VRel ρ v v' → VRel ρ (.tuple #[v, .bool b]) (.tuple #[v', .bool b]) := fun b h => .tuple (.cons h (.cons (.flat rfl) .nil))
  split at hG
  · cases hG
    cases hx
    have hc := run_checkKey_ok hq hk true 9998 w
    obtain ⟨r', h1, h2⟩ := find_run (ρ := ρ) hq hk w (es := []) (es' := []) .nil rfl
    cases h2
    cases ok with
    | true =>
      refine ⟨.tuple #[z, .bool false], ?_, pair false hzr⟩
      simp [Instr.lookup, run_underlying hund, hc, h1, run_zeroValue hj hz]
    | false =>
      refine ⟨z, ?_, hzr⟩
      simp [Instr.lookup, run_underlying hund, hc, h1, run_zeroValue hj hz]
  · rename_i b
    obtain ⟨es, cl, hg, hI⟩ := withMap_eq hG
    obtain ⟨rr, hr, hJ⟩ := withX_eq hI
    obtain ⟨l, hl, rfl⟩ := hx.map_eq
    obtain ⟨es', h3, h4⟩ := map_at hH (hK b (by simp [idsOf])) hg hl
    have hc := run_checkKey_ok hq hk es'.isEmpty 9998 w
    obtain ⟨r', h1, h2⟩ := find_run hq hk w h4 hr
    cases h2 with
    | nil =>
      cases hJ
      cases ok with
      | true =>
        refine ⟨.tuple #[z, .bool false], ?_, pair false hzr⟩
        simp [Instr.lookup, run_underlying hund, run_getObj_map h3, hc, h1, run_zeroValue hj hz]
      | false =>
        refine ⟨z, ?_, hzr⟩
        simp [Instr.lookup, run_underlying hund, run_getObj_map h3, hc, h1, run_zeroValue hj hz]
    | one hv =>
      cases hJ
      cases ok with
      | true =>
        refine ⟨.tuple #[_, .bool true], ?_, pair true hv⟩
        simp [Instr.lookup, run_underlying hund, run_getObj_map h3, hc, h1]
      | false =>
        refine ⟨_, ?_, hv⟩
        simp [Instr.lookup, run_underlying hund, run_getObj_map h3, hc, h1]
  · cases hG

theorem sameBits_flat {v : Value} (h : flat v = true) (hi : (asInt? v).isSome = true) (n : Nat) : Instr.sameBits n v v = true := by
  obtain ⟨k, m, rfl⟩ := asInt?_some hi
  cases n <;> simp [Instr.sameBits]

theorem sameBits_key {q : KeyKind} {k : Value} (h : keyOk q k = true) : Instr.sameBits 10000 k k = true := by
  unfold keyOk at h
  split at h
  · simp [Instr.sameBits]
  · rename_i n a
    simp only [Bool.and_eq_true] at h
    show Instr.sameBits (9999 + 1) (.agg a) (.agg a) = true
    have key : ∀ l : List Value, (l.all fun v => (asInt? v).isSome) = true → ((l.zip l).all fun p => Instr.sameBits 9999 p.1 p.2) = true := by
      intro l
      induction l with
      | nil => intro _; rfl
      | cons v l ih =>
        intro hl
        simp only [List.all_cons, Bool.and_eq_true] at hl
        simp only [List.zip_cons_cons, List.all_cons, Bool.and_eq_true]
        obtain ⟨k, m, rfl⟩ := asInt?_some hl.1
        exact ⟨sameBits_flat rfl rfl _, ih hl.2⟩
    have := key a.toList h.2
    simp only [Instr.sameBits, beq_self_eq_true, Bool.true_and]
    exact this
  · cases h

theorem eqInts_true {xs ys : List Value} (h : eqInts xs ys = some true) : xs = ys := by
  induction xs generalizing ys with
  | nil =>
    cases ys with
    | nil => rfl
    | cons y ys => simp [eqInts] at h
  | cons x xs ih =>
    cases ys with
    | nil => cases x <;> simp [eqInts] at h
    | cons y ys =>
      unfold eqInts at h
      split at h
      · rename_i e; cases e
      · rename_i h1 h2
        cases h1; cases h2
        obtain ⟨hk, h'⟩ := need_eq h
        cases kindEq_eq hk
        obtain ⟨r', hr, h''⟩ := withX_eq h'
        injection h'' with h''
        simp only [Bool.and_eq_true] at h''
        rw [intEq_eq, beq_iff_eq] at h''
        rw [h''.1, ih (by rw [hr, h''.2])]
      · cases h

/-- an entry that was found has the key itself, at its place -/
theorem evFind_at {q : KeyKind} {k : Value} (hk : keyOk q k = true) : ∀ {es es' : List MapEntry} {i m : Nat} {v : Value}, ERel ρ es es' → evFind k es i = some (some (m, v)) →
    i ≤ m ∧ ∃ e', es'[m - i]? = some e' ∧ e'.key = k
  | [], _, i, m, v, .nil, h => by cases h
  | e0 :: es, _, i, m, v, .cons (e' := e') (l' := es') hke hv hb ht, h => by
    unfold evFind at h
    split at h
    · rename_i hb'
      cases h
      refine ⟨Nat.le_refl _, e', by simp, ?_⟩
      rcases evKeyEq_eq hk hb' with ⟨kk, x, y, _, h1, h2, h3⟩ | ⟨n, x, y, _, h1, h2, h3, h4, h5⟩
      · have : x = y := by simpa using h3.symm
        rw [h2, ← this, ← h1] at hke
        exact keyOk_same hk hke
      · have : x = y := Array.ext' (eqInts_true h5)
        rw [h2, ← this, ← h1] at hke
        exact keyOk_same hk hke
    · obtain ⟨h1, e2, h2, h3⟩ := evFind_at hk ht h
      refine ⟨by omega, e2, ?_, h3⟩
      rw [show m - i = (m - Nat.succ i) + 1 from by omega, List.getElem?_cons_succ]
      exact h2
    · cases h

theorem setAt_rel {k v k' v' : Value} (hk : VRel ρ k k') (hv : VRel ρ v v') : ∀ {es es' : List MapEntry} (n : Nat), ERel ρ es es' → ERel ρ (setAt es n k v) (es'.modify n fun e => { e with key := k', val := v' })
  | [], _, n, .nil => by cases n <;> exact .nil
  | e :: es, _, 0, .cons hk' hv' hb ht => .cons hk hv hb ht
  | e :: es, _, n + 1, .cons hk' hv' hb ht => .cons hk' hv' hb (setAt_rel hk hv n ht)

theorem ERel.append {a a' b b' : List MapEntry} (h : ERel ρ a a') (h' : ERel ρ b b') : ERel ρ (a ++ b) (a' ++ b') := by
  induction h with
  | nil => exact h'
  | cons hk hv hb _ ih => exact .cons hk hv hb ih

theorem run_setObj {w : World} {b c : Nat} {es : Array MapEntry} (h : w.heap[b]? = some (.map es c)) (o : Obj) : (setObj b o).run P w = .ok () { w with heap := w.heap.setIfInBounds b o } := by
  simp [setObj, Sem.run, h]

/-- a map is written -/
theorem Step.writeMap (hH : HRel P base K ρ H w) {i : Nat} (hk : K i) (hW : W i) {es : List MapEntry} {c : Nat} (hg : H.get i = some (.map es c)) {l : Loc} (hl : ρ i = some l)
    {es2 : List MapEntry} {es2' : Array MapEntry} {c2 : Nat} (hr : ERel ρ es2 es2'.toList) {w' : World} (hw : w'.heap = w.heap.setIfInBounds l.blk (.map es2' c2)) (henv : SameEnv w w') : Step P base W K ρ H w ρ (H.set i (.map es2 c2)) w' := by
  have hlt := (hH.dom i l hl).2
  have hat : w'.heap[l.blk]? = some (.map es2' c2) := by rw [hw, Array.getElem?_setIfInBounds]; simp [hlt]
  refine Step.write hH hk hg hl hW (by rw [hw]; simp) (fun b hne => by rw [hw, Array.getElem?_setIfInBounds_ne (fun e => hne e.symm)]) ⟨es2', hat, hr⟩ (fun c' e fz hc => ?_) henv
  rw [hat] at hc; cases hc

theorem opUpdate_run {β : Type} {lo : Nat} {t : TypeId} {x k v : Value} {c : AH → Option β} {r : β} (h : opUpdate P lo H t x k v c = some r) :
    ∃ H', c H' = some r ∧ ∀ (ρ : Map) (W K : Nat → Prop) (w : World) (x' k' v' : Value), HRel P base K ρ H w → VRel ρ x x' → VRel ρ k k' → VRel ρ v v' → (∀ j ∈ idsOf x, K j) → (∀ j ∈ idsOf x, lo ≤ j → W j) →
      ∃ w', (Instr.mapUpdate t x' k' v').run P w = .ok () w' ∧ Step P base W K ρ H w ρ H' w' := by
  unfold opUpdate at h
  obtain ⟨i, hi, hA⟩ := withX_eq h
  obtain ⟨p, hp, hB⟩ := withX_eq hA
  obtain ⟨q, hq, hC⟩ := withX_eq hB
  obtain ⟨H', hu, hF⟩ := bindV_eq hC
  obtain ⟨_, hund, _⟩ := tyI_eq hi
  rw [mapOf_eq hp] at hund
  refine ⟨H', hF, fun ρ W K w x' k' v' hH hx hkr hvr hK hW => ?_⟩
  unfold evUpdate at hu
  obtain ⟨hk, hG⟩ := need_eq hu
  have hk' := keyOk_same hk hkr
  subst hk'
  split at hG
  · rename_i b
    obtain ⟨hlo, hG⟩ := need_eq hG
    have hlo := le_of_ble' hlo
    obtain ⟨es, cl, hg, hI⟩ := withMap_eq hG
    obtain ⟨rr, hr, hJ⟩ := withX_eq hI
    obtain ⟨l, hl, rfl⟩ := hx.map_eq
    have hKb := hK b (by simp [idsOf])
    have hWb := hW b (by simp [idsOf]) hlo
    obtain ⟨es', h3, h4⟩ := map_at hH hKb hg hl
    have hc := run_checkKey_ok hq hk false 9998 w
    obtain ⟨r', h1, h2⟩ := find_run hq hk w h4 hr
    cases h2 with
    | nil =>
      cases hJ
      refine ⟨{ w with heap := w.heap.setIfInBounds l.blk (.map (es'.push { key := k', val := v', born := cl }) (cl + 1)) }, ?_, ?_⟩
      · simp [Instr.mapUpdate, run_underlying hund, run_getObj_map h3, hc, h1, run_setObj h3]
      · exact Step.writeMap hH hKb hWb hg hl (by rw [Array.toList_push]; exact h4.append (.cons hkr hvr rfl .nil)) rfl ⟨rfl, rfl⟩
    | @one m u u' hv =>
      cases hJ
      obtain ⟨_, e', h5, h6⟩ := evFind_at hk h4 hr
      rw [Nat.sub_zero, Array.getElem?_toList] at h5
      refine ⟨{ w with heap := w.heap.setIfInBounds l.blk (.map (es'.modify m fun e => { e with key := k', val := v' }) cl) }, ?_, ?_⟩
      · have hks : (Instr.keyThatStays k' k').run P w = .ok k' w := by simp [Instr.keyThatStays, sameBits_key hk]
        simp [Instr.mapUpdate, run_underlying hund, run_getObj_map h3, hc, h1, h5, h6, hks, run_setObj h3]
      · exact Step.writeMap hH hKb hWb hg hl (by rw [Array.toList_modify]; exact setAt_rel hkr hvr m h4) rfl ⟨rfl, rfl⟩
  · cases hG

end
end Go.Ev
