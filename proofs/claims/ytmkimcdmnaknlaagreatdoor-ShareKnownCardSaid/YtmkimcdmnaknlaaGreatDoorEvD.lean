/- What the evaluator reckons of values is what the model reckons: numbers, equality, keys.
   Conditions: none. -/
import Derived.Test.YtmkimcdmnaknlaaGreatDoorEvC
import Derived.Laws.Append
import Derived.Laws.Small
import Derived.Lib.SliceRun
import Derived.Laws.BitsAllLaws
import Derived.Laws.BitsLemmas
import Derived.Laws.Bits64
namespace Go.Ev

/-! Types. -/
theorem tyI_eq {P : Program} {t : TypeId} {i : TyI} (h : tyI P t = some i) :
    ∃ inf, P.underlying t = some i.desc ∧ P.info? t = some inf ∧ i.size = inf.size ∧ i.bytes = inf.bytes ∧ i.zero = inf.zero ∧ i.agg = aggDesc i.desc := by
  unfold tyI at h
  obtain ⟨d, hd, h⟩ := withX_eq h
  obtain ⟨inf, hi, h⟩ := withX_eq h
  cases h
  exact ⟨inf, hd, hi, rfl, rfl, rfl, rfl⟩

theorem run_typeInfo {P : Program} {t : TypeId} {inf : TypeInfo} (h : P.info? t = some inf) (w : World) : (typeInfo t).run P w = .ok inf w := by
  simp [typeInfo, h]
theorem run_sizeOf {P : Program} {t : TypeId} {i : TyI} (h : tyI P t = some i) (w : World) : (sizeOf t).run P w = .ok i.size w := by
  obtain ⟨inf, _, h2, h3, _⟩ := tyI_eq h
  simp [sizeOf, run_typeInfo h2, h3]
theorem run_isAgg {P : Program} {t : TypeId} {i : TyI} (h : tyI P t = some i) (w : World) : (isAgg t).run P w = .ok i.agg w := by
  obtain ⟨inf, h1, _, _, _, _, h4⟩ := tyI_eq h
  rw [h4]
  cases hd : i.desc <;> simp [isAgg, run_underlying h1, hd, aggDesc]
theorem zeroOf_eq {i : TyI} {z : Value} (h : zeroOf i = some z) : i.zero = some z ∧ plain z = true := by
  unfold zeroOf at h
  obtain ⟨y, hy, h⟩ := withX_eq h
  obtain ⟨hp, h⟩ := need_eq h
  cases h
  exact ⟨hy, hp⟩
theorem run_zeroValue {P : Program} {t : TypeId} {i : TyI} {z : Value} (h : tyI P t = some i) (hz : zeroOf i = some z) (w : World) : (zeroValue t).run P w = .ok z w := by
  obtain ⟨inf, _, h2, _, _, h5, _⟩ := tyI_eq h
  have := (zeroOf_eq hz).1
  rw [h5] at this
  simp [zeroValue, run_typeInfo h2, this]
theorem cellsOf_size {P : Program} {t : TypeId} {i : TyI} (h : tyI P t = some i) : P.cellsOf t = i.size := by
  obtain ⟨inf, _, h2, h3, _⟩ := tyI_eq h
  simp [Program.cellsOf, h2, h3]

/-! Numbers. -/
theorem intLt_eq (a b : Int) : intLt a b = decide (a < b) := by
  cases a with
  | ofNat m =>
    cases b with
    | ofNat n =>
      have h1 : intLt (.ofNat m) (.ofNat n) = Nat.blt m n := rfl
      rw [h1, Bool.eq_iff_iff, decide_eq_true_iff]
      simp only [Nat.blt_eq, Int.ofNat_eq_natCast]
      omega
    | negSucc n =>
      have h1 : intLt (.ofNat m) (.negSucc n) = false := rfl
      rw [h1, eq_comm, decide_eq_false_iff_not]
      simp only [Int.ofNat_eq_natCast]; omega
  | negSucc m =>
    cases b with
    | ofNat n =>
      have h1 : intLt (.negSucc m) (.ofNat n) = true := rfl
      rw [h1, eq_comm, decide_eq_true_iff]
      simp only [Int.ofNat_eq_natCast]; omega
    | negSucc n =>
      have h1 : intLt (.negSucc m) (.negSucc n) = Nat.blt n m := rfl
      rw [h1, Bool.eq_iff_iff, decide_eq_true_iff, Nat.blt_eq]
      omega
theorem intEq_eq (a b : Int) : intEq a b = (a == b) := by
  rw [Bool.eq_iff_iff, beq_iff_eq]
  cases a with
  | ofNat m =>
    cases b with
    | ofNat n =>
      have h1 : intEq (.ofNat m) (.ofNat n) = Nat.beq m n := rfl
      rw [h1, Nat.beq_eq]; simp only [Int.ofNat_eq_natCast]; omega
    | negSucc n =>
      have h1 : intEq (.ofNat m) (.negSucc n) = false := rfl
      rw [h1]; simp
  | negSucc m =>
    cases b with
    | ofNat n =>
      have h1 : intEq (.negSucc m) (.ofNat n) = false := rfl
      rw [h1]; simp
    | negSucc n =>
      have h1 : intEq (.negSucc m) (.negSucc n) = Nat.beq m n := rfl
      rw [h1, Nat.beq_eq]; simp
theorem kindEq_eq {a b : IntKind} (h : kindEq a b = true) : a = b := by
  cases a <;> cases b <;> first | rfl | (exact absurd h (by decide))
theorem wrap_i8' (n : Int) : IntKind.i8.wrap n = (n + 128) % 256 - 128 := by
  simp only [IntKind.wrap, IntKind.bits, IntKind.signed, Bool.true_and]
  by_cases h : n % (2 ^ 8) ≥ 2 ^ (8 - 1)
  · rw [if_pos (by simpa using h)]; omega
  · rw [if_neg (by simpa using h)]; omega
theorem wrap_i16' (n : Int) : IntKind.i16.wrap n = (n + 32768) % 65536 - 32768 := by
  simp only [IntKind.wrap, IntKind.bits, IntKind.signed, Bool.true_and]
  by_cases h : n % (2 ^ 16) ≥ 2 ^ (16 - 1)
  · rw [if_pos (by simpa using h)]; omega
  · rw [if_neg (by simpa using h)]; omega
theorem wrapF_eq (k : IntKind) (n : Int) : wrapF k n = k.wrap n := by
  cases n with
  | ofNat m =>
    have h1 : wrapF k (.ofNat m) = cond (Nat.blt m (topOf k)) (.ofNat m) (k.wrap (.ofNat m)) := rfl
    rw [h1]
    cases hb : Nat.blt m (topOf k) with
    | false => rfl
    | true =>
      rw [Nat.blt_eq] at hb
      show Int.ofNat m = _
      rw [Int.ofNat_eq_natCast]
      cases k
      · rw [wrap_i8']; simp only [topOf] at hb; omega
      · rw [wrap_i16']; simp only [topOf] at hb; omega
      · rw [IntKind.wrap_i32]; simp only [topOf] at hb; omega
      · rw [IntKind.wrap_i64]; simp only [topOf] at hb; omega
      · rw [IntKind.wrap_u8']; simp only [topOf] at hb; omega
      · rw [IntKind.wrap_u16]; simp only [topOf] at hb; omega
      · rw [IntKind.wrap_u32']; simp only [topOf] at hb; omega
      · rw [IntKind.wrap_u64]; simp only [topOf] at hb; omega
  | negSucc m =>
    have h1 : wrapF k (.negSucc m) = cond (k.signed && Nat.blt m (topOf k)) (.negSucc m) (k.wrap (.negSucc m)) := rfl
    rw [h1]
    cases hb : (k.signed && Nat.blt m (topOf k)) with
    | false => rfl
    | true =>
      simp only [Bool.and_eq_true, Nat.blt_eq] at hb
      show Int.negSucc m = _
      cases k
      · rw [wrap_i8']; have := hb.2; simp only [topOf] at this; omega
      · rw [wrap_i16']; have := hb.2; simp only [topOf] at this; omega
      · rw [IntKind.wrap_i32]; have := hb.2; simp only [topOf] at this; omega
      · rw [IntKind.wrap_i64]; have := hb.2; simp only [topOf] at this; omega
      all_goals exact absurd hb.1 (by decide)
theorem bitsOf_eq (k : IntKind) (n : Int) : bitsOf k n = (BitVec.ofInt k.bits n).toNat := by
  rw [BitVec.toNat_ofInt]
  cases n with
  | ofNat m =>
    show m % 2 ^ k.bits = _
    simp only [Int.ofNat_eq_natCast]
    rw [← Int.natCast_emod]; rfl
  | negSucc m =>
    show 2 ^ k.bits - 1 - m % 2 ^ k.bits = _
    have hp : 0 < 2 ^ k.bits := Nat.pow_pos (by omega)
    rw [Int.negSucc_emod _ (by exact_mod_cast hp)]
    have hm := Nat.mod_lt m hp
    have : ((m : Int) % ((2 ^ k.bits : Nat) : Int)) = ((m % 2 ^ k.bits : Nat) : Int) := rfl
    rw [this]; omega
theorem natOf_eq {n : Int} {m : Nat} (h : natOf n = some m) : n = (m : Int) := by
  cases n with
  | ofNat k => cases h; rfl
  | negSucc k => cases h
theorem shlF_eq (k : IntKind) (n : Nat) (a : Int) : shlF k n a = k.wrap (a * 2 ^ n) := by
  cases a with
  | ofNat m =>
    show wrapF k (.ofNat (m * 2 ^ n)) = _
    rw [wrapF_eq]; simp
  | negSucc m => rfl
theorem shrF_eq (n : Nat) (a : Int) : shrF n a = a.fdiv (2 ^ n) := by
  cases a with
  | ofNat m =>
    show Int.ofNat (m / 2 ^ n) = _
    have : ((2 : Int) ^ n) = ((2 ^ n : Nat) : Int) := by simp
    rw [this, Int.ofNat_eq_natCast, Int.ofNat_eq_natCast, Int.ofNat_fdiv]
  | negSucc m => rfl
theorem addF_eq (a b : Int) : addF a b = a + b := by
  cases a <;> cases b <;> rfl

section
variable {P : Program} (w : World) (t : TypeId) {x y v : Value}

theorem ints2_eq {β : Type} {x y : Value} {f : IntKind → Int → Int → Option β} {r : β} (h : ints2 x y f = some r) :
    ∃ k a b, x = .int k a ∧ y = .int k b ∧ f k a b = some r := by
  unfold ints2 at h
  split at h
  · split at h
    · obtain ⟨hk, h'⟩ := need_eq h
      cases kindEq_eq hk
      exact ⟨_, _, _, rfl, rfl, h'⟩
    · cases h
  · cases h

theorem evAdd_run (h : evAdd x y = some v) : (binOp .add t x y).run P w = .ok v w ∧ flat v = true := by
  obtain ⟨k, a, b, rfl, rfl, h'⟩ := ints2_eq h
  cases h'
  simp [binOp_add, Op.intArith, wrapF_eq, addF_eq, flat]
theorem evSub_run (h : evSub x y = some v) : (binOp .sub t x y).run P w = .ok v w ∧ flat v = true := by
  obtain ⟨k, a, b, rfl, rfl, h'⟩ := ints2_eq h
  cases h'
  simp [binOp_sub, Op.intArith, wrapF_eq, flat]; rfl
theorem evMul_run (h : evMul x y = some v) : (binOp .mul t x y).run P w = .ok v w ∧ flat v = true := by
  obtain ⟨k, a, b, rfl, rfl, h'⟩ := ints2_eq h
  cases h'
  simp [binOp_mul, Op.intArith, wrapF_eq, flat]
theorem evQuo_run (h : evQuo x y = some v) : (binOp .quo t x y).run P w = .ok v w ∧ flat v = true := by
  obtain ⟨k, a, b, rfl, rfl, h'⟩ := ints2_eq h
  cases hb : intEq b 0 with
  | true => rw [hb] at h'; cases h'
  | false =>
    rw [hb] at h'; cases h'
    rw [intEq_eq, beq_eq_false_iff_ne] at hb
    simp [binOp_quo, Op.intDiv, wrapF_eq, flat, hb]
theorem evRem_run (h : evRem x y = some v) : (binOp .rem t x y).run P w = .ok v w ∧ flat v = true := by
  obtain ⟨k, a, b, rfl, rfl, h'⟩ := ints2_eq h
  cases hb : intEq b 0 with
  | true => rw [hb] at h'; cases h'
  | false =>
    rw [hb] at h'; cases h'
    rw [intEq_eq, beq_eq_false_iff_ne] at hb
    simp [binOp_rem, Op.intDiv, flat, hb]
theorem evAnd_run (h : evAnd x y = some v) : (binOp .and t x y).run P w = .ok v w ∧ flat v = true := by
  obtain ⟨k, a, b, rfl, rfl, h'⟩ := ints2_eq h
  cases h'
  refine ⟨?_, rfl⟩
  rw [binOp_and, wrapF_eq, bitsOf_eq, bitsOf_eq]
  simp only [Op.intBits, Sem.run_pure, BitVec.toNat_and]; rfl
theorem evOr_run (h : evOr x y = some v) : (binOp .or t x y).run P w = .ok v w ∧ flat v = true := by
  obtain ⟨k, a, b, rfl, rfl, h'⟩ := ints2_eq h
  cases h'
  refine ⟨?_, rfl⟩
  rw [binOp_or, wrapF_eq, bitsOf_eq, bitsOf_eq]
  simp only [Op.intBits, Sem.run_pure, BitVec.toNat_or]; rfl
theorem evXor_run (h : evXor x y = some v) : (binOp .xor t x y).run P w = .ok v w ∧ flat v = true := by
  obtain ⟨k, a, b, rfl, rfl, h'⟩ := ints2_eq h
  cases h'
  refine ⟨?_, rfl⟩
  rw [binOp_xor, wrapF_eq, bitsOf_eq, bitsOf_eq]
  simp only [Op.intBits, Sem.run_pure, BitVec.toNat_xor]; rfl
theorem evAndNot_run (h : evAndNot x y = some v) : (binOp .andNot t x y).run P w = .ok v w ∧ flat v = true := by
  obtain ⟨k, a, b, rfl, rfl, h'⟩ := ints2_eq h
  cases h'
  refine ⟨?_, rfl⟩
  rw [binOp_andNot, wrapF_eq, bitsOf_eq, bitsOf_eq]
  simp only [Op.intBits, Sem.run_pure, BitVec.toNat_and, BitVec.toNat_not]; rfl
theorem evLss_run (h : evLss x y = some v) : (binOp .lss t x y).run P w = .ok v w ∧ flat v = true := by
  obtain ⟨k, a, b, rfl, rfl, h'⟩ := ints2_eq h
  cases h'
  simp [binOp_lss, intLt_eq, flat]
theorem evLeq_run (h : evLeq x y = some v) : (binOp .leq t x y).run P w = .ok v w ∧ flat v = true := by
  obtain ⟨k, a, b, rfl, rfl, h'⟩ := ints2_eq h
  cases h'
  simp [binOp_leq, intLt_eq, flat, ← Int.not_lt]
theorem evGtr_run (h : evGtr x y = some v) : (binOp .gtr t x y).run P w = .ok v w ∧ flat v = true := by
  obtain ⟨k, a, b, rfl, rfl, h'⟩ := ints2_eq h
  cases h'
  simp [binOp_gtr, intLt_eq, flat]
theorem evGeq_run (h : evGeq x y = some v) : (binOp .geq t x y).run P w = .ok v w ∧ flat v = true := by
  obtain ⟨k, a, b, rfl, rfl, h'⟩ := ints2_eq h
  cases h'
  simp [binOp_geq, intLt_eq, flat, ← Int.not_lt]
theorem evShl_run (h : evShl x y = some v) : (binOp .shl t x y).run P w = .ok v w ∧ flat v = true := by
  unfold evShl at h
  split at h
  · split at h
    · obtain ⟨n, hn, h'⟩ := withX_eq h
      cases h'
      have hn' := natOf_eq hn
      subst hn'
      refine ⟨?_, rfl⟩
      rw [binOp_shl, shlF_eq]
      simp only [Op.shift]
      rw [if_neg (by omega)]
      simp [Nat.min_def]
    · cases h
  · cases h
theorem evShr_run (h : evShr x y = some v) : (binOp .shr t x y).run P w = .ok v w ∧ flat v = true := by
  unfold evShr at h
  split at h
  · split at h
    · obtain ⟨n, hn, h'⟩ := withX_eq h
      cases h'
      have hn' := natOf_eq hn
      subst hn'
      refine ⟨?_, rfl⟩
      rw [binOp_shr, shrF_eq]
      simp only [Op.shift]
      rw [if_neg (by omega)]
      simp [Nat.min_def]
    · cases h
  · cases h

theorem eqGuard_num (op : BinOp) (ox oy : Operand) (h : (op matches .eql | .neq) = false) (u v : Value) : eqGuard op t ox oy u v = pure () := by
  cases op <;> first | rfl | (exact absurd h (by decide))

/-! Equality. -/
theorem eqInts_eq {xs ys : List Value} {r : Bool} (h : eqInts xs ys = some r) : xs.length = ys.length ∧ ∀ i : Nat, i < xs.length → ∃ k a b, xs[i]? = some (.int k a) ∧ ys[i]? = some (.int k b) := by
  induction xs generalizing ys r with
  | nil =>
    cases ys with
    | nil => exact ⟨rfl, fun i hi => by simp at hi⟩
    | cons y ys => simp [eqInts] at h
  | cons x xs ih =>
    cases ys with
    | nil => cases x <;> simp [eqInts] at h
    | cons y ys =>
      unfold eqInts at h
      split at h
      · rename_i e; cases e
      · rename_i h1 h2
        cases h1; cases h2
        obtain ⟨hk, h'⟩ := need_eq h
        cases kindEq_eq hk
        obtain ⟨r', hr, h''⟩ := withX_eq h'
        obtain ⟨hl, hi⟩ := ih hr
        refine ⟨by simp [hl], fun i hi' => ?_⟩
        cases i with
        | zero => exact ⟨_, _, _, rfl, rfl⟩
        | succ i => simpa using hi i (by simpa using hi')
      · cases h

theorem run_part_int {P : Program} {e : TypeId} {j : TyI} (he : tyI P e = some j) {kk : IntKind} (hk : intOf j.desc = some kk) {cs : Array Value} {i : Nat} {v : Value} (hv : cs[i]? = some v) (w : World) :
    (part e cs i).run P w = .ok v w := by
  have hag : j.agg = false := by
    obtain ⟨_, _, _, _, _, _, h⟩ := tyI_eq he
    rw [h]; cases hd : j.desc <;> simp [hd, intOf] at hk <;> rfl
  simp [part, run_isAgg he, hag, hv]
theorem run_equalIn_num {P : Program} {e : TypeId} {j : TyI} (he : tyI P e = some j) {kk : IntKind} (hk : intOf j.desc = some kk) (d : Nat) (k : IntKind) (a b : Int) (w : World) :
    (Op.equalIn (d + 1) e (.int k a) (.int k b)).run P w = .ok (a == b) w := by
  obtain ⟨_, h1, _⟩ := tyI_eq he
  cases hd : j.desc <;> simp [hd, intOf] at hk
  rw [hd] at h1
  simp [Op.equalIn, run_underlying h1]

/-- the model's loop over two arrays of ints -/
theorem run_eqLoop {P : Program} {e : TypeId} {j : TyI} (he : tyI P e = some j) {kk : IntKind} (hk : intOf j.desc = some kk) (d : Nat) (a b : Array Value) (w : World) :
    ∀ (m s : Nat) (r : Bool), eqInts ((a.toList.drop s).take m) ((b.toList.drop s).take m) = some r → s + m ≤ a.size → s + m ≤ b.size →
      (forIn (m := Sem) (List.range' s m) ((none, ()) : Option Bool × Unit) fun i _ => do
        let x ← part e a (i * 1)
        let y ← part e b (i * 1)
        let q ← Op.equalIn (d + 1) e x y
        if (!q) = true then pure (ForInStep.done (some false, ())) else pure (ForInStep.yield (none, ()))).run P w
      = .ok (if r then (none, ()) else (some false, ())) w := by
  intro m
  induction m with
  | zero =>
    intro s r h _ _
    simp [eqInts] at h
    subst h
    simp
  | succ m ih =>
    intro s r h h1 h2
    have ha : s < a.size := by omega
    have hb : s < b.size := by omega
    have ea : (a.toList.drop s).take (m + 1) = a[s] :: (a.toList.drop (s + 1)).take m := by
      rw [List.drop_eq_getElem_cons (by simpa using ha), List.take_succ_cons]; simp
    have eb : (b.toList.drop s).take (m + 1) = b[s] :: (b.toList.drop (s + 1)).take m := by
      rw [List.drop_eq_getElem_cons (by simpa using hb), List.take_succ_cons]; simp
    rw [ea, eb] at h
    unfold eqInts at h
    split at h
    · rename_i e1; cases e1
    · rename_i k x xs k' y ys e1 e2
      obtain ⟨hkk, h'⟩ := need_eq h
      cases kindEq_eq hkk
      obtain ⟨r', hr, h''⟩ := withX_eq h'
      cases h''
      injection e1 with e1 e1'
      injection e2 with e2 e2'
      subst e1' e2'
      have pa := run_part_int he hk (cs := a) (i := s * 1) (v := .int k x) (by rw [Nat.mul_one, Array.getElem?_eq_getElem ha, e1]) w
      have pb := run_part_int he hk (cs := b) (i := s * 1) (v := .int k y) (by rw [Nat.mul_one, Array.getElem?_eq_getElem hb, e2]) w
      rw [List.range'_succ, List.forIn_cons]
      simp only [Sem.run_bind, pa, pb, Result.andThen_ok, run_equalIn_num he hk]
      by_cases hxy : x = y
      · subst hxy
        simp only [beq_self_eq_true, Bool.not_true, Bool.false_eq_true, if_false, Sem.run_pure, Result.andThen_ok, intEq_eq, Bool.true_and]
        exact ih (s + 1) r' hr (by omega) (by omega)
      · have hne : (x == y) = false := by simpa using hxy
        simp [hne, intEq_eq]
    · cases h

theorem run_equalIn_ints {P : Program} {t e : TypeId} {n : Nat} {j : TyI} (ht : P.underlying t = some (.array n e)) (he : tyI P e = some j) {kk : IntKind} (hk : intOf j.desc = some kk)
    (hs : j.size = 1) (d : Nat) (a b : Array Value) (ha : a.size = n) (hb : b.size = n) {r : Bool} (h : eqInts a.toList b.toList = some r) (w : World) :
    (Op.equalIn (d + 2) t (.agg a) (.agg b)).run P w = .ok r w := by
  have hl := run_eqLoop he hk d a b w n 0 r (by
    rw [List.drop_zero, List.drop_zero, List.take_of_length_le (by simp [ha]), List.take_of_length_le (by simp [hb])]; exact h) (by omega) (by omega)
  have hsz : (sizeOf e).run P w = .ok 1 w := by rw [run_sizeOf he, hs]
  unfold Op.equalIn
  simp only [Sem.run_bind, run_underlying ht, Result.andThen_ok, hsz]
  simp only [Std.Legacy.Range.forIn_eq_forIn_range', Std.Legacy.Range.size, Nat.sub_zero, Nat.add_sub_cancel, Nat.div_one]
  rw [hl]
  cases r <;> rfl

theorem run_equalIn_nilL {P : Program} (d : Nat) {t e : TypeId} (h : P.underlying t = some (.slice e)) (b : Option Addr) (n c n' c' : Nat) (w : World) :
    (Op.equalIn (d + 1) t (.slice none n c) (.slice b n' c')).run P w = .ok b.isNone w := by
  simp [Op.equalIn, run_underlying h]

/-! What '==' gives. -/
theorem eqKind_eq {P : Program} {t : TypeId} {q : EqKind} (h : eqKind P t = some q) :
    match q with
    | .int => ∃ k, P.underlying t = some (.int k)
    | .bool => P.underlying t = some .bool
    | .slice => ∃ e, P.underlying t = some (.slice e)
    | .ints n => ∃ e j kk, P.underlying t = some (.array n e) ∧ tyI P e = some j ∧ intOf j.desc = some kk ∧ j.size = 1 ∧ P.eqGuardType P.depth t = false := by
  unfold eqKind at h
  obtain ⟨i, hi, h⟩ := withX_eq h
  obtain ⟨_, hu, _⟩ := tyI_eq hi
  split at h
  · rename_i k hd; cases h; rw [hd] at hu; exact ⟨k, hu⟩
  · rename_i hd; cases h; rw [hd] at hu; exact hu
  · rename_i e hd; cases h; rw [hd] at hu; exact ⟨e, hu⟩
  · rename_i n e hd
    obtain ⟨j, hj, h⟩ := withX_eq h
    obtain ⟨kk, hk, h⟩ := withX_eq h
    obtain ⟨h1, h⟩ := need_eq h
    obtain ⟨h2, h⟩ := need_eq h
    cases h
    rw [hd] at hu
    exact ⟨e, j, kk, hu, hj, hk, eq_of_beq' h1, by simpa using h2⟩
  · cases h

/-- what is held against each other is, on the other side, the same -/
theorem VRel.ints {ρ : Map} {l l' : List Value} (h : LRel ρ l l') {r : List Value} {b : Bool} (hb : eqInts l r = some b ∨ eqInts r l = some b) : l' = l := by
  have key : ∀ i : Nat, i < l.length → ∃ k a, l[i]? = some (.int k a) := by
    intro i hi
    rcases hb with hb | hb
    · obtain ⟨_, hh⟩ := eqInts_eq hb
      obtain ⟨k, a, _, e, _⟩ := hh i hi
      exact ⟨k, a, e⟩
    · obtain ⟨hl, hh⟩ := eqInts_eq hb
      obtain ⟨k, _, a, _, e⟩ := hh i (by omega)
      exact ⟨k, a, e⟩
  apply List.ext_getElem?
  intro i
  by_cases hi : i < l.length
  · obtain ⟨k, a, e⟩ := key i hi
    obtain ⟨v', hv, hr⟩ := h.get i _ e
    rw [e, hv]
    cases hr
    rfl
  · have hl := h.length
    rw [List.getElem?_eq_none (by omega), List.getElem?_eq_none (by omega)]

theorem evEqB_run {P : Program} {ρ : Map} {t : TypeId} {q : EqKind} (hq : eqKind P t = some q) {x y x' y' : Value} {r : Bool} (h : evEqB q x y = some r)
    (hx : VRel ρ x x') (hy : VRel ρ y y') (w : World) (ox oy : Operand) :
    (∀ op, (eqGuard op t ox oy x' y').run P w = .ok () w) ∧ (binOp .eql t x' y').run P w = .ok (.bool r) w ∧ (binOp .neq t x' y').run P w = .ok (.bool (!r)) w := by
  have hk := eqKind_eq hq
  cases q with
  | int =>
    obtain ⟨k, a, b, rfl, rfl, h'⟩ := ints2_eq h
    cases h'
    cases hx; cases hy
    simp only [eqGuard_at_int, Sem.run_pure, binOp_eql, binOp_neq, intEq_eq]
    exact ⟨fun _ => trivial, trivial, rfl⟩
  | bool =>
    simp only [evEqB] at h
    split at h
    · cases h
      cases hx; cases hy
      refine ⟨fun op => by simp [eqGuard_at_bool], ?_, ?_⟩
      all_goals
        simp only [binOp, Sem.run_bind, run_equal_bool w t _ _ hk, Result.andThen_ok, Sem.run_pure]
    · cases h
  | slice =>
    obtain ⟨e, hk⟩ := hk
    simp only [evEqB] at h
    have nilL : ∀ (b : Option Addr) (n c n' c' : Nat), (Op.equal t (.slice none n c) (.slice b n' c')).run P w = .ok b.isNone w := fun b n c n' c' =>
      run_equalIn_nilL 9999 hk b n c n' c' w
    have nilR : ∀ (b : Option Addr) (n c n' c' : Nat), (Op.equal t (.slice b n c) (.slice none n' c')).run P w = .ok b.isNone w := fun b n c n' c' =>
      Lib.run_equalIn_slice_nil w 9999 t e b n c n' c' hk
    have fin : ∀ (b : Bool) (x' y' : Value), (∀ op, eqGuard op t ox oy x' y' = pure ()) → (Op.equal t x' y').run P w = .ok b w → (binOp .eql t x' y' = do pure (.bool (← Op.equal t x' y'))) → (binOp .neq t x' y' = do pure (.bool (!(← Op.equal t x' y')))) →
        (∀ op, (eqGuard op t ox oy x' y').run P w = .ok () w) ∧ (binOp .eql t x' y').run P w = .ok (.bool b) w ∧ (binOp .neq t x' y').run P w = .ok (.bool (!b)) w := by
      intro b x' y' h1 h2 h3 h4
      refine ⟨fun op => by rw [h1]; rfl, ?_, ?_⟩
      · rw [h3]; simp only [Sem.run_bind, h2, Result.andThen_ok, Sem.run_pure]
      · rw [h4]; simp only [Sem.run_bind, h2, Result.andThen_ok, Sem.run_pure]
    split at h
    · cases h
      cases hx with
      | flat hf =>
        cases hy with
        | flat hf' => exact fin _ _ _ (fun op => eqGuard_at_slice ..) (nilL _ _ _ _ _) rfl rfl
        | slice hl h1 h2 => exact fin _ _ _ (fun op => eqGuard_at_slice ..) (nilL _ _ _ _ _) rfl rfl
        | sliceE hl ha => exact fin _ _ _ (fun op => eqGuard_at_slice ..) (nilL _ _ _ _ _) rfl rfl
    · cases h
      cases hy with
      | flat hf' =>
        cases hx with
        | flat hf => simp [flat] at hf
        | slice hl h1 h2 => exact fin _ _ _ (fun op => eqGuard_at_slice ..) (nilR _ _ _ _ _) rfl rfl
        | sliceE hl ha => exact fin _ _ _ (fun op => eqGuard_at_slice ..) (nilR _ _ _ _ _) rfl rfl
    · cases h
  | ints n =>
    obtain ⟨e, j, kk, hu, hj, hkk, hs, hg⟩ := hk
    simp only [evEqB] at h
    split at h
    · rename_i a b
      obtain ⟨h1, h⟩ := need_eq h
      simp only [Bool.and_eq_true] at h1
      cases hx with
      | flat hf => simp [flat] at hf
      | agg ha =>
        cases hy with
        | flat hf => simp [flat] at hf
        | agg hb =>
          rename_i a' b'
          have e1 : a' = a := by
            have := VRel.ints ha (.inl h)
            exact Array.ext' this
          have e2 : b' = b := by
            have := VRel.ints hb (.inr h)
            exact Array.ext' this
          subst e1 e2
          have hr := run_equalIn_ints hu hj hkk hs 9998 a' b' (eq_of_beq' h1.1) (eq_of_beq' h1.2) h w
          have hr' : (Op.equal t (.agg a') (.agg b')).run P w = .ok r w := hr
          refine ⟨fun op => ?_, ?_, ?_⟩
          · cases op <;> first | rfl | simp [eqGuard, hg]
          · simp only [binOp, Sem.run_bind, hr', Result.andThen_ok, Sem.run_pure]
          · simp only [binOp, Sem.run_bind, hr', Result.andThen_ok, Sem.run_pure]
    · cases h

end
end Go.Ev
