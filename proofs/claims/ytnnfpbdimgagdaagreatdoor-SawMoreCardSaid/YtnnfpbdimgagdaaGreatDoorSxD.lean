/- Contracts of functions of package saw, and of those that it calls (merged from SwL, SwM, SwN, SwO).
   Conditions: none. -/
import Derived.Test.YtnnfpbdimgagdaaGreatDoorSxC
namespace Go.Proofs.YtnnfpbdimgagdaaGreatDoor
open Go Go.Ev
set_option maxRecDepth 100000
noncomputable section

/-- where a number is first, from a place on -/
def idxT (x : Int) : List Int → Nat → Int
  | [], _ => .negSucc 0
  | y :: ys, j => cond (intEq x y) (.ofNat j) (idxT x ys (j + 1))
def hasT (x : Int) : List Int → Bool
  | [] => false
  | y :: ys => cond (intEq x y) true (hasT x ys)
theorem idxT_has (x : Int) : ∀ (l : List Int) (j : Nat), decide ((0 : Int) ≤ idxT x l j) = hasT x l
  | [], _ => rfl
  | y :: ys, j => by
    show decide ((0 : Int) ≤ cond (intEq x y) (Int.ofNat j) (idxT x ys (j + 1))) = cond (intEq x y) true (hasT x ys)
    cases intEq x y with
    | true => exact decide_eq_true (Int.natCast_nonneg j)
    | false => exact idxT_has x ys (j + 1)
theorem hasT_mem (x : Int) : ∀ (l : List Int), hasT x l = true ↔ x ∈ l
  | [] => by simp [hasT]
  | y :: ys => by
    show cond (intEq x y) true (hasT x ys) = true ↔ _
    rw [intEq_eq, List.mem_cons]
    by_cases h : x = y
    · simp [h]
    · have : (x == y) = false := by simpa using h
      rw [this]
      show hasT x ys = true ↔ _
      rw [hasT_mem x ys]
      simp [h]

theorem eql_e (k : IntKind) (x y : Int) : evEql .int (.int k x) (.int k y) = some (.bool (intEq x y)) := by cases k <;> rfl

theorem index_run (call : CallF) (lo : Nat) {sl : Value} {zs : List Int} {x : Int} {H : AH} (hs : RowAt H sl (zs.map fun z => .int .i64 z)) (hlen : zs.length < 90000) :
    F43 call lo [sl, .int .i64 x] H = some (.int .i64 (idxT x zs 0), H) := by
  have hln : evLenS sl = some (.int .i64 (.ofNat zs.length)) := by rw [hs.len, List.length_map]
  have key : EvEnds (C43 call lo (sl, .int .i64 x, undef, undef, undef, undef, undef, undef, ()) H)
      fun e S H1 => e = .ret ∧ S.2.2.1 = .int .i64 (idxT x zs 0) ∧ H1 = H := by
    simp only [C43, seqE_eq, leaf_eq, seqR_normal, hln, bv_some, blockE_eq]
    refine EvEnds.seqR (EvEnds.blockR (EvEnds.mono (Q := fun e S H1 => H1 = H ∧ ((e = .exit 0 ∧ idxT x zs 0 = .negSucc 0) ∨ (e = .ret ∧ S.2.2.1 = .int .i64 (idxT x zs 0)))) ?_ ?_))
    rotate_left
    · rintro e S H1 ⟨rfl, ⟨rfl, h1⟩ | ⟨rfl, h1⟩⟩
      · exact ⟨.ret, _, _, rfl, rfl, by rw [h1], rfl⟩
      · exact ⟨rfl, h1, rfl⟩
    refine EvEnds.loop (fun k S H1 => ∃ j x3 x6 x7, S = (sl, .int .i64 x, .int .i64 (.ofNat 0), x3, .int .i64 (.ofNat zs.length), .int .i64 (.ofNat j), x6, x7, ()) ∧ H1 = H ∧ j ≤ zs.length ∧ k = zs.length - j ∧ idxT x zs 0 = idxT x (zs.drop j) j) ?_ fuel zs.length _ _ (show zs.length < 100000 by omega)
      ⟨0, _, _, _, rfl, rfl, Nat.zero_le _, rfl, rfl⟩
    rintro k S H1 ⟨j, x3, x6, x7, rfl, rfl, hj, rfl, hgo⟩
    rcases Nat.eq_or_lt_of_le hj with hj | hj
    · have hlt : evLss (.int .i64 (.ofNat j)) (.int .i64 (.ofNat zs.length)) = some (.bool false) := by rw [lss_n, blt_f (by omega)]
      rw [hj, List.drop_length] at hgo
      refine ⟨.exit 0, (sl, .int .i64 x, .int .i64 (.ofNat 0), x3, .int .i64 (.ofNat zs.length), .int .i64 (.ofNat j), .bool false, x7, ()), H1, ?_, rfl, .inl ⟨rfl, hgo⟩⟩
      simp only [seqE_eq, leaf_eq, bv_some, seqR_normal, seqR_exit, condE_eq, condB_false, doneE_eq, hlt]
    · have hlt : evLss (.int .i64 (.ofNat j)) (.int .i64 (.ofNat zs.length)) = some (.bool true) := by rw [lss_n, blt_t hj]
      have hadd : evAdd (.int .i64 (.ofNat j)) (.int .i64 (.ofNat 1)) = some (.int .i64 (.ofNat (j + 1))) := add_n (by omega)
      rw [List.drop_eq_getElem_cons hj] at hgo
      obtain ⟨y, hy⟩ : ∃ y, y = zs[j] := ⟨_, rfl⟩
      rw [← hy] at hgo
      have hgo : idxT x zs 0 = cond (intEq x y) (.ofNat j) (idxT x (zs.drop (j + 1)) (j + 1)) := hgo
      obtain ⟨ad, had, hld⟩ := hs.at (j := j) (by rw [List.length_map]; exact hj)
      have hld : evLoad H1 false 1 ad = some (.int .i64 y) := by
        rw [hld, hy]
        congr 1
        simp
      have heq := eql_e .i64 x y
      cases hb : intEq x y with
      | true =>
        rw [hb] at hgo heq
        refine ⟨.ret, (sl, .int .i64 x, .int .i64 (.ofNat j), .int .i64 (.ofNat j), .int .i64 (.ofNat zs.length), .int .i64 (.ofNat j), .bool true, .bool true, ()), H1, ?_, rfl, .inr ⟨rfl, by rw [hgo]; rfl⟩⟩
        simp only [seqE_eq, leaf_eq, bv_some, seqR_normal, seqR_ret, condE_eq, condB_true, doneE_eq, blockE_eq, blockR_ret, hlt, had, hld, heq]
      | false =>
        rw [hb] at hgo heq
        refine ⟨.normal, (sl, .int .i64 x, .int .i64 (.ofNat 0), .int .i64 (.ofNat j), .int .i64 (.ofNat zs.length), .int .i64 (.ofNat (j + 1)), .bool true, .bool false, ()), H1, ?_, zs.length - (j + 1), by omega, j + 1, _, _, _, rfl, rfl, hj, rfl, hgo⟩
        simp only [seqE_eq, leaf_eq, bv_some, seqR_normal, condE_eq, condB_true, condB_false, doneE_eq, blockE_eq, blockR_normal, hlt, had, hld, heq, hadd]
  obtain ⟨e, S, H1, h1, rfl, h2, rfl⟩ := key
  simp only [F43, leave_all, lowOf_all, argAt_zero, argAt_succ, argAt_nil, h1, bv_some, resE_ret, h2, oneOf_one]

/-- reads a row of ints -/
def readInts (H : AH) (v : Value) : Option (List Int) := withX (readRow H v) fun l => withX (intsOf l) fun zs => need (Nat.blt zs.length 90000) (some zs)
theorem readInts_eq {H : AH} {v : Value} {zs : List Int} (h : readInts H v = some zs) : RowAt H v (zs.map fun z => .int .i64 z) ∧ zs.length < 90000 := by
  obtain ⟨l, h1, h2⟩ := withX_eq h
  obtain ⟨z, h3, h4⟩ := withX_eq h2
  obtain ⟨h5, h6⟩ := need_eq h4
  cases h6
  have := readRow_eq h1
  rw [intsOf_eq h3] at this
  rw [Nat.blt_eq] at h5
  exact ⟨this, h5⟩

def sIndex : FnF := fun _ args H => match args with
  | [sl, .int .i64 x] => need (Nat.ble 2 H.next) (withX (readInts H sl) fun zs => some (.int .i64 (idxT x zs 0), H))
  | _ => none
theorem sIndex_ok : SpecOk P 2 43 sIndex := SpecOk.shrink fun lo args H v H' hlo hh => by
  unfold sIndex at hh
  split at hh
  · obtain ⟨h1, hA⟩ := need_eq hh
    obtain ⟨zs, h2, hB⟩ := withX_eq hA
    cases hB
    obtain ⟨h3, h4⟩ := readInts_eq h2
    exact ⟨call0, call0_ok, _, H, id, (mCall_text (F := F43) rfl (by kernel_rfl) lo _ H).trans (index_run _ lo h3 h4), .plain (.refl H) (le_of_ble' h1) rfl⟩
  · cases hh

def sContains : FnF := fun _ args H => match args with
  | [sl, .int .i64 x] => need (Nat.ble 2 H.next) (withX (readInts H sl) fun zs => some (.bool (hasT x zs), H))
  | _ => none
theorem sContains_ok : SpecOk P 2 12 sContains := SpecOk.shrink fun lo args H v H' hlo hh => by
  unfold sContains at hh
  split at hh
  · rename_i sl x
    obtain ⟨h1, hA⟩ := need_eq hh
    obtain ⟨zs, h2, hB⟩ := withX_eq hA
    cases hB
    obtain ⟨h3, h4⟩ := readInts_eq h2
    have hc : mCall P ctx table .leaf 3 lo 43 [sl, .int .i64 x] H = some (.int .i64 (idxT x zs 0), H) :=
      (mCall_text (F := F43) rfl (by kernel_rfl) lo _ H).trans (index_run _ lo h3 h4)
    have hg : evGeq (.int .i64 (idxT x zs 0)) (.int .i64 (.ofNat 0)) = some (.bool (hasT x zs)) := by rw [geq_i]; exact congrArg (fun b => some (Value.bool b)) (idxT_has x zs 0)
    refine ⟨call0, call0_ok, _, H, id, (mCall_text (F := F12) rfl (by kernel_rfl) lo _ H).trans ?_, .plain (.refl H) (le_of_ble' h1) rfl⟩
    simp only [F12, C12, leave_all, lowOf_all, seqE_eq, leaf_eq, seqR_normal, argAt_zero, argAt_succ, argAt_nil, doneE_eq, bv_some, bh_some, hc, hg, resE_ret, oneOf_one]
  · cases hh
end
end Go.Proofs.YtnnfpbdimgagdaaGreatDoor

namespace Go.Proofs.YtnnfpbdimgagdaaGreatDoor
open Go Go.Ev
set_option maxRecDepth 100000
noncomputable section

/-- a slab's error, and its good cells -/
def laidE (w h : Int) (sp : List Int) : Nat × Nat :=
  if w < 1 ∨ 8 < w ∨ h < 1 ∨ 8 < h then (1, 0)
  else if 16 < w * h then (3, 0)
  else spoilP (w * h) sp (-1) (2 ^ (w * h).toNat - 1)
theorem laidP_eq (w h : Int) (sp : List Int) : laidP w h sp = match laidE w h sp with
    | (0, g) => (0, plC w h g (nearTo w.toNat g (w * h).toNat))
    | (e, _) => (e, zeroC) := by
  unfold laidP laidE
  split
  · rfl
  · split
    · rfl
    · rfl
theorem spoilP_le (n : Int) : ∀ (sp : List Int) (last : Int) (g e g' : Nat), spoilP n sp last g = (e, g') → g' ≤ g
  | [], _, g, e, g', h => by cases h; exact Nat.le_refl _
  | c :: cs, last, g, e, g', h => by
    have h : cond (decide (c < 0) || decide (n ≤ c)) (2, 0) (cond (decide (c ≤ last)) (7, 0) (spoilP n cs c (dif g (2 ^ c.toNat)))) = (e, g') := h
    cases h1 : (decide (c < 0) || decide (n ≤ c)) with
    | true => rw [h1] at h; cases h; exact Nat.zero_le _
    | false =>
      rw [h1] at h
      cases h2 : decide (c ≤ last) with
      | true => rw [h2] at h; cases h; exact Nat.zero_le _
      | false =>
        rw [h2] at h
        exact Nat.le_trans (spoilP_le n cs c _ e g' h) Nat.and_le_left
/-- a slab that is laid is small -/
theorem laidE_ok {w h : Int} {sp : List Int} {g : Nat} (hl : laidE w h sp = (0, g)) : 1 ≤ w ∧ w ≤ 8 ∧ 1 ≤ h ∧ h ≤ 8 ∧ w * h ≤ 16 ∧ g < 65536 := by
  unfold laidE at hl
  split at hl
  · cases hl
  · rename_i h1
    split at hl
    · cases hl
    · rename_i h2
      have h3 := spoilP_le _ _ _ _ _ _ hl
      have h4 : (w * h).toNat ≤ 16 := by omega
      have h5 := Nat.pow_le_pow_right (n := 2) (by decide) h4
      have h6 : (2 : Nat) ^ 16 = 65536 := by decide
      exact ⟨by omega, by omega, by omega, by omega, by omega, by omega⟩

def specs4 : Tr FnF := specsOf [(100, sTZ), (74, sTZ), (41, sList), (46, sLight),
  (13, sLaid), (14, sMost), (43, sIndex), (12, sContains)] .leaf
theorem specs4_ok : ∀ f S, specs4.get f = some S → SpecOk P 2 f S := specs_ok (by simp only [List.forall_mem_cons]; exact ⟨sTZ64_ok, sTZ_ok, sList_ok, sLight_ok, sLaid_ok, sMost_ok, sIndex_ok, sContains_ok, by simp⟩)
theorem call4_ok (d : Nat) : CallOk P 2 (mCall P ctx table specs4 d) := mCall_ok mixed ctx table (table_ok rows_ok) specs4 specs4_ok d

/-- the greatest number of blanks of a slab, and the error -/
def sawMostT (w h : Int) (sp : List Int) : Option (Nat × Nat) := match laidE w h sp with
  | (0, g) => withX (mostT (nearTo w.toNat g (w * h).toNat) g w.toNat) fun r => some (r, 0)
  | (e, _) => some (0, e)

theorem sLaid_at {lo : Nat} {w h : Int} {sl : Value} {sp : List Int} {H : AH} (hs : readInts H sl = some sp) (h2 : 2 ≤ H.next) (hlo : lo ≤ H.next) : sLaid lo [.agg ⟨[.int .i64 w, .int .i64 h, sl]⟩] H = some (laidV w h sp, H) := by
  obtain ⟨l, h3, h4⟩ := withX_eq hs
  obtain ⟨z, h5, h6⟩ := withX_eq h4
  obtain ⟨h7, h8⟩ := need_eq h6
  cases h8
  show need (Nat.ble 2 H.next && Nat.ble lo H.next) (withX (readRow H sl) fun l => withX (intsOf l) fun sp => need (Nat.blt sp.length 90000) (some (laidV w h sp, H))) = _
  rw [Nat.ble_eq_true_of_le h2, Nat.ble_eq_true_of_le hlo, h3, withX_some, h5, withX_some, h7]; rfl

theorem readInts_grown {H H' : AH} {v : Value} {zs : List Int} (h : readInts H v = some zs) (g : Grown H H') : readInts H' v = some zs := by
  obtain ⟨l, h3, h4⟩ := withX_eq h
  obtain ⟨h1, h2⟩ := need_eq h3
  have e : readRow H' v = some l := by
    have a : ((idsOf v).all fun i => Nat.blt i H'.next) = true := by
      rw [List.all_eq_true] at h1 ⊢
      intro i hi
      have := h1 i hi
      rw [Nat.blt_eq] at this ⊢
      exact Nat.lt_of_lt_of_le this g.next
    show need ((idsOf v).all fun i => Nat.blt i H'.next) (withX (rowOf H' 1 v) fun l => need (lenIs v l.length) (some l)) = some l
    rw [a]
    have b : rowOf H' 1 v = rowOf H 1 v := by
      unfold rowOf
      split
      · rfl
      · rename_i i off len cap
        rw [List.all_eq_true] at h1
        have := h1 i (by exact List.mem_singleton.2 rfl)
        rw [Nat.blt_eq] at this
        unfold withCells
        rw [g.same i this]
      · rfl
    rw [b]; exact h2
  show withX (readRow H' v) _ = _
  rw [e]; exact h4

theorem sawMost_run (k lo : Nat) {w h : Int} {sl : Value} {sp : List Int} {H : AH} (hs : readInts H sl = some sp) (ht : Tabs H) (hlo : lo ≤ H.next) {r : Nat × Nat} (hr : sawMostT w h sp = some r) :
    ∃ H1, F6 (mCall P ctx table specs4 (k + 1)) lo [.agg ⟨[.int .i64 w, .int .i64 h, sl]⟩] H = some (.tuple ⟨[.int .i64 (.ofNat r.1), .int .i64 (.ofNat r.2)]⟩, H1) ∧ Grown H H1 := by
  obtain ⟨n, hnn⟩ : ∃ n, n = H.next := ⟨_, rfl⟩
  obtain ⟨C, hC⟩ : ∃ C, C = mCall P ctx table specs4 (k + 1) := ⟨_, rfl⟩
  rw [← hC]
  obtain ⟨Ha, hHa⟩ : ∃ Ha, Ha = pushBox H 27 (.agg ⟨[.int .i64 w, .int .i64 h, sl]⟩) := ⟨_, rfl⟩
  have a1 : Ha.next = n + 1 := by rw [hHa, box_next, hnn]
  have a2 : Ha.get n = some (.cells 3 [.int .i64 w, .int .i64 h, sl] 27) := by rw [hHa, hnn, box_get]; rfl
  have ga : Grown H Ha := by rw [hHa]; exact .push _ _
  have la := load_all a2 rfl
  have hcl : C lo 13 [.agg ⟨[.int .i64 w, .int .i64 h, sl]⟩] Ha = some (laidV w h sp, Ha) := by
    rw [hC]; exact (mCall_spec rfl lo _ Ha).trans (sLaid_at (readInts_grown hs ga) (by have := ht.1; omega) (by omega))
  obtain ⟨Hb, hHb⟩ : ∃ Hb, Hb = pushBox Ha 44 z44 := ⟨_, rfl⟩
  have b1 : Hb.next = n + 2 := by rw [hHb, box_next, a1]
  have b2 : Hb.get (n + 1) = some (.cells 19 zeroC 44) := by rw [hHb, ← a1, box_get]; rfl
  have gb : Grown H Hb := by rw [hHb]; exact ga.trans (.push _ _)
  have zl : zeroC.length = 19 := rfl
  have pl : (laidP w h sp).2.length = 19 := by
    rw [laidP_eq]
    split
    · show (plC _ _ _ _).length = 19
      rw [plC_length, nearTo_length]
    · exact zl
  have ps : (laidP w h sp).2.all single = true := by
    rw [laidP_eq]
    split
    · exact plC_single _ _ _ _
    · exact plC_single _ _ _ _
  obtain ⟨Hc, hHc⟩ : ∃ Hc, Hc = Hb.set (n + 1) (.cells 19 (laidP w h sp).2 44) := ⟨_, rfl⟩
  have hst : evStore lo Hb 19 (.pointer (some ⟨n + 1, 0, none⟩)) (.agg ⟨(laidP w h sp).2⟩) = some Hc := by rw [hHc]; exact store_all b2 zl pl (by omega) ps
  have gc : Grown H Hc := by rw [hHc]; exact gb.set (by omega) _
  have c1 : Hc.get (n + 1) = some (.cells 19 (laidP w h sp).2 44) := by rw [hHc, AH.get_set, if_pos rfl]
  have co0 : evComp (laidV w h sp) 0 = some (.agg ⟨(laidP w h sp).2⟩) := rfl
  have co1 : evComp (laidV w h sp) 1 = some (.int .i64 (.ofNat (laidP w h sp).1)) := rfl
  have hsh : ∀ i d, evShift (.pointer (some ⟨i, 0, none⟩)) d = some (.pointer (some ⟨i, 0 + d, none⟩)) := fun i d => rfl
  refine ⟨Hc, ?_, gc⟩
  unfold sawMostT at hr
  obtain ⟨e, g, hle⟩ : ∃ e g, laidE w h sp = (e, g) := ⟨_, _, rfl⟩
  have hP := laidP_eq w h sp
  rw [hle] at hr hP
  cases e with
  | succ e =>
    cases hr
    have hP : laidP w h sp = (e + 1, zeroC) := hP
    rw [hP] at hst co0 co1
    have hne : evNeq .int (.int .i64 (.ofNat (e + 1))) (.int .i64 (.ofNat 0)) = some (.bool true) := by rw [neq_n, beqf (by omega)]; rfl
    simp only [F6, C6, leave_all, lowOf_all, argAt_zero, argAt_succ, argAt_nil, seqE_eq, leaf_eq, seqR_normal, seqR_ret, newPtr_eq, ← hnn, ← hHa, la, hcl, bv_some, bh_some, co0, co1, a1, ← hHb, hst, hne, condE_eq, condB_true, doneE_eq, resE_ret]
    rfl
  | zero =>
    obtain ⟨r1, h1, h2⟩ := withX_eq hr
    cases h2
    obtain ⟨q1, q2, q3, q4, q5, q6⟩ := laidE_ok hle
    have hP : laidP w h sp = (0, plC w h g (nearTo w.toNat g (w * h).toNat)) := hP
    rw [hP] at hst co0 co1 c1 pl
    have hne : evNeq .int (.int .i64 (.ofNat 0)) (.int .i64 (.ofNat 0)) = some (.bool false) := by rw [neq_n]; rfl
    have lc := load_all c1 pl
    have lg : evLoad Hc false 1 (.pointer (some ⟨n + 1, 0 + 2, none⟩)) = some (.int .u64 (.ofNat g)) := load_at c1 rfl
    have hw : Int.ofNat w.toNat = w := by show ((w.toNat : Nat) : Int) = w; omega
    have hcm : C lo 14 [.agg ⟨plC w h g (nearTo w.toNat g (w * h).toNat)⟩, .int .u64 (.ofNat g)] Hc = some (.int .i64 (.ofNat r1), Hc) := by
      rw [hC]
      have := sMost_at (lo := lo) (h := h) (g := g) (H := Hc) (nearTo_lt (g := g) (show 0 < w.toNat by omega) (w * h).toNat (by omega)) (nearTo_length _ _ _) q6 (show 0 < w.toNat by omega) (by have := gc.next; omega) (ht.grown gc) h1
      rw [hw] at this
      exact (mCall_spec rfl lo _ Hc).trans this
    simp only [F6, C6, leave_all, lowOf_all, argAt_zero, argAt_succ, argAt_nil, seqE_eq, leaf_eq, seqR_normal, seqR_ret, newPtr_eq, ← hnn, ← hHa, la, hcl, bv_some, bh_some, co0, co1, a1, ← hHb, hst, hne, condE_eq, condB_false, doneE_eq, hsh, lc, lg, hcm, resE_ret]
    rfl

def sSawMost : FnF := fun lo args H => match args with
  | [.agg ⟨[.int .i64 w, .int .i64 h, sl]⟩] => need (tabsB H && Nat.ble lo H.next) (withX (readInts H sl) fun sp => withX (sawMostT w h sp) fun r => some (.tuple ⟨[.int .i64 (.ofNat r.1), .int .i64 (.ofNat r.2)]⟩, H))
  | _ => none
theorem sSawMost_ok : SpecOk P 2 6 sSawMost := SpecOk.shrink fun lo args H v H' hlo hh => by
  unfold sSawMost at hh
  split at hh
  · obtain ⟨h1, hA⟩ := need_eq hh
    obtain ⟨sp, h2, hB⟩ := withX_eq hA
    obtain ⟨r, h3, hC⟩ := withX_eq hB
    cases hC
    rw [Bool.and_eq_true] at h1
    have ht := tabsB_eq h1.1
    obtain ⟨H1, h5, h6⟩ := sawMost_run 0 lo h2 ht (le_of_ble' h1.2) h3
    exact ⟨mCall P ctx table specs4 2, call4_ok 2, _, H1, id, (mCall_text (F := F6) rfl (by kernel_rfl) lo _ H).trans h5, .plain h6 ht.1 rfl⟩
  · cases hh
end
end Go.Proofs.YtnnfpbdimgagdaaGreatDoor

namespace Go.Proofs.YtnnfpbdimgagdaaGreatDoor
open Go Go.Ev
set_option maxRecDepth 100000
noncomputable section

theorem lss_e (k : IntKind) (x y : Int) : evLss (.int k x) (.int k y) = some (.bool (intLt x y)) := by cases k <;> rfl
theorem nan_run (call : CallF) (lo : Nat) (x : Int) (H : AH) : F98 call lo [.int .i64 x] H = some (.bool false, H) := by
  have h : evNeq .int (.int .i64 x) (.int .i64 x) = some (.bool false) := by rw [neq_i, decide_eq_true rfl]; rfl
  simp only [F98, C98, leave_all, lowOf_all, argAt_zero, argAt_succ, argAt_nil, seqE_eq, leaf_eq, seqR_normal, bv_some, h, doneE_eq, resE_ret, oneOf_one]
theorem less_run (call : CallF) (lo : Nat) (x y : Int) (H : AH) (h : call lo 98 [.int .i64 x] H = some (.bool false, H)) : F68 call lo [.int .i64 x, .int .i64 y] H = some (.bool (intLt x y), H) := by
  have hl := lss_e .i64 x y
  simp only [F68, C68, leave_all, lowOf_all, argAt_zero, argAt_succ, argAt_nil, seqE_eq, leaf_eq, seqR_normal, bv_some, bh_some, h, guarded_ft, guarded_ff, pairVH_eq, pick_false, hl, doneE_eq, resE_ret, oneOf_one]

/-- an element is moved down to its place -/
def bub : Nat → List Int → List Int
  | 0, xs => xs
  | j + 1, xs => match xs[j + 1]?, xs[j]? with
    | some a, some b => cond (intLt a b) (bub j ((xs.set (j + 1) b).set j a)) xs
    | _, _ => xs
theorem bub_length : ∀ (j : Nat) (xs : List Int), (bub j xs).length = xs.length
  | 0, _ => rfl
  | j + 1, xs => by
    unfold bub
    split
    · rename_i a b _ _
      cases intLt a b with
      | true => show (bub j _).length = _; rw [bub_length j]; simp
      | false => rfl
    · rfl
def isoT : Nat → Nat → List Int → List Int
  | _, 0, xs => xs
  | i, k + 1, xs => isoT (i + 1) k (bub i xs)
/-- the list sorted -/
def isortT (xs : List Int) : List Int := isoT 1 (xs.length - 1) xs
theorem isoT_length : ∀ (k i : Nat) (xs : List Int), (isoT i k xs).length = xs.length
  | 0, _, _ => rfl
  | k + 1, i, xs => by unfold isoT; rw [isoT_length k, bub_length]

def intsZ (l : List Int) : List Value := l.map fun z => .int .i64 z
theorem intsZ_length (l : List Int) : (intsZ l).length = l.length := List.length_map ..

theorem isort_run (C : CallF) {b lo : Nat} {e : TypeId} {H : AH} {v : Value} {xs : List Int} (o : OwnRow b e H v (intsZ xs)) (hlo : lo ≤ b) (hlen : xs.length < 1000)
    (hC : ∀ x y H, C lo 68 [.int .i64 x, .int .i64 y] H = some (.bool (intLt x y), H)) :
    ∃ u H1, F62 C lo [v, .int .i64 (.ofNat 0), .int .i64 (.ofNat xs.length)] H = some (u, H1) ∧ OwnRow b e H1 v (intsZ (isortT xs)) ∧ H1.next = H.next ∧ ∀ i, i ∉ idsOf v → H1.get i = H.get i := by
  obtain ⟨n, hn⟩ : ∃ n, n = xs.length := ⟨_, rfl⟩
  rw [← hn]
  simp only [F62, leave_all]
  refine EvEnds.body (Q := fun e' S H1 => e' = .normal ∧ OwnRow b e H1 v (intsZ (isortT xs)) ∧ H1.next = H.next ∧ ∀ i, i ∉ idsOf v → H1.get i = H.get i) ?_ ?_
  rotate_left
  · rintro e' S H1 ⟨rfl, h1⟩
    exact ⟨_, _, rfl, h1⟩
  have h01 : evAdd (.int .i64 (.ofNat 0)) (.int .i64 (.ofNat 1)) = some (.int .i64 (.ofNat 1)) := rfl
  simp only [C62, seqE_eq, leaf_eq, seqR_normal, lowOf_all, argAt_zero, argAt_succ, argAt_nil, bv_some, h01, blockE_eq]
  refine EvEnds.blockR (EvEnds.mono (Q := fun e' S H1 => e' = .exit 0 ∧ OwnRow b e H1 v (intsZ (isortT xs)) ∧ H1.next = H.next ∧ ∀ i, i ∉ idsOf v → H1.get i = H.get i) ?_ ?_)
  rotate_left
  · rintro e' S H1 ⟨rfl, h1⟩
    exact ⟨rfl, h1⟩
  refine EvEnds.loop (fun k S H1 => ∃ i ys x4 x5 x6, S = (v, .int .i64 (.ofNat 0), .int .i64 (.ofNat n), .int .i64 (.ofNat i), x4, x5, x6, ()) ∧ 1 ≤ i ∧ k = n - i ∧ ys.length = n ∧ isortT xs = isoT i (n - i) ys ∧ OwnRow b e H1 v (intsZ ys) ∧ H1.next = H.next ∧ (∀ i, i ∉ idsOf v → H1.get i = H.get i)) ?_ fuel (n - 1) _ _ (show n - 1 < 100000 by omega)
    ⟨1, xs, _, _, _, rfl, Nat.le_refl _, rfl, hn.symm, by rw [hn]; rfl, o, rfl, fun _ _ => rfl⟩
  rintro k S H1 ⟨i, ys, x4, x5, x6, rfl, hi1, rfl, hyl, hgo, o1, hnx, hsm⟩
  rcases Nat.lt_or_ge i n with hi | hi
  · have hlt : evLss (.int .i64 (.ofNat i)) (.int .i64 (.ofNat n)) = some (.bool true) := by rw [lss_n, blt_t hi]
    have hadd : evAdd (.int .i64 (.ofNat i)) (.int .i64 (.ofNat 1)) = some (.int .i64 (.ofNat (i + 1))) := add_n (by omega)
    have hni : n - i = (n - (i + 1)) + 1 := by omega
    have hgo : isortT xs = isoT (i + 1) (n - (i + 1)) (bub i ys) := by rw [hgo, hni]; rfl
    simp only [seqE_eq, leaf_eq, bv_some, seqR_normal, condE_eq, condB_true, doneE_eq, blockE_eq, hlt]
    refine EvEnds.seqR (EvEnds.blockR (EvEnds.blockR (EvEnds.mono (Q := fun e' S H1 => e' = .exit 2 ∧ (∃ x4 x6, S = (v, .int .i64 (.ofNat 0), .int .i64 (.ofNat n), .int .i64 (.ofNat i), x4, .bool true, x6, ())) ∧ OwnRow b e H1 v (intsZ (bub i ys)) ∧ H1.next = H.next ∧ (∀ i, i ∉ idsOf v → H1.get i = H.get i)) ?_ ?_)))
    rotate_left
    · rintro e' S H2 ⟨rfl, ⟨y4, y6, rfl⟩, o2, hnx2, hsm2⟩
      refine ⟨.normal, (v, .int .i64 (.ofNat 0), .int .i64 (.ofNat n), .int .i64 (.ofNat (i + 1)), y4, .bool true, y6, ()), H2, ?_, n - (i + 1), by omega, i + 1, bub i ys, _, _, _, rfl, by omega, rfl, by rw [bub_length]; exact hyl, hgo, o2, hnx2, hsm2⟩
      simp only [leaf_eq, hadd, bv_some]
    refine EvEnds.loop (fun k S H2 => ∃ j zs x6, S = (v, .int .i64 (.ofNat 0), .int .i64 (.ofNat n), .int .i64 (.ofNat i), .int .i64 (.ofNat j), .bool true, x6, ()) ∧ j ≤ i ∧ k = j ∧ zs.length = n ∧ bub i ys = bub j zs ∧ OwnRow b e H2 v (intsZ zs) ∧ H2.next = H.next ∧ (∀ i, i ∉ idsOf v → H2.get i = H.get i)) ?_ fuel i _ _ (show i < 100000 by omega)
      ⟨i, ys, _, rfl, Nat.le_refl _, rfl, hyl, rfl, o1, hnx, hsm⟩
    rintro k S H2 ⟨j, zs, x6', rfl, hj, rfl, hzl, hbu, o2, hnx2, hsm2⟩
    cases k with
    | zero =>
      have hgt : evGtr (.int .i64 (.ofNat 0)) (.int .i64 (.ofNat 0)) = some (.bool false) := rfl
      refine ⟨.exit 2, (v, .int .i64 (.ofNat 0), .int .i64 (.ofNat n), .int .i64 (.ofNat i), .int .i64 (.ofNat 0), .bool true, .bool false, ()), H2, ?_, rfl, ⟨_, _, rfl⟩, by rw [hbu]; exact o2, hnx2, hsm2⟩
      simp only [seqE_eq, leaf_eq, bv_some, bh_some, seqR_normal, seqR_exit, condE_eq, condB_false, doneE_eq, hgt, guarded_ft, pick_false]
    | succ j =>
      have hgt : evGtr (.int .i64 (.ofNat (j + 1))) (.int .i64 (.ofNat 0)) = some (.bool true) := by rw [gtr_n, blt_t (by omega)]
      have hsb : evSub (.int .i64 (.ofNat (j + 1))) (.int .i64 (.ofNat 1)) = some (.int .i64 (.ofNat j)) := sub_n (by omega) (by omega)
      obtain ⟨a1, i1, l1⟩ := o2.at (j := j + 1) (by rw [intsZ_length]; omega)
      obtain ⟨a2, i2, l2⟩ := o2.at (j := j) (by rw [intsZ_length]; omega)
      have e1 : zs[j + 1]? = some (zs[j + 1]'(by omega)) := List.getElem?_eq_getElem (by omega)
      have e2 : zs[j]? = some (zs[j]'(by omega)) := List.getElem?_eq_getElem (by omega)
      obtain ⟨p, hp⟩ : ∃ p, p = zs[j + 1]'(by omega) := ⟨_, rfl⟩
      obtain ⟨q, hq⟩ : ∃ q, q = zs[j]'(by omega) := ⟨_, rfl⟩
      rw [← hp] at e1
      rw [← hq] at e2
      have l1 : evLoad H2 false 1 a1 = some (.int .i64 p) := by rw [l1, hp]; congr 1; simp [intsZ]
      have l2 : evLoad H2 false 1 a2 = some (.int .i64 q) := by rw [l2, hq]; congr 1; simp [intsZ]
      have hls := hC p q H2
      have hstep : bub (j + 1) zs = cond (intLt p q) (bub j ((zs.set (j + 1) q).set j p)) zs := by
        show (match zs[j + 1]?, zs[j]? with
          | some a, some b => cond (intLt a b) (bub j ((zs.set (j + 1) b).set j a)) zs
          | _, _ => zs) = _
        rw [e1, e2]
      rw [hstep] at hbu
      cases hlt2 : intLt p q with
      | false =>
        rw [hlt2] at hls hbu
        refine ⟨.exit 2, (v, .int .i64 (.ofNat 0), .int .i64 (.ofNat n), .int .i64 (.ofNat i), .int .i64 (.ofNat (j + 1)), .bool true, .bool false, ()), H2, ?_, rfl, ⟨_, _, rfl⟩, by rw [hbu]; exact o2, hnx2, hsm2⟩
        simp only [seqE_eq, leaf_eq, bv_some, bh_some, seqR_normal, seqR_exit, condE_eq, condB_false, doneE_eq, hgt, hsb, i1, i2, l1, l2, hls, guarded_tt, pairVH_eq, pick_true]
      | true =>
        rw [hlt2] at hls hbu
        have hbu : bub i ys = bub j ((zs.set (j + 1) q).set j p) := hbu
        obtain ⟨a3, H3, i3, s3, o3, n3, k3⟩ := o2.store hlo (j := j + 1) (by rw [intsZ_length]; omega) (x := .int .i64 q) rfl rfl
        have o3 : OwnRow b e H3 v (intsZ (zs.set (j + 1) q)) := by
          unfold intsZ at o3 ⊢
          rw [List.map_set]; exact o3
        obtain ⟨a4, H4, i4, s4, o4, n4, k4⟩ := o3.store hlo (j := j) (by rw [intsZ_length, List.length_set]; omega) (x := .int .i64 p) rfl rfl
        have o4 : OwnRow b e H4 v (intsZ ((zs.set (j + 1) q).set j p)) := by
          unfold intsZ at o4 ⊢
          rw [List.map_set]; exact o4
        rw [i1] at i3
        cases i3
        rw [i2] at i4
        cases i4
        refine ⟨.normal, (v, .int .i64 (.ofNat 0), .int .i64 (.ofNat n), .int .i64 (.ofNat i), .int .i64 (.ofNat j), .bool true, .bool true, ()), H4, ?_, j, by omega, j, _, _, rfl, by omega, rfl, by rw [List.length_set, List.length_set]; exact hzl, hbu, o4, by rw [n4, n3]; exact hnx2, fun i hi => by rw [k4 i hi, k3 i hi]; exact hsm2 i hi⟩
        simp only [seqE_eq, leaf_eq, bv_some, bh_some, seqR_normal, condE_eq, condB_true, doneE_eq, blockE_eq, blockR_normal, hgt, hsb, i1, i2, l1, l2, hls, guarded_tt, pairVH_eq, pick_true, s3, s4]
  · have hlt : evLss (.int .i64 (.ofNat i)) (.int .i64 (.ofNat n)) = some (.bool false) := by rw [lss_n, blt_f hi]
    have h0 : n - i = 0 := by omega
    rw [h0] at hgo
    refine ⟨.exit 0, (v, .int .i64 (.ofNat 0), .int .i64 (.ofNat n), .int .i64 (.ofNat i), x4, .bool false, x6, ()), H1, ?_, rfl, by rw [hgo]; exact o1, hnx, hsm⟩
    simp only [seqE_eq, leaf_eq, bv_some, seqR_normal, seqR_exit, condE_eq, condB_false, doneE_eq, hlt]
end
end Go.Proofs.YtnnfpbdimgagdaaGreatDoor

namespace Go.Proofs.YtnnfpbdimgagdaaGreatDoor
open Go Go.Ev
set_option maxRecDepth 100000
noncomputable section

/-- a function's value answers as told where what lies below 'B' is as it was, and leaves all as it is -/
def PredOk (C : CallF) (lo : Nat) (fv : Value) (B : Nat) (H0 : AH) (p : Nat → Bool) (xs : List Nat) : Prop :=
  ∀ c ∈ xs, ∀ H' : AH, H0.next ≤ H'.next → (∀ i, i < B → H'.get i = H0.get i) → ∀ {β : Type} (k : Value → AH → Option β), callVal C lo fv [.int .i64 (.ofNat c)] H' k = bindVH (some (.bool (p c), H')) k

def idxF (p : Nat → Bool) : List Nat → Nat → Int
  | [], _ => .negSucc 0
  | c :: cs, j => cond (p c) (.ofNat j) (idxF p cs (j + 1))

theorem indexFunc_run (C : CallF) {lo B : Nat} {fv v : Value} {p : Nat → Bool} {xs : List Nat} {H : AH} (hs : RowAt H v (ints xs)) (hlen : xs.length < 90000) (hp : PredOk C lo fv B H p xs) :
    F73 C lo [v, fv] H = some (.int .i64 (idxF p xs 0), H) := by
  have hln : evLenS v = some (.int .i64 (.ofNat xs.length)) := by rw [hs.len, ints_length]
  have key : EvEnds (C73 C lo (v, fv, undef, undef, undef, undef, undef, undef, ()) H)
      fun e S H1 => e = .ret ∧ S.2.2.1 = .int .i64 (idxF p xs 0) ∧ H1 = H := by
    simp only [C73, seqE_eq, leaf_eq, seqR_normal, hln, bv_some, blockE_eq]
    refine EvEnds.seqR (EvEnds.blockR (EvEnds.mono (Q := fun e S H1 => H1 = H ∧ ((e = .exit 0 ∧ idxF p xs 0 = .negSucc 0) ∨ (e = .ret ∧ S.2.2.1 = .int .i64 (idxF p xs 0)))) ?_ ?_))
    rotate_left
    · rintro e S H1 ⟨rfl, ⟨rfl, h1⟩ | ⟨rfl, h1⟩⟩
      · exact ⟨.ret, _, _, rfl, rfl, by rw [h1], rfl⟩
      · exact ⟨rfl, h1, rfl⟩
    refine EvEnds.loop (fun k S H1 => ∃ j x3 x6 x7, S = (v, fv, .int .i64 (.ofNat 0), x3, .int .i64 (.ofNat xs.length), .int .i64 (.ofNat j), x6, x7, ()) ∧ H1 = H ∧ j ≤ xs.length ∧ k = xs.length - j ∧ idxF p xs 0 = idxF p (xs.drop j) j) ?_ fuel xs.length _ _ (show xs.length < 100000 by omega)
      ⟨0, _, _, _, rfl, rfl, Nat.zero_le _, rfl, rfl⟩
    rintro k S H1 ⟨j, x3, x6, x7, rfl, rfl, hj, rfl, hgo⟩
    rcases Nat.eq_or_lt_of_le hj with hj | hj
    · have hlt : evLss (.int .i64 (.ofNat j)) (.int .i64 (.ofNat xs.length)) = some (.bool false) := by rw [lss_n, blt_f (by omega)]
      rw [hj, List.drop_length] at hgo
      refine ⟨.exit 0, (v, fv, .int .i64 (.ofNat 0), x3, .int .i64 (.ofNat xs.length), .int .i64 (.ofNat j), .bool false, x7, ()), H1, ?_, rfl, .inl ⟨rfl, hgo⟩⟩
      simp only [seqE_eq, leaf_eq, bv_some, seqR_normal, seqR_exit, condE_eq, condB_false, doneE_eq, hlt]
    · have hlt : evLss (.int .i64 (.ofNat j)) (.int .i64 (.ofNat xs.length)) = some (.bool true) := by rw [lss_n, blt_t hj]
      have hadd : evAdd (.int .i64 (.ofNat j)) (.int .i64 (.ofNat 1)) = some (.int .i64 (.ofNat (j + 1))) := add_n (by omega)
      rw [List.drop_eq_getElem_cons hj] at hgo
      obtain ⟨y, hy⟩ : ∃ y, y = xs[j] := ⟨_, rfl⟩
      rw [← hy] at hgo
      have hgo : idxF p xs 0 = cond (p y) (.ofNat j) (idxF p (xs.drop (j + 1)) (j + 1)) := hgo
      obtain ⟨ad, had, hld⟩ := hs.at (j := j) (by rw [ints_length]; exact hj)
      have hld : evLoad H1 false 1 ad = some (.int .i64 (.ofNat y)) := by
        rw [hld, hy]
        congr 1
        simp [ints]
      have hcb := fun {β : Type} (k : Value → AH → Option β) => hp y (by rw [hy]; exact List.getElem_mem _) H1 (Nat.le_refl _) (fun _ _ => rfl) k
      cases hb : p y with
      | true =>
        simp only [hb] at hgo hcb
        refine ⟨.ret, (v, fv, .int .i64 (.ofNat j), .int .i64 (.ofNat j), .int .i64 (.ofNat xs.length), .int .i64 (.ofNat j), .bool true, .bool true, ()), H1, ?_, rfl, .inr ⟨rfl, by rw [hgo]; rfl⟩⟩
        simp only [seqE_eq, leaf_eq, bv_some, bh_some, seqR_normal, seqR_ret, condE_eq, condB_true, doneE_eq, blockE_eq, blockR_ret, hlt, had, hld, hcb]
      | false =>
        simp only [hb] at hgo hcb
        refine ⟨.normal, (v, fv, .int .i64 (.ofNat 0), .int .i64 (.ofNat j), .int .i64 (.ofNat xs.length), .int .i64 (.ofNat (j + 1)), .bool true, .bool false, ()), H1, ?_, xs.length - (j + 1), by omega, j + 1, _, _, _, rfl, rfl, hj, rfl, hgo⟩
        simp only [seqE_eq, leaf_eq, bv_some, bh_some, seqR_normal, condE_eq, condB_true, condB_false, doneE_eq, blockE_eq, blockR_normal, hlt, had, hld, hcb, hadd]
  obtain ⟨e, S, H1, h1, rfl, h2, rfl⟩ := key
  simp only [F73, leave_all, lowOf_all, argAt_zero, argAt_succ, argAt_nil, h1, bv_some, resE_ret, h2, oneOf_one]

theorem idxF_none {p : Nat → Bool} : ∀ {xs : List Nat} {j : Nat}, idxF p xs j = .negSucc 0 → xs.filter (fun c => !p c) = xs
  | [], _, _ => rfl
  | c :: cs, j, h => by
    have h : cond (p c) (.ofNat j) (idxF p cs (j + 1)) = .negSucc 0 := h
    cases hb : p c with
    | true => rw [hb] at h; cases h
    | false =>
      rw [hb] at h
      rw [List.filter_cons, hb]
      simp [idxF_none (show idxF p cs (j + 1) = .negSucc 0 from h)]
theorem idxF_some {p : Nat → Bool} : ∀ {xs : List Nat} {j k : Nat}, idxF p xs j = .ofNat k → ∃ m, k = j + m ∧ m < xs.length ∧ (xs.take m).filter (fun c => !p c) = xs.take m ∧ ∀ h : m < xs.length, p xs[m] = true
  | [], _, _, h => by cases h
  | c :: cs, j, k, h => by
    have h : cond (p c) (.ofNat j) (idxF p cs (j + 1)) = .ofNat k := h
    cases hb : p c with
    | true =>
      rw [hb] at h
      have : j = k := Int.ofNat.inj h
      exact ⟨0, by omega, by simp, rfl, fun _ => hb⟩
    | false =>
      rw [hb] at h
      obtain ⟨m, h1, h2, h3, h4⟩ := idxF_some (show idxF p cs (j + 1) = .ofNat k from h)
      refine ⟨m + 1, by omega, by simp; omega, ?_, fun hh => ?_⟩
      · rw [List.take_succ_cons, List.filter_cons, hb]
        simp [h3]
      · simp only [List.getElem_cons_succ]; exact h4 _
theorem idxF_neg {p : Nat → Bool} : ∀ {xs : List Nat} {j : Nat} {k : Nat}, idxF p xs j = .negSucc k → k = 0
  | [], _, _, h => by cases h; rfl
  | c :: cs, j, k, h => by
    have h : cond (p c) (.ofNat j) (idxF p cs (j + 1)) = .negSucc k := h
    cases hb : p c with
    | true => rw [hb] at h; cases h
    | false => rw [hb] at h; exact idxF_neg (show idxF p cs (j + 1) = .negSucc k from h)

theorem deleteFunc_run (C : CallF) {b lo B : Nat} {e : TypeId} {fv v : Value} {p : Nat → Bool} {xs : List Nat} {H : AH} (o : OwnRow b e H v (ints xs)) (hlo : lo ≤ b) (hB : B ≤ b) (hlen : xs.length < 90000) (hp : PredOk C lo fv B H p xs)
    (hC : C lo 73 [v, fv] H = some (.int .i64 (idxF p xs 0), H)) :
    ∃ v1 H1, F40 C lo [v, fv] H = some (v1, H1) ∧ H1.next = H.next ∧ (∀ i, i ∉ idsOf v → H1.get i = H.get i) ∧
      ((xs.filter (fun c => !p c) = xs ∧ v1 = v ∧ H1 = H) ∨
       (∃ c ∈ xs, p c = true) ∧ ∃ blk tail, b ≤ blk ∧ blk < H.next ∧ v1 = .slice (some ⟨blk, 0, none⟩) (xs.filter fun c => !p c).length (UNK + 1) ∧ H1.get blk = some (.cells xs.length (ints (xs.filter fun c => !p c) ++ tail) e)) := by
  simp only [F40, leave_all]
  have hidx : ∀ r, idxF p xs 0 = r → evEql .int (.int .i64 r) (.int .i64 (.negSucc 0)) = some (.bool (decide (r = .negSucc 0))) := fun r _ => eql_i _ _ _
  cases hr : idxF p xs 0 with
  | negSucc k =>
    have hk := idxF_neg hr
    subst hk
    rw [hr] at hC
    have he := hidx _ hr
    rw [decide_eq_true rfl] at he
    refine ⟨v, H, ?_, rfl, fun _ _ => rfl, .inl ⟨idxF_none hr, rfl, rfl⟩⟩
    simp only [C40, seqE_eq, leaf_eq, seqR_normal, seqR_ret, lowOf_all, argAt_zero, argAt_succ, argAt_nil, bv_some, bh_some, hC, he, condE_eq, condB_true, doneE_eq, resE_ret, oneOf_one]
  | ofNat m0 =>
    rw [hr] at hC
    have he := hidx _ hr
    rw [decide_eq_false (by intro h; cases h)] at he
    obtain ⟨m, h1, hm, hf0, hpm⟩ := idxF_some hr
    have : m0 = m := by omega
    subst this
    have hadd0 : evAdd (.int .i64 (.ofNat m0)) (.int .i64 (.ofNat 1)) = some (.int .i64 (.ofNat (m0 + 1))) := add_n (by omega)
    have hex : ∃ c ∈ xs, p c = true := ⟨xs[m0], List.getElem_mem _, hpm hm⟩
    rcases o with ⟨h1, _⟩ | ⟨blk, hb1, hb2, hv, hb3, hb4⟩
    · have : xs = [] := by cases xs with | nil => rfl | cons => cases h1
      subst this; simp at hm
    have o : OwnRow b e H v (ints xs) := .inr ⟨blk, hb1, hb2, hv, hb3, hb4⟩
    have hln : evLenS v = some (.int .i64 (.ofNat xs.length)) := by rw [o.len, ints_length]
    have hids : idsOf v = [blk] := by rw [hv]; rfl
    suffices h : EvEnds (C40 C lo (v, fv, undef, undef, undef, undef, undef, undef, undef, ()) H) (fun e' S H1 => e' = .ret ∧ H1.next = H.next ∧ (∀ i, i ∉ idsOf v → H1.get i = H.get i) ∧
        S.2.2.1 = .slice (some ⟨blk, 0, none⟩) (xs.filter fun c => !p c).length (UNK + 1) ∧ ∃ tail, H1.get blk = some (.cells xs.length (ints (xs.filter fun c => !p c) ++ tail) e)) by
      obtain ⟨e', S, H1, q1, rfl, q2, q3, q4, tail, q5⟩ := h
      refine ⟨_, H1, ?_, q2, q3, .inr ⟨hex, blk, tail, hb1, hb2, q4, q5⟩⟩
      simp only [lowOf_all, argAt_zero, argAt_succ, argAt_nil, q1, bv_some, resE_ret, oneOf_one]
    simp only [C40, seqE_eq, leaf_eq, seqR_normal, bv_some, bh_some, hC, he, condE_eq, condB_false, doneE_eq, hadd0, blockE_eq]
    refine EvEnds.seqBlock (K := fun S H1 => ∃ ys i j x5 x7 x8, S = (v, fv, .slice none 0 0, .int .i64 (.ofNat i), .int .i64 (.ofNat j), x5, .bool false, x7, x8, ()) ∧ i < xs.length ∧ ys.length = xs.length ∧ ys.take i = xs.filter (fun c => !p c) ∧ OwnRow b e H1 v (ints ys) ∧ H1.next = H.next ∧ (∀ i, i ∉ idsOf v → H1.get i = H.get i)) ?_ ?_
    · refine EvEnds.loop (fun k S H1 => ∃ ys i j x5 x7 x8, S = (v, fv, .slice none 0 0, .int .i64 (.ofNat i), .int .i64 (.ofNat j), x5, .bool false, x7, x8, ()) ∧ i < j ∧ j ≤ xs.length ∧ k = xs.length - j ∧ ys.length = xs.length ∧ ys.take i = (xs.take j).filter (fun c => !p c) ∧ ys.drop j = xs.drop j ∧ OwnRow b e H1 v (ints ys) ∧ H1.next = H.next ∧ (∀ i, i ∉ idsOf v → H1.get i = H.get i)) ?_ fuel (xs.length - (m0 + 1)) _ _ (show xs.length - (m0 + 1) < 100000 by omega)
        ⟨xs, m0, m0 + 1, _, _, _, rfl, by omega, by omega, rfl, rfl, ?_, rfl, o, rfl, fun _ _ => rfl⟩
      · rintro k S H1 ⟨ys, i, j, x5, x7, x8, rfl, hij, hj, rfl, hyl, htk, hdr, o1, hnx, hsm⟩
        rcases Nat.eq_or_lt_of_le hj with hj | hj
        · have hlt : evLss (.int .i64 (.ofNat j)) (.int .i64 (.ofNat xs.length)) = some (.bool false) := by rw [lss_n, blt_f (by omega)]
          rw [hj, List.take_length] at htk
          refine ⟨.exit 0, (v, fv, .slice none 0 0, .int .i64 (.ofNat i), .int .i64 (.ofNat j), x5, .bool false, .bool false, x8, ()), H1, ?_, rfl, ys, i, j, _, _, _, rfl, by omega, hyl, htk, o1, hnx, hsm⟩
          simp only [seqE_eq, leaf_eq, bv_some, seqR_normal, seqR_exit, condE_eq, condB_false, doneE_eq, hln, hlt]
        · have hlt : evLss (.int .i64 (.ofNat j)) (.int .i64 (.ofNat xs.length)) = some (.bool true) := by rw [lss_n, blt_t hj]
          have hadd : evAdd (.int .i64 (.ofNat j)) (.int .i64 (.ofNat 1)) = some (.int .i64 (.ofNat (j + 1))) := add_n (by omega)
          have haddi : evAdd (.int .i64 (.ofNat i)) (.int .i64 (.ofNat 1)) = some (.int .i64 (.ofNat (i + 1))) := add_n (by omega)
          obtain ⟨c, hc⟩ : ∃ c, c = xs[j] := ⟨_, rfl⟩
          have hyj : ys[j]? = some c := by
            have h5 := congrArg (fun l => l[0]?) hdr
            simp only [List.getElem?_drop, Nat.add_zero] at h5
            rw [h5, List.getElem?_eq_getElem hj, hc]
          obtain ⟨ad, had, hld⟩ := o1.at (j := j) (by rw [ints_length]; omega)
          have hld : evLoad H1 false 1 ad = some (.int .i64 (.ofNat c)) := by
            rw [hld]
            have h6 : ys[j]'(by omega) = c := by
              have := List.getElem?_eq_getElem (l := ys) (i := j) (by omega)
              rw [this] at hyj
              exact Option.some.inj hyj
            congr 1
            simp [ints, h6]
          have hcb := fun {β : Type} (k : Value → AH → Option β) => hp c (by rw [hc]; exact List.getElem_mem _) H1 (by omega) (fun i hi => hsm i (by rw [hids]; intro h6; have := List.mem_singleton.1 h6; omega)) k
          have htk1 : xs.take (j + 1) = xs.take j ++ [c] := by rw [List.take_add_one, List.getElem?_eq_getElem hj, hc]; rfl
          have hdr1 : ys.drop (j + 1) = xs.drop (j + 1) := by
            have h5 := congrArg (List.drop 1) hdr
            simpa [List.drop_drop, Nat.add_comm] using h5
          cases hb : p c with
          | true =>
            simp only [hb] at hcb
            refine ⟨.normal, (v, fv, .slice none 0 0, .int .i64 (.ofNat i), .int .i64 (.ofNat (j + 1)), .int .i64 (.ofNat c), .bool false, .bool true, .bool false, ()), H1, ?_, xs.length - (j + 1), by omega, ys, i, j + 1, _, _, _, rfl, by omega, hj, rfl, hyl, ?_, hdr1, o1, hnx, hsm⟩
            · simp only [seqE_eq, leaf_eq, bv_some, bh_some, seqR_normal, condE_eq, condB_true, condB_false, doneE_eq, blockE_eq, blockR_normal, hln, hlt, had, hld, hcb, not_eq, Bool.not_true, hadd]
            · rw [htk1, List.filter_append, htk]
              simp [hb]
          | false =>
            simp only [hb] at hcb
            obtain ⟨a3, H3, i3, s3, o3, n3, k3⟩ := o1.store hlo (j := i) (by rw [ints_length]; omega) (x := .int .i64 (.ofNat c)) rfl rfl
            have o3 : OwnRow b e H3 v (ints (ys.set i c)) := by
              unfold ints at o3 ⊢
              rw [List.map_set]; exact o3
            refine ⟨.normal, (v, fv, .slice none 0 0, .int .i64 (.ofNat (i + 1)), .int .i64 (.ofNat (j + 1)), .int .i64 (.ofNat c), .bool false, .bool true, .bool true, ()), H3, ?_, xs.length - (j + 1), by omega, ys.set i c, i + 1, j + 1, _, _, _, rfl, by omega, hj, rfl, by rw [List.length_set]; exact hyl, ?_, ?_, o3, by rw [n3]; exact hnx, fun i hi => by rw [k3 i hi]; exact hsm i hi⟩
            · simp only [seqE_eq, leaf_eq, bv_some, bh_some, seqR_normal, condE_eq, condB_true, condB_false, doneE_eq, blockE_eq, blockR_normal, hln, hlt, had, hld, hcb, not_eq, Bool.not_false, i3, s3, haddi, hadd]
            · rw [htk1, List.filter_append, ← htk, List.take_add_one, List.take_set_of_le (Nat.le_refl _), List.getElem?_set_self (by omega)]
              simp [hb]
            · rw [List.drop_set_of_lt (by omega)]; exact hdr1
      · rw [List.take_add_one, List.filter_append, hf0, List.getElem?_eq_getElem hm]
        simp [hpm hm]
    · rintro S H1 ⟨ys, i, j, x5, x7, x8, rfl, hi, hyl, htk, o1, hnx, hsm⟩
      have hfl : (xs.filter fun c => !p c).length = i := by rw [← htk, List.length_take]; omega
      have hg1 : H1.get blk = some (.cells ys.length (ints ys) e) := by
        rcases o1 with ⟨h1, _⟩ | ⟨blk', _, _, hv', hg', _⟩
        · have := congrArg List.length h1
          rw [ints_length, List.length_nil] at this
          omega
        · rw [hv] at hv'
          simp only [Value.slice.injEq, Option.some.injEq, Addr.mk.injEq] at hv'
          rw [hv'.1.1]
          rw [ints_length] at hg'; exact hg'
      have hcut1 : evCut 1 v (some (.int .i64 (.ofNat i))) none none = some (.slice (some ⟨blk, 0 + i * 1, none⟩) (xs.length - i) (UNK + 1)) := by
        rw [hv, ints_length]
        show cond (cond (Nat.ble UNK (UNK + 1)) true false) (need (Nat.ble i xs.length) (need (Nat.ble xs.length xs.length) (need (Nat.beq (UNK + 1) (Nat.add UNK 1)) (some (Value.slice (some ⟨blk, Nat.add 0 (Nat.mul i 1), none⟩) (Nat.sub xs.length i) (UNK + 1)))))) _ = _
        rw [Nat.ble_eq_true_of_le (Nat.le_succ UNK), Nat.ble_eq_true_of_le (by omega : i ≤ xs.length), Nat.ble_eq_true_of_le (Nat.le_refl _), show Nat.beq (UNK + 1) (Nat.add UNK 1) = true from beqt rfl]; rfl
      have hcut2 : evCut 1 v none (some (.int .i64 (.ofNat i))) none = some (.slice (some ⟨blk, 0 + 0 * 1, none⟩) (i - 0) (UNK + 1)) := by
        rw [hv, ints_length]
        show cond (cond (Nat.ble UNK (UNK + 1)) true false) (need (Nat.ble 0 i) (need (Nat.ble i xs.length) (need (Nat.beq (UNK + 1) (Nat.add UNK 1)) (some (Value.slice (some ⟨blk, Nat.add 0 (Nat.mul 0 1), none⟩) (Nat.sub i 0) (UNK + 1)))))) _ = _
        rw [Nat.ble_eq_true_of_le (Nat.le_succ UNK), Nat.ble_eq_true_of_le (Nat.zero_le i), Nat.ble_eq_true_of_le (by omega : i ≤ xs.length), show Nat.beq (UNK + 1) (Nat.add UNK 1) = true from beqt rfl]; rfl
      obtain ⟨H2, hH2⟩ : ∃ H2, H2 = H1.set blk (.cells ys.length (over (ints ys) (0 + i * 1) (zeros (cellsOf (.int .i64 (.ofNat 0))) (xs.length - i))) e) := ⟨_, rfl⟩
      have hclr : evClear lo H1 1 (cellsOf (.int .i64 (.ofNat 0))) (.slice (some ⟨blk, 0 + i * 1, none⟩) (xs.length - i) (UNK + 1)) = some H2 := by
        show cond (Nat.beq (xs.length - i) 0) (some H1) (withCells H1 blk fun s cs e' => need (Nat.ble lo blk) (need (Nat.ble (Nat.add (0 + i * 1) (Nat.mul (xs.length - i) 1)) s) (some (H1.set blk (.cells s (over cs (0 + i * 1) (zeros (cellsOf (.int .i64 (.ofNat 0))) (xs.length - i))) e'))))) = _
        rw [beqf (by omega)]
        unfold withCells
        rw [hg1]
        show need (Nat.ble lo blk) (need (Nat.ble (0 + i * 1 + (xs.length - i) * 1) ys.length) _) = _
        rw [Nat.ble_eq_true_of_le (by omega), Nat.ble_eq_true_of_le (by omega), hH2]; rfl
      refine ⟨.ret, (v, fv, .slice (some ⟨blk, 0 + 0 * 1, none⟩) (i - 0) (UNK + 1), .int .i64 (.ofNat i), .int .i64 (.ofNat j), x5, .bool false, x7, x8, ()), H2, ?_, rfl, by rw [hH2, AH.next_set]; exact hnx, fun k hk => by rw [hH2, AH.get_set, if_neg (by intro h6; exact hk (by rw [hids, h6]; exact List.mem_singleton.2 rfl))]; exact hsm k hk, by rw [hfl]; rfl, ?_⟩
      · simp only [seqE_eq, leaf_eq, bv_some, seqR_normal, doneE_eq, hcut1, hclr, hcut2]
      · refine ⟨zeros (cellsOf (.int .i64 (.ofNat 0))) (xs.length - i), ?_⟩
        have hz : (zeros (cellsOf (.int .i64 (.ofNat 0))) (xs.length - i)).length = xs.length - i := by rw [length_zeros]; simp [cellsOf]
        rw [hH2, AH.get_set, if_pos rfl, over_eq _ _ _ (by rw [hz, ints_length]; omega), hz, hyl]
        congr 2
        have h7 : (ints ys).drop (0 + i * 1 + (xs.length - i)) = [] := List.drop_eq_nil_of_le (by rw [ints_length]; omega)
        rw [h7, List.append_nil, Nat.zero_add, Nat.mul_one]
        congr 1
        rw [← htk]
        unfold ints
        rw [List.map_take]
end
end Go.Proofs.YtnnfpbdimgagdaaGreatDoor
