/- Rows that a function has made, and sets of small numbers as evBits: for walks with unknown inputs.
   Conditions: none. -/
import Derived.Test.YtmkimcdmnaknlaaGreatDoorEvZ
namespace Go.Ev
noncomputable section

/-! Rows of one-cell elements. -/
/-- a row that was made since: its block is from 'b' on -/
def OwnRow (b : Nat) (e : TypeId) (H : AH) (v : Value) (xs : List Value) : Prop :=
  (xs = [] ∧ v = .slice none 0 0) ∨ (∃ j, b ≤ j ∧ j < H.next ∧ v = .slice (some ⟨j, 0, none⟩) xs.length (UNK + 1) ∧ H.get j = some (.cells xs.length xs e) ∧ xs ≠ [])

theorem OwnRow.nil (b : Nat) (e : TypeId) (H : AH) : OwnRow b e H (.slice none 0 0) [] := .inl ⟨rfl, rfl⟩
theorem OwnRow.grown {b : Nat} {e : TypeId} {H H' : AH} {v : Value} {xs : List Value} (h : OwnRow b e H v xs) (g : Grown H H') : OwnRow b e H' v xs := by
  rcases h with h | ⟨j, h1, h2, h3, h4, h5⟩
  · exact .inl h
  · exact .inr ⟨j, h1, Nat.lt_of_lt_of_le h2 g.next, h3, g.get h2 h4, h5⟩

/-- the row that a word tells -/
def rowV (H : AH) (l : List Value) : Value := List.casesOn (motive := fun _ => Value) l (.slice none 0 0) (fun _ _ => newSlice H (lenN l) (Nat.add UNK 1))
def rowH (H : AH) (e : TypeId) (l : List Value) : AH := List.casesOn (motive := fun _ => AH) l H (fun _ _ => H.push (.cells (lenN l) l e))

theorem rowV_nil (H : AH) : rowV H [] = .slice none 0 0 := rfl
theorem rowH_nil (H : AH) (e : TypeId) : rowH H e [] = H := rfl
theorem rowV_cons (H : AH) (x : Value) (l : List Value) : rowV H (x :: l) = .slice (some ⟨H.next, 0, none⟩) (l.length + 1) (UNK + 1) := by
  show newSlice H (lenN (x :: l)) _ = _
  rw [lenN_eq]; rfl
theorem rowH_cons (H : AH) (e : TypeId) (x : Value) (l : List Value) : rowH H e (x :: l) = H.push (.cells (l.length + 1) (x :: l) e) := by
  show H.push (.cells (lenN (x :: l)) (x :: l) e) = _
  rw [lenN_eq]; rfl
theorem rowH_own (H : AH) (e : TypeId) (l : List Value) : OwnRow H.next e (rowH H e l) (rowV H l) l := by
  cases l with
  | nil => exact .inl ⟨rfl, rfl⟩
  | cons x l =>
    rw [rowV_cons, rowH_cons]
    exact .inr ⟨H.next, Nat.le_refl _, by simp, by simp, by rw [AH.get_push, if_pos rfl]; simp, by simp⟩
theorem rowH_grown (H : AH) (e : TypeId) (l : List Value) : Grown H (rowH H e l) := by
  cases l with
  | nil => exact .refl H
  | cons x l => rw [rowH_cons]; exact .push _ _
theorem rowH_next_le (H : AH) (e : TypeId) (l : List Value) : (rowH H e l).next ≤ H.next + 1 := by
  cases l with
  | nil => exact Nat.le_succ _
  | cons x l => rw [rowH_cons]; simp

/-- what is answered is a row that was made: it may be told as one new block -/
theorem OwnRow.shrink {base lo : Nat} {H H1 : AH} {e : TypeId} {v1 : Value} {l : List Value} (h : OwnRow H.next e H1 v1 l) (g : Grown H H1) (hb : base ≤ H.next) (hf : l.all flat = true) :
    ∃ σ, Shrink base lo σ H v1 H1 (rowV H l) (rowH H e l) := by
  rcases h with ⟨h1, h2⟩ | ⟨j, h1, h2, h3, h4, h5⟩
  · subst h1 h2
    refine ⟨id, Nat.le_refl _, fun _ _ => rfl, fun i h1 h2 => absurd h1 (by rw [rowH_nil] at h2; omega), fun i j _ _ h => h, fun i o hi ho => ?_, fun i hi _ => rfl, hb, .flat rfl⟩
    rw [rowH_nil] at hi ho
    exact .inl ⟨hi, ho, g.get hi ho⟩
  · cases l with
    | nil => exact absurd rfl h5
    | cons x l =>
      subst h3
      rw [rowV_cons, rowH_cons]
      refine ⟨fun i => if i < H.next then i else j, by simp, fun i hi => if_pos hi, ?_, ?_, ?_, ?_, hb, ?_⟩
      · intro i h1' h2'
        rw [if_neg (by omega)]
        exact ⟨h1, h2⟩
      · intro a b ha hb' hab
        simp only [AH.next_push] at ha hb'
        by_cases h6 : a < H.next <;> by_cases h7 : b < H.next <;> simp only [h6, h7, if_true, if_false] at hab <;> omega
      · intro i o hi ho
        rw [AH.get_push] at ho
        by_cases hlt : i < H.next
        · rw [if_neg (by omega)] at ho
          exact .inl ⟨hlt, ho, g.get hlt ho⟩
        · simp only [AH.next_push] at hi
          have hi' : i = H.next := by omega
          rw [if_pos hi'] at ho
          cases ho
          refine .inr ⟨_, by rw [if_neg hlt]; exact h4, .cells (by simp) (Nat.le_refl _) ?_⟩
          rw [List.take_of_length_le (by simp)]
          exact .flats hf
      · intro i hi _
        rw [AH.get_push, if_neg (by omega)]
      · have : (fun i => if i < H.next then i else j) H.next = j := if_neg (by omega)
        have h8 : NRel (H.push (.cells (l.length + 1) (x :: l) e)).next (fun i => if i < H.next then i else j) H1 (.slice (some ⟨H.next, 0, none⟩) (l.length + 1) (UNK + 1)) (.slice (some ⟨(fun i => if i < H.next then i else j) H.next, 0, none⟩) (l.length + 1) (UNK + 1)) := .slice (by simp)
        rw [this] at h8
        simpa using h8

/-- what is answered is plain, and nothing that was there is written -/
theorem Shrink.plain {base lo : Nat} {H H1 : AH} {v : Value} (g : Grown H H1) (hb : base ≤ H.next) (hp : plain v = true) : Shrink base lo id H v H1 v H :=
  ⟨Nat.le_refl _, fun _ _ => rfl, fun i h1 h2 => absurd h1 (by omega), fun i j _ _ h => h, fun i o hi ho => .inl ⟨hi, ho, g.get hi ho⟩, fun i hi _ => rfl, hb, .plain hp⟩

theorem roomFor_of {bytes n : Nat} (h : n * bytes ≤ 1099511627776) (h2 : n < 1099511627776) : roomFor bytes n = true := by
  show cond (Nat.ble (n * bytes) 1099511627776) (Nat.blt n 1099511627776) false = true
  rw [Nat.ble_eq_true_of_le h, show Nat.blt n 1099511627776 = true from by rw [Nat.blt_eq]; exact h2]; rfl
theorem fill_int (k : IntKind) (z y : Int) : evFill [(0, 1, .int k z)] (zeros (cellsOf (.int k y)) 1) = some [.int k z] := (rfl)
theorem mul11 : Nat.mul 1 1 = 1 := (rfl)
/-- ints, as they lie in a row -/
def ints (l : List Nat) : List Value := l.map fun c => .int .i64 (.ofNat c)
theorem ints_length (l : List Nat) : (ints l).length = l.length := List.length_map ..
theorem ints_append (a b : List Nat) : ints (a ++ b) = ints a ++ ints b := List.map_append
theorem ints_flat (l : List Nat) : (ints l).all flat = true := by
  induction l with
  | nil => rfl
  | cons c l ih => show (true && (ints l).all flat) = true; rw [ih]; rfl

/-- one element is put behind a row of one's own -/
theorem OwnRow.append {b lo bytes : Nat} {e : TypeId} {H : AH} {v x : Value} {xs : List Value} (h : OwnRow b e H v xs) (hlo : lo ≤ b) (hb : b ≤ H.next + 1) (hr : roomFor bytes (xs.length + 1) = true) (hx : single x = true) :
    ∃ v' H', evAppend lo (H.push (.cells 1 [x] e)) e 1 bytes v (newSlice H 1 1) = some (v', H') ∧ OwnRow b e H' v' (xs ++ [x]) ∧ H.next ≤ H'.next ∧
      ∀ i, i < H.next → i ∉ idsOf v → H'.get i = H.get i := by
  have hrow : rowOf (H.push (.cells 1 [x] e)) 1 (newSlice H 1 1) = some [x] := by
    show cond (Nat.beq 1 0) (some []) (withCells (H.push (.cells 1 [x] e)) H.next fun s cs _ => need (Nat.ble (0 + 1 * 1) s) (some (seg cs 0 (1 * 1)))) = _
    unfold withCells
    rw [AH.get_push, if_pos rfl]; rfl
  have happ : evAppend lo (H.push (.cells 1 [x] e)) e 1 bytes v (newSlice H 1 1) = evAppendTo lo (H.push (.cells 1 [x] e)) e 1 bytes v 1 [x] := by
    show withX (rowOf (H.push (.cells 1 [x] e)) 1 (newSlice H 1 1)) (fun new => need (new.all single) (evAppendTo lo (H.push (.cells 1 [x] e)) e 1 bytes v 1 new)) = _
    rw [hrow]
    show need (single x && true) (evAppendTo lo (H.push (.cells 1 [x] e)) e 1 bytes v 1 [x]) = _
    rw [hx]; rfl
  rw [happ]
  rcases h with ⟨h1, h2⟩ | ⟨j, h1, h2, h3, h4, h5⟩
  · subst h1 h2
    refine ⟨newSlice (H.push (.cells 1 [x] e)) 1 (UNK + 1), (H.push (.cells 1 [x] e)).push (.cells 1 [x] e), ?_, ?_, ?_, ?_⟩
    · show cond (Nat.beq 1 0) (some (Value.slice none 0 0, H.push (.cells 1 [x] e))) (need (roomFor bytes 1) (some (newSlice (H.push (.cells 1 [x] e)) 1 (Nat.add UNK 1), pushRow (H.push (.cells 1 [x] e)) e 1 1 [x]))) = _
      rw [show roomFor bytes 1 = true from hr]; rfl
    · exact .inr ⟨H.next + 1, hb, by simp, rfl, by rw [AH.get_push]; simp, by simp⟩
    · simp; omega
    · intro i hi _
      rw [AH.get_push, if_neg (by simp; omega), AH.get_push, if_neg (by omega)]
  · subst h3
    have hg : (H.push (.cells 1 [x] e)).get j = some (.cells xs.length xs e) := by rw [AH.get_push, if_neg (by omega), h4]
    have hseg : seg xs 0 (xs.length * 1) = xs := by rw [seg_eq]; simp
    refine ⟨newSlice (H.push (.cells 1 [x] e)) (xs.length + 1) (UNK + 1), ((H.push (.cells 1 [x] e)).kill j).push (.cells ((xs.length + 1) * 1) (xs ++ [x]) e), ?_, ?_, ?_, ?_⟩
    · show cond (Nat.beq 1 0) (need (Nat.ble xs.length (UNK + 1)) (some (Value.slice (some ⟨j, 0, none⟩) xs.length (UNK + 1), H.push (.cells 1 [x] e))))
        (need (roomFor bytes (xs.length + 1)) (cond (Nat.ble UNK (UNK + 1)) (need (Nat.beq (UNK + 1) (Nat.add UNK 1)) (evMoved lo (H.push (.cells 1 [x] e)) e 1 j 0 xs.length 1 [x]))
          (cond (Nat.ble (xs.length + 1) (UNK + 1)) (evInPlace lo (H.push (.cells 1 [x] e)) 1 j 0 xs.length (UNK + 1) 1 [x])
            (withX (rowOf (H.push (.cells 1 [x] e)) 1 (.slice (some ⟨j, 0, none⟩) xs.length (UNK + 1))) fun old =>
              some (newSlice (H.push (.cells 1 [x] e)) (xs.length + 1) (Nat.add UNK 1), pushRow (H.push (.cells 1 [x] e)) e 1 (xs.length + 1) (List.append old [x])))))) = _
      rw [hr, Nat.ble_eq_true_of_le (Nat.le_succ UNK), show Nat.beq (UNK + 1) (Nat.add UNK 1) = true from beqt rfl]
      show evMoved lo (H.push (.cells 1 [x] e)) e 1 j 0 xs.length 1 [x] = _
      unfold evMoved withCells
      rw [hg]
      show need (Nat.ble lo j) (need (Nat.beq e e) (need (Nat.ble (0 + xs.length * 1) xs.length) (some (newSlice (H.push (.cells 1 [x] e)) (xs.length + 1) (Nat.add UNK 1), pushRow ((H.push (.cells 1 [x] e)).kill j) e 1 (xs.length + 1) (List.append (seg xs 0 (xs.length * 1)) [x]))))) = _
      rw [Nat.ble_eq_true_of_le (Nat.le_trans hlo h1), beqt rfl, Nat.ble_eq_true_of_le (by omega), hseg]; rfl
    · refine .inr ⟨H.next + 1, hb, by simp, by simp; rfl, ?_, by simp⟩
      rw [AH.get_push]; simp
    · simp; omega
    · intro i hi hn
      simp only [idsOf, List.mem_singleton] at hn
      rw [AH.get_push, if_neg (by simp; omega), AH.get_kill, if_neg hn, AH.get_push, if_neg (by omega)]

theorem over_set (l : List Value) : ∀ (i : Nat) (v : Value), i < l.length → over l i [v] = l.set i v := by
  induction l with
  | nil => intro i v h; simp at h
  | cons x l ih =>
    intro i v h
    cases i with
    | zero => rfl
    | succ i =>
      show x :: over l i [v] = x :: l.set i v
      rw [ih i v (by simpa using h)]

theorem store_at {H : AH} {lo i off s : Nat} {cs : List Value} {e : TypeId} {x : Value} (h : H.get i = some (.cells s cs e)) (hs : cs.length = s) (ho : off < s) (hlo : lo ≤ i) (hc : cellsOf x = [x]) (hx : single x = true) :
    evStore lo H 1 (.pointer (some ⟨i, off, none⟩)) x = some (H.set i (.cells s (cs.set off x) e)) := by
  show evStoreL lo H 1 i off (cellsOf x) = _
  rw [hc]
  unfold evStoreL withCells
  rw [h]
  show need (Nat.ble lo i) (need true (need (Nat.ble (off + 1) s) (need (single x && true) (some (H.set i (.cells s (over cs off [x]) e)))))) = _
  rw [Nat.ble_eq_true_of_le hlo, Nat.ble_eq_true_of_le (by omega), hx, over_set _ _ _ (by omega)]; rfl

/-- one element of a row that was made -/
theorem OwnRow.at {b : Nat} {e : TypeId} {H : AH} {v : Value} {xs : List Value} (o : OwnRow b e H v xs) {j : Nat} (hj : j < xs.length) :
    ∃ a, evIdxSlice 1 v (.int .i64 (.ofNat j)) = some a ∧ evLoad H false 1 a = some xs[j] := by
  rcases o with ⟨h1, _⟩ | ⟨i, _, _, h3, h4, _⟩
  · subst h1; simp at hj
  · subst h3
    refine ⟨_, idx_slice hj, load_at h4 ?_⟩
    rw [Nat.zero_add, Nat.mul_one, List.getElem?_eq_getElem hj]
theorem OwnRow.len {b : Nat} {e : TypeId} {H : AH} {v : Value} {xs : List Value} (o : OwnRow b e H v xs) : evLenS v = some (.int .i64 (.ofNat xs.length)) := by
  rcases o with ⟨h1, h2⟩ | ⟨i, _, _, h3, _, _⟩
  · subst h1 h2; rfl
  · subst h3; rfl

/-! Rows that are handed in. -/
/-- a row of one-cell elements, wherever it lies -/
def RowAt (H : AH) (v : Value) (xs : List Value) : Prop :=
  (xs = [] ∧ ∃ a c, v = .slice a 0 c) ∨ ∃ b off cap s cs e, v = .slice (some ⟨b, off, none⟩) xs.length cap ∧ b < H.next ∧ H.get b = some (.cells s cs e) ∧ seg cs off xs.length = xs

theorem RowAt.grown {H H' : AH} {v : Value} {xs : List Value} (h : RowAt H v xs) (g : Grown H H') : RowAt H' v xs := by
  rcases h with h | ⟨b, off, cap, s, cs, e, h1, h2, h3, h4⟩
  · exact .inl h
  · exact .inr ⟨b, off, cap, s, cs, e, h1, Nat.lt_of_lt_of_le h2 g.next, g.get h2 h3, h4⟩
theorem RowAt.keep {H H' : AH} {v : Value} {xs : List Value} (h : RowAt H v xs) (hn : H.next ≤ H'.next) (hk : ∀ i, i < H.next → i ∈ idsOf v → H'.get i = H.get i) : RowAt H' v xs := by
  rcases h with h | ⟨b, off, cap, s, cs, e, h1, h2, h3, h4⟩
  · exact .inl h
  · exact .inr ⟨b, off, cap, s, cs, e, h1, Nat.lt_of_lt_of_le h2 hn, by rw [hk b h2 (by rw [h1]; exact List.mem_singleton.2 rfl)]; exact h3, h4⟩
theorem RowAt.len {H : AH} {v : Value} {xs : List Value} (h : RowAt H v xs) : evLenS v = some (.int .i64 (.ofNat xs.length)) := by
  rcases h with ⟨h1, a, c, h2⟩ | ⟨b, off, cap, s, cs, e, h1, _, _, _⟩
  · subst h1 h2; rfl
  · rw [h1]; rfl
theorem RowAt.at {H : AH} {v : Value} {xs : List Value} (h : RowAt H v xs) {j : Nat} (hj : j < xs.length) :
    ∃ a, evIdxSlice 1 v (.int .i64 (.ofNat j)) = some a ∧ evLoad H false 1 a = some xs[j] := by
  rcases h with ⟨h1, _⟩ | ⟨b, off, cap, s, cs, e, h1, _, h3, h4⟩
  · subst h1; simp at hj
  · rw [h1]
    refine ⟨_, idx_slice hj, load_at h3 ?_⟩
    have h5 := get_seg cs off xs.length j
    rw [h4, if_pos hj, List.getElem?_eq_getElem hj] at h5
    rw [Nat.mul_one]; exact h5.symm
theorem OwnRow.row {b : Nat} {e : TypeId} {H : AH} {v : Value} {xs : List Value} (o : OwnRow b e H v xs) : RowAt H v xs := by
  rcases o with ⟨h1, h2⟩ | ⟨i, _, h2, h3, h4, _⟩
  · exact .inl ⟨h1, _, _, h2⟩
  · exact .inr ⟨i, 0, _, _, _, _, h3, h2, h4, by rw [seg_eq]; simp⟩
/-- reads a row -/
def lenIs (v : Value) (n : Nat) : Bool := match v with | .slice _ m _ => Nat.beq m n | _ => false
def readRow (H : AH) (v : Value) : Option (List Value) := need ((idsOf v).all fun i => Nat.blt i H.next) (withX (rowOf H 1 v) fun l => need (lenIs v l.length) (some l))
theorem readRow_eq {H : AH} {v : Value} {xs : List Value} (h : readRow H v = some xs) : RowAt H v xs := by
  obtain ⟨h1, h0⟩ := need_eq h
  obtain ⟨l, h2, h6⟩ := withX_eq h0
  obtain ⟨h7, h8⟩ := need_eq h6
  cases h8
  unfold rowOf at h2
  split at h2
  · cases h2; exact .inl ⟨rfl, _, _, rfl⟩
  · rename_i b off len cap
    cases hb : Nat.beq len 0 with
    | true =>
      rw [hb] at h2
      cases h2
      have := eq_of_beq' hb
      subst this
      exact .inl ⟨rfl, _, _, rfl⟩
    | false =>
      rw [hb] at h2
      have h2 : withCells H b (fun s cs _ => need (Nat.ble (Nat.add off (Nat.mul len 1)) s) (some (seg cs off (Nat.mul len 1)))) = some xs := h2
      unfold withCells at h2
      split at h2
      · rename_i s cs e hg
        obtain ⟨h3, h4⟩ := need_eq h2
        cases h4
        have h9 : len = (seg cs off (len * 1)).length := eq_of_beq' h7
        simp only [idsOf, List.all_cons, List.all_nil, Bool.and_true, Nat.blt_eq] at h1
        refine .inr ⟨b, off, cap, s, cs, e, ?_, h1, hg, ?_⟩
        · show Value.slice _ len cap = Value.slice _ (seg cs off (len * 1)).length cap
          rw [← h9]
        · show seg cs off (seg cs off (len * 1)).length = seg cs off (len * 1)
          rw [← h9, Nat.mul_one]
      · cases h2
  · cases h2
/-- signed numbers -/
def intsOf : List Value → Option (List Int)
  | [] => some []
  | v :: vs => match v with
    | .int .i64 x => withX (intsOf vs) fun l => some (x :: l)
    | _ => none
theorem intsOf_eq : ∀ {vs : List Value} {l : List Int}, intsOf vs = some l → vs = l.map fun x => .int .i64 x
  | [], l, h => by cases h; rfl
  | v :: vs, l, h => by
    unfold intsOf at h
    split at h
    · obtain ⟨l2, h3, h4⟩ := withX_eq h
      cases h4
      rw [intsOf_eq h3]; rfl
    · cases h
theorem intsOf_of : ∀ (l : List Int), intsOf (l.map fun x => .int .i64 x) = some l
  | [] => rfl
  | x :: l => by
    show withX (intsOf (l.map fun x => .int .i64 x)) (fun l => some (x :: l)) = _
    rw [intsOf_of l]; rfl

theorem over_all (cs vs : List Value) (h : vs.length = cs.length) : over cs 0 vs = vs := by
  rw [over_eq _ _ _ (by omega)]
  simp [h]
theorem store_all {H : AH} {lo i s : Nat} {cs vs : List Value} {e : TypeId} (h : H.get i = some (.cells s cs e)) (hs : cs.length = s) (hv : vs.length = s) (hlo : lo ≤ i) (h1 : vs.all single = true) :
    evStore lo H s (.pointer (some ⟨i, 0, none⟩)) (.agg ⟨vs⟩) = some (H.set i (.cells s vs e)) := by
  show evStoreL lo H s i 0 vs = _
  unfold evStoreL withCells
  rw [h]
  show need (Nat.ble lo i) (need (Nat.beq (lenN vs) s) (need (Nat.ble (0 + s) s) (need (vs.all single) (some (H.set i (.cells s (over cs 0 vs) e)))))) = _
  rw [Nat.ble_eq_true_of_le hlo, lenN_eq, beqt hv, Nat.ble_eq_true_of_le (by omega), h1, over_all _ _ (by omega)]; rfl
theorem load_all {H : AH} {i s : Nat} {cs : List Value} {e : TypeId} (h : H.get i = some (.cells s cs e)) (hs : cs.length = s) : evLoad H true s (.pointer (some ⟨i, 0, none⟩)) = some (.agg ⟨cs⟩) := by
  have h1 := load_agg (n := s) (off := 0) h (by omega)
  rwa [seg_eq, List.drop_zero, List.take_of_length_le (by omega)] at h1

/-- one element of a row of one's own is written -/
theorem OwnRow.store {b lo : Nat} {e : TypeId} {H : AH} {v : Value} {xs : List Value} (o : OwnRow b e H v xs) (hlo : lo ≤ b) {j : Nat} (hj : j < xs.length) {x : Value} (hc : cellsOf x = [x]) (hx : single x = true) :
    ∃ a H', evIdxSlice 1 v (.int .i64 (.ofNat j)) = some a ∧ evStore lo H 1 a x = some H' ∧ OwnRow b e H' v (xs.set j x) ∧ H'.next = H.next ∧ ∀ i, i ∉ idsOf v → H'.get i = H.get i := by
  rcases o with ⟨h1, _⟩ | ⟨i, h1, h2, h3, h4, h5⟩
  · subst h1; simp at hj
  · subst h3
    refine ⟨_, _, idx_slice hj, store_at h4 rfl (by omega) (by omega) hc hx, ?_, by rw [AH.next_set], ?_⟩
    · refine .inr ⟨i, h1, by rw [AH.next_set]; exact h2, by rw [List.length_set], ?_, ?_⟩
      · rw [AH.get_set, if_pos rfl, Nat.zero_add, Nat.mul_one, List.length_set]
      · intro h6
        have := congrArg List.length h6
        rw [List.length_set] at this
        simp at this
        exact h5 this
    · intro k hk
      rw [AH.get_set, if_neg (by intro h6; exact hk (by rw [h6]; exact List.mem_singleton.2 rfl))]

/-- a row that is not nil, even where it is empty -/
theorem shrink_rowZ {base lo : Nat} {H H1 : AH} {e : TypeId} {blk s' : Nat} {l tail : List Value} (h1 : H.next ≤ blk) (h2 : blk < H1.next) (h4 : H1.get blk = some (.cells s' (l ++ tail) e)) (hs : l.length ≤ s') (g : Grown H H1) (hb : base ≤ H.next) (hf : l.all flat = true) :
    ∃ σ, Shrink base lo σ H (.slice (some ⟨blk, 0, none⟩) l.length (UNK + 1)) H1 (newSlice H l.length (UNK + 1)) (H.push (.cells l.length l e)) := by
  refine ⟨fun i => if i < H.next then i else blk, by simp, fun i hi => if_pos hi, ?_, ?_, ?_, ?_, hb, ?_⟩
  · intro i h1' h2'
    rw [if_neg (by omega)]
    exact ⟨h1, h2⟩
  · intro a b ha hb' hab
    simp only [AH.next_push] at ha hb'
    by_cases h6 : a < H.next <;> by_cases h7 : b < H.next <;> simp only [h6, h7, if_true, if_false] at hab <;> omega
  · intro i o hi ho
    rw [AH.get_push] at ho
    by_cases hlt : i < H.next
    · rw [if_neg (by omega)] at ho
      exact .inl ⟨hlt, ho, g.get hlt ho⟩
    · simp only [AH.next_push] at hi
      have hi' : i = H.next := by omega
      rw [if_pos hi'] at ho
      cases ho
      refine .inr ⟨_, by rw [if_neg hlt]; exact h4, .cells rfl hs ?_⟩
      rw [List.take_left]
      exact .flats hf
  · intro i hi _
    rw [AH.get_push, if_neg (by omega)]
  · have : (fun i => if i < H.next then i else blk) H.next = blk := if_neg (by omega)
    have h8 : NRel (H.push (.cells l.length l e)).next (fun i => if i < H.next then i else blk) H1 (.slice (some ⟨H.next, 0, none⟩) l.length (UNK + 1)) (.slice (some ⟨(fun i => if i < H.next then i else blk) H.next, 0, none⟩) l.length (UNK + 1)) := .slice (by simp)
    rw [this] at h8
    exact h8
theorem Shrink.tuple2 {base lo : Nat} {σ : Nat → Nat} {H H1 H' : AH} {v1 v : Value} (s : Shrink base lo σ H v1 H1 v H') (k : IntKind) (z : Int) : Shrink base lo σ H (.tuple ⟨[v1, .int k z]⟩) H1 (.tuple ⟨[v, .int k z]⟩) H' :=
  ⟨s.next, s.old, s.new, s.inj, s.objs, s.low, s.base, .tuple (.cons s.val (.cons (.flat rfl) .nil))⟩
end
end Go.Ev
