/- What is appended, copied and cleared: the evaluator's is the model's.
   Conditions: none. -/
import Derived.Test.YtmkimcdmnaknlaaGreatDoorEvI
import Derived.Deep.AppendSrc
import Derived.Lib.AppendZerosOnto
namespace Go.Ev
section
variable {P : Program} {base : Nat} {W K : Nat → Prop} {ρ : Map} {H : AH} {w : World}

/-- the cells of a slice, on the other side -/
theorem rowOf_run (hH : HRel P base K ρ H w) {size : Nat} {x x' : Value} {l : List Value} (h : rowOf H size x = some l) (hx : VRel ρ x x') (hK : ∀ j ∈ idsOf x, K j) :
    ∃ (a a' : Option Addr) (n c c' : Nat) (l' : List Value), x = .slice a n c ∧ x' = .slice a' n c' ∧ (∀ w' : World, w'.heap = w.heap → (Builtin.firstCells size n x').run P w' = .ok l'.toArray w') ∧ LRel ρ l l' ∧ l.length = n * size := by
  unfold rowOf at h
  split at h
  · cases h
    cases hx
    exact ⟨none, none, 0, 0, 0, [], rfl, rfl, fun w' _ => by simp [Builtin.firstCells], .nil, by simp⟩
  · rename_i i off len cap
    cases hz : Nat.beq len 0 with
    | true =>
      rw [hz] at h
      cases h
      have hz := eq_of_beq' hz
      subst hz
      cases hx with
      | flat hf => simp [flat] at hf
      | slice h1 h2 h3 => exact ⟨_, _, 0, _, _, [], rfl, rfl, fun w' _ => by simp [Builtin.firstCells, loadCells, loadCellsFrom], .nil, by simp⟩
      | sliceE h1 h2 h3 => exact ⟨_, _, 0, _, _, [], rfl, rfl, fun w' _ => by simp [Builtin.firstCells, loadCells, loadCellsFrom], .nil, by simp⟩
    | false =>
      rw [hz] at h
      simp only [cond_false] at h
      obtain ⟨s, cs, e, hg, hA⟩ := withCells_eq h
      obtain ⟨hb, hB⟩ := need_eq hA
      cases hB
      have hb : off + len * size ≤ s := le_of_ble' hb
      have hk : K i := hK i (by simp [idsOf])
      cases hx with
      | flat hf => simp [flat] at hf
      | slice h1 h2 h3 =>
        obtain ⟨vs, h4, h5⟩ := run_loadSeg hH hk hg h1 off (len * size) hb
        obtain ⟨l', hl', hf, _⟩ := hH.fit i _ hk hg
        refine ⟨_, _, len, _, _, vs, rfl, rfl, fun w' hw' => by simpa [Builtin.firstCells] using h4 w' hw', h5, ?_⟩
        rw [length_seg _ _ _ (by rw [hf.1]; exact hb)]
        rfl
      | sliceE h1 h2 h3 => exact absurd hz (by simp)
  · cases h

theorem all_single {l l' : List Value} (h : l.all single = true) (hr : LRel ρ l l') : ∀ v ∈ l', v.oneCell' = true := by
  induction hr using LRel.rec (motive_1 := fun _ _ _ => True) with
  | nil => intro v hv; cases hv
  | cons hv t _ ih =>
    simp only [List.all_cons, Bool.and_eq_true] at h
    intro v hm
    rcases List.mem_cons.1 hm with rfl | hm
    · exact hv.single h.1
    · exact ih h.2 v hm
  | _ => trivial

/-- a row that is made anew, with unknown room behind it -/
theorem fresh_row (hH : HRel P base K ρ H w) (e : TypeId) {size m g : Nat} {z : Value} (hz : z.cells.size = size) {l l' : List Value} (hl : LRel ρ l l') (hlen : l.length = m * size) (hg : m ≤ g)
    {w' : World} (hw : w'.heap = w.heap.push (.cells (l'.toArray ++ Builtin.zeroCells z.cells (g - m)) e)) (henv : SameEnv w w') :
    ∃ ρ', VRel ρ' (newSlice H m (Nat.add UNK size)) (.slice (some ⟨w.heap.size, 0, none⟩) m g) ∧ Step P base W K ρ H w ρ' (pushRow H e size m l) w' := by
  let c := l'.toArray ++ Builtin.zeroCells z.cells (g - m)
  have hc : c.size = g * size := by
    have := hl.length
    simp only [c, Array.size_append, List.size_toArray, Builtin.zeroCells, Array.size_map, Array.size_range, hz]
    rw [← this, hlen, ← Nat.add_mul]; congr 1; omega
  refine ⟨upd ρ H.next ⟨w.heap.size, 0, c.size⟩, newSlice_rel H ⟨w.heap.size, 0, c.size⟩ rfl m _ g (fun h => ?_) (fun _ => ⟨hg, ?_⟩), ?_⟩
  · exact absurd h (Nat.not_lt_of_le (Nat.le_add_right _ _))
  · show g * (UNK + size - UNK) ≤ c.size
    rw [hc, Nat.add_sub_cancel_left]; exact Nat.le_refl _
  · have := Step.newCells (W := W) hH e l c (fun i v hi => by
      obtain ⟨v', a, b⟩ := hl.get i v hi
      refine ⟨v', ?_, b⟩
      have hlt : i < l'.toArray.size := by
        rcases Nat.lt_or_ge i l'.length with h | h
        · simpa using h
        · rw [List.getElem?_eq_none h] at a; cases a
      rw [Array.getElem?_append_left hlt]; simpa using a) hw henv
    unfold pushRow
    rw [hlen] at this
    exact this

theorem grownCap_ge (w : World) (need old : Nat) (e : TypeId) : need ≤ grownCap w need old e := by
  unfold grownCap Question.cut
  exact Nat.le_add_right _ _

theorem roomFor_eq {bytes n : Nat} (h : roomFor bytes n = true) : n * bytes ≤ 1099511627776 ∧ n < 1099511627776 := by
  unfold roomFor at h
  cases hb : Nat.ble (Nat.mul n bytes) BIG with
  | false => rw [hb] at h; cases h
  | true => rw [hb] at h; exact ⟨le_of_ble' hb, by simpa only [Nat.blt_eq, BIG, cond_true] using h⟩

/-- the facts of a call of append on slices -/
structure AppCtx (P : Program) (st xt e e' : TypeId) (i : TyI) (z : Value) : Prop where
  hst : P.underlying st = some (.slice e)
  hxt : P.underlying xt = some (.slice e')
  he : tyI P e = some i
  hz : zeroOf i = some z
  hsz : z.cells.size = i.size

theorem append_fresh {st xt e e' ty : TypeId} {i : TyI} {z : Value} (C : AppCtx P st xt e e' i z) (hH : HRel P base K ρ H w)
    {a : Option Addr} {len cap n : Nat} {old old' new new' : List Value} {x' : Value}
    (hold : ∀ w' : World, w'.heap = w.heap → (Builtin.firstCells i.size len (.slice a len cap)).run P w' = .ok old'.toArray w') (hor : LRel ρ old old') (hol : old.length = len * i.size)
    (hx : Src P i.size xt x' n new' w) (hnr : LRel ρ new new') (hnl : new.length = n * i.size) (hcap : cap < len + n) (hroom : roomFor i.bytes (len + n) = true) :
    ∃ u' w' ρ', (Builtin.append_ #[st, xt] ty #[.slice a len cap, x']).run P w = .ok u' w' ∧ VRel ρ' (newSlice H (len + n) (Nat.add UNK i.size)) u' ∧
      Step P base W K ρ H w ρ' (pushRow H e i.size (len + n) (old ++ new)) w' := by
  obtain ⟨inf, _, hinf, hsz, hby, hzz, _⟩ := tyI_eq C.he
  have hz' := zeroOf_eq C.hz
  obtain ⟨r1, r2⟩ := roomFor_eq hroom
  have hfit : Builtin.nextslicecap (len + n) cap * inf.bytes ≤ 281474976710656 := growslice_fits hcap (by rw [← hby]; omega)
  have hrun := run_append_grow_src w st xt ty e inf z C.hst hinf (by rw [← hzz]; exact hz'.1) a len cap old' (by rw [← hsz]; exact hold _ rfl) x' n new' (by rw [← hsz]; exact hx) hcap (by omega) hfit
  obtain ⟨ρ', h1, h2⟩ := fresh_row (W := W) hH e (m := len + n) (g := grownCap w (len + n) cap e) C.hsz (LRel.append hor hnr) (by rw [List.length_append, hol, hnl, Nat.add_mul]) (grownCap_ge ..)
    (w' := w.drew.alloc (.cells ((old' ++ new').toArray ++ Builtin.zeroCells z.cells (grownCap w (len + n) cap e - (len + n))) e)) rfl ⟨rfl, rfl⟩
  exact ⟨_, _, ρ', hrun, h1, h2⟩

/-- there is room: what is stored -/
theorem append_room {st xt e e' ty : TypeId} {i : TyI} {z : Value} (C : AppCtx P st xt e e' i z) {b off len cap n : Nat} {new' : List Value} {x' : Value}
    (hx : Src P i.size xt x' n new' w) {c : Array Value} {t : TypeId} {fz : Nat × Nat} (hc : w.heap[b]? = some (.cells c t fz)) (hfz : fz.2 = 0) (hcs : off + len * i.size + new'.length ≤ c.size) (hroom : len + n ≤ cap) :
    (Builtin.append_ #[st, xt] ty #[.slice (some ⟨b, off, none⟩) len cap, x']).run P w = .ok (.slice (some ⟨b, off, none⟩) (len + n) cap)
      (w.setRow b (c.toList.take (off + len * i.size) ++ new' ++ c.toList.drop (off + len * i.size + new'.length)).toArray) := by
  obtain ⟨inf, _, hinf, hsz, hby, hzz, _⟩ := tyI_eq C.he
  have hst := run_storeCells_atF P b (off + len * i.size) t fz new' 0 c w hc (by omega) (by omega) hx.one
  simp only [Nat.add_zero] at hst
  simp [Builtin.append_, run_underlying C.hst, run_underlying C.hxt, run_sizeOf C.he, hx.len, hroom, hx.cells, Addr.add_lit, hst]

theorem idsOf_slice (i off len cap : Nat) : idsOf (.slice (some ⟨i, off, none⟩) len cap) = [i] := rfl

/-- what an append does: nothing, a store, or a new row -/
theorem evAppend_run {st xt e e' ty : TypeId} {i : TyI} {z : Value} (C : AppCtx P st xt e e' i z) {lo : Nat} (hlo : base ≤ lo) {s x s' x' u : Value} {H' : AH}
    (h : evAppend lo H e i.size i.bytes s x = some (u, H')) (hH : HRel P base K ρ H w) (hs : VRel ρ s s') (hx : VRel ρ x x') (hKs : ∀ j ∈ idsOf s, K j) (hKx : ∀ j ∈ idsOf x, K j)
    (hW : ∀ j ∈ idsOf s, lo ≤ j → W j) :
    ∃ u' w' ρ', (Builtin.append_ #[st, xt] ty #[s', x']).run P w = .ok u' w' ∧ VRel ρ' u u' ∧ Step P base W K ρ H w ρ' H' w' := by
  unfold evAppend at h
  split at h
  case h_2 => cases h
  rename_i xa n xc
  obtain ⟨new, hnew, hA⟩ := withX_eq h
  obtain ⟨hsing, hB⟩ := need_eq hA
  obtain ⟨_, a', n, _, c', new', heq, hxe, hrun, hnr, hnl⟩ := rowOf_run hH hnew hx hKx
  injection heq with _ heq _
  subst heq
  have hsrc : Src P i.size xt x' n new' w := ⟨.inl ⟨e', C.hxt⟩, fun w' => by rw [hxe]; rfl, hrun w rfl, hrun w.drew rfl, by rw [← hnr.length, hnl], all_single hsing hnr⟩
  unfold evAppendTo at hB
  split at hB
  · -- nil
    cases hs
    cases hz : Nat.beq n 0 with
    | true =>
      rw [hz] at hB
      cases hB
      have hn := eq_of_beq' hz
      refine ⟨.slice none 0 0, w, ρ, ?_, VRel.flat rfl, Step.refl hH⟩
      have hl := hsrc.len w
      have hc := hsrc.cells
      rw [hn] at hl hc
      simp [Builtin.append_, run_underlying C.hst, run_underlying C.hxt, run_sizeOf C.he, hl, hc]
    | false =>
      rw [hz] at hB
      obtain ⟨hroom, hC⟩ := need_eq hB
      cases hC
      have hn := ne_of_beq' hz
      have := append_fresh (W := W) (ty := ty) C hH (a := none) (len := 0) (cap := 0) (old := []) (old' := []) (fun w' _ => by simp [Builtin.firstCells]) .nil (by simp) hsrc hnr hnl (by omega) (by rw [Nat.zero_add]; exact hroom)
      rw [Nat.zero_add, List.nil_append] at this
      exact this
  · -- a slice
    rename_i b off len cap
    have hKb : K b := hKs b (by simp [idsOf])
    cases hz : Nat.beq n 0 with
    | true =>
      rw [hz] at hB
      obtain ⟨hle, hC⟩ := need_eq hB
      cases hC
      have hle := le_of_ble' hle
      have hn := eq_of_beq' hz
      have hl := hsrc.len w
      have hc := hsrc.cells
      rw [hn] at hl hc
      have hnew0 : new' = [] := by
        have := hsrc.newsLen
        rw [hn, Nat.zero_mul] at this
        exact List.length_eq_zero_iff.1 this
      rw [hnew0] at hc
      refine ⟨s', w, ρ, ?_, hs, Step.refl hH⟩
      cases hs with
      | flat hf => simp [flat] at hf
      | @slice _ _ _ _ c lc hρ k1 k2 =>
        have hlc : len ≤ c := by
          rcases Nat.lt_or_ge cap UNK with hlt | hge
          · rw [k1 hlt]; exact hle
          · exact (k2 hge).1
        simp [Builtin.append_, run_underlying C.hst, run_underlying C.hxt, run_sizeOf C.he, hl, hc, hlc, storeCells]
      | sliceE hρ ha hc' =>
        simp [Builtin.append_, run_underlying C.hst, run_underlying C.hxt, run_sizeOf C.he, hl, hc, storeCells]
    | false =>
      rw [hz] at hB
      obtain ⟨hroom, hC⟩ := need_eq hB
      have hn := ne_of_beq' hz
      cases hU : Nat.ble UNK cap with
      | true =>
        rw [hU] at hC
        simp only [cond_true] at hC
        obtain ⟨hcap, hD⟩ := need_eq hC
        have hcap : cap = UNK + i.size := eq_of_beq' hcap
        have hU' := le_of_ble' hU
        unfold evMoved at hD
        obtain ⟨sz, cs, e2, hg, hE⟩ := withCells_eq hD
        obtain ⟨hlob, hF⟩ := need_eq hE
        obtain ⟨hee, hG⟩ := need_eq hF
        obtain ⟨hsz, hI⟩ := need_eq hG
        cases hI
        have hlob := le_of_ble' hlob
        have hee := eq_of_beq' hee
        subst hee
        have hsz : off + len * i.size ≤ sz := le_of_ble' hsz
        obtain ⟨l, hl, hfit, hth⟩ := hH.fit b _ hKb hg
        have hfit0 := hfit
        obtain ⟨f1, f2, c0, fz, f4, f5, f6⟩ := hfit
        have hWb : W b := hW b (by simp [idsOf]) hlob
        obtain ⟨vs, hvs, hvr⟩ := run_loadSeg hH hKb hg hl off (len * i.size) hsz
        have hvl : (seg cs off (len * i.size)).length = len * i.size := length_seg _ _ _ (by omega)
        have kill := Step.kill (W := W) hH (i := b) hWb
        -- no room on the other side: a new row
        have fresh : ∀ (ao : Option Addr) (c : Nat), c < len + n → s' = .slice ao len c → (∀ w' : World, w'.heap = w.heap → (Builtin.firstCells i.size len (.slice ao len c)).run P w' = .ok vs.toArray w') →
            ∃ u' w' ρ', (Builtin.append_ #[st, xt] ty #[s', x']).run P w = .ok u' w' ∧ VRel ρ' (newSlice H (Nat.add len n) (Nat.add UNK i.size)) u' ∧
              Step P base W K ρ H w ρ' (pushRow (H.kill b) e i.size (Nat.add len n) (List.append (seg cs off (Nat.mul len i.size)) new)) w' := by
          intro ao c hlt hse hold
          subst hse
          have hH2 : HRel P base K ρ (H.kill b) w := kill.rel.weaken fun j hj => .inl hj
          obtain ⟨u', w', ρ', q1, q2, q3⟩ := append_fresh (W := W) (ty := ty) C hH2 hold hvr hvl hsrc hnr hnl hlt hroom
          refine ⟨u', w', ρ', q1, q2, ?_⟩
          exact kill.trans (W' := W) (by
            refine { q3 with rel := q3.rel.weaken fun j hj => ?_ }
            rcases hj with hj | hj
            · rcases hj with hj | ⟨hj, hs⟩
              · exact .inl hj
              · exact .inr ⟨hj, by
                  obtain ⟨m, hm⟩ := Option.isSome_iff_exists.1 hs
                  exact absurd (hH.dom j m hm).1 (by omega)⟩
            · exact .inr hj) (fun _ _ h => h)
        cases hs with
        | flat hf => simp [flat] at hf
        | @slice _ _ _ _ c lc hρ k1 k2 =>
          rw [hl] at hρ; cases hρ
          obtain ⟨k3, k4⟩ := k2 hU'
          rw [hcap, Nat.add_sub_cancel_left] at k4
          by_cases hlt : c < len + n
          · exact fresh _ c hlt rfl (fun w' hw' => by simpa [Builtin.firstCells] using hvs w' hw')
          · -- in its own place
            have hle : len + n ≤ c := by omega
            have hmul : (len + n) * i.size ≤ c * i.size := Nat.mul_le_mul_right _ hle
            rw [Nat.add_mul] at hmul
            have hnl' : new'.length = n * i.size := hsrc.newsLen
            have hfz := hth (by omega) _ _ _ f4
            have hr := append_room (ty := ty) C (b := l.blk) (off := l.sh + off) (len := len) (cap := c) hsrc f4 hfz (by omega) hle
            refine ⟨_, _, upd ρ H.next ⟨l.blk, l.sh + off, l.size⟩, hr, ?_, ?_⟩
            · exact VRel.slice (ρ := upd ρ H.next ⟨l.blk, l.sh + off, l.size⟩) (i := H.next) (off := 0) (l := ⟨l.blk, l.sh + off, l.size⟩) (upd_same ..)
                (fun h => absurd h (Nat.not_lt_of_le (Nat.le_add_right _ _))) (fun _ => ⟨hle, by
                  show l.sh + off + 0 + c * (UNK + i.size - UNK) ≤ l.size
                  rw [Nat.add_sub_cancel_left]; omega⟩)
            · refine Step.take hH hKb hg hl hWb rfl (setRow_size ..) (fun bb hne => setRow_other w l.blk bb _ hne) ?_ ?_ ⟨rfl, rfl⟩
              · refine ⟨by show (seg cs off (len * i.size) ++ new).length = (len + n) * i.size; rw [List.length_append, Nat.add_mul, hvl, hnl], ?_, _, fz, setRow_heap w l.blk c0 _ e fz f4, ?_, ?_⟩
                · show l.sh + off + (len + n) * i.size ≤ l.size
                  rw [Nat.add_mul]; omega
                · simp; omega
                · intro j v hj
                  have hvlen := hvr.length
                  rw [hvl] at hvlen
                  -- the cell of the other side
                  have key : ∀ m : Nat, m < len * i.size + n * i.size → (c0.toList.take (l.sh + off + len * i.size) ++ new' ++ c0.toList.drop (l.sh + off + len * i.size + new'.length))[l.sh + off + m]? =
                      if m < len * i.size then c0[l.sh + off + m]? else new'[m - len * i.size]? := by
                    intro m hm
                    have e1 : (c0.toList.take (l.sh + off + len * i.size)).length = l.sh + off + len * i.size := by simp; omega
                    rw [List.append_assoc]
                    by_cases a1 : m < len * i.size
                    · rw [if_pos a1, List.getElem?_append_left (by omega), List.getElem?_take, if_pos (by omega), Array.getElem?_toList]
                    · rw [if_neg a1, List.getElem?_append_right (by omega), e1, List.getElem?_append_left (by omega)]
                      congr 1; omega
                  have hlen2 : (List.append (seg cs off (Nat.mul len i.size)) new).length = len * i.size + n * i.size := by
                    show (seg cs off (len * i.size) ++ new).length = _
                    rw [List.length_append, hvl, hnl]
                  have hjlt : j < len * i.size + n * i.size := by
                    rcases Nat.lt_or_ge j (len * i.size + n * i.size) with h | h
                    · exact h
                    · rw [List.getElem?_eq_none (by omega)] at hj; cases hj
                  rw [List.getElem?_toArray]
                  show ∃ v', (c0.toList.take (l.sh + off + len * i.size) ++ new' ++ c0.toList.drop (l.sh + off + len * i.size + new'.length))[l.sh + off + j]? = some v' ∧ _
                  rw [key j hjlt]
                  have hj' : (seg cs off (len * i.size) ++ new)[j]? = some v := hj
                  by_cases a1 : j < len * i.size
                  · rw [if_pos a1]
                    rw [List.getElem?_append_left (by omega), get_seg, if_pos a1] at hj'
                    obtain ⟨v', p1, p2⟩ := f6 _ _ hj'
                    exact ⟨v', by rw [Nat.add_assoc]; exact p1, p2.mono (upd_ext hH _)⟩
                  · rw [if_neg a1]
                    rw [List.getElem?_append_right (by omega), hvl] at hj'
                    obtain ⟨v', p1, p2⟩ := hnr.get _ _ hj'
                    exact ⟨v', p1, p2.mono (upd_ext hH _)⟩
              · intro c' e3 fz' hc'
                rw [setRow_heap w l.blk c0 _ e fz f4] at hc'
                cases hc'; exact hfz
        | @sliceE _ _ _ a lc hρ ha hc' =>
          have hv0 : vs = [] := by
            have := hvr.length
            rw [hvl, Nat.zero_mul] at this
            exact List.length_eq_zero_iff.1 this.symm
          exact fresh (some a) 0 (by omega) rfl (fun w' hw' => by rw [hv0]; simp [Builtin.firstCells, loadCells, loadCellsFrom])
      | false =>
        rw [hU] at hC
        simp only [cond_false] at hC
        have hU' := lt_of_ble' hU
        cases hle : Nat.ble (Nat.add len n) cap with
        | true =>
          rw [hle] at hC
          simp only [cond_true] at hC
          have hle : len + n ≤ cap := le_of_ble' hle
          unfold evInPlace at hC
          obtain ⟨sz, cs, e2, hg, hE⟩ := withCells_eq hC
          obtain ⟨hlob, hF⟩ := need_eq hE
          obtain ⟨hsz, hG⟩ := need_eq hF
          cases hG
          have hlob := le_of_ble' hlob
          have hsz : off + (len + n) * i.size ≤ sz := le_of_ble' hsz
          rw [Nat.add_mul] at hsz
          have hWb : W b := hW b (by simp [idsOf]) hlob
          cases hs with
          | flat hf => simp [flat] at hf
          | @slice _ _ _ _ c lc hρ k1 k2 =>
            have hc := k1 hU'
            subst hc
            obtain ⟨w', q1, q2⟩ := run_storeSeg (W := W) hH hKb hWb (by omega) hg hρ (off + len * i.size) (vs := new) (vs' := new') (by rw [hnl]; omega) hnr hsrc.one
            refine ⟨.slice (some ⟨lc.blk, lc.sh + off, none⟩) (len + n) c, w', ρ, ?_, VRel.slice hρ (fun _ => rfl) (fun h => absurd h (Nat.not_le_of_lt hU')), q2⟩
            have hl2 := hsrc.len w
            have hc2 := hsrc.cells
            rw [← Nat.add_assoc] at q1
            simp [Builtin.append_, run_underlying C.hst, run_underlying C.hxt, run_sizeOf C.he, hl2, hle, hc2, Addr.add_lit, q1]
          | sliceE hρ ha hc' =>
            rcases hc' with h0 | h0
            · exact absurd h0 (Nat.not_le_of_lt hU')
            · omega
        | false =>
          rw [hle] at hC
          simp only [cond_false] at hC
          have hlt : cap < len + n := lt_of_ble' hle
          obtain ⟨old, hold, hD⟩ := withX_eq hC
          cases hD
          obtain ⟨_, ao, n2, _, c2, old', heq, hse, hrun2, hor, hol⟩ := rowOf_run hH hold hs hKs
          injection heq with _ heq _
          subst heq
          have hc2 : c2 < len + n := by
            cases hs with
            | flat hf => simp [flat] at hf
            | @slice _ _ _ _ c lc hρ k1 k2 =>
              injection hse with _ _ hse
              have := k1 hU'
              omega
            | sliceE hρ ha hc' =>
              injection hse with _ _ hse
              omega
          subst hse
          exact append_fresh (W := W) (ty := ty) C hH hrun2 hor hol hsrc hnr hnl hc2 hroom
  · cases hB

theorem zeroCells_list (z : Value) (n : Nat) : (Builtin.zeroCells z.cells n).toList = zeros (cellsOf z) n :=
  zeros_array z n (n * z.cells.size) rfl

theorem evAppendZ_run {st xt e ty : TypeId} {i : TyI} {z : Value} {kn : IntKind} (hst : P.underlying st = some (.slice e)) (hxt : P.underlying xt = some (.int kn)) (he : tyI P e = some i) (hz : zeroOf i = some z)
    (hsz : z.cells.size = i.size) {s x s' x' u : Value} {H' : AH} (h : evAppendZ H e i.size i.bytes (cellsOf z) s x = some (u, H')) (hH : HRel P base K ρ H w) (hs : VRel ρ s s') (hx : VRel ρ x x') (hKs : ∀ j ∈ idsOf s, K j) :
    ∃ u' w' ρ', (Builtin.append_ #[st, xt] ty #[s', x']).run P w = .ok u' w' ∧ VRel ρ' u u' ∧ Step P base W K ρ H w ρ' H' w' := by
  unfold evAppendZ at h
  obtain ⟨n, hn, hA⟩ := withX_eq h
  obtain ⟨h0, hB⟩ := need_eq hA
  obtain ⟨h1, hC⟩ := need_eq hB
  split at hC
  case h_2 => cases hC
  rename_i a len cap
  obtain ⟨hU, hD⟩ := need_eq hC
  obtain ⟨hlt, hE⟩ := need_eq hD
  obtain ⟨hroom, hF⟩ := need_eq hE
  obtain ⟨old, hold, hG⟩ := withX_eq hF
  cases hG
  rw [Nat.blt_eq] at h0 h1 hU
  have hlt : cap < len + n := by rwa [Nat.blt_eq] at hlt
  rw [hx.asNat hn]
  obtain ⟨kq, rfl⟩ := asNat_eq hn
  obtain ⟨_, ao, n2, _, c2, old', heq, hse, hrun2, hor, hol⟩ := rowOf_run hH hold hs hKs
  injection heq with _ heq _
  subst heq
  have hc2 : c2 < len + n := by
    cases hs with
    | flat hf => injection hse with _ _ hse; omega
    | @slice _ _ _ _ c lc hρ k1 k2 =>
      injection hse with _ _ hse
      have := k1 hU
      omega
    | sliceE hρ ha hc' =>
      injection hse with _ _ hse
      omega
  subst hse
  obtain ⟨inf, _, hinf, hsz', hby, hzz, _⟩ := tyI_eq he
  have hz' := zeroOf_eq hz
  have ⟨r1, r2⟩ : (len + n) * i.bytes ≤ 1099511627776 ∧ len + n < 1099511627776 := roomFor_eq hroom
  have hfit : Builtin.nextslicecap (len + n) c2 * inf.bytes ≤ 281474976710656 := growslice_fits hc2 (by rw [← hby]; omega)
  have hnb : n * inf.bytes ≤ 281474976710656 := by
    have : n * i.bytes ≤ (len + n) * i.bytes := Nat.mul_le_mul_right _ (by omega)
    rw [← hby]; omega
  have hrun := Lib.run_append_grow_zeros w st xt ty e inf z kq kn hst hxt hinf (by rw [← hzz]; exact hz'.1) ao len c2 old' (by rw [← hsz']; exact hrun2 _ rfl) n h0 (by omega) hc2 (by omega) hnb hfit
  have hlist : (old'.toArray ++ Builtin.zeroCells z.cells n) = (old' ++ zeros (cellsOf z) n).toArray := by
    apply Array.ext'
    rw [Array.toList_append, zeroCells_list]
  rw [hlist] at hrun
  obtain ⟨ρ', q1, q2⟩ := fresh_row (W := W) hH e (m := len + n) (g := grownCap w (len + n) c2 e) hsz (LRel.append hor (zeros_plain hz'.2 n))
    (by rw [List.length_append, hol, length_zeros, cellsOf_eq', Array.length_toList, hsz, Nat.add_mul]) (grownCap_ge ..)
    (w' := w.drew.alloc (.cells ((old' ++ zeros (cellsOf z) n).toArray ++ Builtin.zeroCells z.cells (grownCap w (len + n) c2 e - (len + n))) e)) rfl ⟨rfl, rfl⟩
  exact ⟨_, _, ρ', hrun, q1, q2⟩

theorem opAppend_run {β : Type} {lo : Nat} {st xt ty : TypeId} {s x : Value} {k : Value → AH → Option β} {r : β} (hlo : base ≤ lo) (h : opAppend P lo H st xt s x k = some r) :
    ∃ u H', k u H' = some r ∧ ∀ (ρ : Map) (W K : Nat → Prop) (w : World) (s' x' : Value), HRel P base K ρ H w → VRel ρ s s' → VRel ρ x x' → (∀ j ∈ idsOf s, K j) → (∀ j ∈ idsOf x, K j) → (∀ j ∈ idsOf s, lo ≤ j → W j) →
      ∃ u' w' ρ', (Builtin.append_ #[st, xt] ty #[s', x']).run P w = .ok u' w' ∧ VRel ρ' u u' ∧ Step P base W K ρ H w ρ' H' w' := by
  unfold opAppend at h
  obtain ⟨e, he, hA⟩ := withX_eq h
  obtain ⟨i, hi, hB⟩ := withX_eq hA
  obtain ⟨z, hz, hC⟩ := withX_eq hB
  obtain ⟨j, hj, hD⟩ := withX_eq hC
  obtain ⟨hsz, hE⟩ := need_eq hD
  have hsz := eq_of_beq' hsz
  rw [lenN_eq, cellsOf_eq', Array.length_toList] at hsz
  obtain ⟨_, hu, _⟩ := tyI_eq hj
  split at hE
  · rename_i e' hd
    rw [hd] at hu
    obtain ⟨u, H', hr, hk⟩ := bindVH_eq hE
    exact ⟨u, H', hk, fun ρ W K w s' x' hH hs hx hKs hKx hW => evAppend_run ⟨tyElem_eq he, hu, hi, hz, hsz⟩ hlo hr hH hs hx hKs hKx hW⟩
  · rename_i kn hd
    rw [hd] at hu
    obtain ⟨u, H', hr, hk⟩ := bindVH_eq hE
    exact ⟨u, H', hk, fun ρ W K w s' x' hH hs hx hKs hKx hW => evAppendZ_run (tyElem_eq he) hu hi hz hsz hr hH hs hx hKs⟩
  · cases hE

theorem zeros_single {z : List Value} (h : z.all single = true) (n : Nat) : (zeros z n).all single = true := by
  induction n with
  | zero => rfl
  | succ n ih => rw [zeros_succ, List.all_append, h, Bool.true_and]; exact ih

theorem opClear_run {β : Type} {lo : Nat} {t ty : TypeId} {x : Value} {k : AH → Option β} {r : β} (hlo : base ≤ lo) (h : opClear P lo H t x k = some r) :
    ∃ H', k H' = some r ∧ ∀ (ρ : Map) (W K : Nat → Prop) (w : World) (x' : Value), HRel P base K ρ H w → VRel ρ x x' → (∀ j ∈ idsOf x, K j) → (∀ j ∈ idsOf x, lo ≤ j → W j) →
      ∃ w', (Builtin.clear_ #[t] ty #[x']).run P w = .ok (.tuple #[]) w' ∧ Step P base W K ρ H w ρ H' w' := by
  unfold opClear at h
  obtain ⟨e, he, hA⟩ := withX_eq h
  obtain ⟨i, hi, hB⟩ := withX_eq hA
  obtain ⟨z, hz, hC⟩ := withX_eq hB
  obtain ⟨hsz, hD⟩ := need_eq hC
  obtain ⟨hsing, hE⟩ := need_eq hD
  obtain ⟨H', hr, hk⟩ := bindV_eq hE
  have hsz := eq_of_beq' hsz
  rw [lenN_eq] at hsz
  have hu := tyElem_eq he
  have hz' := zeroOf_eq hz
  refine ⟨H', hk, fun ρ W K w x' hH hx hK hW => ?_⟩
  unfold evClear at hr
  split at hr
  · cases hr
    cases hx
    exact ⟨w, by simp [Builtin.clear_, run_underlying hu], Step.refl hH⟩
  · rename_i b off n cap
    cases h0 : Nat.beq n 0 with
    | true =>
      rw [h0] at hr
      cases hr
      have hn := eq_of_beq' h0
      subst hn
      refine ⟨w, ?_, Step.refl hH⟩
      cases hx with
      | flat hf => simp [flat] at hf
      | slice h1 h2 h3 => simp [Builtin.clear_, run_underlying hu]
      | sliceE h1 h2 h3 => simp [Builtin.clear_, run_underlying hu]
    | false =>
      rw [h0] at hr
      simp only [cond_false] at hr
      have hn := ne_of_beq' h0
      obtain ⟨sz, cs, e2, hg, hE⟩ := withCells_eq hr
      obtain ⟨hlob, hF⟩ := need_eq hE
      obtain ⟨hfit, hG⟩ := need_eq hF
      cases hG
      have hlob := le_of_ble' hlob
      have hfit : off + n * i.size ≤ sz := le_of_ble' hfit
      have hKb : K b := hK b (by simp [idsOf])
      have hWb : W b := hW b (by simp [idsOf]) hlob
      cases hx with
      | flat hf => simp [flat] at hf
      | @slice _ _ _ _ c lc hρ k1 k2 =>
        have hone : ∀ v ∈ zeros (cellsOf z) n, v.oneCell' = true := by
          have h1 : (zeros (cellsOf z) n).all single = true := zeros_single hsing n
          exact all_single (ρ := ρ) h1 (zeros_plain hz'.2 n)
        obtain ⟨w', q1, q2⟩ := run_storeSeg (W := W) hH hKb hWb (by omega) hg hρ off (vs := zeros (cellsOf z) n) (vs' := zeros (cellsOf z) n) (by rw [length_zeros, hsz]; exact hfit) (zeros_plain hz'.2 n) hone
        refine ⟨w', ?_, q2⟩
        rw [← zeroCells_list] at q1
        obtain ⟨m, rfl⟩ : ∃ m, n = m + 1 := ⟨n - 1, by omega⟩
        simp [Builtin.clear_, run_underlying hu, run_zeroValue hi hz, q1]
      | sliceE h1 h2 h3 => exact absurd rfl hn
  · cases hr

end
end Go.Ev
