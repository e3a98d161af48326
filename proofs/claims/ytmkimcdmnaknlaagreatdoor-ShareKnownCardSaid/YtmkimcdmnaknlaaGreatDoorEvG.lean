/- Addresses, parts, indexes, and cuts of slices: the evaluator's are the model's.
   Conditions: none. -/
import Derived.Test.YtmkimcdmnaknlaaGreatDoorEvE
import Derived.Laws.MakeOwn
namespace Go.Ev
section
variable {P : Program} {base : Nat} {W K : Nat → Prop} {ρ : Map} {H : AH} {w : World}

theorem asNat_eq {v : Value} {n : Nat} (h : asNat v = some n) : ∃ k, v = .int k (n : Int) := by
  unfold asNat at h
  split at h
  · rw [natOf_eq h]; exact ⟨_, rfl⟩
  · cases h
theorem VRel.int_eq {ρ : Map} {k : IntKind} {n : Int} {v' : Value} (h : VRel ρ (.int k n) v') : v' = .int k n := by cases h; rfl
theorem VRel.asNat {ρ : Map} {v v' : Value} {n : Nat} (h : VRel ρ v v') (hn : Ev.asNat v = some n) : v' = v := by
  obtain ⟨k, rfl⟩ := asNat_eq hn
  exact h.int_eq

theorem fieldPlaces_eq {fs : Array Field} {f : Nat} {p : Nat × Nat} (h : fieldPlaces P fs.toList f = some p) :
    ∃ fd j, fs[f]? = some fd ∧ tyI P fd.type = some j ∧ p = (fd.offset, j.size) := by
  unfold fieldPlaces at h
  obtain ⟨fd, hf, h⟩ := withX_eq h
  obtain ⟨j, hj, h⟩ := withX_eq h
  cases h
  rw [nth_eq, Array.getElem?_toList] at hf
  exact ⟨fd, j, hf, hj, rfl⟩

theorem structOf_eq {d : TypeDesc} {fs : List Field} (h : structOf d = some fs) : ∃ a : Array Field, d = .struct a ∧ fs = a.toList := by
  cases d <;> simp [structOf] at h
  exact ⟨_, rfl, h.symm⟩

theorem opFieldAddr_run {β : Type} {t : TypeId} {x : Value} {f : Nat} {k : Value → Option β} {r : β} (h : opFieldAddr P t x f k = some r) :
    ∃ u, k u = some r ∧ ∀ (ρ : Map) (x' : Value), VRel ρ x x' → ∀ w : World, ∃ u', (Instr.fieldAt t x' f).run P w = .ok u' w ∧ VRel ρ u u' := by
  unfold opFieldAddr at h
  obtain ⟨i, hi, h⟩ := withX_eq h
  obtain ⟨fs, hfs, h⟩ := withX_eq h
  obtain ⟨p, hp, h⟩ := withX_eq h
  obtain ⟨_, hu, _⟩ := tyI_eq hi
  obtain ⟨a, hd, rfl⟩ := structOf_eq hfs
  rw [hd] at hu
  obtain ⟨fd, j, h1, h2, rfl⟩ := fieldPlaces_eq hp
  cases hz : Nat.beq j.size 0 with
  | true => simp only [hz] at h; cases h
  | false =>
    simp only [hz, cond_false] at h
    obtain ⟨u, hu', h⟩ := bindV_eq h
    obtain ⟨b, off, rfl, hu'⟩ := withPtr_eq hu'
    cases hu'
    refine ⟨_, h, fun ρ x' hx w => ?_⟩
    obtain ⟨l, hl, rfl⟩ := hx.ptr_eq
    refine ⟨_, ?_, VRel.ptr hl⟩
    have hne := ne_of_beq' hz
    simp [Instr.fieldAt, run_underlying hu, h1, Instr.sureAddr, fieldPlace, run_sizeOf h2, hne, Addr.add_lit, Nat.add_assoc]

/-- a part of a composite -/
theorem evPart_run {t : TypeId} {j : TyI} (hj : tyI P t = some j) {x x' u : Value} {off : Nat} (h : evPart j.agg j.size x off = some u) (hx : VRel ρ x x') (w : World) :
    ∃ cs' u', x' = .agg cs' ∧ (part t cs' off).run P w = .ok u' w ∧ VRel ρ u u' := by
  unfold evPart at h
  split at h
  · rename_i cs
    cases hx with
    | flat hf => simp [flat] at hf
    | agg hr =>
      rename_i ds
      refine ⟨ds, ?_⟩
      unfold cellAt at h
      have hlen := hr.length
      simp only [Array.length_toList] at hlen
      cases hag : j.agg with
      | true =>
        rw [hag] at h
        obtain ⟨hb, h⟩ := need_eq h
        have hb : off + j.size ≤ lenN cs.toList := le_of_ble' hb
        rw [lenN_eq, Array.length_toList] at hb
        cases h
        refine ⟨.agg (ds.extract off (off + j.size)), rfl, ?_, .agg ?_⟩
        · simp [part, run_isAgg hj, hag, run_sizeOf hj]
        · have := hr.seg off j.size
          have e : (ds.extract off (off + j.size)).toList = seg ds.toList off j.size := by
            rw [seg_eq]; simp
          rw [e]; exact this
      | false =>
        rw [hag] at h
        simp only [cond_false, nth_eq] at h
        obtain ⟨u', a, b⟩ := hr.get _ _ h
        refine ⟨u', rfl, ?_, b⟩
        rw [Array.getElem?_toList] at a
        simp [part, run_isAgg hj, hag, a]
  · cases h

theorem opField_run {β : Type} {t : TypeId} {x : Value} {f : Nat} {k : Value → Option β} {r : β} (h : opField P t x f k = some r) :
    ∃ u, k u = some r ∧ ∀ (ρ : Map) (x' : Value), VRel ρ x x' → ∀ w : World, ∃ u', (Instr.field t x' f).run P w = .ok u' w ∧ VRel ρ u u' := by
  unfold opField at h
  obtain ⟨i, hi, hA⟩ := withX_eq h
  obtain ⟨fs, hfs, hB⟩ := withX_eq hA
  obtain ⟨fd, hfd, hC⟩ := withX_eq hB
  obtain ⟨j, hj, hD⟩ := withX_eq hC
  obtain ⟨_, hu, _⟩ := tyI_eq hi
  obtain ⟨a, hd, rfl⟩ := structOf_eq hfs
  rw [hd] at hu
  rw [nth_eq, Array.getElem?_toList] at hfd
  obtain ⟨u, hu', hE⟩ := bindV_eq hD
  refine ⟨u, hE, fun ρ x' hx w => ?_⟩
  obtain ⟨cs', u', rfl, h1, h2⟩ := evPart_run hj hu' hx w
  refine ⟨u', ?_, h2⟩
  simp [Instr.field, run_underlying hu, hfd, asAgg, h1]

theorem opIndexAddr_run {β : Type} {t : TypeId} {x ix : Value} {k : Value → Option β} {r : β} (h : opIndexAddr P t x ix k = some r) :
    ∃ u, k u = some r ∧ ∀ (ρ : Map) (x' ix' : Value), VRel ρ x x' → VRel ρ ix ix' → ∀ w : World, ∃ u', (Instr.indexAt t x' ix').run P w = .ok u' w ∧ VRel ρ u u' := by
  unfold opIndexAddr at h
  obtain ⟨i, hi, h1⟩ := withX_eq h
  obtain ⟨_, hu, _⟩ := tyI_eq hi
  split at h1
  · rename_i len e hd
    obtain ⟨j, hj, h2⟩ := withX_eq h1
    obtain ⟨u, h3, h4⟩ := bindV_eq h2
    unfold evIdxArr at h3
    obtain ⟨n, hn, h5⟩ := withX_eq h3
    obtain ⟨b, off, rfl, h6⟩ := withPtr_eq h5
    obtain ⟨hlt, h7⟩ := need_eq h6
    cases h7
    refine ⟨_, h4, fun ρ x' ix' hx hix w => ?_⟩
    rw [hix.asNat hn]
    obtain ⟨kk, rfl⟩ := asNat_eq hn
    obtain ⟨l, hl, rfl⟩ := hx.ptr_eq
    refine ⟨_, ?_, VRel.ptr hl⟩
    rw [hd] at hu
    rw [Nat.blt_eq] at hlt
    simp [Instr.indexAt, asIntOf, run_underlying hu, Instr.sureAddr, run_sizeOf hj, Addr.add_lit, Nat.add_assoc, hlt]
  · rename_i e hd
    obtain ⟨j, hj, h2⟩ := withX_eq h1
    obtain ⟨u, h3, h4⟩ := bindV_eq h2
    unfold evIdxSlice at h3
    obtain ⟨n, hn, h5⟩ := withX_eq h3
    split at h5
    · rename_i b off len cap
      obtain ⟨hlt, h7⟩ := need_eq h5
      cases h7
      refine ⟨_, h4, fun ρ x' ix' hx hix w => ?_⟩
      rw [hix.asNat hn]
      obtain ⟨kk, rfl⟩ := asNat_eq hn
      rw [hd] at hu
      rw [Nat.blt_eq] at hlt
      cases hx with
      | flat hf => simp [flat] at hf
      | slice hl h1 h2 =>
        refine ⟨_, ?_, VRel.ptr hl⟩
        simp [Instr.indexAt, asIntOf, run_underlying hu, run_sizeOf hj, Addr.add_lit, Nat.add_assoc, hlt]
      | sliceE hl ha hc => omega
    · cases h5
  · cases h1

theorem opIndex_run {β : Type} {t : TypeId} {x ix : Value} {k : Value → Option β} {r : β} (h : opIndex P t x ix k = some r) :
    ∃ u, k u = some r ∧ ∀ (ρ : Map) (x' ix' : Value), VRel ρ x x' → VRel ρ ix ix' → ∀ w : World, ∃ u', (Instr.index t x' ix').run P w = .ok u' w ∧ VRel ρ u u' := by
  unfold opIndex at h
  obtain ⟨i, hi, h1⟩ := withX_eq h
  obtain ⟨_, hu, _⟩ := tyI_eq hi
  split at h1
  · rename_i len e hd
    obtain ⟨j, hj, h2⟩ := withX_eq h1
    obtain ⟨u, h3, h4⟩ := bindV_eq h2
    unfold evIdxVal at h3
    obtain ⟨n, hn, h5⟩ := withX_eq h3
    obtain ⟨hlt, h6⟩ := need_eq h5
    refine ⟨u, h4, fun ρ x' ix' hx hix w => ?_⟩
    rw [hix.asNat hn]
    obtain ⟨kk, rfl⟩ := asNat_eq hn
    obtain ⟨cs', u', rfl, h7, h8⟩ := evPart_run hj h6 hx w
    refine ⟨u', ?_, h8⟩
    rw [hd] at hu
    rw [Nat.blt_eq] at hlt
    have h7 : (part e cs' (n * j.size)).run P w = .ok u' w := h7
    simp [Instr.index, asIntOf, run_underlying hu, hlt, run_sizeOf hj, h7]
  · rename_i hd
    obtain ⟨u, h3, h4⟩ := bindV_eq h1
    unfold evIdxStr at h3
    obtain ⟨n, hn, h5⟩ := withX_eq h3
    split at h5
    · rename_i s
      obtain ⟨b, hb, h6⟩ := withX_eq h5
      cases h6
      refine ⟨_, h4, fun ρ x' ix' hx hix w => ?_⟩
      rw [hix.asNat hn]
      obtain ⟨kk, rfl⟩ := asNat_eq hn
      cases hx
      refine ⟨_, ?_, VRel.flat rfl⟩
      rw [hd] at hu
      rw [nth_eq, Array.getElem?_toList] at hb
      have hb' : s[n]? = some b := by
        obtain ⟨hlt, e⟩ := Array.getElem?_eq_some_iff.1 hb
        have hlt' : n < s.size := hlt
        rw [getElem?_pos s n hlt']
        exact congrArg some e
      simp [Instr.index, asIntOf, run_underlying hu, hb']
    · cases h5
  · cases h1

theorem wrap64_nat {n : Nat} (h : n < 9223372036854775808) : IntKind.i64.wrap (n : Int) = n := by rw [IntKind.wrap_i64]; omega

theorem opMakeSlice_run {β : Type} {t : TypeId} {len cap : Value} {k : Value → AH → Option β} {r : β} (h : opMakeSlice P H t len cap k = some r) :
    ∃ u H', k u H' = some r ∧ ∀ (ρ : Map) (K : Nat → Prop) (w : World) (len' cap' : Value), HRel P base K ρ H w → VRel ρ len len' → VRel ρ cap cap' →
      ∃ u' w' ρ', (Instr.makeSlice t len' cap').run P w = .ok u' w' ∧ VRel ρ' u u' ∧ Step P base W K ρ H w ρ' H' w' := by
  unfold opMakeSlice at h
  obtain ⟨e, he, h⟩ := withX_eq h
  obtain ⟨i, hi, h⟩ := withX_eq h
  obtain ⟨z, hz, h⟩ := withX_eq h
  obtain ⟨h2, h⟩ := need_eq h
  obtain ⟨p, hp, h⟩ := bindV_eq h
  unfold evSizes at hp
  obtain ⟨l, hl, hp⟩ := withX_eq hp
  obtain ⟨c, hc, hp⟩ := withX_eq hp
  obtain ⟨h3, hp⟩ := need_eq hp
  obtain ⟨h4, hp⟩ := need_eq hp
  cases hp
  have h2 := eq_of_beq' h2
  rw [lenN_eq, cellsOf_eq', Array.length_toList] at h2
  have h3 := le_of_ble' h3
  unfold roomFor at h4
  have h5 : c * i.bytes ≤ 1099511627776 ∧ c < 1099511627776 := by
    cases hb : Nat.ble (Nat.mul c i.bytes) BIG with
    | false => rw [hb] at h4; cases h4
    | true => rw [hb] at h4; exact ⟨le_of_ble' hb, by simpa [Nat.blt_eq, BIG] using h4⟩
  refine ⟨_, _, h, fun ρ K w len' cap' hH hlr hcr => ?_⟩
  have e1 := hlr.asNat hl
  have e2 := hcr.asNat hc
  subst e1 e2
  obtain ⟨k1, rfl⟩ := asNat_eq hl
  obtain ⟨k2, rfl⟩ := asNat_eq hc
  obtain ⟨inf, _, hinf, hsz, hby, hzz, _⟩ := tyI_eq hi
  have hz' := zeroOf_eq hz
  have hu := tyElem_eq he
  have hzl := zeros_array z c (c * i.size) (by rw [h2])
  let cells : Array Value := (Array.range (c * i.size)).map (z.cells[· % z.cells.size]!)
  let w' : World := { w with heap := w.heap.push (.cells cells e) }
  let loc : Loc := ⟨w.heap.size, 0, cells.size⟩
  have hcs : cells.size = c * i.size := by simp [cells]
  have hcU : ¬ UNK ≤ c := by unfold UNK; omega
  refine ⟨.slice (some ⟨w.heap.size, 0, none⟩) l c, w', upd ρ H.next loc, ?_, newSlice_rel H loc rfl l c c (fun _ => rfl) (fun hU => absurd hU hcU), ?_⟩
  · have hb : (inf.bytes : Int) * (c : Int) ≤ 281474976710656 := by
      have : inf.bytes * c ≤ 281474976710656 := by rw [← hby, Nat.mul_comm]; omega
      have h9 := Int.ofNat_le.2 this
      rw [Int.natCast_mul] at h9
      omega
    have hr := run_make w t e inf z hu hinf (by rw [← hzz]; exact hz'.1) k1 k2 (l : Int) (c : Int) (by omega) (by omega) hb (by omega)
    rw [Int.toNat_natCast, Int.toNat_natCast, ← hsz] at hr
    rw [hr]
    rfl
  · have := Step.newCells (W := W) hH e (zeros (cellsOf z) c) cells (LRel.cells (by rw [show cells.toList = zeros (cellsOf z) c from hzl]; exact zeros_plain hz'.2 c)) (w' := w') rfl ⟨rfl, rfl⟩
    have h2' : (cellsOf z).length = i.size := by rw [cellsOf_eq', Array.length_toList, h2]
    rw [length_zeros, h2'] at this
    exact this
end
end Go.Ev
