/- Cuts of slices, lengths, what is appended, copied and cleared: the evaluator's are the model's.
   Conditions: none. -/
import Derived.Test.YtmkimcdmnaknlaaGreatDoorEvG
namespace Go.Ev
section
variable {P : Program} {base : Nat} {W K : Nat → Prop} {ρ : Map} {H : AH} {w : World}

theorem run_sliceBound {v : Value} {n y : Nat} (h : asNat v = some n) (hn : n ≤ y) (code : BoundsCode) : (Instr.sliceBound v y code).run P w = .ok n w := by
  obtain ⟨k, rfl⟩ := asNat_eq h
  simp [Instr.sliceBound, asIntOf, hn]

theorem bnd_some {v : Value} {d n : Nat} (h : bnd (some v) d = some n) : asNat v = some n := h
theorem bnd_none {d n : Nat} (h : bnd none d = some n) : n = d := by cases h; rfl

theorem run_sliceBounds (isSlice : Bool) {len cap : Nat} {lo hi mx : Option Value} {l h m : Nat} (h1 : bnd lo 0 = some l) (h2 : bnd hi len = some h) (h3 : bnd mx cap = some m)
    (h4 : l ≤ h) (h5 : h ≤ m) (h6 : m ≤ cap) (h7 : mx = none ∨ hi.isSome = true) : (Instr.sliceBounds isSlice len cap lo hi mx).run P w = .ok (l, h, m) w := by
  cases mx with
  | none =>
    obtain rfl := bnd_none h3
    cases hi with
    | none =>
      obtain rfl := bnd_none h2
      cases lo with
      | none => obtain rfl := bnd_none h1; simp [Instr.sliceBounds]
      | some v => simp [Instr.sliceBounds, run_sliceBound (bnd_some h1) h4]
    | some u =>
      cases lo with
      | none => obtain rfl := bnd_none h1; simp [Instr.sliceBounds, run_sliceBound (bnd_some h2) h5]
      | some v => simp [Instr.sliceBounds, run_sliceBound (bnd_some h1) h4, run_sliceBound (bnd_some h2) h5]
  | some x =>
    cases hi with
    | none => rcases h7 with h7 | h7 <;> cases h7
    | some u =>
      cases lo with
      | none => obtain rfl := bnd_none h1; simp [Instr.sliceBounds, run_sliceBound (bnd_some h2) h5, run_sliceBound (bnd_some h3) h6]
      | some v => simp [Instr.sliceBounds, run_sliceBound (bnd_some h1) h4, run_sliceBound (bnd_some h2) h5, run_sliceBound (bnd_some h3) h6]

theorem cutBounds_eq {len cap : Nat} {lo hi mx : Option Value} {b : Nat × Nat × Nat} (h : cutBounds len cap lo hi mx = some b) :
    bnd lo 0 = some b.1 ∧ bnd hi len = some b.2.1 ∧ bnd mx cap = some b.2.2 ∧ b.1 ≤ b.2.1 ∧ b.2.1 ≤ b.2.2 ∧ b.2.2 ≤ cap ∧ (mx = none ∨ hi.isSome = true) ∧ b.2.2 < UNK := by
  unfold cutBounds at h
  obtain ⟨l, h1, hA⟩ := withX_eq h
  obtain ⟨h', h2, hB⟩ := withX_eq hA
  obtain ⟨m, h3, hC⟩ := withX_eq hB
  obtain ⟨h4, hD⟩ := need_eq hC
  obtain ⟨h5, hE⟩ := need_eq hD
  obtain ⟨h6, hF⟩ := need_eq hE
  obtain ⟨h7, hG⟩ := need_eq hF
  obtain ⟨h8, hI⟩ := need_eq hG
  cases hI
  refine ⟨h1, h2, h3, le_of_ble' h5, le_of_ble' h6, le_of_ble' h7, ?_, by rwa [Nat.blt_eq] at h8⟩
  cases mx with
  | none => exact .inl rfl
  | some x => exact .inr h4

/-- optional bounds on both sides -/
inductive BRel (ρ : Map) : Option Value → Option Value → Prop where
  | nil : BRel ρ none none
  | one {v v' : Value} (h : VRel ρ v v') : BRel ρ (some v) (some v')
theorem BRel.bnd {ρ : Map} {x x' : Option Value} {d n : Nat} (h : BRel ρ x x') (hb : Ev.bnd x d = some n) : Ev.bnd x' d = some n := by
  cases h with
  | nil => exact hb
  | one h => rw [h.asNat (bnd_some hb)]; exact hb
theorem BRel.none_iff {ρ : Map} {x x' : Option Value} (h : BRel ρ x x') : (x = none ↔ x' = none) := by
  cases h <;> simp
theorem BRel.isSome {ρ : Map} {x x' : Option Value} (h : BRel ρ x x') : x.isSome = x'.isSome := by cases h <;> rfl

theorem Addr_add_nat (b o n : Nat) : Addr.add ⟨b, o, none⟩ n = ⟨b, o + n, none⟩ := Addr.add_lit b o n

theorem evCutArr_run {t e : TypeId} {len : Nat} {i j : TyI} (hi : tyI P t = some i) (hd : i.desc = .array len e) (hj : tyI P e = some j) {x x' u : Value} {lo hi' mx lo' hi'' mx' : Option Value}
    (h : evCutArr j.size len x lo hi' mx = some u) (hx : VRel ρ x x') (hl : BRel ρ lo lo') (hh : BRel ρ hi' hi'') (hm : BRel ρ mx mx') :
    ∃ u', (Instr.sliceAt t x' lo' hi'' mx').run P w = .ok u' w ∧ VRel ρ u u' := by
  unfold evCutArr at h
  obtain ⟨b, off, rfl, hA⟩ := withPtr_eq h
  obtain ⟨bb, hb, hB⟩ := withX_eq hA
  cases hB
  obtain ⟨b1, b2, b3, b4, b5, b6, b7, b8⟩ := cutBounds_eq hb
  obtain ⟨l, hl', rfl⟩ := hx.ptr_eq
  obtain ⟨_, hu, _⟩ := tyI_eq hi
  rw [hd] at hu
  have hr := run_sliceBounds (P := P) (w := w) false (hl.bnd b1) (hh.bnd b2) (hm.bnd b3) b4 b5 b6 (by rw [← hm.none_iff, ← hh.isSome]; exact b7)
  have hne : ¬ UNK ≤ Nat.sub bb.2.2 bb.1 := fun h => by
    have : UNK ≤ bb.2.2 - bb.1 := h
    omega
  by_cases e : bb.2.2 = bb.1
  · refine ⟨.slice (some ⟨l.blk, l.sh + off, none⟩) (bb.2.1 - bb.1) (bb.2.2 - bb.1), ?_, ?_⟩
    · simp [Instr.sliceAt, run_underlying hu, Instr.sureAddr, hr, run_sizeOf hj, e]
    · rw [beqt e]
      exact VRel.slice hl' (fun _ => rfl) (fun hU => absurd hU hne)
  · refine ⟨.slice (some ⟨l.blk, l.sh + (off + bb.1 * j.size), none⟩) (bb.2.1 - bb.1) (bb.2.2 - bb.1), ?_, ?_⟩
    · simp [Instr.sliceAt, run_underlying hu, Instr.sureAddr, hr, run_sizeOf hj, e, Addr_add_nat, Nat.add_assoc]
    · rw [beqf e]
      exact VRel.slice hl' (fun _ => rfl) (fun hU => absurd hU hne)

theorem evCut_run {t e : TypeId} {i j : TyI} (hi : tyI P t = some i) (hd : i.desc = .slice e) (hj : tyI P e = some j) {x x' u : Value} {lo hi' mx lo' hi'' mx' : Option Value}
    (h : evCut j.size x lo hi' mx = some u) (hx : VRel ρ x x') (hl : BRel ρ lo lo') (hh : BRel ρ hi' hi'') (hm : BRel ρ mx mx') :
    ∃ u', (Instr.sliceAt t x' lo' hi'' mx').run P w = .ok u' w ∧ VRel ρ u u' := by
  obtain ⟨_, hu, _⟩ := tyI_eq hi
  rw [hd] at hu
  unfold evCut at h
  split at h
  · obtain ⟨bb, hb, hA⟩ := withX_eq h
    cases hA
    obtain ⟨b1, b2, b3, b4, b5, b6, b7, _⟩ := cutBounds_eq hb
    cases hx
    have hr := run_sliceBounds (P := P) (w := w) true (hl.bnd b1) (hh.bnd b2) (hm.bnd b3) b4 b5 b6 (by rw [← hm.none_iff, ← hh.isSome]; exact b7)
    have e0 : bb.2.2 = 0 := by omega
    have e1 : bb.1 = 0 := by omega
    have e2 : bb.2.1 = 0 := by omega
    rw [e0, e1, e2] at hr
    refine ⟨.slice none 0 0, ?_, VRel.flat rfl⟩
    simp [Instr.sliceAt, Instr.slice, run_underlying hu, hr, run_sizeOf hj]
  · rename_i b off len cap
    cases hc : (cond (Nat.ble UNK cap) mx.isNone false) with
    | true =>
      rw [hc] at h
      simp only [cond_true] at h
      have hcap : UNK ≤ cap ∧ mx = none := by
        cases hU : Nat.ble UNK cap with
        | false => rw [hU] at hc; cases hc
        | true =>
          rw [hU] at hc
          cases mx with
          | none => exact ⟨le_of_ble' hU, rfl⟩
          | some x => cases hc
      obtain ⟨hcap, rfl⟩ := hcap
      have hmx : mx' = none := hm.none_iff.1 rfl
      subst hmx
      obtain ⟨l, h1, hA⟩ := withX_eq h
      obtain ⟨hb, h2, hB⟩ := withX_eq hA
      obtain ⟨h3, hC⟩ := need_eq hB
      obtain ⟨h4, hD⟩ := need_eq hC
      obtain ⟨h5, hE⟩ := need_eq hD
      cases hE
      have h3 := le_of_ble' h3
      have h4 := le_of_ble' h4
      have h5 : cap = UNK + j.size := eq_of_beq' h5
      cases hx with
      | flat hf => simp [flat] at hf
      | @slice _ _ _ _ c lc hρ k1 k2 =>
        obtain ⟨k3, k4⟩ := k2 hcap
        have hr := run_sliceBounds (P := P) (w := w) true (cap := c) (hl.bnd h1) (hh.bnd h2) (show bnd none c = some c from rfl) h3 (by omega) (Nat.le_refl _) (.inl rfl)
        by_cases e : c = l
        · subst e
          have e1 : hb = c := by omega
          subst e1
          refine ⟨.slice (some ⟨lc.blk, lc.sh + off, none⟩) 0 0, ?_, ?_⟩
          · simp [Instr.sliceAt, Instr.slice, run_underlying hu, hr, run_sizeOf hj]
          · have : Nat.sub hb hb = 0 := Nat.sub_self hb
            rw [this]
            exact VRel.sliceE hρ rfl (.inl hcap)
        · refine ⟨.slice (some ⟨lc.blk, lc.sh + (off + l * j.size), none⟩) (hb - l) (c - l), ?_, ?_⟩
          · simp [Instr.sliceAt, Instr.slice, run_underlying hu, hr, run_sizeOf hj, e, Addr_add_nat, Nat.add_assoc]
          · refine VRel.slice hρ (fun hlt => absurd hcap (Nat.not_le_of_lt hlt)) (fun _ => ⟨?_, ?_⟩)
            · show hb - l ≤ c - l
              omega
            · show lc.sh + (off + l * j.size) + (c - l) * (cap - UNK) ≤ lc.size
              have e5 : cap - UNK = j.size := by omega
              rw [e5] at k4 ⊢
              have : l * j.size + (c - l) * j.size = c * j.size := by rw [← Nat.add_mul]; congr 1; omega
              omega
      | @sliceE _ _ _ a lc hρ ha hc' =>
        have hr := run_sliceBounds (P := P) (w := w) true (cap := 0) (hl.bnd h1) (hh.bnd h2) (show bnd none 0 = some 0 from rfl) h3 (by omega) (Nat.le_refl _) (.inl rfl)
        have e1 : hb = 0 := by omega
        have e2 : l = 0 := by omega
        subst e1 e2
        refine ⟨.slice (some a) 0 0, ?_, VRel.sliceE hρ ha (.inl hcap)⟩
        simp [Instr.sliceAt, Instr.slice, run_underlying hu, hr, run_sizeOf hj]
    | false =>
      rw [hc] at h
      simp only [cond_false] at h
      obtain ⟨bb, hb, hA⟩ := withX_eq h
      cases hA
      obtain ⟨b1, b2, b3, b4, b5, b6, b7, b8⟩ := cutBounds_eq hb
      have hne : ¬ UNK ≤ Nat.sub bb.2.2 bb.1 := fun h => by
        have : UNK ≤ bb.2.2 - bb.1 := h
        omega
      -- what the other side's row has room for
      have main : ∀ (a : Addr) (c : Nat), x' = .slice (some a) len c → bb.2.2 ≤ c → (mx' = none → c = bb.2.2) →
          (Instr.sliceAt t x' lo' hi'' mx').run P w = .ok (.slice (some (if bb.2.2 = bb.1 then a else a.add (bb.1 * j.size))) (bb.2.1 - bb.1) (bb.2.2 - bb.1)) w := by
        intro a c hxe hle hno
        subst hxe
        have b3' : bnd mx' c = some bb.2.2 := by
          cases hm with
          | nil => rw [hno rfl]; rfl
          | one hv =>
            have := hv.asNat (bnd_some b3)
            show asNat _ = _
            rw [this]; exact bnd_some b3
        have hr := run_sliceBounds (P := P) (w := w) true (hl.bnd b1) (hh.bnd b2) b3' b4 b5 hle (by rw [← hm.none_iff, ← hh.isSome]; exact b7)
        by_cases e : bb.2.2 = bb.1
        · simp [Instr.sliceAt, Instr.slice, run_underlying hu, hr, run_sizeOf hj, e]
        · simp [Instr.sliceAt, Instr.slice, run_underlying hu, hr, run_sizeOf hj, e]
      have hU : UNK ≤ cap → ∃ m, mx = some m := fun hU => by
        cases mx with
        | none =>
          have : Nat.ble UNK cap = true := Nat.ble_eq_true_of_le hU
          rw [this] at hc; cases hc
        | some m => exact ⟨m, rfl⟩
      cases hx with
      | flat hf => simp [flat] at hf
      | @slice _ _ _ _ c lc hρ k1 k2 =>
        have hle : bb.2.2 ≤ c ∧ (mx' = none → c = bb.2.2) := by
          cases hk : Nat.ble UNK cap with
          | true =>
            have hk' := le_of_ble' hk
            rw [hk] at b6
            simp only [cond_true] at b6
            have := (k2 hk').1
            refine ⟨by omega, fun hn => ?_⟩
            obtain ⟨m, rfl⟩ := hU hk'
            rw [← hm.none_iff] at hn; cases hn
          | false =>
            have hk' := lt_of_ble' hk
            rw [hk] at b6 b3
            simp only [cond_false] at b6 b3
            have := k1 hk'
            refine ⟨by omega, fun hn => ?_⟩
            rw [← hm.none_iff] at hn
            subst hn
            have := bnd_none b3
            omega
        have hr := main _ _ rfl hle.1 hle.2
        by_cases e : bb.2.2 = bb.1
        · rw [if_pos e] at hr
          refine ⟨_, hr, ?_⟩
          rw [beqt e]
          exact VRel.slice hρ (fun _ => rfl) (fun hU => absurd hU hne)
        · rw [if_neg e, Addr_add_nat, Nat.add_assoc] at hr
          refine ⟨_, hr, ?_⟩
          rw [beqf e]
          exact VRel.slice hρ (fun _ => rfl) (fun hU => absurd hU hne)
      | @sliceE _ _ _ a lc hρ ha hc' =>
        have hcap0 : (cond (Nat.ble UNK cap) 0 cap) = 0 := by
          rcases hc' with h0 | h0
          · rw [Nat.ble_eq_true_of_le h0]; rfl
          · rw [h0]; cases Nat.ble UNK 0 <;> rfl
        rw [hcap0] at b6
        have e : bb.2.2 = bb.1 := by omega
        have e0 : bb.2.2 = 0 := by omega
        have e1 : bb.1 = 0 := by omega
        have e2 : bb.2.1 = 0 := by omega
        have hr := main a 0 rfl (by omega) (fun _ => by omega)
        rw [if_pos e, e0, e1, e2] at hr
        refine ⟨_, hr, ?_⟩
        rw [beqt e, e0, e1, e2]
        exact VRel.sliceE hρ ha (.inr rfl)
  · cases h

theorem opSlice_run {β : Type} {E : Env} {t : TypeId} {x : Value} {lo hi mx : Option Operand} {k : Value → Option β} {r : β} (h : opSlice P E t x lo hi mx k = some r) :
    ∃ u, k u = some r ∧ ∀ (ρ : Map) (ev : Operand → Value) (x' : Value), XRel P ρ E ev → VRel ρ x x' → ∀ w : World,
      ∃ u', (Instr.sliceAt t x' (lo.map ev) (hi.map ev) (mx.map ev)).run P w = .ok u' w ∧ VRel ρ u u' := by
  unfold opSlice at h
  obtain ⟨lo', h1, hA⟩ := withX_eq h
  obtain ⟨hi', h2, hB⟩ := withX_eq hA
  obtain ⟨mx', h3, hC⟩ := withX_eq hB
  obtain ⟨i, hi, hD⟩ := withX_eq hC
  have bx : ∀ {o : Option Operand} {v : Option Value} (ρ : Map) (ev : Operand → Value), XRel P ρ E ev → boundX P E o = some v → BRel ρ v (o.map ev) := by
    intro o v ρ ev hX ho
    cases o with
    | none => cases ho; exact .nil
    | some x =>
      obtain ⟨u, hu, he⟩ := withX_eq ho
      cases he
      exact .one (hX _ _ hu)
  split at hD
  · rename_i len e hd
    obtain ⟨j, hj, hE⟩ := withX_eq hD
    obtain ⟨u, hu, hF⟩ := bindV_eq hE
    exact ⟨u, hF, fun ρ ev x' hX hx w => evCutArr_run hi hd hj hu hx (bx ρ ev hX h1) (bx ρ ev hX h2) (bx ρ ev hX h3)⟩
  · rename_i e hd
    obtain ⟨j, hj, hE⟩ := withX_eq hD
    obtain ⟨u, hu, hF⟩ := bindV_eq hE
    exact ⟨u, hF, fun ρ ev x' hX hx w => evCut_run hi hd hj hu hx (bx ρ ev hX h1) (bx ρ ev hX h2) (bx ρ ev hX h3)⟩
  · cases hD

/-! Lengths. -/
theorem opLen_run {β : Type} {t ty : TypeId} {x : Value} {k : Value → Option β} {r : β} (h : opLen P H t x k = some r) :
    ∃ u, k u = some r ∧ ∀ (ρ : Map) (K : Nat → Prop) (w : World) (x' : Value), HRel P base K ρ H w → (∀ j ∈ idsOf x, K j) → VRel ρ x x' →
      ∃ u', (Builtin.len_ #[t] ty #[x']).run P w = .ok u' w ∧ VRel ρ u u' := by
  unfold opLen at h
  obtain ⟨i, hi, hA⟩ := withX_eq h
  obtain ⟨_, hu, _⟩ := tyI_eq hi
  split at hA
  · rename_i e hd
    rw [hd] at hu
    obtain ⟨u, hu', hB⟩ := bindV_eq hA
    refine ⟨u, hB, fun ρ K w x' hH hK hx => ?_⟩
    unfold evLenS at hu'
    split at hu'
    · cases hu'
      cases hx with
      | flat hf => exact ⟨_, by simp [Builtin.len_, run_underlying hu, goInt], VRel.flat rfl⟩
      | slice h1 h2 h3 => exact ⟨_, by simp [Builtin.len_, run_underlying hu, goInt], VRel.flat rfl⟩
      | sliceE h1 h2 h3 => exact ⟨_, by simp [Builtin.len_, run_underlying hu, goInt], VRel.flat rfl⟩
    · cases hu'
  · rename_i n e hd
    rw [hd] at hu
    exact ⟨_, hA, fun ρ K w x' hH hK hx => ⟨_, by simp [Builtin.len_, run_underlying hu, goInt], VRel.flat rfl⟩⟩
  · rename_i kt et hd
    rw [hd] at hu
    obtain ⟨u, hu', hB⟩ := bindV_eq hA
    refine ⟨u, hB, fun ρ K w x' hH hK hx => ?_⟩
    unfold evLenM at hu'
    split at hu'
    · cases hu'
      cases hx
      exact ⟨_, by simp [Builtin.len_, run_underlying hu, goInt], VRel.flat rfl⟩
    · rename_i b
      obtain ⟨es, c, hg, hC⟩ := withMap_eq hu'
      cases hC
      cases hx with
      | flat hf => simp [flat] at hf
      | map hl =>
        rename_i l
        obtain ⟨l', hl', hf, _⟩ := hH.fit b _ (hK b (by simp [idsOf])) hg
        rw [hl] at hl'; cases hl'
        obtain ⟨es', h1, h2⟩ := hf
        have hlen := h2.length
        refine ⟨_, ?_, VRel.flat rfl⟩
        simp [Builtin.len_, run_underlying hu, goInt, getObj, Sem.run, h1, hlen]
    · cases hu'
  · cases hA

theorem opCap_run {β : Type} {t ty : TypeId} {x : Value} {k : Value → Option β} {r : β} (h : opCap P t x k = some r) :
    ∃ u, k u = some r ∧ ∀ (ρ : Map) (w : World) (x' : Value), VRel ρ x x' → ∃ u', (Builtin.cap_ #[t] ty #[x']).run P w = .ok u' w ∧ VRel ρ u u' := by
  unfold opCap at h
  obtain ⟨i, hi, hA⟩ := withX_eq h
  obtain ⟨_, hu, _⟩ := tyI_eq hi
  split at hA
  · rename_i e hd
    rw [hd] at hu
    obtain ⟨u, hu', hB⟩ := bindV_eq hA
    refine ⟨u, hB, fun ρ w x' hx => ?_⟩
    unfold evCapS at hu'
    split at hu'
    · rename_i a n c
      cases hc : Nat.ble UNK c with
      | true => rw [hc] at hu'; cases hu'
      | false =>
        rw [hc] at hu'
        cases hu'
        have hlt := lt_of_ble' hc
        cases hx with
        | flat hf => exact ⟨_, by simp [Builtin.cap_, run_underlying hu, goInt], VRel.flat rfl⟩
        | slice h1 h2 h3 =>
          have := h2 hlt
          subst this
          exact ⟨_, by simp [Builtin.cap_, run_underlying hu, goInt], VRel.flat rfl⟩
        | sliceE h1 h2 h3 =>
          rcases h3 with h3 | h3
          · exact absurd h3 (Nat.not_le_of_lt hlt)
          · subst h3
            exact ⟨_, by simp [Builtin.cap_, run_underlying hu, goInt], VRel.flat rfl⟩
    · cases hu'
  · rename_i n e hd
    rw [hd] at hu
    exact ⟨_, hA, fun ρ w x' hx => ⟨_, by simp [Builtin.cap_, run_underlying hu, goInt], VRel.flat rfl⟩⟩
  · cases hA

theorem evLesser_run {mx : Bool} {x y x' y' u : Value} (h : evLesser mx x y = some u) (hx : VRel ρ x x') (hy : VRel ρ y y') :
    VRel ρ u u ∧ (cond mx (Builtin.max2 x' y') (Builtin.min2 x' y')).run P w = .ok u w := by
  unfold evLesser at h
  split at h
  · split at h
    · cases h
      cases hx; cases hy
      refine ⟨VRel.flat rfl, ?_⟩
      cases mx with
      | true => simp only [cond_true, Builtin.max2, Sem.run_pure, intLt_eq, Bool.cond_decide, gt_iff_lt]
      | false => simp only [cond_false, Builtin.min2, Sem.run_pure, intLt_eq, Bool.cond_decide]
    · cases h
  · cases h

theorem opMinMax_run {β : Type} {mx : Bool} : ∀ {vs : List Value} {v : Value} {k : Value → Option β} {r : β}, opMinMax mx v vs k = some r →
    ∃ u, k u = some r ∧ ∀ (ρ : Map) (w : World) (v' : Value) (vs' : List Value), VRel ρ v v' → LRel ρ vs vs' →
      ∃ u', (vs'.foldlM (cond mx Builtin.max2 Builtin.min2) v').run P w = .ok u' w ∧ VRel ρ u u'
  | [], v, k, r, h => ⟨v, h, fun ρ w v' vs' hv hvs => by cases hvs; exact ⟨v', rfl, hv⟩⟩
  | x :: vs, v, k, r, h => by
    unfold opMinMax at h
    obtain ⟨u, hu, hA⟩ := bindV_eq h
    obtain ⟨u2, hB, hC⟩ := opMinMax_run hA
    refine ⟨u2, hB, fun ρ w v' vs' hv hvs => ?_⟩
    cases hvs with
    | cons hx ht =>
      obtain ⟨h1, h2⟩ := evLesser_run (P := P) (w := w) hu hv hx
      obtain ⟨u', h3, h4⟩ := hC ρ w u _ h1 ht
      refine ⟨u', ?_, h4⟩
      rw [List.foldlM_cons, Sem.run_bind]
      cases mx with
      | true => simp only [cond_true] at h2 ⊢; rw [h2]; exact h3
      | false => simp only [cond_false] at h2 ⊢; rw [h2]; exact h3

end
end Go.Ev
