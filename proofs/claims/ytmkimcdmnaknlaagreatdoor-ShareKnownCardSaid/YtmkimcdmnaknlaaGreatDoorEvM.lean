/- One operation of the evaluator is the model's: all of them.
   Conditions: none. -/
import Derived.Test.YtmkimcdmnaknlaaGreatDoorEvL
namespace Go.Ev
section
variable {P : Program} {base : Nat} {W K : Nat → Prop} {ρ : Map} {H : AH} {w : World}

theorem evStore_run {t : TypeId} {i : TyI} (ht : tyI P t = some i) {lo : Nat} {a x a' x' : Value} {H' : AH} (h : evStore lo H i.size a x = some H') (hlo : base ≤ lo)
    (hH : HRel P base K ρ H w) (ha : VRel ρ a a') (hx : VRel ρ x x') (hK : ∀ j ∈ idsOf a, K j) (hW : ∀ j ∈ idsOf a, lo ≤ j → W j) :
    ∃ w', (Instr.storeAt t a' x').run P w = .ok () w' ∧ Step P base W K ρ H w ρ H' w' := by
  obtain ⟨j, off, rfl, hA⟩ := withPtr_eq h
  unfold evStoreL at hA
  obtain ⟨s, cs, e, hg, hB⟩ := withCells_eq hA
  obtain ⟨b1, hC⟩ := need_eq hB
  obtain ⟨b2, hD⟩ := need_eq hC
  obtain ⟨b3, hE⟩ := need_eq hD
  obtain ⟨b4, hF⟩ := need_eq hE
  cases hF
  have b1 := le_of_ble' b1
  have b2 := eq_of_beq' b2
  have b3 : off + i.size ≤ s := le_of_ble' b3
  rw [lenN_eq] at b2
  obtain ⟨l, hl, rfl⟩ := ha.ptr_eq
  have hk : K j := hK j (by simp [idsOf])
  have hw : W j := hW j (by simp [idsOf]) b1
  have hr := hx.cells
  obtain ⟨w', h1, h2⟩ := run_storeSeg hH hk hw (Nat.le_trans hlo b1) hg hl off (vs := cellsOf x) (vs' := x'.cells.toList) (by omega) hr (all_single b4 hr)
  refine ⟨w', ?_, h2⟩
  have hs : x'.cells.size = i.size := by rw [← Array.length_toList, ← hr.length, b2]
  simp [Instr.storeAt, Instr.sureAddr, storeVar, run_sizeOf ht, hs, h1]

theorem LRel.two {x y : Value} {l : Array Value} (h : LRel ρ [x, y] l.toList) : ∃ x' y', l = #[x', y'] ∧ VRel ρ x x' ∧ VRel ρ y y' := by
  obtain ⟨l⟩ := l
  cases h with
  | cons h1 t => cases t with
    | cons h2 t => cases t; exact ⟨_, _, rfl, h1, h2⟩
theorem LRel.one {x : Value} {l : Array Value} (h : LRel ρ [x] l.toList) : ∃ x', l = #[x'] ∧ VRel ρ x x' := by
  obtain ⟨l⟩ := l
  cases h with
  | cons h1 t => cases t; exact ⟨_, rfl, h1⟩
theorem toList_two {α : Type} {a : Array α} {x y : α} (h : a.toList = [x, y]) : a = #[x, y] := by
  obtain ⟨l⟩ := a; cases h; rfl
theorem toList_one {α : Type} {a : Array α} {x : α} (h : a.toList = [x]) : a = #[x] := by
  obtain ⟨l⟩ := a; cases h; rfl

theorem handle_K {E : Env} {o : Op} {x : Operand} {v : Value} (hK : touchK P E ρ o K) (hx : x ∈ handles o) (hv : evx P E x = some v) : ∀ j ∈ idsOf v, K j :=
  hK.1 x hx v hv
theorem handle_W {E : Env} {o : Op} {lo : Nat} {x : Operand} {v : Value} (hw : isWr (classOf o) = true) (hx : x ∈ handles o) (hv : evx P E x = some v) : ∀ j ∈ idsOf v, lo ≤ j → touchW P E lo o j :=
  fun _ hj hl => ⟨hl, .inr ⟨hw, x, hx, v, hv, hj⟩⟩

theorem evxs_mem {E : Env} : ∀ {xs : List Operand} {vs : List Value}, evxs P E xs = some vs → ∀ v ∈ vs, ∃ x ∈ xs, evx P E x = some v
  | [], vs, h, v, hv => by cases h; cases hv
  | x :: xs, vs, h, v, hv => by
    obtain ⟨u, hu, h1⟩ := withX_eq h
    obtain ⟨l, hl, h2⟩ := withX_eq h1
    cases h2
    cases hv with
    | head => exact ⟨x, by simp, hu⟩
    | tail _ hm =>
      obtain ⟨y, hy, h3⟩ := evxs_mem hl v hm
      exact ⟨y, List.mem_cons_of_mem _ hy, h3⟩

theorem run_asBool {b : Bool} (w : World) : (asBool (.bool b)).run P w = .ok b w := rfl

theorem run_Builtin {b : Builtin} {ts : Array TypeId} {ty : TypeId} {cs : Array Bool} {args : Array Value} {v : Value} {w' : World} {f : Array TypeId → TypeId → Array Value → Sem Value}
    (hf : ∀ x, builtin b ts ty cs x = (do pure (.value (← f ts ty x)))) (h : (f ts ty args).run P w = .ok v w') : (builtin b ts ty cs args).run P w = .ok (.value v) w' := by
  rw [hf]; simp [h]

/-- one builtin -/
theorem opBuiltin_ok {β : Type} {lo : Nat} {E : Env} {k : Value → AH → Option β} {r : β} (hlo : base ≤ lo) {b : Builtin} {args : Array Operand} {ts : Array TypeId} {ty : TypeId} {cs : Array Bool}
    {vs : List Value} (hvs : evxs P E args.toList = some vs) (h : opBuiltin P lo H b ts.toList vs k = some r) :
    ∃ v H', k v H' = some r ∧ ((classOf (.call ⟨.builtin b, args, ts⟩)).touches = false → makes (.call ⟨.builtin b, args, ts⟩) = false → H' = H) ∧ ∀ (ρ : Map) (K : Nat → Prop) (w : World) (ev : Operand → Value), HRel P base K ρ H w → XRel P ρ E ev → touchK P E ρ (.call ⟨.builtin b, args, ts⟩) K →
      ∃ v' ρ' w', (builtin b ts ty cs (args.map ev)).run P w = .ok (.value v') w' ∧ VRel ρ' v v' ∧ Step P base (touchW P E lo (.call ⟨.builtin b, args, ts⟩)) K ρ H w ρ' H' w' := by
  have rel : ∀ {ρ : Map} {ev : Operand → Value}, XRel P ρ E ev → LRel ρ vs (args.map ev).toList := fun hX => by
    rw [Array.toList_map]; exact evxs_rel hX hvs
  have hmem := evxs_mem hvs
  unfold opBuiltin at h
  split at h
  · split at h
    · rename_i st xt s x h1
      have hts := toList_two h1
      obtain ⟨u, H', hk, hA⟩ := opAppend_run (ty := ty) hlo h
      refine ⟨u, H', hk, (by first | exact fun _ _ => rfl | exact fun h1 _ => nomatch (show true = false from h1) | exact fun _ h2 => nomatch (show true = false from h2)), fun ρ K w ev hH hX hK => ?_⟩
      obtain ⟨s', x', ha, hs, hx⟩ := (rel hX).two
      obtain ⟨xs, hxs, hes⟩ := hmem s (by simp)
      obtain ⟨xx, hxx, hex⟩ := hmem x (by simp)
      obtain ⟨u', w', ρ', h3, h4, h5⟩ := hA ρ (touchW P E lo (.call ⟨.builtin .append, args, ts⟩)) K w s' x' hH hs hx (handle_K hK hxs hes) (handle_K hK hxx hex) (handle_W rfl hxs hes)
      exact ⟨u', ρ', w', run_Builtin (f := Builtin.append_) (fun _ => rfl) (by rw [ha, hts]; exact h3), h4, h5⟩
    · cases h
  · split at h
    · rename_i t x h1
      have hts := toList_one h1
      obtain ⟨u, hk, hA⟩ := opLen_run (base := base) (ty := ty) h
      refine ⟨u, H, hk, (by first | exact fun _ _ => rfl | exact fun h1 _ => nomatch (show true = false from h1) | exact fun _ h2 => nomatch (show true = false from h2)), fun ρ K w ev hH hX hK => ?_⟩
      obtain ⟨x', ha, hx⟩ := (rel hX).one
      obtain ⟨xx, hxx, hex⟩ := hmem x (by simp)
      obtain ⟨u', h3, h4⟩ := hA ρ K w x' hH (handle_K hK hxx hex) hx
      exact ⟨u', ρ, w, run_Builtin (f := Builtin.len_) (fun _ => rfl) (by rw [ha, hts]; exact h3), h4, Step.refl hH⟩
    · cases h
  · split at h
    · rename_i t x h1
      have hts := toList_one h1
      obtain ⟨u, hk, hA⟩ := opCap_run (ty := ty) h
      refine ⟨u, H, hk, (by first | exact fun _ _ => rfl | exact fun h1 _ => nomatch (show true = false from h1) | exact fun _ h2 => nomatch (show true = false from h2)), fun ρ K w ev hH hX hK => ?_⟩
      obtain ⟨x', ha, hx⟩ := (rel hX).one
      obtain ⟨u', h3, h4⟩ := hA ρ w x' hx
      exact ⟨u', ρ, w, run_Builtin (f := Builtin.cap_) (fun _ => rfl) (by rw [ha, hts]; exact h3), h4, Step.refl hH⟩
    · cases h
  · split at h
    · rename_i v vs' _ hvs0
      obtain ⟨u, hk, hA⟩ := opMinMax_run (P := P) h
      refine ⟨u, H, hk, (by first | exact fun _ _ => rfl | exact fun h1 _ => nomatch (show true = false from h1) | exact fun _ h2 => nomatch (show true = false from h2)), fun ρ K w ev hH hX hK => ?_⟩
      have hr := rel hX
      cases hl : (args.map ev).toList with
      | nil => rw [hl] at hr; cases hr
      | cons v' l' =>
        rw [hl] at hr
        cases hr with
        | cons h1 h2 =>
          obtain ⟨u', h3, h4⟩ := hA ρ w v' l' h1 h2
          refine ⟨u', ρ, w, run_Builtin (f := Builtin.min_) (fun _ => rfl) ?_, h4, Step.refl hH⟩
          unfold Builtin.min_
          rw [hl]; exact h3
    · cases h
  · split at h
    · rename_i v vs' _ hvs0
      obtain ⟨u, hk, hA⟩ := opMinMax_run (P := P) h
      refine ⟨u, H, hk, (by first | exact fun _ _ => rfl | exact fun h1 _ => nomatch (show true = false from h1) | exact fun _ h2 => nomatch (show true = false from h2)), fun ρ K w ev hH hX hK => ?_⟩
      have hr := rel hX
      cases hl : (args.map ev).toList with
      | nil => rw [hl] at hr; cases hr
      | cons v' l' =>
        rw [hl] at hr
        cases hr with
        | cons h1 h2 =>
          obtain ⟨u', h3, h4⟩ := hA ρ w v' l' h1 h2
          refine ⟨u', ρ, w, run_Builtin (f := Builtin.max_) (fun _ => rfl) ?_, h4, Step.refl hH⟩
          unfold Builtin.max_
          rw [hl]; exact h3
    · cases h
  · split at h
    · rename_i t x h1
      have hts := toList_one h1
      obtain ⟨H', hk, hA⟩ := opClear_run (ty := ty) hlo h
      refine ⟨.tuple #[], H', hk, (by first | exact fun _ _ => rfl | exact fun h1 _ => nomatch (show true = false from h1) | exact fun _ h2 => nomatch (show true = false from h2)), fun ρ K w ev hH hX hK => ?_⟩
      obtain ⟨x', ha, hx⟩ := (rel hX).one
      obtain ⟨xx, hxx, hex⟩ := hmem x (by simp)
      obtain ⟨w', h3, h4⟩ := hA ρ (touchW P E lo (.call ⟨.builtin .clear, args, ts⟩)) K w x' hH hx (handle_K hK hxx hex) (handle_W rfl hxx hex)
      exact ⟨.tuple #[], ρ, w', run_Builtin (f := Builtin.clear_) (fun _ => rfl) (by rw [ha, hts]; exact h3), .tuple (by simpa using LRel.nil), h4⟩
    · cases h
  · cases h
end
end Go.Ev
