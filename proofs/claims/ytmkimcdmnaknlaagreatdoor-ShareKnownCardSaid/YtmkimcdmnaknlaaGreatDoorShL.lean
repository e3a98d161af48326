/- A word for a function of a hill that answers plain values: a table of what it answers.
   Conditions: none. -/
import Derived.Test.YtmkimcdmnaknlaaGreatDoorShS
namespace Go.Proofs.YtmkimcdmnaknlaaGreatDoor
open Go Go.Ev
noncomputable section

/-- a hill's galleries, its channels' numbers, and what is answered, of two ints -/
structure Ent where
  g : Int
  zs : List Int
  a : Int
  b : Int
def Ent.val (r : Ent) : Value := .tuple #[.int .i64 r.a, .int .i64 r.b]
def cH (e e' : TypeId) (zs : List Int) : AH := (twoTabs .u8 tab32 tab64 e e').push (.cells zs.length (zs.map fun z => .int .i64 z) 65)
def cArg (r : Ent) : Value := .agg #[.int .i64 r.g, .slice (some ⟨2, 0, none⟩) (r.zs.length / 3) (UNK + 3)]
def intsEq : List Int → List Int → Bool
  | [], [] => true
  | x :: xs, y :: ys => cond (intEq x y) (intsEq xs ys) false
  | _, _ => false
theorem intsEq_eq : ∀ {l m : List Int}, intsEq l m = true → l = m
  | [], [], _ => rfl
  | x :: xs, y :: ys, h => by
    unfold intsEq at h
    cases hb : intEq x y with
    | false => rw [hb] at h; cases h
    | true =>
      rw [hb] at h
      rw [intEq_eq] at hb
      rw [intsEq_eq h, eq_of_beq hb]
  | [], _ :: _, h => by cases h
  | _ :: _, [], h => by cases h
def findR (g : Int) (zs : List Int) : List Ent → Option Ent
  | [] => none
  | r :: l => cond (intEq r.g g) (cond (intsEq r.zs zs) (some r) (findR g zs l)) (findR g zs l)
theorem findR_eq {g : Int} {zs : List Int} : ∀ {l : List Ent} {r : Ent}, findR g zs l = some r → r ∈ l ∧ r.g = g ∧ r.zs = zs
  | [], _, h => by cases h
  | s :: l, r, h => by
    unfold findR at h
    cases h1 : intEq s.g g with
    | false => rw [h1] at h; obtain ⟨a, b⟩ := findR_eq h; exact ⟨.tail _ a, b⟩
    | true =>
      rw [h1] at h
      cases h2 : intsEq s.zs zs with
      | false => rw [h2] at h; obtain ⟨a, b⟩ := findR_eq h; exact ⟨.tail _ a, b⟩
      | true =>
        rw [h2] at h
        cases h
        rw [intEq_eq] at h1
        exact ⟨.head _, eq_of_beq h1, intsEq_eq h2⟩
def hillS (tab : List Ent) (H : AH) (g : Int) (b len cap : Nat) : Option (Value × AH) :=
  need (Nat.beq cap (Nat.add UNK 3)) (need (Nat.ble 2 b) (withX (hasTabs .u8 tab32 tab64 H) fun _ => match H.get b with
    | some (.cells _ cs e) => need (Nat.beq e 65) (withX (intsOf cs) fun zs => withX (findR g zs tab) fun r => need (Nat.beq len (Nat.div r.zs.length 3)) (some (r.val, H)))
    | _ => none))
def sHill (tab : List Ent) : FnF := fun _ args H => match args with
  | [.agg a] => (match a.toList with
    | [.int .i64 g, .slice (some ⟨b, 0, none⟩) len cap] => hillS tab H g b len cap
    | _ => none)
  | _ => none

theorem hillS_eq {tab : List Ent} {H : AH} {g : Int} {b len cap : Nat} {v : Value} {H' : AH} (h : hillS tab H g b len cap = some (v, H')) :
    ∃ r s, r ∈ tab ∧ r.g = g ∧ 2 ≤ b ∧ (∃ x, hasTabs .u8 tab32 tab64 H = some x) ∧ H.get b = some (.cells s (r.zs.map fun z => .int .i64 z) 65) ∧ len = r.zs.length / 3 ∧ cap = UNK + 3 ∧ v = r.val ∧ H' = H := by
  unfold hillS at h
  obtain ⟨h1, h⟩ := need_eq h
  obtain ⟨h2, h⟩ := need_eq h
  obtain ⟨x, h3, h⟩ := withX_eq h
  split at h
  · rename_i s cs e hg
    obtain ⟨h4, h⟩ := need_eq h
    obtain ⟨zs, h5, h⟩ := withX_eq h
    obtain ⟨r, h6, h⟩ := withX_eq h
    obtain ⟨h7, h⟩ := need_eq h
    cases h
    obtain ⟨ha, hb, hc⟩ := findR_eq h6
    subst hc
    have e4 := eq_of_beq' h4
    rw [intsOf_eq h5] at hg
    rw [e4] at hg
    exact ⟨r, s, ha, hb, le_of_ble' h2, ⟨x, h3⟩, hg, eq_of_beq' h7, eq_of_beq' h1, rfl, rfl⟩
  · cases h

theorem sHill_ok {P : Program} (hgl : P.globals.size = 2) {f : Nat} {call : CallF} (hc : CallOk P 2 call) (tab : List Ent)
    (hr : ∀ r ∈ tab, ∀ e e', ∃ H', call 3 f [cArg r] (cH e e' r.zs) = some (r.val, H')) : SpecOk P 2 f (sHill tab) := by
  refine SpecOk.of fun lo args H u H' hlo h => ?_
  obtain ⟨a, g, b, len, cap, rfl, hal, h⟩ : ∃ a g b len cap, args = [.agg a] ∧ a.toList = [.int .i64 g, .slice (some ⟨b, 0, none⟩) len cap] ∧ hillS tab H g b len cap = some (u, H') := by
    unfold sHill at h
    split at h
    · split at h
      · rename_i ha; exact ⟨_, _, _, _, _, rfl, ha, h⟩
      · cases h
    · cases h
  obtain ⟨r, s, hmem, rfl, hb2, ⟨⟨e, e'⟩, htab⟩, hgb, rfl, rfl, rfl, rfl⟩ := hillS_eq h
  obtain ⟨g0, g1⟩ := hasTabs_eq htab
  obtain ⟨H1, hrun⟩ := hr r hmem e e'
  obtain ⟨h3, h4⟩ := hc 3 f _ _ _ _ (by omega) hrun
  refine ⟨h3, fun ρ w args' hH hA => ?_⟩
  have t0 : (cH e e' r.zs).get 0 = some (.cells tab32.length (tab32.map fun z => .int .u8 z) e) := by
    have g : (twoTabs .u8 tab32 tab64 e e').get 0 = some (.cells tab32.length (tab32.map fun z => .int .u8 z) e) := by
      show ((Tr.leaf.put 0 _).put 1 _).get 0 = _
      rw [Tr.get_put, if_neg (by decide), Tr.get_put, if_pos rfl]
    unfold cH
    rw [AH.get_push, if_neg (by show (0 : Nat) ≠ 2; decide)]
    exact g
  have t1 : (cH e e' r.zs).get 1 = some (.cells tab64.length (tab64.map fun z => .int .u8 z) e') := by
    have g : (twoTabs .u8 tab32 tab64 e e').get 1 = some (.cells tab64.length (tab64.map fun z => .int .u8 z) e') := by
      show ((Tr.leaf.put 0 _).put 1 _).get 1 = _
      rw [Tr.get_put, if_pos rfl]
    unfold cH
    rw [AH.get_push, if_neg (by show (1 : Nat) ≠ 2; decide)]
    exact g
  have t2 : (cH e e' r.zs).get 2 = some (.cells r.zs.length (r.zs.map fun z => .int .i64 z) 65) := by
    unfold cH
    rw [AH.get_push]; exact if_pos rfl
  have hnx : (cH e e' r.zs).next = 3 := rfl
  -- what is given
  cases hA with
  | cons ha0 t => cases t with
    | nil =>
      rename_i a0
      obtain ⟨ds, rfl, hds⟩ : ∃ ds, a0 = .agg ds ∧ LRel ρ a.toList ds.toList := by
        cases ha0 with
        | flat h => simp [Ev.flat] at h
        | agg h => exact ⟨_, rfl, h⟩
      rw [hal] at hds
      obtain ⟨p, hp, edx⟩ : ∃ p, VRel ρ (.slice (some ⟨b, 0, none⟩) (r.zs.length / 3) (UNK + 3)) p ∧ ds = #[.int .i64 r.g, p] := by
        cases ds with
        | mk l => cases hds with
          | cons hi t => cases t with
            | cons hp t => cases t with
              | nil =>
                have := hi.int_eq
                subst this
                exact ⟨_, hp, rfl⟩
      subst edx
      obtain ⟨lb, hlb⟩ : ∃ l, ρ b = some l := by
        have hp2 := hp
        generalize r.zs.length / 3 = len at hp2
        cases hp2 with
        | flat h => simp [Ev.flat] at h
        | slice h _ _ => exact ⟨_, h⟩
        | sliceE h _ _ => exact ⟨_, h⟩
      let σ : Nat → Nat := fun i => if i < 2 then i else b
      let ρ0 : Map := fun i => if i < 3 then ρ (σ i) else none
      have r0 : ∀ i l, ρ0 i = some l → ρ (σ i) = some l ∧ i < 3 := by
        intro i l hl
        have hl : (if i < 3 then ρ (σ i) else none) = some l := hl
        split at hl
        · rename_i hi; exact ⟨hl, hi⟩
        · cases hl
      have s0 : σ 0 = 0 := rfl
      have s1 : σ 1 = 1 := rfl
      have s2 : σ 2 = b := rfl
      have r2 : ρ0 2 = some lb := hlb
      have ints : ∀ (k : IntKind) (zs : List Int) (s m : Nat) (e : TypeId) (l : Ev.Loc), m = zs.length → OFit P ρ (.cells s (zs.map fun z => .int k z) e) l w → OFit P ρ0 (.cells m (zs.map fun z => .int k z) e) l w := by
        rintro k zs s m e l rfl ⟨a, b, c, fz, d, m, q⟩
        rw [List.length_map] at a
        refine ⟨by simp, by omega, c, fz, d, m, fun j u hu => ?_⟩
        obtain ⟨u', h6, h7⟩ := q j u hu
        refine ⟨u', h6, ?_⟩
        rw [List.getElem?_map] at hu
        cases hz : zs[j]? with
        | none => rw [hz] at hu; cases hu
        | some z => rw [hz] at hu; cases hu; rw [h7.int_eq]; exact .flat rfl
      -- each block of the small heap is one of the great one
      have blk : ∀ i o l, ρ0 i = some l → (cH e e' r.zs).get i = some o → ∃ o', H'.get (σ i) = some o' ∧ OFit P ρ0 o l w ∧ (2 ≤ i → thawed w l.blk) := by
        intro i o l hl ho
        obtain ⟨hl', hi⟩ := r0 i l hl
        rcases (by omega : i = 0 ∨ i = 1 ∨ i = 2) with rfl | rfl | rfl
        · rw [t0] at ho; cases ho
          obtain ⟨l2, k1, k2, _⟩ := hH.fit 0 _ (dom_some hl') g0
          rw [s0] at hl'; rw [hl'] at k1; cases k1
          exact ⟨_, g0, ints _ _ _ _ _ _ rfl k2, fun h => absurd h (by decide)⟩
        · rw [t1] at ho; cases ho
          obtain ⟨l2, k1, k2, _⟩ := hH.fit 1 _ (dom_some hl') g1
          rw [s1] at hl'; rw [hl'] at k1; cases k1
          exact ⟨_, g1, ints _ _ _ _ _ _ rfl k2, fun h => absurd h (by decide)⟩
        · rw [t2] at ho; cases ho
          obtain ⟨l2, k1, k2, k3⟩ := hH.fit b _ (dom_some hl') hgb
          rw [s2] at hl'; rw [hl'] at k1; cases k1
          exact ⟨_, hgb, ints _ _ _ _ _ _ rfl k2, fun _ => k3 hb2⟩
      have hsub : HRel P 2 (dom ρ0) ρ0 (cH e e' r.zs) w := by
        refine ⟨?_, ?_, ?_, ?_⟩
        · intro i o hk ho
          obtain ⟨l, hl⟩ := Option.isSome_iff_exists.1 hk
          obtain ⟨_, _, h5, h6⟩ := blk i o l hl ho
          exact ⟨l, hl, h5, h6⟩
        · intro i j oi oj li lj _ _ hoi hoj hli hlj he
          obtain ⟨o1, h5, _, _⟩ := blk i oi li hli hoi
          obtain ⟨o2, h6, _, _⟩ := blk j oj lj hlj hoj
          obtain ⟨h7, hi⟩ := r0 i li hli
          obtain ⟨h8, hj⟩ := r0 j lj hlj
          have := hH.inj _ _ _ _ _ _ (dom_some h7) (dom_some h8) h5 h6 h7 h8 he
          have : (if i < 2 then i else b) = (if j < 2 then j else b) := this
          split at this <;> split at this <;> omega
        · intro i l hl
          obtain ⟨h7, hi⟩ := r0 i l hl
          exact ⟨by rw [hnx]; exact hi, (hH.dom _ l h7).2⟩
        · intro g hg
          rw [hgl] at hg
          obtain ⟨l, h5, h6⟩ := hH.glob g (by rw [hgl]; exact hg)
          refine ⟨l, ?_, h6⟩
          show (if g < 3 then ρ (if g < 2 then g else b) else none) = _
          rw [if_pos (by omega), if_pos hg]; exact h5
      have hargs : LRel ρ0 [cArg r] [.agg #[.int .i64 r.g, p]] := by
        refine .cons (.agg (.cons (.flat rfl) (.cons ?_ .nil))) .nil
        show VRel ρ0 (.slice (some ⟨2, 0, none⟩) (r.zs.length / 3) (UNK + 3)) p
        generalize r.zs.length / 3 = len at hp ⊢
        cases hp with
        | flat h => simp [Ev.flat] at h
        | slice h h1 h2 => rw [hlb] at h; cases h; exact .slice r2 h1 h2
        | sliceE h ha hcc => rw [hlb] at h; cases h; exact .sliceE r2 ha hcc
      refine Calls.mono (h4 ρ0 w _ hsub hargs) fun x w' => ?_
      rintro ⟨v', ρ', rfl, h5, h6⟩
      refine ⟨v', ρ, rfl, ?_, h6.forget hH fun i l hl => (r0 i l hl).2⟩
      rw [plain_same h5 rfl]; exact .plain rfl

/-- a hill without channels -/
def sNil (g : Int) (v : Value) : FnF := fun _ args H => match args with
  | [.agg a] => (match a.toList with
    | [.int .i64 x, .slice none 0 0] => need (intEq x g) (withX (hasTabs .u8 tab32 tab64 H) fun _ => some (v, H))
    | _ => none)
  | _ => none
def nArg (g : Int) : Value := .agg #[.int .i64 g, .slice none 0 0]
theorem sNil_ok {P : Program} (hgl : P.globals.size = 2) {g : Int} {v : Value} {f : Nat} {call : CallF} (hc : CallOk P 2 call) (hv : plain v = true)
    (hr : ∀ e e', ∃ H', call 2 f [nArg g] (twoTabs .u8 tab32 tab64 e e') = some (v, H')) : SpecOk P 2 f (sNil g v) := by
  refine SpecOk.of fun lo args H u H' hlo h => ?_
  obtain ⟨rfl, hz⟩ : args = [nArg g] ∧ withX (hasTabs .u8 tab32 tab64 H) (fun _ => some (v, H)) = some (u, H') := by
    unfold sNil at h
    split at h
    · rename_i a
      split at h
      · rename_i x ha
        obtain ⟨h1, h2⟩ := need_eq h
        rw [intEq_eq] at h1
        have e := eq_of_beq h1
        refine ⟨?_, h2⟩
        rw [← e]
        cases a with | mk l => simp only at ha; subst ha; rfl
      · cases h
    · cases h
  obtain ⟨⟨e, e'⟩, h1, h2⟩ := withX_eq hz
  cases h2
  obtain ⟨g0, g1⟩ := hasTabs_eq h1
  obtain ⟨H1, hrun⟩ := hr e e'
  obtain ⟨h3, h4⟩ := hc 2 f _ _ _ _ (Nat.le_refl 2) hrun
  refine ⟨h3, fun ρ w args' hH ha => ?_⟩
  have t0 : (twoTabs .u8 tab32 tab64 e e').get 0 = some (.cells tab32.length (tab32.map fun z => .int .u8 z) e) := by
    show ((Tr.leaf.put 0 _).put 1 _).get 0 = _
    rw [Tr.get_put, if_neg (by decide), Tr.get_put, if_pos rfl]
  have t1 : (twoTabs .u8 tab32 tab64 e e').get 1 = some (.cells tab64.length (tab64.map fun z => .int .u8 z) e') := by
    show ((Tr.leaf.put 0 _).put 1 _).get 1 = _
    rw [Tr.get_put, if_pos rfl]
  let ρ0 : Map := fun i => if i < 2 then ρ i else none
  have r0 : ∀ i l, ρ0 i = some l → ρ i = some l ∧ i < 2 := by
    intro i l hl
    show _ ∧ _
    have hl : (if i < 2 then ρ i else none) = some l := hl
    split at hl
    · rename_i hi; exact ⟨hl, hi⟩
    · cases hl
  have hsub : HRel P 2 (dom ρ0) ρ0 (twoTabs .u8 tab32 tab64 e e') w := by
    refine hrel_sub hH (fun i l hl => r0 i l hl) ?_ ?_ ?_
    · intro i hi
      obtain ⟨l, hl⟩ := Option.isSome_iff_exists.1 hi
      have := (r0 i l hl).2
      rcases (by omega : i = 0 ∨ i = 1) with rfl | rfl
      · rw [t0, g0]
      · rw [t1, g1]
    · intro g hg
      obtain ⟨l, h5, _⟩ := hH.glob g hg
      have : ρ0 g = some l := by show (if g < 2 then ρ g else none) = _; rw [if_pos (by omega)]; exact h5
      exact dom_some this
    · intro i o ho l hl hfit
      have := (r0 i l hl).2
      have ints : ∀ (zs : List Int) (s : Nat) (e : TypeId), OFit P ρ (.cells s (zs.map fun z => .int .u8 z) e) l w → OFit P ρ0 (.cells s (zs.map fun z => .int .u8 z) e) l w := by
        rintro zs s e ⟨a, b, c, fz, d, m, q⟩
        refine ⟨a, b, c, fz, d, m, fun j u hu => ?_⟩
        obtain ⟨u', h6, h7⟩ := q j u hu
        refine ⟨u', h6, ?_⟩
        rw [List.getElem?_map] at hu
        cases hz : zs[j]? with
        | none => rw [hz] at hu; cases hu
        | some z => rw [hz] at hu; cases hu; rw [h7.int_eq]; exact .flat rfl
      rcases (by omega : i = 0 ∨ i = 1) with rfl | rfl
      · rw [t0] at ho; cases ho; exact ints _ _ _ hfit
      · rw [t1] at ho; cases ho; exact ints _ _ _ hfit
  have hargs : LRel ρ0 [nArg g] args' := by
    cases ha with
    | cons hx t => cases t with
      | nil => rw [plain_same hx rfl]; exact .cons (.plain rfl) .nil
  refine Calls.mono (h4 ρ0 w _ hsub hargs) fun x w' => ?_
  rintro ⟨v', ρ', rfl, h5, h6⟩
  refine ⟨v', ρ, rfl, ?_, h6.forget hH fun i l hl => (r0 i l hl).2⟩
  rw [plain_same h5 hv]; exact .plain hv

/-- the first word that answers -/
def sOr (S1 S2 : FnF) : FnF := fun lo args H => Option.rec (motive := fun _ => Option (Value × AH)) (S2 lo args H) some (S1 lo args H)
theorem sOr_ok {P : Program} {f : Nat} {S1 S2 : FnF} (h1 : SpecOk P 2 f S1) (h2 : SpecOk P 2 f S2) : SpecOk P 2 f (sOr S1 S2) := by
  refine SpecOk.of fun lo args H v H' hlo h => ?_
  unfold sOr at h
  cases e : S1 lo args H with
  | none => rw [e] at h; exact h2.run hlo h
  | some p => rw [e] at h; cases h; exact h1.run hlo e
end
end Go.Proofs.YtmkimcdmnaknlaaGreatDoor
