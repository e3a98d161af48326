/- From a call of the evaluator to a law's row: the heap that a call begins with, and what a call leaves.
   Conditions: none. -/
import Derived.Test.YtmkimcdmnaknlaaGreatDoorEvV
import Derived.ProofKit
import Derived.LaidMore
import Derived.OpenShut
namespace Go.Ev

/-- an array of integers, as it reads -/
theorem trod_ints {H : Type} {enc : TypeId × Value → H} {P : Program} {w : World} {b : Nat} {spare : Nat → Bool} {held : Bool} {fuel n : Nat} {t e : TypeId} {k : IntKind} {cs : List Value} {d : DataW H} {p : List MemPlace}
    (ht : P.underlying t = some (.array n e)) (he : P.underlying e = some (.int k)) (hc : P.cellsOf e = 1) (hct : P.cellsOf t = n)
    (h : DataW.trod enc P w b spare held fuel t cs = some (d, p)) (zs : List Int) (hd : d = .agg (zs.map fun z => .lit (.int k z))) : cs = zs.map fun z => .int k z := by
  obtain ⟨xs, m, rfl, hx, hlen, hn, hel⟩ := DataW.trod_array ht h
  rw [hct] at hlen
  simp only [Prod.mk.injEq] at hx
  rw [hd] at hx
  have hx1 : zs.map (fun z => (DataW.lit (.int k z) : DataW H)) = xs.map (·.1) := by
    have := hx.1
    simpa using this
  have hz : zs.length = n := by
    have := congrArg List.length hx1
    simp at this; omega
  refine List.ext_getElem? fun i => ?_
  rcases Nat.lt_or_ge i n with hi | hi
  · have h1 := hel i hi
    rw [hc, Nat.mul_one] at h1
    have hxi : xs[i]? = some xs[i] := List.getElem?_eq_getElem (by omega)
    rw [hxi] at h1
    obtain ⟨z, e1, e2, _⟩ := DataW.trod_int he h1
    have h2 : cs[i]? = some (.int k z) := by
      have h3 : ((cs.drop i).take 1)[0]? = some (.int k z) := by rw [e1]; rfl
      rw [List.getElem?_take, if_pos (by decide), List.getElem?_drop] at h3
      simpa using h3
    have h4 : (zs.map (fun z => (DataW.lit (.int k z) : DataW H)))[i]? = some (.lit (.int k z)) := by
      rw [hx1, List.getElem?_map, hxi, e2]; rfl
    rw [List.getElem?_map] at h4 ⊢
    cases hzi : zs[i]? with
    | none => rw [hzi] at h4; cases h4
    | some y =>
      rw [hzi] at h4
      simp at h4
      subst h4
      rw [h2]; rfl
  · rw [List.getElem?_eq_none (by omega), List.getElem?_eq_none (by simp; omega)]

section
variable {P : Program} {base lo : Nat} {ρ ρ' : Map} {H H' : AH} {w w' : World}

theorem Step.samelow (h : Step P base (fun i => lo ≤ i) (dom ρ) ρ H w ρ' H' w') (hd : ∀ i l, ρ i = some l → i < lo) {b : Nat} (hb : b < w.heap.size) : w'.heap[b]? = w.heap[b]? :=
  h.frame b hb fun i l hi _ hl => absurd (hd i l hl) (by omega)

/-- a call that writes nothing that was there keeps all that was there -/
theorem Step.kept (h : Step P base (fun i => lo ≤ i) (dom ρ) ρ H w ρ' H' w') (hd : ∀ i l, ρ i = some l → i < lo) (may : MemPlace → Prop) : w.keptBut w' may := by
  refine ⟨h.env.1, h.env.2, fun i hi => ?_⟩
  rw [h.samelow hd hi]
  cases ho : w.heap[i]? with
  | none => rfl
  | some o =>
    cases o with
    | cells c t fr => exact ⟨rfl, rfl, rfl, fun _ _ => rfl⟩
    | map es clock => exact .inr ⟨rfl, rfl⟩
    | _ => rfl

theorem Step.frozen (h : Step P base (fun i => lo ≤ i) (dom ρ) ρ H w ρ' H' w') (hd : ∀ i l, ρ i = some l → i < lo) (a : Addr) (hb : a.block < w.heap.size) : w'.frozen? a = w.frozen? a := by
  unfold World.frozen?
  rw [h.samelow hd hb]
end

/-- the heap that holds two tables of numbers -/
def twoTabs (k : IntKind) (xs ys : List Int) (e0 e1 : TypeId) : AH :=
  ⟨2, (Tr.leaf.put 0 (some (.cells xs.length (xs.map fun z => .int k z) e0))).put 1 (some (.cells ys.length (ys.map fun z => .int k z) e1))⟩
def twoMap (n m : Nat) : Map := fun i => if i = 0 then some ⟨0, 0, n⟩ else if i = 1 then some ⟨1, 0, m⟩ else none

theorem twoMap_lt {n m i : Nat} {l : Loc} (h : twoMap n m i = some l) : i < 2 := by
  unfold twoMap at h
  split at h
  · omega
  · split at h
    · omega
    · cases h

theorem two_rel {P : Program} {k : IntKind} {xs ys : List Int} {e0 e1 : TypeId} {f0 f1 : Nat × Nat} {c0 c1 : Array Value} {w : World} (hg : P.globals.size = 2)
    (h0 : w.heap[0]? = some (.cells c0 e0 f0)) (h1 : w.heap[1]? = some (.cells c1 e1 f1)) (hx : c0.toList = xs.map fun z => .int k z) (hy : c1.toList = ys.map fun z => .int k z) :
    HRel P 2 (dom (twoMap xs.length ys.length)) (twoMap xs.length ys.length) (twoTabs k xs ys e0 e1) w := by
  have g0 : (twoTabs k xs ys e0 e1).get 0 = some (.cells xs.length (xs.map fun z => .int k z) e0) := by
    show ((Tr.leaf.put 0 _).put 1 _).get 0 = _
    rw [Tr.get_put, if_neg (by decide), Tr.get_put, if_pos rfl]
  have g1 : (twoTabs k xs ys e0 e1).get 1 = some (.cells ys.length (ys.map fun z => .int k z) e1) := by
    show ((Tr.leaf.put 0 _).put 1 _).get 1 = _
    rw [Tr.get_put, if_pos rfl]
  have fitA : ∀ {zs : List Int} {c : Array Value}, c.toList = zs.map (fun z => Value.int k z) → ∀ (i : Nat) (v : Value), (zs.map fun z => Value.int k z)[i]? = some v →
      ∃ v', c[0 + i]? = some v' ∧ VRel (twoMap xs.length ys.length) v v' := by
    intro zs c hc i v hv
    refine ⟨v, by rw [Nat.zero_add, ← Array.getElem?_toList, hc]; exact hv, ?_⟩
    rw [List.getElem?_map] at hv
    cases hz : zs[i]? with
    | none => rw [hz] at hv; cases hv
    | some z => rw [hz] at hv; cases hv; exact .flat rfl
  have sizeA : ∀ {zs : List Int} {c : Array Value}, c.toList = zs.map (fun z => Value.int k z) → c.size = zs.length := by
    intro zs c hc
    rw [← Array.length_toList, hc, List.length_map]
  have hsz : 1 < w.heap.size := (Array.getElem?_eq_some_iff.1 h1).1
  refine ⟨?_, ?_, ?_, ?_⟩
  · intro i o hk ho
    obtain ⟨l, hl⟩ := Option.isSome_iff_exists.1 hk
    have hi := twoMap_lt hl
    rcases (by omega : i = 0 ∨ i = 1) with rfl | rfl
    · rw [g0] at ho; cases ho
      exact ⟨⟨0, 0, xs.length⟩, rfl, ⟨by simp, by simp, c0, f0, h0, sizeA hx, fitA hx⟩, fun hb => absurd hb (by decide)⟩
    · rw [g1] at ho; cases ho
      exact ⟨⟨1, 0, ys.length⟩, rfl, ⟨by simp, by simp, c1, f1, h1, sizeA hy, fitA hy⟩, fun hb => absurd hb (by decide)⟩
  · intro i j oi oj li lj _ _ _ _ hli hlj hb
    have hi := twoMap_lt hli
    have hj := twoMap_lt hlj
    rcases (by omega : i = 0 ∨ i = 1) with rfl | rfl <;> rcases (by omega : j = 0 ∨ j = 1) with rfl | rfl <;> cases hli <;> cases hlj <;> first | rfl | cases hb
  · intro i l hl
    have hi := twoMap_lt hl
    refine ⟨hi, ?_⟩
    rcases (by omega : i = 0 ∨ i = 1) with rfl | rfl <;> cases hl
    · show 0 < _; omega
    · exact hsz
  · intro g hgl
    rw [hg] at hgl
    rcases (by omega : g = 0 ∨ g = 1) with rfl | rfl
    · exact ⟨_, rfl, rfl, rfl⟩
    · exact ⟨_, rfl, rfl, rfl⟩

/-- does a call answer true? -/
def isT (r : Option (Value × AH)) : Bool := match r with | some (.bool b, _) => b | _ => false
theorem isT_eq {r : Option (Value × AH)} (h : isT r = true) : ∃ H', r = some (.bool true, H') := by
  unfold isT at h
  split at h
  · rename_i b H'
    subst h; exact ⟨H', rfl⟩
  · cases h
end Go.Ev
