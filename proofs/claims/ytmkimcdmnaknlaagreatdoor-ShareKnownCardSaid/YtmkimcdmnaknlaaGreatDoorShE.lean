/- What drain.Least answers of the hills that the examples reach.
   Conditions: the two tables of package math/bits hold what the program's text lays. -/
import Derived.Test.YtmkimcdmnaknlaaGreatDoorShL
namespace Go.Proofs.YtmkimcdmnaknlaaGreatDoor
open Go Go.Ev
set_option maxRecDepth 1000000
noncomputable section
def isR (r : Ent) (x : Option (Value × AH)) : Bool := match x with
  | some (.tuple a, _) => (match a.toList with | [.int .i64 p, .int .i64 q] => cond (intEq p r.a) (intEq q r.b) false | _ => false)
  | _ => false
theorem isR_eq {r : Ent} {x : Option (Value × AH)} (h : isR r x = true) : ∃ H', x = some (r.val, H') := by
  unfold isR at h
  split at h
  · rename_i a H'
    split at h
    · rename_i p q ha
      cases h1 : intEq p r.a with
      | false => rw [h1] at h; cases h
      | true =>
        rw [h1] at h
        have h : intEq q r.b = true := h
        rw [intEq_eq] at h1 h
        rw [eq_of_beq h1, eq_of_beq h] at ha
        refine ⟨H', ?_⟩
        unfold Ent.val
        cases a with | mk l => simp only at ha; subst ha; rfl
    · cases h
  · cases h
def ent0 : Ent := ⟨3, [0, 1, 1, 1, 0, 1, 0, 3, 5, 1, 3, 4, 2, 1, 2, 2, 3, 3], 7, 0⟩
theorem run_ent0 (e e' : TypeId) : isR ent0 (sCall P ctx table 200 3 33 [cArg ent0] (cH e e' ent0.zs)) = true := by kernel_rfl
def ent1 : Ent := ⟨1, [0, 1, 3], 3, 0⟩
theorem run_ent1 (e e' : TypeId) : isR ent1 (sCall P ctx table 200 3 33 [cArg ent1] (cH e e' ent1.zs)) = true := by kernel_rfl
def ent2 : Ent := ⟨2, [0, 1, 1, 1, 0, 1, 0, 2, 5, 1, 2, 4], 5, 0⟩
theorem run_ent2 (e e' : TypeId) : isR ent2 (sCall P ctx table 200 3 33 [cArg ent2] (cH e e' ent2.zs)) = true := by kernel_rfl
def ent3 : Ent := ⟨2, [0, 2, 4, 1, 0, 2, 1, 2, 3], 6, 0⟩
theorem run_ent3 (e e' : TypeId) : isR ent3 (sCall P ctx table 200 3 33 [cArg ent3] (cH e e' ent3.zs)) = true := by kernel_rfl
def ent4 : Ent := ⟨2, [0, 2, 5, 1, 2, 3], 8, 0⟩
theorem run_ent4 (e e' : TypeId) : isR ent4 (sCall P ctx table 200 3 33 [cArg ent4] (cH e e' ent4.zs)) = true := by kernel_rfl
def ent5 : Ent := ⟨1, [0, 1, 5], 5, 0⟩
theorem run_ent5 (e e' : TypeId) : isR ent5 (sCall P ctx table 200 3 33 [cArg ent5] (cH e e' ent5.zs)) = true := by kernel_rfl
def ent6 : Ent := ⟨2, [0, 1, 2, 1, 2, 3], 5, 0⟩
theorem run_ent6 (e e' : TypeId) : isR ent6 (sCall P ctx table 200 3 33 [cArg ent6] (cH e e' ent6.zs)) = true := by kernel_rfl
def ent7 : Ent := ⟨1, [0, 1, 4], 4, 0⟩
theorem run_ent7 (e e' : TypeId) : isR ent7 (sCall P ctx table 200 3 33 [cArg ent7] (cH e e' ent7.zs)) = true := by kernel_rfl
def ents : List Ent := [ent0, ent1, ent2, ent3, ent4, ent5, ent6, ent7]
def nilV : Value := .tuple #[.int .i64 0, .int .i64 12]
theorem run_nil (e e' : TypeId) : isR ⟨1, [], 0, 12⟩ (sCall P ctx table 200 2 33 [nArg 1] (twoTabs .u8 tab32 tab64 e e')) = true := by kernel_rfl
theorem ents_run : ∀ r ∈ ents, ∀ e e', ∃ H', sCall P ctx table 200 3 33 [cArg r] (cH e e' r.zs) = some (r.val, H') := by
  intro r hr e e'
  simp only [ents, List.mem_cons, List.not_mem_nil, or_false] at hr
  rcases hr with rfl | rfl | rfl | rfl | rfl | rfl | rfl | rfl
  · exact isR_eq (run_ent0 e e')
  · exact isR_eq (run_ent1 e e')
  · exact isR_eq (run_ent2 e e')
  · exact isR_eq (run_ent3 e e')
  · exact isR_eq (run_ent4 e e')
  · exact isR_eq (run_ent5 e e')
  · exact isR_eq (run_ent6 e e')
  · exact isR_eq (run_ent7 e e')
end
end Go.Proofs.YtmkimcdmnaknlaaGreatDoor
