/- A word for slices.AppendSeq over the values of a slice of ints.
   Conditions: none (definitions alone). -/
import Derived.Test.YtmkimcdmnaknlaaGreatDoorEvBb
import Derived.Test.YtmkimcdmnaknlaaGreatDoorEvS
namespace Go.Proofs.YtmkimcdmnaknlaaGreatDoor
open Go Go.Ev
noncomputable section
def appOf (H : AH) (l : List Value) (len : Nat) : Option (Value × AH) :=
  need (Nat.beq (lenN l) len) (need (Nat.blt 0 len) (need (Nat.blt len 90000) (withX (intsOf l) fun zs =>
    some (.slice (some ⟨H.next, 0, none⟩) len (Nat.add UNK 1), H.push (.cells len (zs.map fun z => .int .i64 z) 3)))))
def appS (H : AH) (v : Value) : Option (Value × AH) := match v with
  | .slice (some ⟨b, off, none⟩) len _ => (match H.get b with
    | some (.cells _ ds _) => appOf H (seg ds off len) len
    | _ => none)
  | _ => none
/-- slices.AppendSeq(nil, slices.Values(l)) -/
def sApp : FnF := fun _ args H => match args with
  | [.slice none 0 0, .func (.func g) f c] => need (Nat.beq g 57) (match f.toList with
    | [] => (match c.toList with
      | [.pointer (some ⟨bs, o, none⟩)] => (match H.get bs with
        | some (.cells _ cs _) => withX (nth cs o) fun v => appS H v
        | _ => none)
      | _ => none)
    | _ => none)
  | _ => none
end
end Go.Proofs.YtmkimcdmnaknlaaGreatDoor
