/- The law SawKoenig answers true whatever its input.
   Conditions: none beyond the given statement's own. -/
import Derived.Test.YtgemobbfikjmoaaGreatDoorPaH
set_option linter.unusedVariables false
set_option linter.unusedSimpArgs false
set_option linter.defProp false
namespace Go.Proofs.YtgemobbfikjmoaaGreatDoor
open Go Go.Ev
set_option maxRecDepth 1000000
def isTB:Option (TV×TH)→Bool
 |some (.v (.bool b),_)=>b
 |_=>false
theorem isTB_eq {o:Option (TV×TH)} (h:isTB o=true):∃ H,o=some (tB true,H):=by
 unfold isTB at h
 split at h
 ·rename_i b H;rw [h];exact ⟨H,rfl⟩
 ·cases h
theorem works_runs:isTB (tc 40 0 15 [] [])=true:=by kernel_rfl
theorem works_tree (H:TH):Aag (tc 40) 15 [] H=some (tB true):=by
 obtain ⟨H',h⟩:=isTB_eq works_runs
 exact Add (ws:=[]) (H':=H') (a:=false) rfl rfl h rfl
theorem koe_all (a b:Nat):koeQ (wideOf a) (highOf 12 a b)=true:=by
 have hm:a % 8 < 8:=Nat.mod_lt _ (by omega)
 obtain ⟨h3,h5⟩:1≤highOf 12 a b∧highOf 12 a b≤minN 8 (12 / wideOf a):=by
  obtain ⟨_,_,h3,_,_,h6⟩:=sides (a:=a) (b:=b) (K:=12) (by omega)
  refine ⟨h3,?_⟩
  have:=Nat.mod_lt b (show 0 < minN 8 (12 / wideOf a) by omega)
  show 1+b % minN 8 (12 / wideOf a)≤_
  omega
 generalize highOf 12 a b=h at h3 h5
 unfold wideOf at h5 ⊢
 generalize a % 8=t at hm h5
 rcases t with _ |_ |_ |_ |_ |_ |_ |_ |t
 ·exact koeH_of koe1 h3 h5
 ·have h5:h≤6:=h5
  rcases Nat.eq_or_lt_of_le h5 with rfl |h5
  ·exact koe26
  ·exact koeH_of koe2 h3 (by omega)
 ·have h5:h≤4:=h5
  rcases Nat.eq_or_lt_of_le h5 with rfl |h5
  ·exact koe34
  ·exact koeH_of koe3 h3 (by omega)
 ·have h5:h≤3:=h5
  rcases Nat.eq_or_lt_of_le h5 with rfl |h5
  ·exact koe43
  ·exact koeH_of koe4 h3 (by omega)
 ·exact koeH_of koe5 h3 h5
 ·have h5:h≤2:=h5
  rcases Nat.eq_or_lt_of_le h5 with rfl |h5
  ·exact koe62
  ·exact koeH_of koe6 h3 (by omega)
 ·exact koeH_of koe7 h3 h5
 ·exact koeH_of koe8 h3 h5
 ·omega
theorem koenig_true {a b th dd:Nat} (ha:a < 256) (hb:b < 256) (hth:th < 256) (hd:dd < 65536) :
  ∃ H',tc 41 0 12 [.agg [tK .u8 a,tK .u8 b,tK .u8 th,tK .u16 dd]] []=some (tB true,H'):=
 koe_runs ha hb hth hd rfl rfl rfl (koeQ_bad (koe_all a b) th dd) works_tree
end Go.Proofs.YtgemobbfikjmoaaGreatDoor
