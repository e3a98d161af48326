/- The law SawIdle answers true whatever its input.
   Conditions: none beyond the given statement's own. -/
import Derived.Test.YtgemobbfikjmoaaGreatDoorPaL
set_option linter.unusedVariables false
set_option linter.unusedSimpArgs false
set_option linter.defProp false
namespace Go.Proofs.YtgemobbfikjmoaaGreatDoor
open Go Go.Ev
set_option maxRecDepth 1000000
theorem not_t {b:Bool} (h:(!b)=true):b=false:=by cases b <;> simp_all
theorem idle_runs {a b th dd w h:Nat} {sp:List Nat} (ha:a < 256) (hb:b < 256) (hth:th < 256) (hd:dd < 65536) (hw:w=wideOf a) (hh:h=highOf 16 a b) (hsp:sp=badL 16 a b th dd)
  (hk:idleT w h sp=true) (hworks:∀ H,Zah (tc 40) 15 [] H=some (tB true)) :
  ∃ H',tc 41 0 8 [.agg [tK .u8 a,tK .u8 b,tK .u8 th,tK .u16 dd]] []=some (tB true,H'):=by
 unfold idleT at hk
 split at hk
 ·cases hk
 rename_i m h2
 split at hk
 ·cases hk
 rename_i f h3
 split at hk
 ·cases hk
 rename_i bar h5
 split at hk
 ·cases hk
 rename_i q h6
 obtain ⟨l1,l2,l3,l4,l5⟩:=leastI_ok _ _ h6
 split at hk
 ·cases hk
 rename_i a0 rest hq
 unfold idleD at hk
 simp only [Bool.and_eq_true,Nat.blt_eq] at hk
 obtain ⟨k1,k2,k3,k4,k5,k6,k7,k8,k9,k10,k11,k12,k13,k14⟩:=hk
 refine idle_run (i0:=q.1) (idle:=idleA (a0::rest) (goodL w h sp)) (sure:=sureA (a0::rest) a0) ha hb hth hd hw hh hsp h2 h3 h5 (by omega) (fun i hi=>l5 i (Nat.zero_le _) hi) (by rw [l3,hq]) k1
  (fun l hl=>by have:=allB_ok k2 l hl;rwa [Nat.blt_eq] at this) k3 (fun r hr=>by have:=allB_ok k4 r hr;rw [Bool.and_eq_true,Nat.blt_eq,Nat.blt_eq] at this;exact this) k5 k6
  (fun x hx=>allB_ok k7 x hx) (fun x hx=>allB_ok k8 x hx) rfl rfl (eqL_list k9) (eqQ_list k10) (not_t k11) ?_ (not_t k13) (not_t k14) hworks
 cases hz:Nat.beq (idleA (a0::rest) (goodL w h sp)).length 0 with
 |true=>rw [hz] at k12;exact k12.symm
 |false=>rw [hz] at k12;exact (not_t k12).symm
theorem idle_all (a b:Nat):allQ idleT (wideOf a) (highOf 16 a b)=true:=by
 have hm:a % 8 < 8:=Nat.mod_lt _ (by omega)
 obtain ⟨h3,h5⟩:1≤highOf 16 a b∧highOf 16 a b≤minN 8 (16 / wideOf a):=by
  obtain ⟨_,_,h3,_,_,h6⟩:=sides (a:=a) (b:=b) (K:=16) (by omega)
  refine ⟨h3,?_⟩
  have:=Nat.mod_lt b (show 0 < minN 8 (16 / wideOf a) by omega)
  show 1+b % minN 8 (16 / wideOf a)≤_
  omega
 generalize highOf 16 a b=h at h3 h5
 unfold wideOf at h5 ⊢
 generalize a % 8=t at hm h5
 rcases t with _ |_ |_ |_ |_ |_ |_ |_ |t
 ·exact allH_of idleH18 h3 h5
 ·have h5:h≤8:=h5
  rcases Nat.lt_or_ge h 7 with h7 |h7
  ·exact allH_of idleH26 h3 (by omega)
  ·rcases Nat.eq_or_lt_of_le h7 with rfl |h7
   ·exact idleQ27
   ·obtain rfl:h=8:=by omega
    exact idleQ28
 ·have h5:h≤5:=h5
  rcases Nat.lt_or_ge h 4 with h7 |h7
  ·exact allH_of idleH33 h3 (by omega)
  ·rcases Nat.eq_or_lt_of_le h7 with rfl |h7
   ·exact idleQ34
   ·obtain rfl:h=5:=by omega
    exact idleQ35
 ·have h5:h≤4:=h5
  rcases Nat.lt_or_ge h 3 with h7 |h7
  ·exact allH_of idleH42 h3 (by omega)
  ·rcases Nat.eq_or_lt_of_le h7 with rfl |h7
   ·exact idleQ43
   ·obtain rfl:h=4:=by omega
    exact idleQ44
 ·have h5:h≤3:=h5
  rcases Nat.eq_or_lt_of_le h5 with rfl |h5
  ·exact idleQ53
  ·exact allH_of idleH52 h3 (by omega)
 ·have h5:h≤2:=h5
  rcases Nat.eq_or_lt_of_le h5 with rfl |h5
  ·exact idleQ62
  ·exact allH_of idleH61 h3 (by omega)
 ·have h5:h≤2:=h5
  rcases Nat.eq_or_lt_of_le h5 with rfl |h5
  ·exact idleQ72
  ·exact allH_of idleH71 h3 (by omega)
 ·have h5:h≤2:=h5
  rcases Nat.eq_or_lt_of_le h5 with rfl |h5
  ·exact idleQ82
  ·exact allH_of idleH81 h3 (by omega)
 ·omega
def isTB:Option (TV×TH)→Bool
 |some (.v (.bool b),_)=>b
 |_=>false
theorem isTB_eq {o:Option (TV×TH)} (h:isTB o=true):∃ H,o=some (tB true,H):=by
 unfold isTB at h
 split at h
 ·rename_i b H;rw [h];exact ⟨H,rfl⟩
 ·cases h
theorem works_runs:isTB (tc 40 0 15 [] [])=true:=by kernel_rfl
theorem works_tree (H:TH):Zah (tc 40) 15 [] H=some (tB true):=by
 obtain ⟨H',h⟩:=isTB_eq works_runs
 exact Zdo (ws:=[]) (H':=H') (a:=false) rfl rfl h rfl
theorem idle_true {a b th dd:Nat} (ha:a < 256) (hb:b < 256) (hth:th < 256) (hd:dd < 65536) :
  ∃ H',tc 41 0 8 [.agg [tK .u8 a,tK .u8 b,tK .u8 th,tK .u16 dd]] []=some (tB true,H'):=
 idle_runs ha hb hth hd rfl rfl rfl (allQ_bad (idle_all a b) th dd) works_tree
end Go.Proofs.YtgemobbfikjmoaaGreatDoor
