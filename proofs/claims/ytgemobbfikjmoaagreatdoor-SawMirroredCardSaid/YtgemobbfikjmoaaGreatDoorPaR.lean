/- The law SawMirrored answers true whatever its input.
   Conditions: none beyond the given statement's own. -/
import Derived.Test.YtgemobbfikjmoaaGreatDoorPaQ
set_option linter.unusedVariables false
set_option linter.unusedSimpArgs false
set_option linter.defProp false
namespace Go.Proofs.YtgemobbfikjmoaaGreatDoor
open Go Go.Ev
set_option maxRecDepth 1000000
theorem Znn {a b th dd one two w h:Nat} {sp:List Nat} (ha:a < 256) (hb:b < 256) (xr:th < 256) (hd:dd < 65536) (ho1:one < 256) (iv:two < 256) (hw:w=Vz a) (hh:h=Wi 16 a b) (fy:sp=badL 16 a b th dd)
  (hk:Ui w h sp=true) (Sm:∀ H,Zm (tc 85) 15 [] H=some (tB true)) :
  ∃ H',tc 86 0 14 [.agg [tK .u8 a,tK .u8 b,tK .u8 th,tK .u16 dd],tK .u8 one,tK .u8 two] []=some (tB true,H'):=by
 have ok:Kd w h sp:=by rw [hw,hh,fy];exact Zg1 (by omega)
 unfold Ui at hk;split at hk
 ·cases hk
 rename_i m h1;split at hk
 ·cases hk
 rename_i m2 h2;split at hk
 ·cases hk
 rename_i r1 h3;split at hk
 ·cases hk
 rename_i r2 h4;unfold mirD at hk;simp only [Bool.and_eq_true,Nat.blt_eq] at hk;obtain ⟨k1,k2,k3,k4,k5,k6,k7,k8,k9,k10⟩:=hk;have e1:=Nat.eq_of_beq_eq_true k1;have e2:=Nat.eq_of_beq_eq_true k2;have e8:=Nat.eq_of_beq_eq_true k8;obtain ⟨xu,Hi⟩:=Zmt k10;have ok2:Kd h w (V6 w h sp):=⟨ok.h1,ok.h8,ok.w1,ok.w8,by rw [Nat.mul_comm];exact ok.Ca,λx hx=>by have:=Wo k4 x hx;rwa [Nat.blt_eq] at this,(Zht _ k5).1⟩
 obtain ⟨By,c1⟩:=ou (Ps ok) h3;obtain ⟨ja,c2⟩:=ou (Ps ok2) h4;refine Zra (m:=m) (r1:=(r1.1,By)) (r2:=(r2.1,ja)) ha hb xr hd ho1 iv hw hh fy ok2 (by omega) h1 (by rw [e1];exact h2) c1 c2 e2 (λx hx=>Wo k6 x hx) (λx hx=>Wo k7 x hx) rfl rfl (by rw [e8]) (λc hc=>?_) xu Hi Sm
 have:=Wo k9 c hc;simp only [Bool.and_eq_true,Nat.blt_eq] at this;exact this
theorem Zrb (a b:Nat):Tn Ui (Vz a) (Wi 16 a b)=true:=by
 have hm:a % 8 < 8:=Nat.mod_lt _ (by omega)
 obtain ⟨h3,h5⟩:1<=Wi 16 a b/\Wi 16 a b<=Eh 8 (16 / Vz a):=by
  obtain ⟨_,_,h3,_,_,h6⟩:=Zl9 (a:=a) (b:=b) (K:=16) (by omega)
  refine ⟨h3,?_⟩;have:=Nat.mod_lt b (show 0 < Eh 8 (16 / Vz a) by omega)
  show 1+b % Eh 8 (16 / Vz a)<=_;omega
 generalize Wi 16 a b=h at h3 h5;unfold Vz at h5 ⊢;generalize a % 8=t at hm h5;rcases t with _ |_ |_ |_ |_ |_ |_ |_ |t
 ·exact Lm mirH18 h3 h5
 ·have h5:h<=8:=h5;rcases Nat.lt_or_ge h 7 with h7 |h7
  ·exact Lm mirH26 h3 (by omega)
  ·rcases Nat.eq_or_lt_of_le h7 with rfl |h7
   ·exact mirQ27
   ·obtain rfl:h=8:=by omega
    exact mirQ28
 ·have h5:h<=5:=h5;rcases Nat.lt_or_ge h 4 with h7 |h7
  ·exact Lm mirH33 h3 (by omega)
  ·rcases Nat.eq_or_lt_of_le h7 with rfl |h7
   ·exact mirQ34
   ·obtain rfl:h=5:=by omega
    exact mirQ35
 ·have h5:h<=4:=h5;rcases Nat.lt_or_ge h 3 with h7 |h7
  ·exact Lm mirH42 h3 (by omega)
  ·rcases Nat.eq_or_lt_of_le h7 with rfl |h7
   ·exact mirQ43
   ·obtain rfl:h=4:=by omega
    exact mirQ44
 ·have h5:h<=3:=h5;rcases Nat.eq_or_lt_of_le h5 with rfl |h5
  ·exact mirQ53
  ·exact Lm mirH52 h3 (by omega)
 ·have h5:h<=2:=h5;rcases Nat.eq_or_lt_of_le h5 with rfl |h5
  ·exact mirQ62
  ·exact Lm mirH61 h3 (by omega)
 ·have h5:h<=2:=h5;rcases Nat.eq_or_lt_of_le h5 with rfl |h5
  ·exact mirQ72
  ·exact Lm mirH71 h3 (by omega)
 ·have h5:h<=2:=h5;rcases Nat.eq_or_lt_of_le h5 with rfl |h5
  ·exact mirQ82
  ·exact Lm mirH81 h3 (by omega)
 ·omega
def isTB:Option (TV×TH)->Bool
 |some (.v (.bool b),_)=>b
 |_=>false
theorem Zru {o:Option (TV×TH)} (h:isTB o=true):∃ H,o=some (tB true,H):=by
 unfold isTB at h;split at h
 ·rename_i b H;rw [h];exact ⟨H,rfl⟩
 ·cases h
theorem Zdc:isTB (tc 85 0 15 [] [])=true:=by kernel_rfl
theorem Zdb (H:TH):Zm (tc 85) 15 [] H=some (tB true):=by
 obtain ⟨H',h⟩:=Zru Zdc;exact Yc (ws:=[]) (H':=H') (a:=false) rfl rfl h rfl
theorem Znm {a b th dd one two:Nat} (ha:a < 256) (hb:b < 256) (xr:th < 256) (hd:dd < 65536) (ho1:one < 256) (iv:two < 256) :
  ∃ H',tc 86 0 14 [.agg [tK .u8 a,tK .u8 b,tK .u8 th,tK .u16 dd],tK .u8 one,tK .u8 two] []=some (tB true,H'):=
 Znn ha hb xr hd ho1 iv rfl rfl rfl (Zp9 (Zrb a b) th dd) Zdb
end Go.Proofs.YtgemobbfikjmoaaGreatDoor
