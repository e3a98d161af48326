/- What the functions that SawMirrored calls answer, part one.
   Conditions: none beyond the given statement's own. -/
import Derived.Test.YtgemobbfikjmoaaGreatDoorPaE
set_option linter.unusedVariables false
set_option linter.unusedSimpArgs false
set_option linter.defProp false
namespace Go.Proofs.YtgemobbfikjmoaaGreatDoor
open Go Go.Ev
set_option maxRecDepth 100000
noncomputable section
abbrev tc (d:Nat):Z3:=Aw P TC table d
theorem Y4 {f:Nat} {F:Z3->Nat->List TV->TH->Option (TV×TH)} (h:table.get f=some (λih Zh _ args H=>F ih Zh args H)) (d Zh:Nat) (args:List TV) (H:TH) :
  tc (d+1) Zh f args H=F (tc d) Zh args H:=by
 show Option.rec (motive:=λ_=>Option (TV×TH)) _ (λF=>F (tc d) Zh f args H) (table.get f)=_;rw [h]
theorem Yc {call:Z3} {f:Nat} {vs ws:List TV} {H H':TH} {v w:TV} {a:Bool} (hi:qm H vs=some ws) (ha:Kk No vs=a) (hc:call 0 f ws []=some (v,H')) (ho:y7 a H' v=some w):Zm call f vs H=some w:=by
 unfold Zm;rw [hi];show Zf7 call f ws (Kk No vs)=_;rw [ha];unfold Zf7;rw [hc];exact ho
theorem L7 {a:Bool} {H:TH} {x:Value}:y7 a H (.v x)=some (.v x):=(rfl)
theorem Yg:fuel=100000:=rfl
def C5 (x:Int):List Int->Nat->Int
 |[],_=>.negSucc 0
 |y::ys,j=>cond (Qn x y) (.ofNat j) (C5 x ys (j+1))
def Fa (x:Int):List Int->Bool
 |[]=>false
 |y::ys=>cond (Qn x y) true (Fa x ys)
theorem Zbk (x:Int):∀ (l:List Int) (j:Nat),decide ((0:Int)<=C5 x l j)=Fa x l
 |[],_=>rfl
 |y::ys,j=>by
  show decide ((0:Int)<=cond (Qn x y) (Int.ofNat j) (C5 x ys (j+1)))=cond (Qn x y) true (Fa x ys);cases Qn x y with
  |true=>exact decide_eq_true (Int.natCast_nonneg j)
  |false=>exact Zbk x ys (j+1)
theorem Zj3 (call:Z3) (Zh:Nat) {c:Cp} {n:Nat} {zs:List Int} {x:Int} {H:TH} (hn:zs≠[]->n=1) (hlen:zs.length < 90000) :
  F137 call Zh [.row c .set n (zs.map tI),tI x] H=some (tI (C5 x zs 0),H):=by
 have key:Qg (C137 call Zh (Zb H) (.row c .set n (zs.map tI),tI x,Zk,Zk,Zk,Zk,Zk,Zk,()) H)
   λe S H1=>e=.ret/\S.2.2.1=tI (C5 x zs 0)/\H1=H:=by
  simp only [C137,VV,Zz,List.length_map];refine Qg.sq (Q1:=λe S H1=>H1=H/\((e=.normal/\C5 x zs 0=.negSucc 0)\/(e=.ret/\S.2.2.1=tI (C5 x zs 0)))) (Qg.bl (Q1:=λe S H1=>H1=H/\((e=.exit 0/\C5 x zs 0=.negSucc 0)\/(e=.ret/\S.2.2.1=tI (C5 x zs 0)))) ?_ ?_ ?_ ?_) ?_ ?_ ?_
  ·refine Qg.loop (λk S H1=>∃ j,S.1=.row c .set n (zs.map tI)/\S.2.1=tI x/\S.2.2.2.2.1=tN zs.length/\S.2.2.2.2.2.1=tN j/\H1=H/\j<=zs.length/\k=zs.length - j/\C5 x zs 0=C5 x (zs.drop j) j) ?_ fuel zs.length _ _ (by rw [Yg];omega)
    ⟨0,rfl,rfl,rfl,rfl,rfl,Nat.zero_le _,rfl,rfl⟩
   rintro k S H1 ⟨j,h0,h1,h4,h5,rfl,hj,rfl,Qx⟩;rcases Nat.eq_or_lt_of_le hj with hj |hj
   ·rw [hj,List.drop_length] at Qx;simp only [VV,h0,h1,h4,h5,Ql,Kf (Nat.le_of_eq hj.symm)];exact .fin (.inr ⟨by simp,rfl,.inl ⟨rfl,Qx⟩⟩)
   ·have hn1:=hn (by intro h;rw [h] at hj;simp at hj)
    subst hn1;rw [List.drop_eq_getElem_cons hj] at Qx;have Qx:C5 x zs 0=cond (Qn x zs[j]) (.ofNat j) (C5 x (zs.drop (j+1)) (j+1)):=Qx;have J8:(zs.map tI)[j]? = some (tI zs[j]):=by rw [List.getElem?_map,List.getElem?_eq_getElem hj];rfl
    simp only [VV,h0,h1,h4,h5,Ql,Xo hj,Qe J8,Ku (cs:=Zy (tI zs[j])) (off:=0) rfl,X9 (show j+1 < 9223372036854775808 by omega)]
    cases hb:Qn x zs[j] with
    |true=>
     rw [hb] at Qx;simp only [VV];exact .fin (.inr ⟨by simp,rfl,.inr ⟨rfl,congrArg tI Qx.symm⟩⟩)
    |false=>
     rw [hb] at Qx;simp only [VV,X9 (show j+1 < 9223372036854775808 by omega)]
     exact .fin (.inl ⟨rfl,zs.length - (j+1),by omega,j+1,rfl,rfl,rfl,rfl,rfl,hj,rfl,Qx⟩)
  ·rintro S H1 ⟨_,h |h⟩ <;> simp at h
  ·rintro i S H1 ⟨h1,⟨h2,h3⟩ |⟨h2,_⟩⟩
   ·cases h2;exact ⟨h1,.inl ⟨rfl,h3⟩⟩
   ·cases h2
  ·rintro S H1 ⟨h1,⟨h2,_⟩ |⟨_,h3⟩⟩
   ·cases h2
   ·exact ⟨h1,.inr ⟨rfl,h3⟩⟩
  ·rintro S H1 ⟨rfl,⟨_,h⟩ |⟨h,_⟩⟩
   ·exact ⟨.ret,_,_,rfl,rfl,congrArg tI h.symm,rfl⟩
   ·cases h
  ·rintro i S H1 ⟨_,⟨h,_⟩ |⟨h,_⟩⟩ <;> cases h
  ·rintro S H1 ⟨rfl,⟨h,_⟩ |⟨_,h⟩⟩
   ·cases h
   ·exact ⟨rfl,h,rfl⟩
 obtain ⟨e,S,H1,h1,rfl,h2,rfl⟩:=key;show Za (C137 call Zh (Zb H1) (.row c .set n (zs.map tI),tI x,Zk,Zk,Zk,Zk,Zk,Zk,()) H1) _=_;rw [h1];simp only [VV,h2,Z6 X8];rw [Yh,Zz,List.take_length]
theorem cw (d Zh:Nat) {c:Cp} {n:Nat} {zs:List Int} {x:Int} {H:TH} (hn:zs≠[]->n=1) (hlen:zs.length < 90000) :
  tc (d+2) Zh 64 [.row c .set n (zs.map tI),tI x] H=some (tB (Fa x zs),H):=by
 rw [Y4 (F:=F64) (by kernel_rfl)]
 have Xn:Zm (tc (d+1)) 137 [.row c .set n (zs.map tI),tI x] H=some (tI (C5 x zs 0)):=
  Yc (ws:=[.row c .set n (zs.map tI),tI x]) (H':=[]) rfl rfl ((Y4 (F:=F137) (by kernel_rfl) ..).trans (Zj3 _ _ hn hlen)) rfl
 have hg:K0 (.int .i64 (C5 x zs 0)) (.int .i64 (.ofNat 0))=some (.bool (Fa x zs)):=by rw [Zo3];exact congrArg (λb=>some (Value.bool b)) (Zbk x zs 0)
 show Za (C64 (tc (d+1)) Zh (Zb H) (.row c .set n (zs.map tI),tI x,Zk,()) H) _=_;simp only [C64,VV,Xn,hg,Z6 X8];rw [Yh,Zz,List.take_length]
end
end Go.Proofs.YtgemobbfikjmoaaGreatDoor
namespace Go.Proofs.YtgemobbfikjmoaaGreatDoor
open Go Go.Ev
set_option maxRecDepth 100000
noncomputable section
def C6 {α:Type} (p:α->Bool):List α->Nat->Int
 |[],_=>.negSucc 0
 |y::ys,j=>cond (p y) (.ofNat j) (C6 p ys (j+1))
def Iy {α:Type} (p:α->Bool):List α->Bool
 |[]=>false
 |y::ys=>cond (p y) true (Iy p ys)
theorem Zbm {α:Type} (p:α->Bool):∀ (l:List α) (j:Nat),decide ((0:Int)<=C6 p l j)=Iy p l
 |[],_=>rfl
 |y::ys,j=>by
  show decide ((0:Int)<=cond (p y) (Int.ofNat j) (C6 p ys (j+1)))=cond (p y) true (Iy p ys);cases p y with
  |true=>exact decide_eq_true (Int.natCast_nonneg j)
  |false=>exact Zbm p ys (j+1)
theorem Hm {α:Type} (p:α->Bool):∀ (l:List α),Iy p l=l.any p
 |[]=>rfl
 |y::ys=>by
  show cond (p y) true (Iy p ys)=(p y || ys.any p)
  rw [Hm p ys];cases p y <;> rfl
abbrev tP (p:Int×Int):TV:=.agg [tI p.1,tI p.2]
theorem zj (call:Z3) (Zh:Nat) {c:Cp} {n g:Nat} {m:List TV} (zs:List Int) (hn:zs≠[]->n=1) (p:Int->Bool) {H:TH} (hlen:zs.length < 90000) (hm:Z2 pass m=true)
  (hp:∀ z∈zs,call Zh g ([tI z]++m) H=some (tB (p z),H)) :
  Zfw call Zh [.row c .set n (zs.map tI),.fn (.func g) [] m] H=some (tI (C6 p zs 0),H):=by
 have key:Qg (Zf1 call Zh (Zb H) (.row c .set n (zs.map tI),.fn (.func g) [] m,Zk,Zk,Zk,Zk,Zk,Zk,()) H)
   λe S H1=>e=.ret/\S.2.2.1=tI (C6 p zs 0)/\H1=H:=by
  simp only [Zf1,VV,Zz,List.length_map];refine Qg.sq (Q1:=λe S H1=>H1=H/\((e=.normal/\C6 p zs 0=.negSucc 0)\/(e=.ret/\S.2.2.1=tI (C6 p zs 0)))) (Qg.bl (Q1:=λe S H1=>H1=H/\((e=.exit 0/\C6 p zs 0=.negSucc 0)\/(e=.ret/\S.2.2.1=tI (C6 p zs 0)))) ?_ ?_ ?_ ?_) ?_ ?_ ?_
  ·refine Qg.loop (λk S H1=>∃ j,S.1=.row c .set n (zs.map tI)/\S.2.1=.fn (.func g) [] m/\S.2.2.2.2.1=tN zs.length/\S.2.2.2.2.2.1=tN j/\H1=H/\j<=zs.length/\k=zs.length - j/\C6 p zs 0=C6 p (zs.drop j) j) ?_ fuel zs.length _ _ (by rw [Yg];omega)
    ⟨0,rfl,rfl,rfl,rfl,rfl,Nat.zero_le _,rfl,rfl⟩
   rintro k S H1 ⟨j,h0,h1,h4,h5,rfl,hj,rfl,Qx⟩;rcases Nat.eq_or_lt_of_le hj with hj |hj
   ·rw [hj,List.drop_length] at Qx;simp only [VV,h0,h1,h4,h5,Ql,Kf (Nat.le_of_eq hj.symm)];exact .fin (.inr ⟨by simp,rfl,.inl ⟨rfl,Qx⟩⟩)
   ·have hn1:=hn (by intro h;rw [h] at hj;simp at hj)
    subst hn1;rw [List.drop_eq_getElem_cons hj] at Qx;have Qx:C6 p zs 0=cond (p zs[j]) (.ofNat j) (C6 p (zs.drop (j+1)) (j+1)):=Qx;have J8:(zs.map tI)[j]? = some (tI zs[j]):=by rw [List.getElem?_map,List.getElem?_eq_getElem hj];rfl
    have Xn:∀ {β:Type} (k:TV->TH->Option β),Xd TC call Zh (.fn (.func g) [] m) [tI zs[j]] H1 k=k (tB (p zs[j])) H1:=λk=>
     Yo (by show Z2 pass (tI zs[j]::m)=true;rw [Vc,show pass (tI zs[j])=true from rfl];exact hm) (hp _ (List.getElem_mem hj))
    simp only [VV,h0,h1,h4,h5,Ql,Xo hj,Qe J8,Xn];cases hb:p zs[j] with
    |true=>
     rw [hb] at Qx;simp only [VV];exact .fin (.inr ⟨by simp,rfl,.inr ⟨rfl,congrArg tI Qx.symm⟩⟩)
    |false=>
     rw [hb] at Qx;simp only [VV,X9 (show j+1 < 9223372036854775808 by omega)]
     exact .fin (.inl ⟨rfl,zs.length - (j+1),by omega,j+1,rfl,rfl,rfl,rfl,rfl,hj,rfl,Qx⟩)
  ·rintro S H1 ⟨_,h |h⟩ <;> simp at h
  ·rintro i S H1 ⟨h1,⟨h2,h3⟩ |⟨h2,_⟩⟩
   ·cases h2;exact ⟨h1,.inl ⟨rfl,h3⟩⟩
   ·cases h2
  ·rintro S H1 ⟨h1,⟨h2,_⟩ |⟨_,h3⟩⟩
   ·cases h2
   ·exact ⟨h1,.inr ⟨rfl,h3⟩⟩
  ·rintro S H1 ⟨rfl,⟨_,h⟩ |⟨h,_⟩⟩
   ·exact ⟨.ret,_,_,rfl,rfl,congrArg tI h.symm,rfl⟩
   ·cases h
  ·rintro i S H1 ⟨_,⟨h,_⟩ |⟨h,_⟩⟩ <;> cases h
  ·rintro S H1 ⟨rfl,⟨h,_⟩ |⟨_,h⟩⟩
   ·cases h
   ·exact ⟨rfl,h,rfl⟩
 obtain ⟨e,S,H1,h1,rfl,h2,rfl⟩:=key;show Za (Zf1 call Zh (Zb H1) (.row c .set n (zs.map tI),.fn (.func g) [] m,Zk,Zk,Zk,Zk,Zk,Zk,()) H1) _=_;rw [h1];simp only [Yy,Jm,h2,Wj Vw X8,Xc]
theorem vr (d Zh:Nat) {c:Cp} {n g:Nat} {m:List TV} (zs:List Int) (hn:zs≠[]->n=1) (p:Int->Bool) {H:TH} (hlen:zs.length < 90000) (hm:Z2 pass m=true)
  (hp:∀ z∈zs,tc d Zh g ([tI z]++m) H=some (tB (p z),H)) :
  tc (d+2) Zh 65 [.row c .set n (zs.map tI),.fn (.func g) [] m] H=some (tB (Iy p zs),H):=by
 rw [Y4 (F:=F65) (by kernel_rfl)]
 have Xn:∀ {β:Type} (k:TV->TH->Option β),Qo (tc (d+1)) Zh 138 [.row c .set n (zs.map tI),.fn (.func g) [] m] H k=k (tI (C6 p zs 0)) H:=λk=>
  Xx (by simp only [VV]) ((Y4 (F:=Zfw) (by kernel_rfl) ..).trans (zj _ _ zs hn p hlen hm hp))
 have hg:K0 (.int .i64 (C6 p zs 0)) (.int .i64 (.ofNat 0))=some (.bool (Iy p zs)):=by rw [Zo3];exact congrArg (λb=>some (Value.bool b)) (Zbm p zs 0)
 show Za (C65 (tc (d+1)) Zh (Zb H) (.row c .set n (zs.map tI),.fn (.func g) [] m,Zk,()) H) _=_;simp only [C65,VV,Xn,hg,Z6 X8,Xc]
end
end Go.Proofs.YtgemobbfikjmoaaGreatDoor
namespace Go.Proofs.YtgemobbfikjmoaaGreatDoor
open Go Go.Ev
set_option maxRecDepth 100000
noncomputable section
def Yz (x:Nat):List Nat->Bool
 |[]=>false
 |y::ys=>cond (Nat.beq x y) true (Yz x ys)
theorem Zot (x:Nat):∀ (l:List Nat),Fa (.ofNat x) (l.map Int.ofNat)=Yz x l
 |[]=>rfl
 |y::ys=>by
  show cond (Qn (.ofNat x) (.ofNat y)) true (Fa (.ofNat x) (ys.map Int.ofNat))=cond (Nat.beq x y) true (Yz x ys);rw [Zot x ys];rfl
theorem Wy (x:Nat):∀ (l:List Nat),Yz x l=true↔x∈l
 |[]=>by simp [Yz]
 |y::ys=>by
  show cond (Nat.beq x y) true (Yz x ys)=true↔_;rw [List.mem_cons];cases hb:Nat.beq x y with
  |true=>have:=Nat.eq_of_beq_eq_true hb;simp [this]
  |false=>
   have:x≠y:=Vq hb;show Yz x ys=true↔_;rw [Wy x ys];simp [this]
theorem Zno (l:List Nat):l.map tN=(l.map Int.ofNat).map tI:=by rw [List.map_map];rfl
theorem Gy (d Zh:Nat) {c:Cp} {n:Nat} {zs:List Nat} {x:Nat} {H:TH} (hn:zs≠[]->n=1) (hlen:zs.length < 90000) :
  tc (d+2) Zh 64 [.row c .set n (zs.map tN),tN x] H=some (tB (Yz x zs),H):=by
 rw [Zno,<- Zot];exact cw d Zh (λh=>hn (λe=>h (by rw [e];rfl))) (by rw [List.length_map];exact hlen)
abbrev tS (w h:Nat) (c:Cp) (n:Nat) (sp:List Nat):TV:=.agg [tN w,tN h,.row c .set n (sp.map tN)]
def Dm (sp:List Nat):Nat->Nat->List Nat
 |0,_=>[]
 |k+1,j=>cond (Yz j sp) (Dm sp k (j+1)) (j::Dm sp k (j+1))
def Vk (w h:Nat) (sp:List Nat):List Nat:=Dm sp (w * h) 0
theorem Bh (sp:List Nat):∀ (k j:Nat),(Dm sp k j).length<=k
 |0,_=>Nat.le_refl 0
 |k+1,j=>by
  show (cond (Yz j sp) (Dm sp k (j+1)) (j::Dm sp k (j+1))).length<=k+1;have:=Bh sp k (j+1);cases Yz j sp with
  |true=>exact Nat.le_succ_of_le this
  |false=>exact Nat.succ_le_succ this
theorem dc {n:Nat} (h:n < 90000):roomFor 8 n=true:=by
 unfold roomFor
 have h1:Nat.ble (Nat.mul n 8) xb=true:=Nat.ble_eq_true_of_le (by
                                     show n * 8<=xb;have:(720000:Nat)<=xb:=by decide
                                     omega)
 have h2:Nat.blt n xb=true:=by
                    rw [Nat.blt_eq];have:(720000:Nat)<=xb:=by decide
                    omega
 rw [h1,h2];rfl
theorem Zoz (d Zh:Nat) {w h n:Nat} {c:Cp} {sp:List Nat} {H:TH} (hw:w < 1000) (hh:h < 80) (hn:sp≠[]->n=1) (fy:sp.length < 90000) :
  tc (d+3) Zh 56 [tS w h c n sp] H=some (Xj 3 1 ((Vk w h sp).map tN),H):=by
 have hwh:w * h < 80000:=Nat.lt_of_le_of_lt (Nat.mul_le_mul (Nat.le_of_lt hw) (Nat.le_of_lt_succ hh)) (by omega)
 rw [Y4 (F:=F56) (by kernel_rfl)]
 have key:Qg (C56 (tc (d+2)) Zh (Zb H) (tS w h c n sp,Zk,Zk,Zk,Zk,Zk,Zk,Zk,Zk,()) H)
   λe S H1=>e=.ret/\S.2.2.1=Xj 3 1 ((Vk w h sp).map tN)/\H1=Zv H (.cells [tN w,tN h,.row c .set n (sp.map tN)]):=by
  have hbox:(Zv H (.cells [tN w,tN h,.row c .set n (sp.map tN)]))[Zb H]? = some (.cells [tN w,tN h,.row c .set n (sp.map tN)]):=Qf;have l0:∀ {β:Type} (k:TV->TH->Option β),loadT .Xi Zh (Zb H) false 1 (Zv H (.cells [tN w,tN h,.row c .set n (sp.map tN)])) (.ptr (Zb H) (0+0)) k=k (tN w) _:=λk=>Zx hbox rfl rfl rfl;have l1:∀ {β:Type} (k:TV->TH->Option β),loadT .Xi Zh (Zb H) false 1 (Zv H (.cells [tN w,tN h,.row c .set n (sp.map tN)])) (.ptr (Zb H) (0+1)) k=k (tN h) _:=λk=>Zx hbox rfl rfl rfl;have l2:∀ {β:Type} (k:TV->TH->Option β),loadT .Xi Zh (Zb H) false 1 (Zv H (.cells [tN w,tN h,.row c .set n (sp.map tN)])) (.ptr (Zb H) (0+2)) k=k (.row c .set n (sp.map tN)) _:=λk=>Zx hbox rfl rfl rfl;simp only [C56,VV,l0,l1,M7 (show w * h < 9223372036854775808 by omega)]
  refine Qg.sq (Q1:=λe S H1=>H1=Zv H (.cells [tN w,tN h,.row c .set n (sp.map tN)])/\e=.normal/\S.2.2.2.1=Xj 3 1 ((Vk w h sp).map tN)) (Qg.bl (Q1:=λe S H1=>H1=Zv H (.cells [tN w,tN h,.row c .set n (sp.map tN)])/\e=.exit 0/\S.2.2.2.1=Xj 3 1 ((Vk w h sp).map tN)) ?_ ?_ ?_ ?_) ?_ ?_ ?_
  ·refine Qg.loop (λk S H1=>∃ j pre,S.2.1=.ptr (Zb H) 0/\S.2.2.2.1=Xj 3 1 ((pre:List Nat).map tN)/\S.2.2.2.2.2.1=tN (w * h)/\S.2.2.2.2.2.2.1=tN j/\H1=Zv H (.cells [tN w,tN h,.row c .set n (sp.map tN)])/\j<=w * h/\k=w * h - j/\pre.length<=j/\Vk w h sp=pre++Dm sp (w * h - j) j) ?_ fuel (w * h) _ _ (by rw [Yg];omega)
    ⟨0,[],rfl,rfl,rfl,rfl,rfl,Nat.zero_le _,rfl,Nat.le_refl 0,rfl⟩
   rintro k S H1 ⟨j,pre,h1,h3,h5,h6,rfl,hj,rfl,Ns,Qx⟩;rcases Nat.eq_or_lt_of_le hj with hj |hj
   ·rw [hj,Nat.sub_self] at Qx;have Qx:Vk w h sp=pre:=by rw [Qx];exact List.append_nil _
    simp only [VV,h1,h3,h5,h6,Ql,Kf (Nat.le_of_eq hj.symm)];exact .fin (.inr ⟨by simp,rfl,rfl,by rw [Qx]⟩)
   ·have hk:w * h - j=(w * h - (j+1))+1:=by omega
    rw [hk] at Qx;have Qx:Vk w h sp=pre++cond (Yz j sp) (Dm sp (w * h - (j+1)) (j+1)) (j::Dm sp (w * h - (j+1)) (j+1)):=Qx
    have Xn:Zm (tc (d+2)) 64 [.row c .set n (sp.map tN),tN j] (Zv H (.cells [tN w,tN h,.row c .set n (sp.map tN)]))=some (tB (Yz j sp)):=
     Yc (ws:=[.row c .set n (sp.map tN),tN j]) (H':=[]) rfl rfl (Gy d 0 hn fy) rfl
    simp only [VV,h1,h3,h5,h6,Ql,Xo hj,l2,Xn];cases hb:Yz j sp with
    |true=>
     rw [hb] at Qx;simp only [VV,hb,Bool.not_true,X9 (show j+1 < 9223372036854775808 by omega)]
     exact .fin (.inl ⟨rfl,w * h - (j+1),by omega,j+1,pre,rfl,rfl,rfl,rfl,rfl,hj,rfl,by omega,Qx⟩)
    |false=>
     rw [hb] at Qx
     have Ag:∀ {β:Type} (k:TV->TH->Option β),X6 Zh (Zv H (.cells [tN w,tN h,.row c .set n (sp.map tN)])) 3 1 8 (Xj 3 1 (pre.map tN)) (.row .full (.own 3) 1 [tN j]) k=k (Xj 3 1 ((pre++[j]).map tN)) _:=λk=>by
      rw [Et (dc (by rw [List.length_map];omega)),List.map_append];rfl
     simp only [VV,hb,Bool.not_false,show Yf 1 [0] [tN j] (Y5 [tN 0] 1)=some [tN j] from rfl,Ag,X9 (show j+1 < 9223372036854775808 by omega)]
     exact .fin (.inl ⟨rfl,w * h - (j+1),by omega,j+1,pre++[j],rfl,rfl,rfl,rfl,rfl,hj,rfl,by simp;omega,by rw [Qx];simp⟩)
  ·rintro S H1 ⟨_,h,_⟩;cases h
  ·rintro i S H1 ⟨h1,h2,h3⟩;cases h2;exact ⟨h1,rfl,h3⟩
  ·rintro S H1 ⟨_,h,_⟩;cases h
  ·rintro S H1 ⟨rfl,_,h⟩;simp only [VV,h];exact .fin ⟨rfl,rfl,rfl⟩
  ·rintro i S H1 ⟨_,h,_⟩;cases h
  ·rintro S H1 ⟨_,h,_⟩;cases h
 obtain ⟨e,S,H1,h1,rfl,h2,rfl⟩:=key;show Za (C56 (tc (d+2)) Zh (Zb H) (tS w h c n sp,Zk,Zk,Zk,Zk,Zk,Zk,Zk,Zk,()) H) _=_;rw [h1];simp only [Yy,Jm,h2,Wj pt tn,Jt]
end
end Go.Proofs.YtgemobbfikjmoaaGreatDoor
namespace Go.Proofs.YtgemobbfikjmoaaGreatDoor
open Go Go.Ev
set_option maxRecDepth 100000
noncomputable section
abbrev tQ (p:Nat×Nat):TV:=.agg [tN p.1,tN p.2]
def eqQ (p q:Nat×Nat):Bool:=Nat.beq p.1 q.1 && (Nat.beq p.2 q.2 && true)
theorem Pt:∀ (l:List (Nat×Nat)),(Qi (l.map tQ)).length=l.length * 2
 |[]=>rfl
 |p::l=>by
  show ([tN p.1,tN p.2]++Qi (l.map tQ)).length=_;rw [List.length_append,Pt l];simp;omega
theorem Zb7:∀ (l:List (Nat×Nat)) (j:Nat) (h:j < l.length),((Qi (l.map tQ)).drop (j * 2)).take 2=[tN l[j].1,tN l[j].2]
 |p::l,0,_=>rfl
 |p::l,j+1,h=>by
  have h:j < l.length:=by simpa using h
  show (([tN p.1,tN p.2]++Qi (l.map tQ)).drop ((j+1) * 2)).take 2=_;have e:(j+1) * 2=2+j * 2:=by omega
  rw [e,<- List.drop_drop];show ((Qi (l.map tQ)).drop (j * 2)).take 2=_;rw [Zb7 l j h];rfl
theorem Znz {β:Type} {m:Ld} {Zh base b j:Nat} {H:TH} {l:List (Nat×Nat)} {k:TV->TH->Option β} (hb:H[b]? = some (.cells (Qi (l.map tQ)))) (h:j < l.length):loadT m Zh base true 2 H (.ptr b (0+j * 2)) k=k (tQ l[j]) H:=by
 have e:=Zb7 l j h
 rw [Xw hb (by rw [Pt];omega) (by
  rw [Nat.zero_add,e];rfl),Nat.zero_add,e]
def B9:List (Nat×Nat)->Bool
 |[]=>true
 |a::l=>match l with
  |[]=>true
  |b::_=>cond (eqQ b a) false (B9 l)
theorem Zay:∀ (l:List (Nat×Nat)) (j:Nat) (h:j+1 < l.length),B9 l=true->eqQ l[j+1] l[j]=false
 |[],_,h,_=>by simp at h
 |[_],_,h,_=>by simp at h
 |a::b::l,0,_,hn=>by
  have hn:cond (eqQ b a) false (B9 (b::l))=true:=hn;show eqQ b a=false;cases hb:eqQ b a with
  |true=>rw [hb] at hn;cases hn
  |false=>rfl
 |a::b::l,j+1,h,hn=>by
  have hn:cond (eqQ b a) false (B9 (b::l))=true:=hn
  have h2:B9 (b::l)=true:=by
   cases hb:eqQ b a with
   |true=>rw [hb] at hn;cases hn
   |false=>rw [hb] at hn;exact hn
  exact Zay (b::l) j (by simpa using h) h2
theorem Zcr (call:Z3) (Zh:Nat) {b cap:Nat} {l:List (Nat×Nat)} {H:TH} (hlen:l.length < 90000) (hb:H[b]? = some (.cells (Qi (l.map tQ)))) (hna:B9 l=true) :
  F136 call Zh [.vec b 0 l.length cap 2 true] H=some (.vec b 0 l.length cap 2 true,H):=by
 have key:Qg (C136 call Zh (Zb H) (.vec b 0 l.length cap 2 true,Zk,Zk,Zk,Zk,Zk,Zk,Zk,Zk,Zk,()) H)
   λe S H1=>e=.ret/\S.2.1=.vec b 0 l.length cap 2 true/\H1=H:=by
  simp only [C136,VV,Ql];cases h2:Nat.blt l.length 2 with
  |true=>
   simp only [VV];exact .fin ⟨rfl,rfl,rfl⟩
  |false=>
   simp only [VV];refine Qg.sq (Q1:=λe S H1=>H1=H/\e=.normal/\S.1=.vec b 0 l.length cap 2 true) (Qg.bl (Q1:=λe S H1=>H1=H/\e=.exit 0/\S.1=.vec b 0 l.length cap 2 true) ?_ ?_ ?_ ?_) ?_ ?_ ?_
   ·refine Qg.loop (λk S H1=>∃ j,S.1=.vec b 0 l.length cap 2 true/\S.2.2.1=tN j/\H1=H/\1<=j/\j<=l.length/\k=l.length - j) ?_ fuel (l.length - 1) _ _ (by rw [Yg];omega)
     ⟨1,rfl,rfl,rfl,Nat.le_refl 1,by
                        have:¬ l.length < 2:=λh=>by rw [<- Nat.blt_eq] at h;rw [h2] at h;cases h
                        omega,rfl⟩
    rintro k S H1 ⟨j,h0,h2,rfl,h1j,hj,rfl⟩;rcases Nat.eq_or_lt_of_le hj with hj |hj
    ·simp only [VV,h0,h2,Ql,Kf (Nat.le_of_eq hj.symm)];exact .fin (.inr ⟨by simp,rfl,rfl,rfl⟩)
    ·obtain ⟨i,rfl⟩:∃ i,j=i+1:=⟨j - 1,by omega⟩
     have hq:=Zay l i hj hna;have e1:∀ {β:Type} (k:TV->TH->Option β),loadT .Xi Zh (Zb H1) true 2 H1 (.ptr b (0+(i+1) * 2)) k=k (tQ l[i+1]) H1:=λk=>Znz hb hj;have e2:∀ {β:Type} (k:TV->TH->Option β),loadT .Xi Zh (Zb H1) true 2 H1 (.ptr b (0+i * 2)) k=k (tQ l[i]) H1:=λk=>Znz hb (by omega)
     have hs:Qq (.int .i64 (.ofNat (i+1))) (.int .i64 (.ofNat 1))=some (.int .i64 (.ofNat i)):=by rw [Uc (by omega) (by omega)];rfl
     have hq:(Qn (.ofNat l[i+1].1) (.ofNat l[i].1) && (Qn (.ofNat l[i+1].2) (.ofNat l[i].2) && true))=false:=hq;simp only [VV,h0,h2,Ql,Xo hj,K8 hj,K8 (show i < l.length by omega),e1,e2,hs,hq,X9 (show i+1+1 < 9223372036854775808 by omega)]
     exact .fin (.inl ⟨rfl,l.length - (i+1+1),by omega,i+1+1,rfl,rfl,rfl,by omega,hj,rfl⟩)
   ·rintro S H1 ⟨_,h,_⟩;cases h
   ·rintro i S H1 ⟨h1,h2,h3⟩;cases h2;exact ⟨h1,rfl,h3⟩
   ·rintro S H1 ⟨_,h,_⟩;cases h
   ·rintro S H1 ⟨rfl,_,h⟩;simp only [VV,h];exact .fin ⟨rfl,rfl,rfl⟩
   ·rintro i S H1 ⟨_,h,_⟩;cases h
   ·rintro S H1 ⟨_,h,_⟩;cases h
 obtain ⟨e,S,H1,h1,rfl,h2,rfl⟩:=key;show Za (C136 call Zh (Zb H1) (.vec b 0 l.length cap 2 true,Zk,Zk,Zk,Zk,Zk,Zk,Zk,Zk,Zk,()) H1) _=_;rw [h1];simp only [VV,h2];rfl
theorem Zcs (call:Z3) (Zh:Nat) {H:TH}:F136 call Zh [Xp] H=some (Xp,H):=by
 show Za (C136 call Zh (Zb H) (Xp,Zk,Zk,Zk,Zk,Zk,Zk,Zk,Zk,Zk,()) H) _=_;simp only [C136,Zq8,VV,Zz,List.length_nil,Ql,show Nat.blt 0 2=true from rfl,Wj N3 Lp];rw [Z6 Lp,Yh,List.take_length]
def nxt (w:Nat) (l:List Nat) (c:Nat):List (Nat×Nat):=
 List.append (cond (Nat.blt (c % w) (w - 1)) (cond (Yz (c+1) l) [(c,c+1)] []) []) (cond (Yz (c+w) l) [(c,c+w)] [])
def L6 (w:Nat) (l:List Nat):List Nat->List (Nat×Nat)
 |[]=>[]
 |c::cs=>List.append (nxt w l c) (L6 w l cs)
def Ka (w h:Nat) (sp:List Nat):List (Nat×Nat):=L6 w (Vk w h sp) (Vk w h sp)
theorem Zms {n:Nat} (h:n < 200000):roomFor 16 n=true:=by
 unfold roomFor
 have h1:Nat.ble (Nat.mul n 16) xb=true:=Nat.ble_eq_true_of_le (by
                                      show n * 16<=xb;have:(3200000:Nat)<=xb:=by decide
                                      omega)
 have h2:Nat.blt n xb=true:=by
                    rw [Nat.blt_eq];have:(3200000:Nat)<=xb:=by decide
                    omega
 rw [h1,h2];rfl
theorem Zc5 {β:Type} {Zh:Nat} {H:TH} {pre:List (Nat×Nat)} {p:Nat×Nat} (h:pre.length < 190000) (k:TV->TH->Option β) :
  X6 Zh H 71 2 16 (Xj 71 2 (pre.map tQ)) (.row .full (.own 71) 2 [tQ p]) k=k (Xj 71 2 ((pre++[p]).map tQ)) H:=by
 rw [Et (Zms (by rw [List.length_map];omega)),List.map_append];rfl
theorem j4 (sp:List Nat):∀ (k j:Nat),∀ x∈Dm sp k j,x < j+k
 |0,_,x,h=>by cases h
 |k+1,j,x,h=>by
  have h:x∈cond (Yz j sp) (Dm sp k (j+1)) (j::Dm sp k (j+1)):=h;cases hb:Yz j sp with
  |true=>rw [hb] at h;have:=j4 sp k (j+1) x h;omega
  |false=>
   rw [hb] at h;rcases List.mem_cons.1 h with rfl |h
   ·omega
   ·have:=j4 sp k (j+1) x h;omega
abbrev rS (n:Nat) (l:List TV):TV:=.row (om l) .set (zf n l) l
theorem St (d:Nat) {w h n:Nat} {c:Cp} {sp:List Nat} {H:TH} (hw:w < 1000) (hh:h < 80) (hn:sp≠[]->n=1) (fy:sp.length < 90000) :
  Zm (tc (d+3)) 56 [tS w h c n sp] H=some (Xj 3 1 ((Vk w h sp).map tN)):=
 Yc (ws:=[tS w h c n sp]) (H':=[]) (a:=false) rfl (by cases c <;> rfl) (Zoz d 0 hw hh hn fy) Zna
theorem Zi0 (d Zh:Nat) {w h n:Nat} {c:Cp} {sp:List Nat} {H:TH} (hw0:0 < w) (hw:w < 1000) (hh:h < 80) (hn:sp≠[]->n=1) (fy:sp.length < 90000) (hna:B9 (Ka w h sp)=true) (hplen:(Ka w h sp).length < 90000) :
  ∃ H',tc (d+4) Zh 63 [tS w h c n sp] H=some ((match Ka w h sp with |[]=>Xp |l=>.vec (Zb H+1) 0 l.length (Xk+2) 2 true),H')/\(Ka w h sp≠[]->H'[Zb H+1]? = some (.cells (Qi ((Ka w h sp).map tQ)))):=by
 have hwh:w * h < 80000:=Nat.lt_of_le_of_lt (Nat.mul_le_mul (Nat.le_of_lt hw) (Nat.le_of_lt_succ hh)) (by omega)
 rw [Y4 (F:=F63) (by kernel_rfl)]
 obtain ⟨gl,hgl⟩:∃ gl,gl=Vk w h sp:=⟨_,rfl⟩;have hgl':gl.length < 80000:=by rw [hgl];exact Nat.lt_of_le_of_lt (Bh sp _ _) hwh
 have Jo:∀ x∈gl,x < 80000:=λx hx=>by rw [hgl] at hx;have:=j4 sp _ _ x hx;omega
 have Ns:Ka w h sp=L6 w gl gl:=by unfold Ka;rw [<- hgl]
 obtain ⟨B,hB⟩:∃ B,B=Zv H (.cells [tN w,tN h,.row c .set n (sp.map tN)]):=⟨_,rfl⟩;have hbox:B[Zb H]? = some (.cells [tN w,tN h,.row c .set n (sp.map tN)]):=by rw [hB];exact Qf
 have hlB:Zb B=Zb H+1:=by rw [hB];exact Qd
 have key:Qg (C63 (tc (d+3)) Zh (Zb H) (tS w h c n sp,Zk,Zk,Zk,Zk,Zk,Zk,Zk,Zk,Zk,Zk,Zk,()) H)
   λe S H1=>e=.ret/\S.2.2.1=(match Ka w h sp with |[]=>Xp |l=>.vec (Zb H+1) 0 l.length (Xk+2) 2 true)/\(Ka w h sp≠[]->H1[Zb H+1]? = some (.cells (Qi ((Ka w h sp).map tQ)))):=by
  have l0:∀ {β:Type} (k:TV->TH->Option β),loadT .Xi Zh (Zb H) false 1 B (.ptr (Zb H) (0+0)) k=k (tN w) B:=λk=>Zx hbox rfl rfl rfl;have lA:∀ {β:Type} (k:TV->TH->Option β),loadT .Xi Zh (Zb H) true 3 B (.ptr (Zb H) 0) k=k (tS w h c n sp) B:=λk=>Xw hbox (by simp) rfl
  simp only [C63,VV,<- hB,lA,St d hw hh hn fy,<- hgl,Zz B,Zz (gl.map tN),List.length_map];refine Qg.sq (Q1:=λe S H1=>H1=B/\e=.normal/\S.2.2.2.1=Xj 71 2 ((Ka w h sp).map tQ)) (Qg.bl (Q1:=λe S H1=>H1=B/\e=.exit 0/\S.2.2.2.1=Xj 71 2 ((Ka w h sp).map tQ)) ?_ ?_ ?_ ?_) ?_ ?_ ?_
  ·refine Qg.loop (λk S H1=>∃ j pre,S.2.1=.ptr (Zb H) 0/\S.2.2.2.1=Xj 71 2 ((pre:List (Nat×Nat)).map tQ)/\S.2.2.2.2.1=rS 1 (gl.map tN)/\S.2.2.2.2.2.2.1=rS 1 (gl.map tN)/\S.2.2.2.2.2.2.2.1=tN gl.length/\S.2.2.2.2.2.2.2.2.1=tN j/\H1=B/\j<=gl.length/\k=gl.length - j/\pre.length<=2 * j/\Ka w h sp=pre++L6 w gl (gl.drop j)) ?_ fuel gl.length _ _ (by rw [Yg];omega)
    ⟨0,[],rfl,rfl,rfl,rfl,rfl,rfl,rfl,Nat.zero_le _,rfl,Nat.le_refl 0,Ns⟩
   rintro k S H1 ⟨j,pre,h1,h3,h4,h6,h7,h8,rfl,hj,rfl,hpl2,Qx⟩;rcases Nat.eq_or_lt_of_le hj with hj |hj
   ·rw [hj,List.drop_length] at Qx;have Qx:Ka w h sp=pre:=by rw [Qx];exact List.append_nil _
    simp only [VV,h1,h3,h4,h6,h7,h8,Ql,Kf (Nat.le_of_eq hj.symm)];exact .fin (.inr ⟨by simp,rfl,rfl,by rw [Qx]⟩)
   ·have Da:gl.map tN≠[]:=by intro e;rw [List.map_eq_nil_iff] at e;rw [e] at hj;simp at hj
    have Ec:zf 1 (gl.map tN)=1:=ye Da;have hszn:gl≠[]->zf 1 (gl.map tN)=1:=λ_=>Ec;obtain ⟨x,hx⟩:∃ x,x=gl[j]:=⟨_,rfl⟩;have hxl:x < 80000:=Jo x (by rw [hx];exact List.getElem_mem hj)
    rw [List.drop_eq_getElem_cons hj,<- hx] at Qx;have Qx:Ka w h sp=pre++List.append (nxt w gl x) (L6 w gl (gl.drop (j+1))):=Qx;have J8:(gl.map tN)[j]? = some (tN x):=by rw [List.getElem?_map,List.getElem?_eq_getElem hj,hx];rfl
    have hix:Qh 1 (.row (om (gl.map tN)) .set (zf 1 (gl.map tN)) (gl.map tN)) (tN j)=some (.el .set [tN x] 0):=by rw [Ec];exact Qe J8
    have hc1:Zm (tc (d+3)) 64 [rS 1 (gl.map tN),tN (x+1)] H1=some (tB (Yz (x+1) gl)):=
     Yc (ws:=[rS 1 (gl.map tN),tN (x+1)]) (H':=[]) rfl rfl (Gy (d+1) 0 hszn (by omega)) rfl
    have na:Zm (tc (d+3)) 64 [rS 1 (gl.map tN),tN (x+w)] H1=some (tB (Yz (x+w) gl)):=
     Yc (ws:=[rS 1 (gl.map tN),tN (x+w)]) (H':=[]) rfl rfl (Gy (d+1) 0 hszn (by omega)) rfl
    have a1:Z0 (.int .i64 (.ofNat x)) (.int .i64 (.ofNat 1))=some (.int .i64 (.ofNat (x+1))):=X9 (by omega)
    have a2:Z0 (.int .i64 (.ofNat x)) (.int .i64 (.ofNat w))=some (.int .i64 (.ofNat (x+w))):=X9 (by omega)
    have a3:Z0 (.int .i64 (.ofNat j)) (.int .i64 (.ofNat 1))=some (.int .i64 (.ofNat (j+1))):=X9 (by omega)
    have a4:Y1 (.int .i64 (.ofNat x)) (.int .i64 (.ofNat w))=some (.int .i64 (.ofNat (x % w))):=Gu hw0;have a5:Qq (.int .i64 (.ofNat w)) (.int .i64 (.ofNat 1))=some (.int .i64 (.ofNat (w - 1))):=Uc hw0 (by omega)
    have g1:∀ a b:Nat,Uk [(0,1,tN a),(1,1,tN b)] Vy=some (tQ (a,b)):=λa b=>rfl;have g2:∀ a b:Nat,Yf 2 [0] [.agg [tN a,tN b]] (Y5 [.agg Vy] 1)=some [tQ (a,b)]:=λa b=>rfl;have p1:∀ {β:Type} (k:TV->TH->Option β),X6 Zh H1 71 2 16 (Xj 71 2 (pre.map tQ)) (.row .full (.own 71) 2 [tQ (x,x+1)]) k=k (Xj 71 2 ((pre++[(x,x+1)]).map tQ)) H1:=λk=>Zc5 (by omega) k
    have p2:∀ {β:Type} (k:TV->TH->Option β),X6 Zh H1 71 2 16 (Xj 71 2 (pre.map tQ)) (.row .full (.own 71) 2 [tQ (x,x+w)]) k=k (Xj 71 2 ((pre++[(x,x+w)]).map tQ)) H1:=λk=>Zc5 (by omega) k
    have p3:∀ {β:Type} (k:TV->TH->Option β),X6 Zh H1 71 2 16 (Xj 71 2 ((pre++[(x,x+1)]).map tQ)) (.row .full (.own 71) 2 [tQ (x,x+w)]) k=k (Xj 71 2 (((pre++[(x,x+1)])++[(x,x+w)]).map tQ)) H1:=λk=>Zc5 (by simp;omega) k
    unfold nxt at Qx
    cases b1:Nat.blt (x % w) (w - 1) <;> cases b2:Yz (x+1) gl <;> cases b3:Yz (x+w) gl <;> rw [b1,b2,b3] at Qx <;>
     simp only [VV,h1,h3,h4,h6,h7,h8,Ql,Xo hj,hix,l0,a1,a2,a3,a4,a5,b1,b2,b3,hc1,na,g1,g2,p1,p2,p3] <;>
     first
     |exact .fin (.inl ⟨rfl,gl.length - (j+1),by omega,j+1,pre,rfl,rfl,rfl,rfl,rfl,rfl,rfl,hj,rfl,by omega,by rw [Qx];simp⟩)
     |exact .fin (.inl ⟨rfl,gl.length - (j+1),by omega,j+1,pre++[(x,x+1)],rfl,rfl,rfl,rfl,rfl,rfl,rfl,hj,rfl,by simp;omega,by rw [Qx];simp⟩)
     |exact .fin (.inl ⟨rfl,gl.length - (j+1),by omega,j+1,pre++[(x,x+w)],rfl,rfl,rfl,rfl,rfl,rfl,rfl,hj,rfl,by simp;omega,by rw [Qx];simp⟩)
     |exact .fin (.inl ⟨rfl,gl.length - (j+1),by omega,j+1,(pre++[(x,x+1)])++[(x,x+w)],rfl,rfl,rfl,rfl,rfl,rfl,rfl,hj,rfl,by simp;omega,by rw [Qx];simp⟩)
  ·rintro S H1 ⟨_,h,_⟩;cases h
  ·rintro i S H1 ⟨h1,h2,h3⟩;cases h2;exact ⟨h1,rfl,h3⟩
  ·rintro S H1 ⟨_,h,_⟩;cases h
  ·rintro S H1 ⟨rfl,_,hS⟩;cases hp:Ka w h sp with
   |nil=>
    rw [hp] at hS;have hS:S.2.2.2.1=.row .nil .set 0 []:=hS
    have hc:∀ {β:Type} (k:TV->TH->Option β),Qo (tc (d+3)) Zh 136 [.row .nil .set 0 []] H1 k=k (.row .nil .set 0 []) H1:=λk=>
     Xx rfl ((Y4 (F:=F136) (by kernel_rfl) ..).trans (Zcs _ _))
    simp only [VV,hS,hc];exact .fin ⟨rfl,rfl,λh=>absurd rfl h⟩
   |cons p l=>
    rw [hp] at hS;rw [hp] at hna;have hS:S.2.2.2.1=.row .Jf (.own 71) 2 ((p::l).map tQ):=hS
    have iw:(p::l).length < 90000:=by
     have:(Ka w h sp).length < 90000:=hplen
     rwa [hp] at this
    have hg:(Zv H1 (.cells (Qi ((p::l).map tQ))))[Zb H1]? = some (.cells (Qi ((p::l).map tQ))):=Qf
    have hc:∀ {β:Type} (k:TV->TH->Option β),Qo (tc (d+3)) Zh 136 [.vec (Zb H1) 0 (p::l).length (Xk+2) 2 true] (Zv H1 (.cells (Qi ((p::l).map tQ)))) k=k (.vec (Zb H1) 0 (p::l).length (Xk+2) 2 true) (Zv H1 (.cells (Qi ((p::l).map tQ)))):=λk=>
     Xx rfl ((Y4 (F:=F136) (by kernel_rfl) ..).trans (Zcr _ _ iw hg hna))
    simp only [VV,hS,Zz ((p::l).map tQ),List.length_map,hc];rw [hlB] at hg ⊢;exact .fin ⟨rfl,rfl,λ_=>hg⟩
  ·rintro i S H1 ⟨_,h,_⟩;cases h
  ·rintro S H1 ⟨_,h,_⟩;cases h
 obtain ⟨e,S,H1,h1,rfl,h2,h3⟩:=key;show ∃ H',Za (C63 (tc (d+3)) Zh (Zb H) (tS w h c n sp,Zk,Zk,Zk,Zk,Zk,Zk,Zk,Zk,Zk,Zk,Zk,()) H) _=_/\_;rw [h1];cases hp:Ka w h sp with
 |nil=>
  rw [hp] at h2;refine ⟨X7 H1 (Zb H),?_,λh=>absurd rfl h⟩;have h2:S.2.2.1=.row .nil .set 0 []:=h2;simp only [Yy,Jm,h2,Wj N3 Lp]
 |cons p l=>
  rw [hp] at h2 h3;refine ⟨H1,?_,λ_=>h3 (by simp)⟩
  have h2:S.2.2.1=.vec (Zb H+1) 0 (p::l).length (Xk+2) 2 true:=h2;simp only [VV,h2];rfl
end
end Go.Proofs.YtgemobbfikjmoaaGreatDoor
namespace Go.Proofs.YtgemobbfikjmoaaGreatDoor
open Go Go.Ev
set_option maxRecDepth 100000
noncomputable section
theorem grp_Q:∀ (l:List (Nat×Nat)),qq true 2 l.length (Qi (l.map tQ))=some (l.map tQ)
 |[]=>rfl
 |p::l=>by
  show Zf (Zhm true 2 (Qi ((p::l).map tQ))) (λx=>Zf (qq true 2 l.length (La (Qi ((p::l).map tQ)) 2)) λl=>some (x::l))=_
  have e1:Zhm true 2 (Qi ((p::l).map tQ))=some (tQ p):=by
   show Zp (Nat.ble 2 (Zb (Qi ((p::l).map tQ)))) _=_;have:2<=(Qi ((p::l).map tQ)).length:=by rw [Pt];simp;omega
   rw [Zz,Nat.ble_eq_true_of_le this];show some (TV.agg (X7 (Qi ((p::l).map tQ)) 2))=_;rw [Yh];rfl
  have e2:La (Qi ((p::l).map tQ)) 2=Qi (l.map tQ):=by rw [Jq];rfl
  rw [e1,e2,grp_Q l];rfl
theorem Hr:∀ (l:List (Nat×Nat)),(Qi (l.map tQ)).all Qv=true
 |[]=>rfl
 |p::l=>by
  show ([tN p.1,tN p.2]++Qi (l.map tQ)).all Qv=true;rw [List.all_append,Hr l];rfl
theorem Zmq {H:TH} {b:Nat} {l:List (Nat×Nat)} (hb:H[b]? = some (.cells (Qi (l.map tQ)))):Un H b 0 l.length 2 true=some (l.map tQ):=by
 unfold Un Yx;rw [Xq,hb];show Zp (Nat.ble (0+l.length * 2) (Zb (Qi (l.map tQ)))) (Zp (Z2 Qv (Vi (Qi (l.map tQ)) 0 (l.length * 2))) (qq true 2 l.length (La (Qi (l.map tQ)) 0)))=_
 have e:Vi (Qi (l.map tQ)) 0 (l.length * 2)=Qi (l.map tQ):=by
  unfold Vi;rw [Yh,Jq,List.drop_zero,List.take_of_length_le (by rw [Pt];exact Nat.le_refl _)]
 rw [e,Zz,Pt,Nat.zero_add,Nat.ble_eq_true_of_le (Nat.le_refl _),Ye,Hr,Jq,List.drop_zero,grp_Q];rfl
theorem Lc:1000000 < Xk:=by unfold Xk;decide
theorem Zq5 {H:TH} {b:Nat} {l:List (Nat×Nat)} (hb:H[b]? = some (.cells (Qi (l.map tQ)))) (hl:l.length < 90000):y7 false H (.vec b 0 l.length (Xk+2) 2 true)=some (.row .Jf .set 2 (l.map tQ)):=by
 have hu:=Lc;show Zf (Un H b 0 l.length 2 true) (λes=>Zp (Ms l.length (Xk+2) 2) (Zp (cond false (Z2 j7 es) true) (some (TV.row (cond (Nat.beq l.length (Xk+2)) .full .Jf) .set 2 es))))=_;rw [Zmq hb]
 have e1:Ms l.length (Xk+2) 2=true:=by
  unfold Ms;rw [Nat.ble_eq_true_of_le (by omega),Uj (show Xk+2=Nat.add Xk 2 from rfl)]
  show Nat.blt l.length Xk=true;rw [Nat.blt_eq];omega
 have e2:Nat.beq l.length (Xk+2)=false:=Wm (by omega)
 rw [e1,e2];rfl
theorem Zd2 (d:Nat) {w h n:Nat} {c:Cp} {sp:List Nat} {H:TH} (hw0:0 < w) (hw:w < 1000) (hh:h < 80) (hn:sp≠[]->n=1) (fy:sp.length < 90000) (hna:B9 (Ka w h sp)=true) (Ns:(Ka w h sp).length < 90000) :
  Zm (tc (d+4)) 63 [tS w h c n sp] H=some (rS 2 ((Ka w h sp).map tQ)):=by
 obtain ⟨H',h1,h2⟩:=Zi0 d 0 (H:=[]) (c:=c) hw0 hw hh hn fy hna Ns;refine Yc (ws:=[tS w h c n sp]) (a:=false) rfl (by cases c <;> rfl) h1 ?_
 cases hp:Ka w h sp with
 |nil=>rfl
 |cons p l=>
  rw [hp] at h2 Ns;exact Zq5 (h2 (by simp)) Ns
end
end Go.Proofs.YtgemobbfikjmoaaGreatDoor
namespace Go.Proofs.YtgemobbfikjmoaaGreatDoor
open Go Go.Ev
set_option maxRecDepth 100000
noncomputable section
abbrev tU (n:Nat):TV:=.v (.int .u64 (.ofNat n))
theorem Zqj:qf=Zgc:=rfl
theorem Zqk (i:Nat):(Tv qf)[i]? = (Zgc[i]?).map λz=>TV.v (.int .u8 z):=by
 unfold Tv;rw [J4,List.getElem?_map,Zqj]
theorem tab_at (k:Fin 64) {i:Nat} (hi:i=(2 ^ k.val * 285870213051353865 % 18446744073709551616) / 2 ^ 58):(Tv qf)[i]? = some (.v (.int .u8 (.ofNat k.val))):=by
 have h:Zgc[i]? = some (Int.ofNat k.val):=by rw [hi];exact Zlo k
 rw [Zqk,h];rfl
theorem Zlg (call:Z3) (Zh:Nat) {s:Nat} (h0:s≠0) (hs:s < 18446744073709551616) {H:TH} :
  F197 call Zh [tU s] H=some (tN (low 64 s),H):=by
 have hk:=Znu 64 s h0 hs
 have hn:Cg (.int .u64 (.ofNat s))=some (.int .u64 (.ofNat (18446744073709551616 - s))):=by
  show some (Value.int .u64 (Jl .u64 (Int.sub 0 (.ofNat s))))=_;rw [Jk,IntKind.wrap_u64]
  have:(Int.sub 0 (Int.ofNat s)) % 18446744073709551616=Int.ofNat (18446744073709551616 - s):=by
   show (0 - (s:Int)) % 18446744073709551616=((18446744073709551616 - s:Nat):Int);omega
  rw [this]
 have ha:Km (.int .u64 (.ofNat s)) (.int .u64 (.ofNat (18446744073709551616 - s)))=some (.int .u64 (.ofNat (2 ^ low 64 s))):=by
  rw [Cl hs (by omega),ff 64 s h0 hs]
 have he:Qn (.ofNat s) (.ofNat 0)=false:=by rw [Dl,decide_eq_false (by intro h;exact h0 (Int.ofNat.inj h))]
 obtain ⟨k,hkk⟩:∃ k:Fin 64,k.val=low 64 s:=⟨⟨_,hk⟩,rfl⟩;obtain ⟨m,hmm⟩:∃ m,m=2 ^ k.val * 285870213051353865 % 18446744073709551616:=⟨_,rfl⟩;obtain ⟨j,hj⟩:∃ j,j=m / 2 ^ 58:=⟨_,rfl⟩
 have hm:Y2 (.int .u64 (.ofNat (2 ^ low 64 s))) (.int .u64 (.ofNat 285870213051353865))=some (.int .u64 (.ofNat m)):=by
  rw [hmm,<- hkk];exact mul_u _ _
 have hi:j < 64:=by rw [hj,hmm];omega
 have hat:(Tv qf)[j]? = some (.v (.int .u8 (.ofNat (low 64 s)))):=by
  rw [<- hkk];exact tab_at k (by rw [hj,hmm])
 have hs2:K7 (.int .u64 (.ofNat m)) (.int .u64 (.ofNat 58))=some (.int .u64 (.ofNat j)):=by rw [hj];exact Zgf (by decide)
 clear hj hmm
 have hx:Qt 64 1 (.el .set tab1 0) (.v (.int .u64 (.ofNat j)))=some (.el .set tab1 j):=by
  show Zp (Nat.blt j 64) (Zw (.el .set tab1 0) (Nat.mul j 1))=_;rw [(by rw [Nat.blt_eq];exact hi:Nat.blt j 64=true)]
  show some (TV.el .set tab1 (0+j * 1))=_;rw [Nat.zero_add,Nat.mul_one]
 have hl:∀ {β:Type} (kk:TV->TH->Option β),loadT .Xi Zh (Zb H) false 1 H (.el .set tab1 j) kk=kk (.v (.int .u8 (.ofNat (low 64 s)))) H:=λkk=>Ku hat
 have hc:Ki .i64 (.int .u8 (.ofNat (low 64 s)))=some (.int .i64 (.ofNat (low 64 s))):=by
  show some (Value.int .i64 (Jl .i64 (.ofNat (low 64 s))))=_;rw [Au (by unfold I64;exact ⟨by have:=Int.natCast_nonneg (low 64 s);show _<=((low 64 s:Nat):Int);omega,by show ((low 64 s:Nat):Int) < _;omega⟩)]
 show Za (C197 call Zh (Zb H) (tU s,Zk,Zk,()) H) _=_;simp only [C197,VV,he,hn,ha,hm,hs2,hx,hl,hc,Z6 X8,Xc]
theorem pe (d:Nat) {s:Nat} (h0:s≠0) (hs:s < 18446744073709551616) {H:TH}:Zm (tc (d+2)) 156 [tU s] H=some (tN (low 64 s)):=by
 refine Yc (ws:=[tU s]) (H':=[]) (v:=tN (low 64 s)) rfl rfl ?_ rfl;rw [Y4 (F:=F156) (by kernel_rfl)]
 have hc:Zm (tc (d+1)) 197 [tU s] []=some (tN (low 64 s)):=
  Yc (ws:=[tU s]) (H':=[]) rfl rfl ((Y4 (F:=F197) (by kernel_rfl) ..).trans (Zlg _ _ h0 hs)) rfl
 show Za (C156 (tc (d+1)) 0 (Zb []) (tU s,Zk,()) []) _=_;simp only [C156,VV,hc,Z6 X8,Xc]
theorem Zn1 (d Zh:Nat) {s:Nat} (hs:s < 18446744073709551616) {H:TH} :
  tc (d+3) Zh 100 [tU s] H=some (Xj 3 1 ((Xu s).map tN),H):=by
 rw [Y4 (F:=F100) (by kernel_rfl)]
 have key:Qg (C100 (tc (d+2)) Zh (Zb H) (tU s,Zk,Zk,Zk,()) H) λe S H1=>e=.ret/\S.2.1=Xj 3 1 ((Xu s).map tN)/\H1=H:=by
  simp only [C100,VV];refine Qg.sq (Q1:=λe S H1=>H1=H/\e=.normal/\S.2.2.1=Xj 3 1 ((Xu s).map tN)) (Qg.bl (Q1:=λe S H1=>H1=H/\e=.exit 0/\S.2.2.1=Xj 3 1 ((Xu s).map tN)) ?_ ?_ ?_ ?_) ?_ ?_ ?_
  ·refine Qg.loop (λk S H1=>∃ s' pre,S.1=tU s'/\S.2.2.1=Xj 3 1 ((pre:List Nat).map tN)/\H1=H/\s' < 18446744073709551616/\Xu s=pre++Xu s'/\k=(Xu s').length) ?_ fuel (Xu s).length _ _
    (Nat.lt_of_le_of_lt (K6 s) (by decide)) ⟨s,[],rfl,rfl,rfl,hs,rfl,rfl⟩
   rintro k S H1 ⟨s',pre,h0,h2,rfl,hs',hb,rfl⟩
   by_cases hz:s'=0
   ·subst hz;simp only [VV,h0,h2,show Qn (.ofNat 0) (.ofNat 0)=true from rfl,Bool.not_true];rw [bz,List.append_nil] at hb;exact .fin (.inr ⟨by simp,rfl,rfl,by rw [hb]⟩)
   ·have he:Qn (.ofNat s') (.ofNat 0)=false:=by rw [Dl,decide_eq_false (by intro h;exact hz (Int.ofNat.inj h))]
    have hlen:pre.length+1 < 90000:=by
     have h1:=K6 s;rw [hb,List.length_append] at h1;omega
    have Ag:∀ {β:Type} (k:TV->TH->Option β),X6 Zh H1 3 1 8 (Xj 3 1 (pre.map tN)) (.row .full (.own 3) 1 [tN (low 64 s')]) k=k (Xj 3 1 ((pre++[low 64 s']).map tN)) H1:=λk=>by
     rw [Et (dc (by rw [List.length_map];omega)),List.map_append];rfl
    have hsub:Qq (.int .u64 (.ofNat s')) (.int .u64 (.ofNat 1))=some (.int .u64 (.ofNat (s' - 1))):=Zlq (by omega) hs'
    have hand:Km (.int .u64 (.ofNat s')) (.int .u64 (.ofNat (s' - 1)))=some (.int .u64 (.ofNat (s' &&& (s' - 1)))):=Cl hs' (by omega)
    have ur:=zu hz hs';simp only [VV,h0,h2,he,Bool.not_false,pe d hz hs',show ∀ x:Nat,Yf 1 [0] [tN x] (Y5 [tN 0] 1)=some [tN x] from λx=>rfl,Ag,hsub,hand];exact .fin (.inl ⟨rfl,(Xu (s' &&& (s' - 1))).length,by rw [ur];simp,s' &&& (s' - 1),pre++[low 64 s'],rfl,rfl,rfl,by have:=Zc6 hz;omega,by rw [hb,ur,List.append_assoc];rfl,rfl⟩)
  ·rintro S H1 ⟨_,h,_⟩;cases h
  ·rintro i S H1 ⟨h1,h2,h3⟩;cases h2;exact ⟨h1,rfl,h3⟩
  ·rintro S H1 ⟨_,h,_⟩;cases h
  ·rintro S H1 ⟨rfl,_,h⟩;simp only [VV,h];exact .fin ⟨rfl,rfl,rfl⟩
  ·rintro i S H1 ⟨_,h,_⟩;cases h
  ·rintro S H1 ⟨_,h,_⟩;cases h
 obtain ⟨e,S,H1,h1,rfl,h2,rfl⟩:=key;show Za (C100 (tc (d+2)) Zh (Zb H1) (tU s,Zk,Zk,Zk,()) H1) _=_;rw [h1];simp only [Yy,Jm,h2,Wj pt tn,Xc]
theorem Lq (d:Nat) {s:Nat} (hs:s < 18446744073709551616) {H:TH}:Zm (tc (d+3)) 100 [tU s] H=some (Xj 3 1 ((Xu s).map tN)):=
 Yc (ws:=[tU s]) (H':=[]) (a:=false) rfl rfl (Zn1 d 0 hs) Zna
end
end Go.Proofs.YtgemobbfikjmoaaGreatDoor
namespace Go.Proofs.YtgemobbfikjmoaaGreatDoor
open Go Go.Ev
set_option maxRecDepth 100000
noncomputable section
def Qz (w h g:Nat) (Zq:List Nat):List TV:=tN w::tN h::tU g::Zq.map tU
theorem Ue (w h g:Nat) (Zq:List Nat):(Qz w h g Zq).length=Zq.length+3:=by simp [Qz]
theorem B7 (w h g:Nat) (Zq:List Nat):(Qz w h g Zq)[0+0]? = some (tN w):=rfl
theorem di (w h g:Nat) (Zq:List Nat):(Qz w h g Zq)[0+1]? = some (tN h):=rfl
theorem Tg (w h g:Nat) (Zq:List Nat):(Qz w h g Zq)[0+2]? = some (tU g):=rfl
theorem Zaj {w h g:Nat} {Zq:List Nat} {a v:Nat} (ha:Zq[a]? = some v):(Qz w h g Zq)[0+3+a * 1]? = some (tU v):=by
 have e:0+3+a * 1=a+3:=by omega
 rw [e];show (Zq.map tU)[a]? = _;rw [List.getElem?_map,ha];rfl
theorem Zgq {w h g:Nat} {Zq:List Nat} {a v:Nat} (ha:a < Zq.length):Kl (Qz w h g Zq) (0+3+a * 1) [tU v]=Qz w h g (Zq.set a v):=by
 have e:0+3+a * 1=a+3:=by omega
 rw [e,Gv _ _ _ (by rw [Ue];omega)]
 show tN w::tN h::tU g::(Zq.map tU).set a (tU v)=_;unfold Qz;rw [List.map_set]
theorem Zmy {w h g v:Nat} {Zq:List Nat}:Kl (Qz w h g Zq) (0+2) [tU v]=Qz w h v Zq:=by
 rw [Gv _ _ _ (by rw [Ue];omega)];rfl
def El (g a:Nat):Bool:=Nat.beq (Nat.land (Nat.div g (Nat.pow 2 a)) 1) 1
def qi (a x:Nat) (l:List Nat):List Nat:=l.set a (Nat.lor (l[a]?.getD 0) x)
def Ww (g a b:Nat) (Zq:List Nat):List Nat:=cond (El g a) (cond (El g b) (qi b (Nat.pow 2 a) (qi a (Nat.pow 2 b) Zq)) Zq) Zq
theorem F4 (a x:Nat) (l:List Nat):(qi a x l).length=l.length:=List.length_set ..
theorem Si (g a b:Nat) (Zq:List Nat):(Ww g a b Zq).length=Zq.length:=by
 unfold Ww;cases El g a <;> cases El g b <;> simp [F4]
theorem fq {c:Nat} (hc:c < 16):2 ^ c < 65536:=by
 have:2 ^ c < 2 ^ 16:=Nat.pow_lt_pow_right (by decide) hc
 simpa using this
theorem get_lt {l:List Nat} {i:Nat} (h:∀ x∈l,x < 65536):l[i]?.getD 0 < 65536:=by
 cases hi:l[i]? with
 |none=>show 0 < 65536;decide
 |some y=>exact h y (List.mem_of_getElem? hi)
theorem re {a x:Nat} {l:List Nat} (hx:x < 65536) (h:∀ y∈l,y < 65536):∀ y∈qi a x l,y < 65536:=by
 intro y hy;rcases List.mem_or_eq_of_mem_set hy with h1 |h1
 ·exact h y h1
 ·rw [h1];exact Nat.or_lt_two_pow (n:=16) (get_lt h) hx
theorem Zbd {g a b:Nat} {Zq:List Nat} (ha:a < 16) (hb:b < 16) (h:∀ x∈Zq,x < 65536):∀ x∈Ww g a b Zq,x < 65536:=by
 unfold Ww;cases El g a with
 |false=>exact h
 |true=>cases El g b with
  |false=>exact h
  |true=>exact re (fq ha) (re (fq hb) h)
theorem Zoc (call:Z3) (Zh:Nat) {b w h g x y:Nat} {Zq:List Nat} {H:TH} (hb:H[b]? = some (.cells (Qz w h g Zq))) (ht:Zh<=b) (hg:g < 65536) (hl:Zq.length=16) (hn:∀ v∈Zq,v < 65536) (hx:x < 16) (hy:y < 16) :
  F152 call Zh [.ptr b 0,tN x,tN y] H=some (.Xh [],H.set b (.cells (Qz w h g (Ww g x y Zq)))):=by
 have s1:∀ z:Nat,z < 16->K7 (.int .u64 (.ofNat g)) (.int .i64 (.ofNat z))=some (.int .u64 (.ofNat (g / 2 ^ z))):=λz hz=>Zgf (by omega)
 have d1:∀ z:Nat,g / 2 ^ z < 18446744073709551616:=λz=>Nat.lt_of_le_of_lt (Nat.div_le_self ..) (by omega)
 have s2:∀ z:Nat,Km (.int .u64 (.ofNat (g / 2 ^ z))) (.int .u64 (.ofNat 1))=some (.int .u64 (.ofNat (g / 2 ^ z &&& 1))):=λz=>Cl (d1 z) (by decide)
 have s3:∀ z:Nat,Qn (.ofNat (g / 2 ^ z &&& 1)) (.ofNat 1)=El g z:=λz=>rfl;have lg:∀ {β:Type} (k:TV->TH->Option β),loadT .Xi Zh (Zb H) false 1 H (.ptr b (0+2)) k=k (tU g) H:=λk=>Zx hb (Tg ..) rfl rfl
 have e1:∀ z:Nat,z < 16->Y8 (.int .u64 (.ofNat 1)) (.int .i64 (.ofNat z))=some (.int .u64 (.ofNat (2 ^ z))):=λz hz=>by
  have:=fq hz;rw [Mz (by omega) (by rw [Nat.one_mul];omega),Nat.one_mul]
 have Ut:H.set b (.cells (Qz w h g Zq))=H:=by
  obtain ⟨h1,h2⟩:=List.getElem?_eq_some_iff.1 hb;rw [<- h2,List.set_getElem_self]
 show Za (C152 call Zh (Zb H) (.ptr b 0,tN x,tN y,Zk,()) H) _=_
 have hh:∀ H':TH,Zb H'=Zb H->Xm (Zb H) (.Xh []) H'=(.Xh [],H'):=λH' hh'=>by
  rw [Z6 rfl,<- hh',Xc]
 cases bx:El g x with
 |false=>
  simp only [C152,VV,lg,s1 x hx,s2,s3,bx,hh H rfl,Ww,Ut]
 |true=>
  cases by':El g y with
  |false=>
   simp only [C152,VV,lg,s1 x hx,s1 y hy,s2,s3,bx,by',hh H rfl,Ww,Ut]
  |true=>
   obtain ⟨v,hv⟩:∃ v,Zq[x]? = some v:=⟨_,List.getElem?_eq_getElem (by omega)⟩
   have hv16:v < 65536:=hn v (List.mem_of_getElem? hv);obtain ⟨H1,hH1⟩:∃ H1,H1=H.set b (.cells (Qz w h g (qi x (2 ^ y) Zq))):=⟨_,rfl⟩;have hb1:H1[b]? = some (.cells (Qz w h g (qi x (2 ^ y) Zq))):=by rw [hH1];exact Jv hb
   obtain ⟨u,hu⟩:∃ u,(qi x (2 ^ y) Zq)[y]? = some u:=⟨_,List.getElem?_eq_getElem (by rw [F4];omega)⟩
   have hu16:u < 65536:=re (fq hy) hn u (List.mem_of_getElem? hu);have ln:∀ {β:Type} (k:TV->TH->Option β),loadT .Xi Zh (Zb H) false 1 H (.ptr b (0+3+x * 1)) k=k (tU v) H:=λk=>Zx hb (Zaj hv) rfl rfl;have ln2:∀ {β:Type} (k:TV->TH->Option β),loadT .Xi Zh (Zb H) false 1 H1 (.ptr b (0+3+y * 1)) k=k (tU u) H1:=λk=>Zx hb1 (Zaj hu) rfl rfl;have o1:Ep (.int .u64 (.ofNat v)) (.int .u64 (.ofNat (2 ^ y)))=some (.int .u64 (.ofNat (v ||| 2 ^ y))):=uh (by omega) (by have:=fq hy;omega)
   have o2:Ep (.int .u64 (.ofNat u)) (.int .u64 (.ofNat (2 ^ x)))=some (.int .u64 (.ofNat (u ||| 2 ^ x))):=uh (by omega) (by have:=fq hx;omega)
   have st1:storeT Zh (Zb H) 1 H (.ptr b (0+3+x * 1)) (tU (v ||| 2 ^ y))=some H1:=by
    rw [Qy (n:=1) (off:=0+3+x * 1) (x:=tU (v ||| 2 ^ y)) hb ht rfl (.inl rfl) rfl (by rw [Ue];omega),hH1,V8,Zgq (by omega)]
    unfold qi;rw [hv];rfl
   have st2:storeT Zh (Zb H) 1 H1 (.ptr b (0+3+y * 1)) (tU (u ||| 2 ^ x))=some (H.set b (.cells (Qz w h g (qi y (2 ^ x) (qi x (2 ^ y) Zq))))):=by
    rw [Qy (n:=1) (off:=0+3+y * 1) (x:=tU (u ||| 2 ^ x)) hb1 ht rfl (.inl rfl) rfl (by rw [Ue,F4];omega),V8,Zgq (by rw [F4];omega),hH1,List.set_set]
    show _=some (H.set b (.cells (Qz w h g ((qi x (2 ^ y) Zq).set y (Nat.lor ((qi x (2 ^ y) Zq)[y]?.getD 0) (2 ^ x))))));rw [hu];rfl
   have tp:∀ {β:Type} {H':TH} {off:Nat} (k:TV->TH->Option β),Xb 0 false (.ptr b off) H' k=k (.ptr b off) H':=λk=>rfl;simp only [C152,VV,lg,s1 x hx,s1 y hy,s2,s3,bx,by',e1 x hx,e1 y hy,ln,ln2,o1,o2,tp,G9 hx,G9 hy,st1,st2,Ww,hh _ Ks]
   rfl
end
end Go.Proofs.YtgemobbfikjmoaaGreatDoor
namespace Go.Proofs.YtgemobbfikjmoaaGreatDoor
open Go Go.Ev
set_option maxRecDepth 100000
noncomputable section
def jz:List Nat->Nat->Nat
 |[],g=>g
 |c::cs,g=>jz cs (Iu g (Nat.pow 2 c))
def We (w g c:Nat) (Zq:List Nat):List Nat:=cond (Nat.blt 0 (Nat.mod c w)) (Ww g (Nat.sub c 1) c Zq) Zq
def Ke (w g:Nat):Nat->List Nat
 |0=>List.replicate 16 0
 |c+1=>cond (Nat.blt c w) (We w g c (Ke w g c)) (Ww g (Nat.sub c w) c (We w g c (Ke w g c)))
theorem eg (w g c:Nat) (Zq:List Nat):(We w g c Zq).length=Zq.length:=by
 unfold We;cases Nat.blt 0 (Nat.mod c w) with
 |true=>exact Si ..
 |false=>rfl
theorem V5 (w g:Nat):∀ c,(Ke w g c).length=16
 |0=>List.length_replicate ..
 |c+1=>by
  show (cond (Nat.blt c w) (We w g c (Ke w g c)) (Ww g (Nat.sub c w) c (We w g c (Ke w g c)))).length=16;cases Nat.blt c w with
  |true=>exact (eg ..).trans (V5 w g c)
  |false=>exact (Si ..).trans ((eg ..).trans (V5 w g c))
theorem Za1 {w g c:Nat} {Zq:List Nat} (hc:c < 16) (h:∀ x∈Zq,x < 65536):∀ x∈We w g c Zq,x < 65536:=by
 unfold We;cases Nat.blt 0 (Nat.mod c w) with
 |true=>exact Zbd (by show c - 1 < 16;omega) hc h
 |false=>exact h
theorem Pl (w g:Nat):∀ c,c<=16->∀ x∈Ke w g c,x < 65536
 |0,_=>by
  intro x hx;have hx:x∈List.replicate 16 0:=hx;rw [List.mem_replicate] at hx;rw [hx.2];decide
 |c+1,h=>by
  show ∀ x∈cond (Nat.blt c w) (We w g c (Ke w g c)) (Ww g (Nat.sub c w) c (We w g c (Ke w g c))),x < 65536;have h1:=Za1 (w:=w) (g:=g) (c:=c) (by omega) (Pl w g c (by omega))
  cases Nat.blt c w with
  |true=>exact h1
  |false=>exact Zbd (by show c - w < 16;omega) (by omega) h1
theorem Aj:∀ (l:List Nat) (g:Nat),g < 65536->jz l g < 65536
 |[],_,h=>h
 |c::cs,g,h=>Aj cs _ (Nat.lt_of_le_of_lt Nat.and_le_left h)
structure Kd (w h:Nat) (sp:List Nat):Prop where
 w1:1<=w
 w8:w<=8
 h1:1<=h
 h8:h<=8
 Ca:w * h<=16
 lt:∀ x∈sp,x < w * h
 asc:sp.Pairwise (· < ·)
def Qs (w h:Nat) (sp:List Nat):Nat:=jz sp (Nat.pow 2 (w * h) - 1)
def J3 (w h:Nat) (sp:List Nat):List TV:=Qz w h (Qs w h sp) (Ke w (Qs w h sp) (w * h))
theorem F2 (w h g:Nat) (Zq:List Nat):(Qz w h g Zq).any Xs=false:=by
 show (false || (false || (false || (Zq.map tU).any Xs)))=false
 rw [List.any_map];have:Zq.any (Xs ∘ tU)=false:=by rw [List.any_eq_false];intro x _;simp [Xs]
 rw [this];rfl
theorem Jn (w h g:Nat) (Zq:List Nat):Yu (.agg (Qz w h g Zq))=true:=by
 show Z2 Vj (Qz w h g Zq)=true;rw [Ye];show (true && (true && (true && (Zq.map tU).all Vj)))=true;rw [List.all_map];have:Zq.all (Vj ∘ tU)=true:=by rw [List.all_eq_true];intro x _;rfl
 rw [this];rfl
theorem dh (w h g:Nat) (Zq:List Nat):Z2 Uq (Qz w h g Zq)=true:=by
 rw [Ye];show (true && (true && (true && (Zq.map tU).all Uq)))=true;rw [List.all_map];have:Zq.all (Uq ∘ tU)=true:=by rw [List.all_eq_true];intro x _;rfl
 rw [this];rfl
theorem Kr {cs xs:List TV} (h:xs.length=cs.length):Kl cs 0 xs=xs:=by
 rw [Ia _ _ _ (by omega),Nat.zero_add,h,List.drop_length,List.take_zero,List.nil_append,List.append_nil]
def h3 (H:TH) (A Z:Kc) (X:List TV):TH:=Zv (Zv (Zv H A) Z) (.cells X)
section
variable {H:TH} {A Z:Kc} {X Y:List TV}
theorem h3_a:(h3 H A Z X)[Zb H]? = some A:=Qm (Qm Qf)
theorem h3_z:(h3 H A Z X)[Zb H+1]? = some Z:=by
 have:(Zv (Zv H A) Z)[Zb (Zv H A)]? = some Z:=Qf;rw [Qd] at this;exact Qm this
theorem qp:(h3 H A Z X)[Zb H+1+1]? = some (.cells X):=by
 have:(h3 H A Z X)[Zb (Zv (Zv H A) Z)]? = some (.cells X):=Qf
 rwa [Qd,Qd] at this
theorem Zb0:h3 H A Z X=H++[A,Z,.cells X]:=by
 show ((H++[A])++[Z])++[.cells X]=_;simp
theorem Ai:(h3 H A Z X).set (Zb H+1+1) (.cells Y)=h3 H A Z Y:=by
 rw [Zb0,Zb0,Zz,List.set_append_right _ _ (by omega)]
 have:H.length+1+1 - H.length=2:=by omega
 rw [this];rfl
theorem Zr0:(h3 H A Z X).set (Zb H+1) (.cells Y)=h3 H A (.cells Y) X:=by
 rw [Zb0,Zb0,Zz,List.set_append_right _ _ (by omega)]
 have:H.length+1 - H.length=1:=by omega
 rw [this];rfl
theorem a9:X7 (h3 H A Z X) (Zb H)=H:=by
 rw [Zb0,Yh,Zz,List.take_append_of_le_length (Nat.le_refl _),List.take_length]
end
theorem M8 {a b:Nat} (h:Nat.blt a b=false):b<=a:=by
 rcases Nat.lt_or_ge a b with h2 |h2
 ·rw [<- Nat.blt_eq] at h2;rw [h] at h2;cases h2
 ·exact h2
theorem Zn8 (d Zh:Nat) {w h n:Nat} {c:Cp} {sp:List Nat} {H:TH} (ok:Kd w h sp) (hn:sp≠[]->n=1) (Oc:Zh<=Zb H) :
  tc (d+2) Zh 94 [tS w h c n sp] H=some (.Xh [.agg (J3 w h sp),tN 0],H):=by
 rw [Y4 (F:=F94) (by kernel_rfl)]
 obtain ⟨w1,w8,h1,h8,Ca,Jo,hasc⟩:=ok;obtain ⟨A,hA⟩:∃ A:Kc,A=.cells [tN w,tN h,.row c .set n (sp.map tN)]:=⟨_,rfl⟩
 have hspl:sp.length<=w * h:=by
  have:=List.pairwise_iff_getElem.1 hasc
  have aux:∀ i (hi:i < sp.length),i<=sp[i]:=by
   intro i
   induction i with
   |zero=>intro _;omega
   |succ i ih=>
    intro hi;have h2:=ih (by omega)
    have h3:=this i (i+1) (by omega) hi (by omega)
    omega
  rcases Nat.eq_zero_or_pos sp.length with h0 |h0
  ·omega
  ·have h4:=aux (sp.length - 1) (by omega)
   have h5:=Jo _ (List.getElem_mem (l:=sp) (n:=sp.length - 1) (by omega))
   omega
 have key:Qg (C94 (tc (d+1)) Zh (Zb H) (tS w h c n sp,Zk,Zk,Zk,Zk,Zk,Zk,Zk,Zk,Zk,Zk,Zk,Zk,Zk,Zk,Zk,Zk,Zk,Zk,Zk,Zk,Zk,()) H)
   λe S H1=>e=.ret/\S.2.2.1=.ptr (Zb H+1) 0/\S.2.2.2.1=tN 0/\∃ X,H1=h3 H A (.cells (J3 w h sp)) X:=by
  obtain ⟨B,hB⟩:∃ B,B=Zv (Zv H A) (.cells Xf):=⟨_,rfl⟩;have hb0:B[Zb H]? = some A:=by rw [hB];exact Qm Qf
  have hlB:Zb B=Zb H+1+1:=by rw [hB,Qd,Qd]
  rw [hA] at hb0;have b0:∀ {β:Type} (m:Ld) (k:TV->TH->Option β),loadT m Zh (Zb H) false 1 B (.ptr (Zb H) (0+0)) k=k (tN w) B:=λm k=>Zx hb0 rfl rfl rfl;have b1:∀ {β:Type} (m:Ld) (k:TV->TH->Option β),loadT m Zh (Zb H) false 1 B (.ptr (Zb H) (0+1)) k=k (tN h) B:=λm k=>Zx hb0 rfl rfl rfl;have c1:Xg (.int .i64 (.ofNat w)) (.int .i64 (.ofNat 1))=some (.bool false):=by rw [Ql,Kf w1]
  have c2:Vt (.int .i64 (.ofNat w)) (.int .i64 (.ofNat 8))=some (.bool false):=by rw [Gg,Kf w8]
  have c3:Xg (.int .i64 (.ofNat h)) (.int .i64 (.ofNat 1))=some (.bool false):=by rw [Ql,Kf h1]
  have c4:Vt (.int .i64 (.ofNat h)) (.int .i64 (.ofNat 8))=some (.bool false):=by rw [Gg,Kf h8]
  have c5:Y2 (.int .i64 (.ofNat w)) (.int .i64 (.ofNat h))=some (.int .i64 (.ofNat (w * h))):=M7 (by omega)
  have c6:Vt (.int .i64 (.ofNat (w * h))) (.int .i64 (.ofNat 16))=some (.bool false):=by rw [Gg,Kf Ca]
  have p2:2 ^ (w * h)<=65536:=by
   have:2 ^ (w * h)<=2 ^ 16:=Nat.pow_le_pow_right (by decide) Ca
   simpa using this
  have p1:0 < 2 ^ (w * h):=Nat.pow_pos (by decide)
  have c7:Y8 (.int .u64 (.ofNat 1)) (.int .i64 (.ofNat (w * h)))=some (.int .u64 (.ofNat (2 ^ (w * h)))):=by
   rw [Mz (by omega) (by rw [Nat.one_mul];omega),Nat.one_mul]
  have c8:Qq (.int .u64 (.ofNat (2 ^ (w * h)))) (.int .u64 (.ofNat 1))=some (.int .u64 (.ofNat (2 ^ (w * h) - 1))):=Zlq p1 (by omega)
  have g1:Uk [(0,1,tN w),(1,1,tN h),(2,1,tU (2 ^ (w * h) - 1))] Xf=some (.agg (Qz w h (2 ^ (w * h) - 1) (List.replicate 16 0))):=rfl
  have st:storeT Zh (Zb H) 19 (Zv B (.cells Xf)) (.ptr (Zb H+1+1) 0) (.agg (Qz w h (2 ^ (w * h) - 1) (List.replicate 16 0)))=some (h3 H A (.cells Xf) (Qz w h (2 ^ (w * h) - 1) (List.replicate 16 0))):=by
   have hx:(Zv B (.cells Xf))[Zb H+1+1]? = some (.cells Xf):=by rw [<- hlB];exact Qf
   rw [Qy (off:=0) (n:=19) (x:=.agg (Qz w h (2 ^ (w * h) - 1) (List.replicate 16 0))) hx (by omega) (Jn ..) (.inr (by omega)) (by rw [Yb,Ue];rfl) (by decide),Yb,Kr (by rw [Ue];rfl),hB]
   exact congrArg some Ai
  have Us:Yu (tS w h c n sp)=true:=by cases c <;> rfl
  simp only [C94,VV,<- hA,Qd,<- hB,b0,b1,c1,c2,c3,c4,c5,c6,c7,c8,g1,hlB,st,Bool.not_false,Bool.not_true];have z0:∀ {β:Type} (m:Ld) (X:List TV) (k:TV->TH->Option β),loadT m Zh (Zb H) false 1 (h3 H A (.cells Xf) X) (.ptr (Zb H) (0+0)) k=k (tN w) (h3 H A (.cells Xf) X):=λm X k=>Zx (h3_a.trans (congrArg some hA)) rfl rfl rfl;have z2:∀ {β:Type} (m:Ld) (X:List TV) (k:TV->TH->Option β),loadT m Zh (Zb H) false 1 (h3 H A (.cells Xf) X) (.ptr (Zb H) (0+2)) k=k (.row c .set n (sp.map tN)) (h3 H A (.cells Xf) X):=λm X k=>Zx (h3_a.trans (congrArg some hA)) rfl rfl rfl;simp only [VV,z2,Zz (sp.map tN),List.length_map]
  refine Qg.sq (Q1:=λe S H1=>e=.normal/\S.2.1=.ptr (Zb H) 0/\S.2.2.1=.ptr (Zb H+1) 0/\S.2.2.2.2.1=tN (w * h)/\S.2.2.2.2.2.1=.ptr (Zb H+1+1) 0/\H1=h3 H A (.cells Xf) (Qz w h (Qs w h sp) (List.replicate 16 0)))
   (Qg.bl (Q1:=λe S H1=>e=.exit 1/\S.2.1=.ptr (Zb H) 0/\S.2.2.1=.ptr (Zb H+1) 0/\S.2.2.2.2.1=tN (w * h)/\S.2.2.2.2.2.1=.ptr (Zb H+1+1) 0/\H1=h3 H A (.cells Xf) (Qz w h (Qs w h sp) (List.replicate 16 0))) ?_ ?_ ?_ ?_) ?_ ?_ ?_
  ·refine Qg.loop (λk S H1=>∃ j last g,S.2.1=.ptr (Zb H) 0/\S.2.2.1=.ptr (Zb H+1) 0/\S.2.2.2.2.1=tN (w * h)/\S.2.2.2.2.2.1=.ptr (Zb H+1+1) 0/\S.2.2.2.2.2.2.1=tI last/\S.2.2.2.2.2.2.2.2.2.2.2.1=.row c .set n (sp.map tN)/\S.2.2.2.2.2.2.2.2.2.2.2.2.1=tN sp.length/\S.2.2.2.2.2.2.2.2.2.2.2.2.2.1=tN j/\H1=h3 H A (.cells Xf) (Qz w h g (List.replicate 16 0)) /\
     j<=sp.length/\k=sp.length - j/\g < 65536/\(∀ y∈sp.drop j,last < Int.ofNat y)/\Qs w h sp=jz (sp.drop j) g) ?_ fuel sp.length _ _ (by rw [Yg];omega)
    ⟨0,.negSucc 0,_,rfl,rfl,rfl,rfl,rfl,rfl,rfl,rfl,rfl,Nat.zero_le _,rfl,by omega,λy _=>Int.lt_of_lt_of_le (Int.negSucc_lt_zero 0) (Int.natCast_nonneg y),rfl⟩
   rintro k S H1 ⟨j,last,g,e1,e2,e4,e5,e6,e11,e12,e13,rfl,hj,rfl,hg,hla,Qx⟩;rcases Nat.eq_or_lt_of_le hj with hj |hj
   ·rw [hj,List.drop_length] at Qx;have Qx:Qs w h sp=g:=Qx;simp only [VV,e1,e2,e4,e5,e12,e13,Ql,Kf (Nat.le_of_eq hj.symm)];exact .fin (.inr ⟨by simp,rfl,rfl,rfl,rfl,rfl,by rw [Qx]⟩)
   ·have hn1:=hn (by intro h0;rw [h0] at hj;simp at hj)
    subst hn1;obtain ⟨x,hx⟩:∃ x,x=sp[j]:=⟨_,rfl⟩;rw [List.drop_eq_getElem_cons hj,<- hx] at Qx hla;have Qx:Qs w h sp=jz (sp.drop (j+1)) (Iu g (2 ^ x)):=Qx;have hxl:x < w * h:=Jo x (by rw [hx];exact List.getElem_mem hj)
    have J8:(sp.map tN)[j]? = some (tN x):=by rw [List.getElem?_map,List.getElem?_eq_getElem hj,hx];rfl
    have hlx:=hla x (List.mem_cons_self ..);have k1:Xg (.int .i64 (.ofNat x)) (.int .i64 (.ofNat 0))=some (.bool false):=by rw [Ql,Kf (Nat.zero_le x)]
    have k2:K0 (.int .i64 (.ofNat x)) (.int .i64 (.ofNat (w * h)))=some (.bool false):=by rw [Hq,Xo hxl];rfl
    have k3:Am (.int .i64 (.ofNat x)) (.int .i64 last)=some (.bool false):=by rw [leq_i,decide_eq_false (by omega)]
    have px:=fq (c:=x) (by omega)
    have k4:Y8 (.int .u64 (.ofNat 1)) (.int .i64 (.ofNat x))=some (.int .u64 (.ofNat (2 ^ x))):=by rw [Mz (by omega) (by rw [Nat.one_mul];omega),Nat.one_mul]
    have k5:Y6 (.int .u64 (.ofNat g)) (.int .u64 (.ofNat (2 ^ x)))=some (.int .u64 (.ofNat (Iu g (2 ^ x)))):=P3 (by omega) (by omega)
    have lg:∀ {β:Type} (k:TV->TH->Option β),loadT .Xi Zh (Zb H) false 1 (h3 H A (.cells Xf) (Qz w h g (List.replicate 16 0))) (.ptr (Zb H+1+1) (0+2)) k=k (tU g) _:=λk=>Zx qp (Tg ..) rfl rfl
    have sg:storeT Zh (Zb H) 1 (h3 H A (.cells Xf) (Qz w h g (List.replicate 16 0))) (.ptr (Zb H+1+1) (0+2)) (tU (Iu g (2 ^ x)))=some (h3 H A (.cells Xf) (Qz w h (Iu g (2 ^ x)) (List.replicate 16 0))):=by
     rw [Qy (n:=1) (off:=0+2) (x:=tU (Iu g (2 ^ x))) qp (by omega) rfl (.inl rfl) rfl (by rw [Ue];omega),V8,Zmy,Ai]
    simp only [VV,e1,e2,e4,e5,e6,e11,e12,e13,Ql,Xo hj,Qe J8,k1,k2,k3,k4,k5,lg,sg,Bool.not_false,Bool.not_true,X9 (show j+1 < 9223372036854775808 by omega)]
    refine .fin (.inl ⟨rfl,sp.length - (j+1),by omega,j+1,.ofNat x,Iu g (2 ^ x),rfl,rfl,rfl,rfl,rfl,rfl,rfl,rfl,rfl,hj,rfl,Nat.lt_of_le_of_lt Nat.and_le_left hg,λy hy=>?_,Qx⟩)
    have hp:=(List.pairwise_cons.1 (by have:=hasc.drop (i:=j);rw [List.drop_eq_getElem_cons hj,<- hx] at this;exact this)).1 y hy
    exact Int.ofNat_lt.2 hp
  ·rintro S H1 ⟨h,_⟩;cases h
  ·rintro i S H1 ⟨h1,h2⟩;cases h1;exact ⟨rfl,h2⟩
  ·rintro S H1 ⟨h,_⟩;cases h
  ·rintro S H1 ⟨_,e1,e2,e4,e5,rfl⟩;obtain ⟨g,hg⟩:∃ g,g=Qs w h sp:=⟨_,rfl⟩;have uq:g < 65536:=by rw [hg];exact Aj _ _ (by show 2 ^ (w * h) - 1 < 65536;omega)
   simp only [VV,e1,e2,e4,e5,<- hg]
   refine Qg.sq (Q1:=λe S H1=>e=.normal/\S.2.2.1=.ptr (Zb H+1) 0/\S.2.2.2.2.2.1=.ptr (Zb H+1+1) 0/\H1=h3 H A (.cells Xf) (Qz w h g (Ke w g (w * h))))
    (Qg.bl (Q1:=λe S H1=>e=.exit 4/\S.2.2.1=.ptr (Zb H+1) 0/\S.2.2.2.2.2.1=.ptr (Zb H+1+1) 0/\H1=h3 H A (.cells Xf) (Qz w h g (Ke w g (w * h)))) ?_ ?_ ?_ ?_) ?_ ?_ ?_
   ·refine Qg.loop (λk S H1=>∃ j,S.2.1=.ptr (Zb H) 0/\S.2.2.1=.ptr (Zb H+1) 0/\S.2.2.2.2.2.1=.ptr (Zb H+1+1) 0/\S.2.2.2.2.2.2.2.2.2.2.2.2.2.2.2.2.2.1=tN (w * h)/\S.2.2.2.2.2.2.2.2.2.2.2.2.2.2.2.2.2.2.1=tN j/\H1=h3 H A (.cells Xf) (Qz w h g (Ke w g j))/\j<=w * h/\k=w * h - j) ?_ fuel (w * h) _ _ (by rw [Yg];omega)
     ⟨0,rfl,rfl,rfl,rfl,rfl,rfl,Nat.zero_le _,rfl⟩
    rintro k S H1 ⟨j,e1,e2,e5,zw,e18,rfl,hj,rfl⟩;rcases Nat.eq_or_lt_of_le hj with hj |hj
    ·simp only [VV,e1,e2,e5,zw,e18,Ql,Kf (Nat.le_of_eq hj.symm)];exact .fin (.inr ⟨by simp,rfl,rfl,rfl,by rw [hj]⟩)
    ·have k1:Y1 (.int .i64 (.ofNat j)) (.int .i64 (.ofNat w))=some (.int .i64 (.ofNat (j % w))):=Gu (by omega)
     have k3:K0 (.int .i64 (.ofNat j)) (.int .i64 (.ofNat w))=some (.bool (!Nat.blt j w)):=Hq ..;have k2:Vt (.int .i64 (.ofNat (j % w))) (.int .i64 (.ofNat 0))=some (.bool (Nat.blt 0 (j % w))):=Gg ..
     have jr:∀ (Zq:List Nat) (x:Nat),Zq.length=16->(∀ v∈Zq,v < 65536)->x < 16->tc (d+1) Zh 152 [.ptr (Zb H+1+1) 0,tN x,tN j] (h3 H A (.cells Xf) (Qz w h g Zq))=some (.Xh [],h3 H A (.cells Xf) (Qz w h g (Ww g x j Zq))):=λZq x hl hv hx=>by
      rw [Y4 (F:=F152) (by kernel_rfl),Zoc _ Zh qp (by omega) uq hl hv hx (by omega),Ai]
     have n0:=V5 w g j;have n1:=Pl w g j (by omega)
     have m1:=Za1 (w:=w) (g:=g) (c:=j) (by omega) n1
     have a3:Z0 (.int .i64 (.ofNat j)) (.int .i64 (.ofNat 1))=some (.int .i64 (.ofNat (j+1))):=X9 (by omega)
     cases b1:Nat.blt 0 (j % w) <;> cases b2:Nat.blt j w
     ·have q2:Qq (.int .i64 (.ofNat j)) (.int .i64 (.ofNat w))=some (.int .i64 (.ofNat (j - w))):=Uc (M8 b2) (by omega)
      have jj:∀ {β:Type} (k:TV->TH->Option β),Qo (tc (d+1)) Zh 152 [.ptr (Zb H+1+1) 0,tN (j - w),tN j] (h3 H A (.cells Xf) (Qz w h g (Ke w g j))) k=k (.Xh []) (h3 H A (.cells Xf) (Qz w h g (Ww g (j - w) j (Ke w g j)))):=λk=>Xx rfl (jr _ _ n0 n1 (by omega))
      simp only [VV,e1,e2,e5,zw,e18,Ql,Xo hj,z0,k1,k2,k3,b1,b2,q2,jj,Bool.not_true,Bool.not_false,a3]
      exact .fin (.inl ⟨rfl,w * h - (j+1),by omega,j+1,rfl,rfl,rfl,rfl,rfl,by
       show _=h3 H A _ (Qz w h g (cond (Nat.blt j w) (We w g j (Ke w g j)) (Ww g (Nat.sub j w) j (We w g j (Ke w g j)))));have e:We w g j (Ke w g j)=Ke w g j:=by unfold We;rw [show Nat.blt 0 (Nat.mod j w)=false from b1];rfl
       rw [b2,e];rfl,hj,rfl⟩)
     ·simp only [VV,e1,e2,e5,zw,e18,Ql,Xo hj,z0,k1,k2,k3,b1,b2,Bool.not_true,Bool.not_false,a3]
      exact .fin (.inl ⟨rfl,w * h - (j+1),by omega,j+1,rfl,rfl,rfl,rfl,rfl,by
       show _=h3 H A _ (Qz w h g (cond (Nat.blt j w) (We w g j (Ke w g j)) (Ww g (Nat.sub j w) j (We w g j (Ke w g j)))));have e:We w g j (Ke w g j)=Ke w g j:=by unfold We;rw [show Nat.blt 0 (Nat.mod j w)=false from b1];rfl
       rw [b2,e];rfl,hj,rfl⟩)
     ·have ak:0 < j:=Nat.pos_of_ne_zero (λh=>by rw [h,Nat.zero_mod] at b1;cases b1)
      have q1:Qq (.int .i64 (.ofNat j)) (.int .i64 (.ofNat 1))=some (.int .i64 (.ofNat (j - 1))):=Uc ak (by omega)
      have q2:Qq (.int .i64 (.ofNat j)) (.int .i64 (.ofNat w))=some (.int .i64 (.ofNat (j - w))):=Uc (M8 b2) (by omega)
      have e:We w g j (Ke w g j)=Ww g (j - 1) j (Ke w g j):=by unfold We;rw [show Nat.blt 0 (Nat.mod j w)=true from b1];rfl
      rw [e] at m1;have jj:∀ {β:Type} (k:TV->TH->Option β),Qo (tc (d+1)) Zh 152 [.ptr (Zb H+1+1) 0,tN (j - 1),tN j] (h3 H A (.cells Xf) (Qz w h g (Ke w g j))) k=k (.Xh []) (h3 H A (.cells Xf) (Qz w h g (Ww g (j - 1) j (Ke w g j)))):=λk=>Xx rfl (jr _ _ n0 n1 (by omega))
      have jk:∀ {β:Type} (k:TV->TH->Option β),Qo (tc (d+1)) Zh 152 [.ptr (Zb H+1+1) 0,tN (j - w),tN j] (h3 H A (.cells Xf) (Qz w h g (Ww g (j - 1) j (Ke w g j)))) k=k (.Xh []) (h3 H A (.cells Xf) (Qz w h g (Ww g (j - w) j (Ww g (j - 1) j (Ke w g j))))):=λk=>Xx rfl (jr _ _ (by rw [Si,n0]) m1 (by omega))
      simp only [VV,e1,e2,e5,zw,e18,Ql,Xo hj,z0,k1,k2,k3,b1,b2,q1,q2,jj,jk,Bool.not_true,Bool.not_false,a3]
      exact .fin (.inl ⟨rfl,w * h - (j+1),by omega,j+1,rfl,rfl,rfl,rfl,rfl,by
       show _=h3 H A _ (Qz w h g (cond (Nat.blt j w) (We w g j (Ke w g j)) (Ww g (Nat.sub j w) j (We w g j (Ke w g j)))));rw [b2,e];rfl,hj,rfl⟩)
     ·have ak:0 < j:=Nat.pos_of_ne_zero (λh=>by rw [h,Nat.zero_mod] at b1;cases b1)
      have q1:Qq (.int .i64 (.ofNat j)) (.int .i64 (.ofNat 1))=some (.int .i64 (.ofNat (j - 1))):=Uc ak (by omega)
      have e:We w g j (Ke w g j)=Ww g (j - 1) j (Ke w g j):=by unfold We;rw [show Nat.blt 0 (Nat.mod j w)=true from b1];rfl
      have jj:∀ {β:Type} (k:TV->TH->Option β),Qo (tc (d+1)) Zh 152 [.ptr (Zb H+1+1) 0,tN (j - 1),tN j] (h3 H A (.cells Xf) (Qz w h g (Ke w g j))) k=k (.Xh []) (h3 H A (.cells Xf) (Qz w h g (Ww g (j - 1) j (Ke w g j)))):=λk=>Xx rfl (jr _ _ n0 n1 (by omega))
      simp only [VV,e1,e2,e5,zw,e18,Ql,Xo hj,z0,k1,k2,k3,b1,b2,q1,jj,Bool.not_true,Bool.not_false,a3]
      exact .fin (.inl ⟨rfl,w * h - (j+1),by omega,j+1,rfl,rfl,rfl,rfl,rfl,by
       show _=h3 H A _ (Qz w h g (cond (Nat.blt j w) (We w g j (Ke w g j)) (Ww g (Nat.sub j w) j (We w g j (Ke w g j)))));rw [b2,e];rfl,hj,rfl⟩)
   ·rintro S H1 ⟨h,_⟩;cases h
   ·rintro i S H1 ⟨h1,h2⟩;cases h1;exact ⟨rfl,h2⟩
   ·rintro S H1 ⟨h,_⟩;cases h
   ·rintro S H1 ⟨_,e2,e5,rfl⟩;have Ns:(Qz w h g (Ke w g (w * h))).length=19:=by rw [Ue,V5]
    have lA:∀ {β:Type} (k:TV->TH->Option β),loadT .settle Zh (Zb H) true 19 (h3 H A (.cells Xf) (Qz w h g (Ke w g (w * h)))) (.ptr (Zb H+1+1) 0) k=k (.agg (Qz w h g (Ke w g (w * h)))) _:=λk=>by
     rw [Xw qp (by omega) (by rw [List.drop_zero,List.take_of_length_le (by omega)];exact F2 ..),List.drop_zero,List.take_of_length_le (by omega)]
    have sA:storeT Zh (Zb H) 19 (h3 H A (.cells Xf) (Qz w h g (Ke w g (w * h)))) (.ptr (Zb H+1) 0) (.agg (Qz w h g (Ke w g (w * h))))=some (h3 H A (.cells (Qz w h g (Ke w g (w * h)))) (Qz w h g (Ke w g (w * h)))):=by
     rw [Qy (off:=0) (n:=19) (x:=.agg (Qz w h g (Ke w g (w * h)))) h3_z (by omega) (Jn ..) (.inr (by omega)) (by rw [Yb,Ns]) (by decide),Yb,Kr (by rw [Ns];rfl),Zr0]
    simp only [VV,e2,e5,lA,sA];exact .fin ⟨rfl,rfl,rfl,_,by rw [hg];rfl⟩
   ·rintro i S H1 ⟨h,_⟩;cases h
   ·rintro S H1 ⟨h,_⟩;cases h
  ·rintro i S H1 ⟨h,_⟩;cases h
  ·rintro S H1 ⟨h,_⟩;cases h
 obtain ⟨e,S,H1,r1,rfl,r2,r3,X,rfl⟩:=key;show Za (C94 (tc (d+1)) Zh (Zb H) (tS w h c n sp,Zk,Zk,Zk,Zk,Zk,Zk,Zk,Zk,Zk,Zk,Zk,Zk,Zk,Zk,Zk,Zk,Zk,Zk,Zk,Zk,Zk,()) H) _=_;rw [r1];have Ns:(J3 w h sp).length=19:=by unfold J3;rw [Ue,V5]
 have hz:(h3 H A (.cells (J3 w h sp)) X)[Zb H+1]? = some (.cells (J3 w h sp)):=h3_z
 have lA:∀ {β:Type} (b:Nat) (k:TV->TH->Option β),loadT .take Zh b true 19 (h3 H A (.cells (J3 w h sp)) X) (.ptr (Zb H+1) 0) k=k (.agg (J3 w h sp)) (h3 H A (.cells (J3 w h sp)) X):=λb k=>by
  rw [Xw hz (by omega) (by rw [List.drop_zero,List.take_of_length_le (by omega)];exact F2 ..),List.drop_zero,List.take_of_length_le (by omega)]
 simp only [VV,r2,r3,lA]
 rw [Z6 (by
  show Z2 Oq [.agg (J3 w h sp),tN 0]=true;show cond (Z2 Uq (J3 w h sp)) true false=true;unfold J3;rw [dh];rfl),a9]
end
end Go.Proofs.YtgemobbfikjmoaaGreatDoor
namespace Go.Proofs.YtgemobbfikjmoaaGreatDoor
open Go Go.Ev
set_option maxRecDepth 100000
noncomputable section
theorem Zm7 {a:Bool} {H:TH}:∀ (l:List Nat),B8 a H (l.map tU)=some (l.map tU)
 |[]=>rfl
 |x::l=>by
  show Zf (y9 a H (tU x)) (λy=>Zf (B8 a H (l.map tU)) λl=>some (y::l))=_;rw [Zm7 l];rfl
theorem y6 {a:Bool} {H:TH} {w h g:Nat} {Zq:List Nat} {es:List TV} (he:y5 a H es=some es):y7 a H (.Xh (.agg (Qz w h g Zq)::es))=some (.Xh (.agg (Qz w h g Zq)::es)):=by
 show Zf (Zf (Zf (B8 a H (Qz w h g Zq)) λds=>some (TV.agg ds)) λy=>Zf (y5 a H es) λl=>some (y::l)) (λds=>some (TV.Xh ds))=_
 have:B8 a H (Qz w h g Zq)=some (Qz w h g Zq):=by
  show Zf (some (tN w)) (λy=>Zf (Zf (some (tN h)) λy=>Zf (Zf (some (tU g)) λy=>Zf (B8 a H (Zq.map tU)) λl=>some (y::l)) λl=>some (y::l)) λl=>some (y::l))=_;rw [Zm7];rfl
 rw [this,he];rfl
theorem Xz {w h g:Nat} {Zq:List Nat}:Ve V3 (Qz w h g Zq)=Qz w h g Zq:=by
 rw [J4];show tN w::tN h::tU g::(Zq.map tU).map V3=_;rw [List.map_map];rfl
theorem Bb (d:Nat) {w h n:Nat} {c:Cp} {sp:List Nat} {H:TH} (ok:Kd w h sp) (hn:sp≠[]->n=1):Zm (tc (d+2)) 94 [tS w h c n sp] H=some (.Xh [.agg (J3 w h sp),tN 0]):=
 Yc (ws:=[tS w h c n sp]) rfl rfl (Zn8 d 0 ok hn (Nat.zero_le _)) (y6 rfl)
theorem R7 (s:Nat) (hs:s < 65536):∀ x∈Xu s,x < 16:=by
 have key:∀ (f:Nat) (s p q:Nat),s < 2 ^ q->∀ x∈Ug f s p,x < p+q:=by
  intro f
  induction f with
  |zero=>intro s p q _ x hx;cases hx
  |succ f ih=>
   intro s p q hs x hx;rw [Vr] at hx;split at hx
   ·cases hx
   ·rename_i h0;cases q with
    |zero=>exfalso;simp at hs;omega
    |succ q=>
     have h2:s / 2 < 2 ^ q:=by rw [Nat.pow_succ] at hs;omega
     split at hx
     ·rcases List.mem_cons.1 hx with rfl |hx
      ·omega
      ·have:=ih _ _ _ h2 x hx;omega
     ·have:=ih _ _ _ h2 x hx;omega
 intro x hx;have:=key 64 s 0 16 (by simpa using hs) x hx
 omega
def h2 (H:TH) (A:Kc) (X:List TV):TH:=Zv (Zv H A) (.cells X)
end
end Go.Proofs.YtgemobbfikjmoaaGreatDoor
namespace Go.Proofs.YtgemobbfikjmoaaGreatDoor
open Go Go.Ev
set_option maxRecDepth 100000
noncomputable section
def Pz (a b:Nat):Int:=cond (Nat.blt a b) (.negSucc 0) (cond (Nat.blt b a) 1 0)
def I2:List Nat->List Nat->Int
 |[],ys=>cond (Nat.blt 0 ys.length) (.negSucc 0) 0
 |a::xs,ys=>match ys with
  |[]=>1
  |b::ys=>cond (Qn (Pz a b) 0) (I2 xs ys) (Pz a b)
theorem Ha (d:Nat) {x:Nat} {H:TH}:Zm (tc (d+1)) 176 [tN x] H=some (tB false):=by
 refine Yc (ws:=[tN x]) (H':=[]) (v:=tB false) rfl rfl ?_ rfl;rw [Y4 (F:=F176) (by kernel_rfl)]
 have he:Qn (.ofNat x) (.ofNat x)=true:=by rw [Dl,decide_eq_true rfl]
 show Za (C176 (tc d) 0 (Zb []) (tN x,Zk,()) []) _=_;simp only [C176,VV,he,Bool.not_true,Z6 X8,Xc]
theorem Zpw (d:Nat) {a b:Nat} {H:TH}:Zm (tc (d+2)) 147 [tN a,tN b] H=some (tI (Pz a b)):=by
 refine Yc (ws:=[tN a,tN b]) (H':=[]) (v:=tI (Pz a b)) rfl rfl ?_ rfl;rw [Y4 (F:=F147) (by kernel_rfl)]
 show Za (C147 (tc (d+1)) 0 (Zb []) (tN a,tN b,Zk,Zk,Zk,Zk,Zk,Zk,Zk,Zk,()) []) _=_;unfold Pz;cases h1:Nat.blt a b with
 |true=>simp only [C147,VV,Ha d,Ql,h1,Z6 X8,Xc]
 |false=>cases h2:Nat.blt b a with
  |true=>
   simp only [C147,VV,Ha d,Ql,Gg,h1,h2,Z6 X8,Xc];rfl
  |false=>
   simp only [C147,VV,Ha d,Ql,Gg,h1,h2,Z6 X8,Xc];rfl
theorem zy (d Zh:Nat) {n m:Nat} {c c':Cp} {xs ys:List Nat} {H:TH} (hn:xs≠[]->n=1) (hm:ys≠[]->m=1) (ha:xs.length < 90000) :
  tc (d+3) Zh 78 [.row c .set n (xs.map tN),.row c' .set m (ys.map tN)] H=some (tI (I2 xs ys),H):=by
 rw [Y4 (F:=F78) (by kernel_rfl)]
 have key:Qg (C78 (tc (d+2)) Zh (Zb H) (.row c .set n (xs.map tN),.row c' .set m (ys.map tN),Zk,Zk,Zk,Zk,Zk,Zk,Zk,Zk,Zk,Zk,Zk,Zk,()) H)
   λe S H1=>e=.ret/\S.2.2.1=tI (I2 xs ys)/\H1=H:=by
  simp only [C78,VV,Zz (xs.map tN),List.length_map]
  refine Qg.sq (Q1:=λe S H1=>H1=H/\((e=.normal/\S.1=.row c .set n (xs.map tN)/\S.2.1=.row c' .set m (ys.map tN)/\I2 xs ys=cond (Nat.blt xs.length ys.length) (.negSucc 0) 0)\/(e=.ret/\S.2.2.1=tI (I2 xs ys))))
   (Qg.bl (Q1:=λe S H1=>H1=H/\((e=.exit 0/\S.1=.row c .set n (xs.map tN)/\S.2.1=.row c' .set m (ys.map tN)/\I2 xs ys=cond (Nat.blt xs.length ys.length) (.negSucc 0) 0)\/(e=.ret/\S.2.2.1=tI (I2 xs ys)))) ?_ ?_ ?_ ?_) ?_ ?_ ?_
  ·refine Qg.loop (λk S H1=>∃ j,S.1=.row c .set n (xs.map tN)/\S.2.1=.row c' .set m (ys.map tN)/\S.2.2.2.2.2.2.2.1=.row c .set n (xs.map tN)/\S.2.2.2.2.2.2.2.2.1=tN xs.length/\S.2.2.2.2.2.2.2.2.2.1=tN j/\H1=H/\j<=xs.length/\k=xs.length - j/\j<=ys.length/\I2 xs ys=I2 (xs.drop j) (ys.drop j)) ?_ fuel xs.length _ _ (by rw [Yg];omega)
    ⟨0,rfl,rfl,rfl,rfl,rfl,rfl,Nat.zero_le _,rfl,Nat.zero_le _,rfl⟩
   rintro k S H1 ⟨j,e0,e1,e7,e8,e9,rfl,hj,rfl,hjb,Qx⟩;rcases Nat.eq_or_lt_of_le hj with hj |hj
   ·rw [hj,List.drop_length] at Qx;have Qx:I2 xs ys=cond (Nat.blt 0 (ys.drop xs.length).length) (.negSucc 0) 0:=Qx;rw [List.length_drop] at Qx;simp only [VV,e0,e1,e7,e8,e9,Ql,Kf (Nat.le_of_eq hj.symm)];refine .fin (.inr ⟨by simp,rfl,.inl ⟨rfl,rfl,rfl,?_⟩⟩)
    rw [Qx];rcases Nat.lt_or_ge xs.length ys.length with h |h
    ·rw [Xo h,Xo (show 0 < ys.length - xs.length by omega)]
    ·rw [Kf h,Kf (show ys.length - xs.length<=0 by omega)]
   ·have hn1:=hn (by intro h0;rw [h0] at hj;simp at hj)
    subst hn1;obtain ⟨x,hx⟩:∃ x,x=xs[j]:=⟨_,rfl⟩;rw [List.drop_eq_getElem_cons hj,<- hx] at Qx;have J8:(xs.map tN)[j]? = some (tN x):=by rw [List.getElem?_map,List.getElem?_eq_getElem hj,hx];rfl
    rcases Nat.eq_or_lt_of_le hjb with hb |hb
    ·rw [hb,List.drop_length] at Qx;have Qx:I2 xs ys=1:=by rw [Qx];rfl
     simp only [VV,e0,e1,e7,e8,e9,Ql,Hq,Xo hj,Qe J8,Zz (ys.map tN),List.length_map,Kf (Nat.le_of_eq hb.symm),Bool.not_false];exact .fin (.inr ⟨by simp,rfl,.inr ⟨rfl,by rw [Qx];rfl⟩⟩)
    ·have hm1:=hm (by intro h0;rw [h0] at hb;simp at hb)
     subst hm1;obtain ⟨y,hy⟩:∃ y,y=ys[j]:=⟨_,rfl⟩;rw [List.drop_eq_getElem_cons hb,<- hy] at Qx;have Qx:I2 xs ys=cond (Qn (Pz x y) 0) (I2 (xs.drop (j+1)) (ys.drop (j+1))) (Pz x y):=Qx;have hel2:(ys.map tN)[j]? = some (tN y):=by rw [List.getElem?_map,List.getElem?_eq_getElem hb,hy];rfl
     have h0:Qn (Pz x y) (.ofNat 0)=Qn (Pz x y) 0:=rfl;simp only [VV,e0,e1,e7,e8,e9,Ql,Hq,Xo hj,Qe J8,Qe hel2,Zz (ys.map tN),List.length_map,Xo hb,Bool.not_true,Zpw d,h0];cases hc:Qn (Pz x y) 0 with
     |true=>
      rw [hc] at Qx;simp only [VV,Bool.not_true,X9 (show j+1 < 9223372036854775808 by omega)]
      exact .fin (.inl ⟨rfl,xs.length - (j+1),by omega,j+1,rfl,rfl,rfl,rfl,rfl,rfl,hj,rfl,hb,Qx⟩)
     |false=>
      rw [hc] at Qx;simp only [VV,Bool.not_false];exact .fin (.inr ⟨by simp,rfl,.inr ⟨rfl,by rw [Qx];rfl⟩⟩)
  ·rintro S H1 ⟨_,⟨h,_⟩ |⟨h,_⟩⟩ <;> cases h
  ·rintro i S H1 ⟨h1,⟨h2,h3⟩ |⟨h2,_⟩⟩
   ·cases h2;exact ⟨h1,.inl ⟨rfl,h3⟩⟩
   ·cases h2
  ·rintro S H1 ⟨h1,⟨h2,_⟩ |⟨_,h3⟩⟩
   ·cases h2
   ·exact ⟨h1,.inr ⟨rfl,h3⟩⟩
  ·rintro S H1 ⟨rfl,⟨_,e0,e1,Qx⟩ |⟨h,_⟩⟩
   rotate_left
   ·cases h
   simp only [VV,e0,e1,Zz (xs.map tN),Zz (ys.map tN),List.length_map,Ql];cases hb:Nat.blt xs.length ys.length with
   |true=>
    rw [hb] at Qx;simp only [VV];exact .fin ⟨rfl,by rw [Qx];rfl,rfl⟩
   |false=>
    rw [hb] at Qx;simp only [VV];exact .fin ⟨rfl,by rw [Qx];rfl,rfl⟩
  ·rintro i S H1 ⟨_,⟨h,_⟩ |⟨h,_⟩⟩ <;> cases h
  ·rintro S H1 ⟨h1,⟨h,_⟩ |⟨_,h3⟩⟩
   ·cases h
   ·exact ⟨rfl,h3,h1⟩
 obtain ⟨e,S,H1,h1,rfl,h2,rfl⟩:=key;show Za (C78 (tc (d+2)) Zh (Zb H1) (.row c .set n (xs.map tN),.row c' .set m (ys.map tN),Zk,Zk,Zk,Zk,Zk,Zk,Zk,Zk,Zk,Zk,Zk,Zk,()) H1) _=_;rw [h1];simp only [Yy,Jm,h2,Wj Vw X8,Xc]
end
end Go.Proofs.YtgemobbfikjmoaaGreatDoor
namespace Go.Proofs.YtgemobbfikjmoaaGreatDoor
open Go Go.Ev
set_option maxRecDepth 100000
noncomputable section
def Hb (a b:Nat):Nat:=cond (Nat.blt a b) b a
def Eh (a b:Nat):Nat:=cond (Nat.blt b a) b a
theorem Yr {a b:Nat}:Y0 true (.int .i64 (.ofNat a)) (.int .i64 (.ofNat b))=some (.int .i64 (.ofNat (Hb a b))):=by
 show some (Value.int .i64 (cond (Nat.blt a b) (.ofNat b) (.ofNat a)))=_;unfold Hb;cases Nat.blt a b <;> rfl
theorem X5 {a b:Nat}:Y0 false (.int .i64 (.ofNat a)) (.int .i64 (.ofNat b))=some (.int .i64 (.ofNat (Eh a b))):=by
 show some (Value.int .i64 (cond (Nat.blt b a) (.ofNat b) (.ofNat a)))=_;unfold Eh;cases Nat.blt b a <;> rfl
theorem Zg0 {a b:Nat}:a<=Hb a b/\b<=Hb a b:=by
 unfold Hb;cases h:Nat.blt a b with
 |true=>rw [Nat.blt_eq] at h;exact ⟨Nat.le_of_lt h,Nat.le_refl _⟩
 |false=>exact ⟨Nat.le_refl _,M8 h⟩
def Wa (b:Nat×Nat):Nat:=Nat.lor (Nat.pow 2 b.1) (Nat.pow 2 b.2)
def Dy (w:Nat) (b:Nat×Nat):Bool:=
 cond (Qn (Int.ofNat b.2 - Int.ofNat b.1) (.ofNat w)) false (cond (Qn (Int.ofNat b.2 - Int.ofNat b.1) (.ofNat 1)) (Qn (.ofNat (b.2 % w)) (.ofNat 0)) true)
def Ol (prev:Option (Nat×Nat)) (b:Nat×Nat):Bool:=match prev with
 |none=>false
 |some p=>decide (0<=I2 [p.1,p.2] [b.1,b.2])
def Il (w n g:Nat) (prev:Option (Nat×Nat)) (b:Nat×Nat) (used:Nat):Nat:=
 cond (!Nat.blt (Hb b.1 b.2) n) 2 (cond (Dy w b) 5 (cond (Ol prev b) 7 (cond (!Qn (.ofNat (Iu (Wa b) g)) (.ofNat 0)) 13 (cond (!Qn (.ofNat (Nat.land (Wa b) used)) (.ofNat 0)) 6 0))))
def Mj (w n g:Nat):List (Nat×Nat)->Option (Nat×Nat)->Nat->Nat×Nat
 |[],_,used=>(0,used)
 |b::bs,prev,used=>cond (Nat.beq (Il w n g prev b used) 0) (Mj w n g bs (some b) (Nat.lor used (Wa b))) (Il w n g prev b used,0)
theorem Wv {H:TH} {o p:Kc}:(Zv H o).set (Zb H) p=Zv H p:=by
 show (H++[o]).set (Zb H) p=H++[p];rw [Zz,List.set_append_right _ _ (Nat.le_refl _),Nat.sub_self];rfl
theorem zd {H H1:TH} {o:Kc} {n:Nat} (h:X7 H1 n=H) (hn:n<=Zb H1):X7 (Zv H1 o) n=H:=by
 rw [Yh] at *;show List.take n (H1++[o])=H;rw [Zz] at hn;rw [List.take_append_of_le_length hn,h]
theorem take_set {H H1:TH} {o:Kc} {n i:Nat} (h:X7 H1 n=H) (hi:n<=i):X7 (H1.set i o) n=H:=by
 rw [Yh] at *;rw [List.take_set_of_le hi,h]
structure P8 (H:TH) (A:Kc) (X:List TV) (H1:TH):Prop where
 a:H1[Zb H]? = some A
 z:∃ Z,H1[Zb H+1]? = some (.cells Z)/\Z.length=19
 x:H1[Zb H+1+1]? = some (.cells X)
 t:X7 H1 (Zb H)=H
 l:Zb H+3<=Zb H1
theorem P8.push {H:TH} {A:Kc} {X:List TV} {H1:TH} (st:P8 H A X H1) (o:Kc):P8 H A X (Zv H1 o):=
 ⟨Qm st.a,let ⟨Z,h1,h2⟩:=st.z;⟨Z,Qm h1,h2⟩,Qm st.x,zd st.t (by have:=st.l;omega),by rw [Qd];have:=st.l;omega⟩
theorem Zcn:vl 2 2 none none none=some (0,2,2):=by
 have hu:=Lc;show Zp true (Zp true (Zp true (Zp true (Zp (Nat.blt 2 Xk) (some (0,2,2))))))=_;rw [(by rw [Nat.blt_eq];omega:Nat.blt 2 Xk=true)];rfl
theorem Dp {q:Lf} {x y:TV}:G5 false 1 2 (.el q [x,y] 0) none none none=some (.row .full (vh q) 1 [x,y]):=by
 unfold G5;rw [Zcn];rfl
theorem Wl {b:Nat}:G5 false 1 2 (.ptr b 0) none none none=some (.vec b 0 2 2 1 false):=by
 unfold G5;rw [Zcn];rfl
theorem Zr9 (d:Nat) {H:TH} {b p1 p2 b1 b2:Nat} (hb:H[b]? = some (.cells [tN b1,tN b2])) :
  Zm (tc (d+3)) 78 [.row .full .set 1 [tN p1,tN p2],.vec b 0 2 2 1 false] H=some (tI (I2 [p1,p2] [b1,b2])):=by
 have hu:=Lc
 have hi:qm H [.row .full .set 1 [tN p1,tN p2],.vec b 0 2 2 1 false]=some [.row .full .set 1 [tN p1,tN p2],.row .full .set 1 [tN b1,tN b2]]:=by
  have hr:Un H b 0 2 1 false=some [tN b1,tN b2]:=by
   unfold Un Yx;rw [Xq,hb];rfl
  have hv:inC H (.vec b 0 2 2 1 false)=some (.row .full .set 1 [tN b1,tN b2]):=by
   show Zf (Un H b 0 2 1 false) (λes=>Zp (Ms 2 2 1) (some (TV.row (cond (Nat.beq 2 2) .full .Jf) .set 1 es)))=_;rw [hr]
   have:Ms 2 2 1=true:=by
    unfold Ms
    have:Nat.ble Xk 2=false:=by
     cases h:Nat.ble Xk 2 with
     |false=>rfl
     |true=>have:=Nat.le_of_ble_eq_true h;omega
    rw [this];rfl
   rw [this];rfl
  show Zf (some (TV.row .full .set 1 [tN p1,tN p2])) (λy=>Zf (Zf (inC H (.vec b 0 2 2 1 false)) λy=>Zf (some []) λl=>some (y::l)) λl=>some (y::l))=_;rw [hv];rfl
 exact Yc hi rfl (zy d 0 (xs:=[p1,p2]) (ys:=[b1,b2]) (λ_=>rfl) (λ_=>rfl) (by simp)) rfl
theorem Zr7 (d Zh:Nat) {w h n m:Nat} {c c':Cp} {sp:List Nat} {bl:List (Nat×Nat)} {H:TH} (ok:Kd w h sp) (hn:sp≠[]->n=1) (Oc:Zh<=Zb H) (hm:bl≠[]->m=2) (Pq:bl.length < 90000) (hsm:∀ b∈bl,b.1 < 1000000/\b.2 < 1000000) :
  tc (d+4) Zh 111 [tS w h c n sp,.row c' .set m (bl.map tQ)] H =
   some (.Xh [.agg (J3 w h sp),tU (Mj w (w * h) (Qs w h sp) bl none 0).2,tN (Mj w (w * h) (Qs w h sp) bl none 0).1],H):=by
 rw [Y4 (F:=F111) (by kernel_rfl)]
 have Ca:=ok.Ca;have w8:=ok.w8;have w1:=ok.w1;obtain ⟨A,hA⟩:∃ A:Kc,A=.cells [tN w,tN h,.row c .set n (sp.map tN)]:=⟨_,rfl⟩;obtain ⟨gd,qo⟩:∃ gd,gd=Qs w h sp:=⟨_,rfl⟩
 have uq:gd < 65536:=by
  rw [qo];have:2 ^ (w * h)<=2 ^ 16:=Nat.pow_le_pow_right (by decide) Ca
  have p1:0 < 2 ^ (w * h):=Nat.pow_pos (by decide)
  exact Aj _ _ (by
              show 2 ^ (w * h) - 1 < 65536;have:(2:Nat) ^ 16=65536:=rfl;omega)
 obtain ⟨Zq,Kt⟩:∃ Zq,Zq=Ke w gd (w * h):=⟨_,rfl⟩;have G4:Zq.length=16:=by rw [Kt];exact V5 ..
 have hpt:J3 w h sp=Qz w h gd Zq:=by unfold J3;rw [<- qo,<- Kt]
 obtain ⟨res,ae⟩:∃ res,res=Mj w (w * h) gd bl none 0:=⟨_,rfl⟩;have Ns:(Qz w h gd Zq).length=19:=by rw [Ue,G4]
 have key:Qg (C111 (tc (d+3)) Zh (Zb H) (tS w h c n sp,.row c' .set m (bl.map tQ),Zk,Zk,Zk,Zk,Zk,Zk,Zk,Zk,Zk,Zk,Zk,Zk,Zk,Zk,Zk,Zk,Zk,Zk,Zk,Zk,Zk,Zk,()) H)
   λe S H1=>e=.ret/\S.2.2.2.1=.ptr (Zb H+1) 0/\S.2.2.2.2.1=tU res.2/\S.2.2.2.2.2.1=tN res.1/\H1[Zb H+1]? = some (.cells (Qz w h gd Zq))/\X7 H1 (Zb H)=H:=by
  obtain ⟨B1,ju⟩:∃ B1,B1=Zv (Zv H A) (.cells Xf):=⟨_,rfl⟩;have hb0:B1[Zb H]? = some A:=by rw [ju];exact Qm Qf
  have hl1:Zb B1=Zb H+1+1:=by rw [ju,Qd,Qd]
  rw [hA] at hb0;have lA:∀ {β:Type} (k:TV->TH->Option β),loadT .Xi Zh (Zb H) true 3 B1 (.ptr (Zb H) 0) k=k (tS w h c n sp) B1:=λk=>Xw hb0 (by simp) rfl
  obtain ⟨B,hB⟩:∃ B,B=h3 H A (.cells Xf) (Qz w h gd Zq):=⟨_,rfl⟩
  have st:storeT Zh (Zb H) 19 (Zv B1 (.cells Xf)) (.ptr (Zb H+1+1) 0) (.agg (Qz w h gd Zq))=some B:=by
   have hx:(Zv B1 (.cells Xf))[Zb H+1+1]? = some (.cells Xf):=by rw [<- hl1];exact Qf
   rw [Qy (off:=0) (n:=19) (x:=.agg (Qz w h gd Zq)) hx (by omega) (Jn ..) (.inr (by omega)) (by rw [Yb,Ns]) (by decide),Yb,Kr (by rw [Ns];rfl),hB,ju]
   exact congrArg some Ai
  have hcs:P8 H A (Qz w h gd Zq) B:=by
   rw [hB];refine ⟨h3_a,⟨_,h3_z,rfl⟩,qp,a9,?_⟩;unfold h3;rw [Qd,Qd,Qd];omega
  have tj:∀ {β:Type} (md:Ld) {H1:TH} (_:P8 H A (Qz w h gd Zq) H1) (k:TV->TH->Option β),loadT md Zh (Zb H) false 1 H1 (.ptr (Zb H+1+1) (0+0)) k=k (tN w) H1:=λ{β} md {H1} s k=>Zx s.x (B7 ..) rfl rfl;have lh0:∀ {β:Type} (md:Ld) {H1:TH} (_:P8 H A (Qz w h gd Zq) H1) (k:TV->TH->Option β),loadT md Zh (Zb H) false 1 H1 (.ptr (Zb H+1+1) (0+1)) k=k (tN h) H1:=λ{β} md {H1} s k=>Zx s.x (di ..) rfl rfl;have ft:∀ {β:Type} (md:Ld) {H1:TH} (_:P8 H A (Qz w h gd Zq) H1) (k:TV->TH->Option β),loadT md Zh (Zb H) false 1 H1 (.ptr (Zb H+1+1) (0+2)) k=k (tU gd) H1:=λ{β} md {H1} s k=>Zx s.x (Tg ..) rfl rfl
  have eo:∀ {β:Type} {H1:TH} (_:P8 H A (Qz w h gd Zq) H1) (k:TV->TH->Option β),loadT .settle Zh (Zb H) true 19 H1 (.ptr (Zb H+1+1) 0) k=k (.agg (Qz w h gd Zq)) H1:=λ{β} {H1} s k=>by
   rw [Xw s.x (by omega) (by rw [List.drop_zero,List.take_of_length_le (by omega)];exact F2 ..),List.drop_zero,List.take_of_length_le (by omega)]
  have sp0:∀ {H1:TH} (_:P8 H A (Qz w h gd Zq) H1),∃ H2,storeT Zh (Zb H) 19 H1 (.ptr (Zb H+1) 0) (.agg (Qz w h gd Zq))=some H2/\H2[Zb H+1]? = some (.cells (Qz w h gd Zq))/\X7 H2 (Zb H)=H:=λ{H1} s=>by
   obtain ⟨Z,hz,hzl⟩:=s.z;refine ⟨_,by rw [Qy (off:=0) (n:=19) (x:=.agg (Qz w h gd Zq)) hz (by omega) (Jn ..) (.inr (by omega)) (by rw [Yb,Ns]) (by omega),Yb,Kr (by rw [Ns,hzl])],Jv hz,take_set s.t (by omega)⟩
  have k6:Y2 (.int .i64 (.ofNat w)) (.int .i64 (.ofNat h))=some (.int .i64 (.ofNat (w * h))):=M7 (by omega)
  have Us:Yu (tS w h c n sp)=true:=by cases c <;> rfl
  simp only [C111,VV,<- hA,Qd,<- ju,lA,Bb (d+1) ok hn,hpt,Xz,hl1,st,show Qn (.ofNat 0) (.ofNat 0)=true from rfl,Bool.not_true,tj _ hcs,lh0 _ hcs,k6,Zz (bl.map tQ),List.length_map]
  refine Qg.sq (Q1:=λe S H1=>(e=.normal/\P8 H A (Qz w h gd Zq) H1/\S.2.2.2.1=.ptr (Zb H+1) 0/\S.2.2.2.2.2.2.1=.ptr (Zb H+1+1) 0/\res.1=0/\S.2.2.2.2.2.2.2.2.1=tU res.2)\/(e=.ret/\S.2.2.2.1=.ptr (Zb H+1) 0/\S.2.2.2.2.1=tU res.2/\S.2.2.2.2.2.1=tN res.1/\H1[Zb H+1]? = some (.cells (Qz w h gd Zq))/\X7 H1 (Zb H)=H))
   (Qg.bl (Q1:=λe S H1=>(e=.exit 0/\P8 H A (Qz w h gd Zq) H1/\S.2.2.2.1=.ptr (Zb H+1) 0/\S.2.2.2.2.2.2.1=.ptr (Zb H+1+1) 0/\res.1=0/\S.2.2.2.2.2.2.2.2.1=tU res.2)\/(e=.ret/\S.2.2.2.1=.ptr (Zb H+1) 0/\S.2.2.2.2.1=tU res.2/\S.2.2.2.2.2.1=tN res.1/\H1[Zb H+1]? = some (.cells (Qz w h gd Zq))/\X7 H1 (Zb H)=H)) ?_ ?_ ?_ ?_) ?_ ?_ ?_
  ·refine Qg.loop (λk S H1=>∃ j used prev,P8 H A (Qz w h gd Zq) H1/\S.2.1=.row c' .set m (bl.map tQ)/\S.2.2.2.1=.ptr (Zb H+1) 0/\S.2.2.2.2.2.2.1=.ptr (Zb H+1+1) 0/\S.2.2.2.2.2.2.2.2.1=tU used/\S.2.2.2.2.2.2.2.2.2.1=tN (w * h)/\S.2.2.2.2.2.2.2.2.2.2.2.2.2.2.2.1=.row c' .set m (bl.map tQ)/\S.2.2.2.2.2.2.2.2.2.2.2.2.2.2.2.2.1=tN bl.length/\S.2.2.2.2.2.2.2.2.2.2.2.2.2.2.2.2.2.1=tN j /\
     j<=bl.length/\k=bl.length - j/\used < 65536/\prev=(if j=0 then none else bl[j - 1]?)/\res=Mj w (w * h) gd (bl.drop j) prev used) ?_ fuel bl.length _ _ (by rw [Yg];omega)
    ⟨0,0,none,hcs,rfl,rfl,rfl,rfl,rfl,rfl,rfl,rfl,Nat.zero_le _,rfl,by decide,rfl,ae⟩
   rintro k S H1 ⟨j,used,prev,cs,e1,e3,e6,e8,e9,og,oe,zw,hj,rfl,hused,hprev,Qx⟩;rcases Nat.eq_or_lt_of_le hj with hj |hj
   ·rw [hj,List.drop_length] at Qx;have Qx:res=(0,used):=Qx;simp only [VV,e1,e3,e6,e8,e9,og,oe,zw,Ql,Kf (Nat.le_of_eq hj.symm)];exact .fin (.inr ⟨by simp,.inl ⟨rfl,cs,rfl,rfl,by rw [Qx],by rw [Qx]⟩⟩)
   ·have hm1:=hm (by intro h0;rw [h0] at hj;simp at hj)
    subst hm1;obtain ⟨b,hb⟩:∃ b,b=bl[j]:=⟨_,rfl⟩;have hbm:=hsm b (by rw [hb];exact List.getElem_mem hj)
    rw [List.drop_eq_getElem_cons hj,<- hb] at Qx;have Qx:res=cond (Nat.beq (Il w (w * h) gd prev b used) 0) (Mj w (w * h) gd (bl.drop (j+1)) (some b) (Nat.lor used (Wa b))) (Il w (w * h) gd prev b used,0):=Qx;have J8:(bl.map tQ)[j]? = some (tQ b):=by rw [List.getElem?_map,List.getElem?_eq_getElem hj,hb];rfl
    obtain ⟨D,hD⟩:∃ D,D=Zv H1 (.cells [tN b.1,tN b.2]):=⟨_,rfl⟩;have cD:P8 H A (Qz w h gd Zq) D:=by rw [hD];exact cs.push _
    have hDb:D[Zb H1]? = some (.cells [tN b.1,tN b.2]):=by rw [hD];exact Qf
    have sb:storeT Zh (Zb H) 2 (Zv H1 (.cells Vy)) (.ptr (Zb H1) 0) (.agg [tN b.1,tN b.2])=some D:=by
     have hl:=cs.l;rw [Qy (off:=0) (n:=2) (x:=.agg [tN b.1,tN b.2]) Qf (by omega) rfl (.inl rfl) rfl (by decide),Yb,Kr (cs:=Vy) (xs:=[tN b.1,tN b.2]) rfl,Wv,hD]
    have l1:∀ {β:Type} (k:TV->TH->Option β),loadT .Xi Zh (Zb H) false 1 D (.ptr (Zb H1) (0+0 * 1)) k=k (tN b.1) D:=λk=>Zx hDb rfl rfl rfl;have l2:∀ {β:Type} (k:TV->TH->Option β),loadT .Xi Zh (Zb H) false 1 D (.ptr (Zb H1) (0+1 * 1)) k=k (tN b.2) D:=λk=>Zx hDb rfl rfl rfl;have i0:Qt 2 1 (.ptr (Zb H1) 0) (tN 0)=some (.ptr (Zb H1) (0+0 * 1)):=rfl;have i1:Qt 2 1 (.ptr (Zb H1) 0) (tN 1)=some (.ptr (Zb H1) (0+1 * 1)):=rfl
    have x1:Qq (.int .i64 (.ofNat b.2)) (.int .i64 (.ofNat b.1))=some (.int .i64 (Int.ofNat b.2 - Int.ofNat b.1)):=yf (by
     unfold I64;have h1:=hbm.1;have h2:=hbm.2;constructor
     ·show (-9223372036854775808:Int)<=((b.2:Nat):Int) - ((b.1:Nat):Int);omega
     ·show ((b.2:Nat):Int) - ((b.1:Nat):Int) < 9223372036854775808;omega)
    obtain ⟨x,hx⟩:∃ x,x=Int.ofNat b.2 - Int.ofNat b.1:=⟨_,rfl⟩;have m3:Xg (.int .i64 (.ofNat (Eh b.1 b.2))) (.int .i64 (.ofNat 0))=some (.bool false):=by rw [Ql,Kf (Nat.zero_le _)]
    have m4:K0 (.int .i64 (.ofNat (Hb b.1 b.2))) (.int .i64 (.ofNat (w * h)))=some (.bool (!Nat.blt (Hb b.1 b.2) (w * h))):=Hq ..;have m5:Y1 (.int .i64 (.ofNat b.2)) (.int .i64 (.ofNat w))=some (.int .i64 (.ofNat (b.2 % w))):=Gu w1;have m6:Vt (.int .i64 (.ofNat j)) (.int .i64 (.ofNat 0))=some (.bool (Nat.blt 0 j)):=Gg ..;have a3:Z0 (.int .i64 (.ofNat j)) (.int .i64 (.ofNat 1))=some (.int .i64 (.ofNat (j+1))):=X9 (by omega)
    obtain ⟨H2,s1,s2,s3⟩:=sp0 cD;have err:∀ (code:Nat),Il w (w * h) gd prev b used=code->Nat.beq code 0=false->res=(code,0):=λcode h1 h2=>by rw [Qx,h1,h2];rfl
    rw [<- hx] at x1;have jl:Dy w b=cond (Qn x (.ofNat w)) false (cond (Qn x (.ofNat 1)) (Qn (.ofNat (b.2 % w)) (.ofNat 0)) true):=by unfold Dy;rw [<- hx]
    cases r1:Nat.blt (Hb b.1 b.2) (w * h) with
    |false=>
     have he:=err 2 (by unfold Il;rw [r1];rfl) rfl
     simp only [VV,e1,e3,e6,e8,e9,og,oe,zw,Ql,Xo hj,Qe J8,sb,l1,l2,i0,i1,x1,X5,Yr,J6,m3,m4,r1,Bool.not_false,eo cD,s1];exact .fin (.inr ⟨by simp,.inr ⟨rfl,rfl,by rw [he],by rw [he],s2,s3⟩⟩)
    |true=>
     rw [Nat.blt_eq] at r1;have hb1:b.1 < 16:=by have:=(Zg0 (a:=b.1) (b:=b.2)).1;omega
     have w7:b.2 < 16:=by have:=(Zg0 (a:=b.1) (b:=b.2)).2;omega
     have r1:Nat.blt (Hb b.1 b.2) (w * h)=true:=by rw [Nat.blt_eq];exact r1
     have p1:=fq hb1;have p2:=fq w7;have z1:Y8 (.int .u64 (.ofNat 1)) (.int .i64 (.ofNat b.1))=some (.int .u64 (.ofNat (2 ^ b.1))):=by rw [Mz (by omega) (by rw [Nat.one_mul];omega),Nat.one_mul]
     have z2:Y8 (.int .u64 (.ofNat 1)) (.int .i64 (.ofNat b.2))=some (.int .u64 (.ofNat (2 ^ b.2))):=by rw [Mz (by omega) (by rw [Nat.one_mul];omega),Nat.one_mul]
     have Ut:Wa b < 65536:=Nat.or_lt_two_pow (n:=16) p1 p2;have z3:Ep (.int .u64 (.ofNat (2 ^ b.1))) (.int .u64 (.ofNat (2 ^ b.2)))=some (.int .u64 (.ofNat (Wa b))):=uh (by omega) (by omega)
     have z4:Y6 (.int .u64 (.ofNat (Wa b))) (.int .u64 (.ofNat gd))=some (.int .u64 (.ofNat (Iu (Wa b) gd))):=P3 (by omega) (by omega)
     have z5:Km (.int .u64 (.ofNat (Wa b))) (.int .u64 (.ofNat used))=some (.int .u64 (.ofNat (Nat.land (Wa b) used))):=Cl (by omega) (by omega)
     have z6:Ep (.int .u64 (.ofNat used)) (.int .u64 (.ofNat (Wa b)))=some (.int .u64 (.ofNat (Nat.lor used (Wa b)))):=uh (by omega) (by omega)
     have husd:Nat.lor used (Wa b) < 65536:=Nat.or_lt_two_pow (n:=16) hused Ut
     have good:Dy w b=false->Ol prev b=false->Qn (.ofNat (Iu (Wa b) gd)) (.ofNat 0)=true->Qn (.ofNat (Nat.land (Wa b) used)) (.ofNat 0)=true->res=Mj w (w * h) gd (bl.drop (j+1)) (some b) (Nat.lor used (Wa b)):=λq1 q2 q3 q4=>by
      have:Il w (w * h) gd prev b used=0:=by unfold Il;rw [r1,q1,q2,q3,q4];rfl
      rw [Qx,this];rfl
     have hnp:some b=(if j+1=0 then none else bl[j+1 - 1]?):=by rw [if_neg (by omega),Nat.add_sub_cancel,List.getElem?_eq_getElem hj,hb]
     rcases Nat.eq_zero_or_pos j with hz |hz
     ·have hp0:prev=none:=by rw [hprev,if_pos hz]
      have ak:Nat.blt 0 j=false:=Kf (by omega)
      cases q1:Qn x (.ofNat w) with
      |true=>
       have hs:Dy w b=false:=by rw [jl,q1];rfl
       have ho:Ol prev b=false:=by rw [hp0];rfl
       cases hc:Qn (.ofNat (Iu (Wa b) gd)) (.ofNat 0) with
       |false=>
        have he:=err 13 (by unfold Il;rw [r1,hs,ho,hc];rfl) rfl
        simp only [VV,e1,e3,e6,e8,e9,og,oe,zw,Ql,Xo hj,Qe J8,sb,l1,l2,i0,i1,x1,X5,Yr,J6,m3,m4,m5,m6,a3,r1,Bool.not_false,Bool.not_true,eo cD,s1,tj _ cD,ft _ cD,z1,z2,z3,z4,z5,z6,q1,ak,hc];exact .fin (.inr ⟨by simp,.inr ⟨rfl,rfl,by rw [he],by rw [he],s2,s3⟩⟩)
       |true=>
        cases ht:Qn (.ofNat (Nat.land (Wa b) used)) (.ofNat 0) with
        |false=>
         have he:=err 6 (by unfold Il;rw [r1,hs,ho,hc,ht];rfl) rfl
         simp only [VV,e1,e3,e6,e8,e9,og,oe,zw,Ql,Xo hj,Qe J8,sb,l1,l2,i0,i1,x1,X5,Yr,J6,m3,m4,m5,m6,a3,r1,Bool.not_false,Bool.not_true,eo cD,s1,tj _ cD,ft _ cD,z1,z2,z3,z4,z5,z6,q1,ak,hc,ht];exact .fin (.inr ⟨by simp,.inr ⟨rfl,rfl,by rw [he],by rw [he],s2,s3⟩⟩)
        |true=>
         have he:=good hs ho hc ht;simp only [VV,e1,e3,e6,e8,e9,og,oe,zw,Ql,Xo hj,Qe J8,sb,l1,l2,i0,i1,x1,X5,Yr,J6,m3,m4,m5,m6,a3,r1,Bool.not_false,Bool.not_true,eo cD,s1,tj _ cD,ft _ cD,z1,z2,z3,z4,z5,z6,q1,ak,hc,ht];exact .fin (.inl ⟨rfl,bl.length - (j+1),by omega,j+1,Nat.lor used (Wa b),some b,cD,rfl,rfl,rfl,rfl,rfl,rfl,rfl,rfl,hj,rfl,husd,hnp,he⟩)
      |false=>
       cases q2:Qn x (.ofNat 1) with
       |false=>
        have hs:Dy w b=true:=by rw [jl,q1,q2];rfl
        have he:=err 5 (by unfold Il;rw [r1,hs];rfl) rfl
        simp only [VV,e1,e3,e6,e8,e9,og,oe,zw,Ql,Xo hj,Qe J8,sb,l1,l2,i0,i1,x1,X5,Yr,J6,m3,m4,m5,m6,a3,r1,Bool.not_false,Bool.not_true,eo cD,s1,tj _ cD,ft _ cD,z1,z2,z3,z4,z5,z6,q1,q2];exact .fin (.inr ⟨by simp,.inr ⟨rfl,rfl,by rw [he],by rw [he],s2,s3⟩⟩)
       |true=>
        cases q3:Qn (.ofNat (b.2 % w)) (.ofNat 0) with
        |true=>
         have hs:Dy w b=true:=by rw [jl,q1,q2,q3];rfl
         have he:=err 5 (by unfold Il;rw [r1,hs];rfl) rfl
         simp only [VV,e1,e3,e6,e8,e9,og,oe,zw,Ql,Xo hj,Qe J8,sb,l1,l2,i0,i1,x1,X5,Yr,J6,m3,m4,m5,m6,a3,r1,Bool.not_false,Bool.not_true,eo cD,s1,tj _ cD,ft _ cD,z1,z2,z3,z4,z5,z6,q1,q2,q3];exact .fin (.inr ⟨by simp,.inr ⟨rfl,rfl,by rw [he],by rw [he],s2,s3⟩⟩)
        |false=>
         have hs:Dy w b=false:=by rw [jl,q1,q2,q3];rfl
         have ho:Ol prev b=false:=by rw [hp0];rfl
         cases hc:Qn (.ofNat (Iu (Wa b) gd)) (.ofNat 0) with
         |false=>
          have he:=err 13 (by unfold Il;rw [r1,hs,ho,hc];rfl) rfl
          simp only [VV,e1,e3,e6,e8,e9,og,oe,zw,Ql,Xo hj,Qe J8,sb,l1,l2,i0,i1,x1,X5,Yr,J6,m3,m4,m5,m6,a3,r1,Bool.not_false,Bool.not_true,eo cD,s1,tj _ cD,ft _ cD,z1,z2,z3,z4,z5,z6,q1,q2,q3,ak,hc];exact .fin (.inr ⟨by simp,.inr ⟨rfl,rfl,by rw [he],by rw [he],s2,s3⟩⟩)
         |true=>
          cases ht:Qn (.ofNat (Nat.land (Wa b) used)) (.ofNat 0) with
          |false=>
           have he:=err 6 (by unfold Il;rw [r1,hs,ho,hc,ht];rfl) rfl
           simp only [VV,e1,e3,e6,e8,e9,og,oe,zw,Ql,Xo hj,Qe J8,sb,l1,l2,i0,i1,x1,X5,Yr,J6,m3,m4,m5,m6,a3,r1,Bool.not_false,Bool.not_true,eo cD,s1,tj _ cD,ft _ cD,z1,z2,z3,z4,z5,z6,q1,q2,q3,ak,hc,ht];exact .fin (.inr ⟨by simp,.inr ⟨rfl,rfl,by rw [he],by rw [he],s2,s3⟩⟩)
          |true=>
           have he:=good hs ho hc ht;simp only [VV,e1,e3,e6,e8,e9,og,oe,zw,Ql,Xo hj,Qe J8,sb,l1,l2,i0,i1,x1,X5,Yr,J6,m3,m4,m5,m6,a3,r1,Bool.not_false,Bool.not_true,eo cD,s1,tj _ cD,ft _ cD,z1,z2,z3,z4,z5,z6,q1,q2,q3,ak,hc,ht];exact .fin (.inl ⟨rfl,bl.length - (j+1),by omega,j+1,Nat.lor used (Wa b),some b,cD,rfl,rfl,rfl,rfl,rfl,rfl,rfl,rfl,hj,rfl,husd,hnp,he⟩)
     ·obtain ⟨p,hp⟩:∃ p,bl[j - 1]? = some p:=⟨_,List.getElem?_eq_getElem (by omega)⟩
      have hp0:prev=some p:=by rw [hprev,if_neg (by omega),hp]
      have ak:Nat.blt 0 j=true:=by rw [Nat.blt_eq];exact hz
      have hsb:Qq (.int .i64 (.ofNat j)) (.int .i64 (.ofNat 1))=some (.int .i64 (.ofNat (j - 1))):=Uc hz (by omega)
      have hip:Qh 2 (.row c' .set 2 (bl.map tQ)) (.v (.int .i64 (.ofNat (j - 1))))=some (.el .set [tN p.1,tN p.2] 0):=Qe (e:=tQ p) (by rw [List.getElem?_map,hp];rfl)
      have Zbt:Zm (tc (d+3)) 78 [.row .full .set 1 [tN p.1,tN p.2],.vec (Zb H1) 0 2 2 1 false] D=some (tI (I2 [p.1,p.2] [b.1,b.2])):=Zr9 d hDb;have hge:K0 (.int .i64 (I2 [p.1,p.2] [b.1,b.2])) (.int .i64 (.ofNat 0))=some (.bool (decide (0<=I2 [p.1,p.2] [b.1,b.2]))):=Zo3 ..;cases q1:Qn x (.ofNat w) with
      |true=>
       have hs:Dy w b=false:=by rw [jl,q1];rfl
       cases hd:decide (0<=I2 [p.1,p.2] [b.1,b.2]) with
       |true=>
        have ho:Ol prev b=true:=by rw [hp0];exact hd
        have he:=err 7 (by unfold Il;rw [r1,hs,ho];rfl) rfl
        simp only [VV,e1,e3,e6,e8,e9,og,oe,zw,Ql,Xo hj,Qe J8,sb,l1,l2,i0,i1,x1,X5,Yr,J6,m3,m4,m5,m6,a3,r1,Bool.not_false,Bool.not_true,eo cD,s1,tj _ cD,ft _ cD,z1,z2,z3,z4,z5,z6,q1,ak,hip,hsb,Dp,Wl,show vh .set=.set from rfl,Zbt,hge,hd];exact .fin (.inr ⟨by simp,.inr ⟨rfl,rfl,by rw [he],by rw [he],s2,s3⟩⟩)
       |false=>
        have ho:Ol prev b=false:=by rw [hp0];exact hd
        cases hc:Qn (.ofNat (Iu (Wa b) gd)) (.ofNat 0) with
        |false=>
         have he:=err 13 (by unfold Il;rw [r1,hs,ho,hc];rfl) rfl
         simp only [VV,e1,e3,e6,e8,e9,og,oe,zw,Ql,Xo hj,Qe J8,sb,l1,l2,i0,i1,x1,X5,Yr,J6,m3,m4,m5,m6,a3,r1,Bool.not_false,Bool.not_true,eo cD,s1,tj _ cD,ft _ cD,z1,z2,z3,z4,z5,z6,q1,ak,hip,hsb,Dp,Wl,show vh .set=.set from rfl,Zbt,hge,hd,hc];exact .fin (.inr ⟨by simp,.inr ⟨rfl,rfl,by rw [he],by rw [he],s2,s3⟩⟩)
        |true=>
         cases ht:Qn (.ofNat (Nat.land (Wa b) used)) (.ofNat 0) with
         |false=>
          have he:=err 6 (by unfold Il;rw [r1,hs,ho,hc,ht];rfl) rfl
          simp only [VV,e1,e3,e6,e8,e9,og,oe,zw,Ql,Xo hj,Qe J8,sb,l1,l2,i0,i1,x1,X5,Yr,J6,m3,m4,m5,m6,a3,r1,Bool.not_false,Bool.not_true,eo cD,s1,tj _ cD,ft _ cD,z1,z2,z3,z4,z5,z6,q1,ak,hip,hsb,Dp,Wl,show vh .set=.set from rfl,Zbt,hge,hd,hc,ht];exact .fin (.inr ⟨by simp,.inr ⟨rfl,rfl,by rw [he],by rw [he],s2,s3⟩⟩)
         |true=>
          have he:=good hs ho hc ht;simp only [VV,e1,e3,e6,e8,e9,og,oe,zw,Ql,Xo hj,Qe J8,sb,l1,l2,i0,i1,x1,X5,Yr,J6,m3,m4,m5,m6,a3,r1,Bool.not_false,Bool.not_true,eo cD,s1,tj _ cD,ft _ cD,z1,z2,z3,z4,z5,z6,q1,ak,hip,hsb,Dp,Wl,show vh .set=.set from rfl,Zbt,hge,hd,hc,ht];exact .fin (.inl ⟨rfl,bl.length - (j+1),by omega,j+1,Nat.lor used (Wa b),some b,cD,rfl,rfl,rfl,rfl,rfl,rfl,rfl,rfl,hj,rfl,husd,hnp,he⟩)
      |false=>
       cases q2:Qn x (.ofNat 1) with
       |false=>
        have hs:Dy w b=true:=by rw [jl,q1,q2];rfl
        have he:=err 5 (by unfold Il;rw [r1,hs];rfl) rfl
        simp only [VV,e1,e3,e6,e8,e9,og,oe,zw,Ql,Xo hj,Qe J8,sb,l1,l2,i0,i1,x1,X5,Yr,J6,m3,m4,m5,m6,a3,r1,Bool.not_false,Bool.not_true,eo cD,s1,tj _ cD,ft _ cD,z1,z2,z3,z4,z5,z6,q1,q2];exact .fin (.inr ⟨by simp,.inr ⟨rfl,rfl,by rw [he],by rw [he],s2,s3⟩⟩)
       |true=>
        cases q3:Qn (.ofNat (b.2 % w)) (.ofNat 0) with
        |true=>
         have hs:Dy w b=true:=by rw [jl,q1,q2,q3];rfl
         have he:=err 5 (by unfold Il;rw [r1,hs];rfl) rfl
         simp only [VV,e1,e3,e6,e8,e9,og,oe,zw,Ql,Xo hj,Qe J8,sb,l1,l2,i0,i1,x1,X5,Yr,J6,m3,m4,m5,m6,a3,r1,Bool.not_false,Bool.not_true,eo cD,s1,tj _ cD,ft _ cD,z1,z2,z3,z4,z5,z6,q1,q2,q3];exact .fin (.inr ⟨by simp,.inr ⟨rfl,rfl,by rw [he],by rw [he],s2,s3⟩⟩)
        |false=>
         have hs:Dy w b=false:=by rw [jl,q1,q2,q3];rfl
         cases hd:decide (0<=I2 [p.1,p.2] [b.1,b.2]) with
         |true=>
          have ho:Ol prev b=true:=by rw [hp0];exact hd
          have he:=err 7 (by unfold Il;rw [r1,hs,ho];rfl) rfl
          simp only [VV,e1,e3,e6,e8,e9,og,oe,zw,Ql,Xo hj,Qe J8,sb,l1,l2,i0,i1,x1,X5,Yr,J6,m3,m4,m5,m6,a3,r1,Bool.not_false,Bool.not_true,eo cD,s1,tj _ cD,ft _ cD,z1,z2,z3,z4,z5,z6,q1,q2,q3,ak,hip,hsb,Dp,Wl,show vh .set=.set from rfl,Zbt,hge,hd];exact .fin (.inr ⟨by simp,.inr ⟨rfl,rfl,by rw [he],by rw [he],s2,s3⟩⟩)
         |false=>
          have ho:Ol prev b=false:=by rw [hp0];exact hd
          cases hc:Qn (.ofNat (Iu (Wa b) gd)) (.ofNat 0) with
          |false=>
           have he:=err 13 (by unfold Il;rw [r1,hs,ho,hc];rfl) rfl
           simp only [VV,e1,e3,e6,e8,e9,og,oe,zw,Ql,Xo hj,Qe J8,sb,l1,l2,i0,i1,x1,X5,Yr,J6,m3,m4,m5,m6,a3,r1,Bool.not_false,Bool.not_true,eo cD,s1,tj _ cD,ft _ cD,z1,z2,z3,z4,z5,z6,q1,q2,q3,ak,hip,hsb,Dp,Wl,show vh .set=.set from rfl,Zbt,hge,hd,hc];exact .fin (.inr ⟨by simp,.inr ⟨rfl,rfl,by rw [he],by rw [he],s2,s3⟩⟩)
          |true=>
           cases ht:Qn (.ofNat (Nat.land (Wa b) used)) (.ofNat 0) with
           |false=>
            have he:=err 6 (by unfold Il;rw [r1,hs,ho,hc,ht];rfl) rfl
            simp only [VV,e1,e3,e6,e8,e9,og,oe,zw,Ql,Xo hj,Qe J8,sb,l1,l2,i0,i1,x1,X5,Yr,J6,m3,m4,m5,m6,a3,r1,Bool.not_false,Bool.not_true,eo cD,s1,tj _ cD,ft _ cD,z1,z2,z3,z4,z5,z6,q1,q2,q3,ak,hip,hsb,Dp,Wl,show vh .set=.set from rfl,Zbt,hge,hd,hc,ht];exact .fin (.inr ⟨by simp,.inr ⟨rfl,rfl,by rw [he],by rw [he],s2,s3⟩⟩)
           |true=>
            have he:=good hs ho hc ht;simp only [VV,e1,e3,e6,e8,e9,og,oe,zw,Ql,Xo hj,Qe J8,sb,l1,l2,i0,i1,x1,X5,Yr,J6,m3,m4,m5,m6,a3,r1,Bool.not_false,Bool.not_true,eo cD,s1,tj _ cD,ft _ cD,z1,z2,z3,z4,z5,z6,q1,q2,q3,ak,hip,hsb,Dp,Wl,show vh .set=.set from rfl,Zbt,hge,hd,hc,ht];exact .fin (.inl ⟨rfl,bl.length - (j+1),by omega,j+1,Nat.lor used (Wa b),some b,cD,rfl,rfl,rfl,rfl,rfl,rfl,rfl,rfl,hj,rfl,husd,hnp,he⟩)
  ·rintro S H1 (⟨h,_⟩ |⟨h,_⟩) <;> cases h
  ·rintro i S H1 (⟨h2,h3⟩ |⟨h2,_⟩)
   ·cases h2;exact .inl ⟨rfl,h3⟩
   ·cases h2
  ·rintro S H1 (⟨h2,_⟩ |⟨_,h3⟩)
   ·cases h2
   ·exact .inr ⟨rfl,h3⟩
  ·rintro S H1 (⟨_,cs,e3,e6,r1,e8⟩ |⟨h,_⟩)
   rotate_left
   ·cases h
   obtain ⟨H2,s1,s2,s3⟩:=sp0 cs;simp only [VV,e3,e6,e8,eo cs,s1];exact .fin ⟨rfl,rfl,rfl,by rw [r1],s2,s3⟩
  ·rintro i S H1 (⟨h,_⟩ |⟨h,_⟩) <;> cases h
  ·rintro S H1 (⟨h,_⟩ |⟨_,h3⟩)
   ·cases h
   ·exact ⟨rfl,h3⟩
 obtain ⟨e,S,H1,r1,rfl,r3,r4,r5,hz,ht⟩:=key;show Za (C111 (tc (d+3)) Zh (Zb H) (tS w h c n sp,.row c' .set m (bl.map tQ),Zk,Zk,Zk,Zk,Zk,Zk,Zk,Zk,Zk,Zk,Zk,Zk,Zk,Zk,Zk,Zk,Zk,Zk,Zk,Zk,Zk,Zk,()) H) _=_;rw [r1]
 have lA:∀ {β:Type} (b:Nat) (k:TV->TH->Option β),loadT .take Zh b true 19 H1 (.ptr (Zb H+1) 0) k=k (.agg (Qz w h gd Zq)) H1:=λb k=>by
  rw [Xw hz (by omega) (by rw [List.drop_zero,List.take_of_length_le (by omega)];exact F2 ..),List.drop_zero,List.take_of_length_le (by omega)]
 simp only [VV,r3,r4,r5,lA]
 rw [Z6 (by
  show cond (Z2 Uq (Qz w h gd Zq)) true false=true;rw [dh];rfl),ht,hpt,<- qo,<- ae]
end
end Go.Proofs.YtgemobbfikjmoaaGreatDoor
namespace Go.Proofs.YtgemobbfikjmoaaGreatDoor
open Go Go.Ev
set_option maxRecDepth 100000
noncomputable section
abbrev tK (k:IntKind) (n:Nat):TV:=.v (.int k (.ofNat n))
def Zfq (th d c:Nat):Bool:=cond (El d c) (Nat.beq ((th+5 * c) % 4) 0) false
def D8 (th d:Nat):Nat->Nat->List Nat
 |0,_=>[]
 |k+1,j=>cond (Zfq th d j) (j::D8 th d k (j+1)) (D8 th d k (j+1))
def Vz (a:Nat):Nat:=1+a % 8
def Wi (K a b:Nat):Nat:=1+b % Eh 8 (K / Vz a)
def badL (K a b th d:Nat):List Nat:=D8 th d (Vz a * Wi K a b) 0
theorem vo (k:IntKind) {x:Nat} (h:x < 9223372036854775808):Ki .i64 (.int k (.ofNat x))=some (.int .i64 (.ofNat x)):=by
 show some (Value.int .i64 (Jl .i64 (.ofNat x)))=_;rw [Au (Tc h)]
theorem bit16 {d c:Nat} (hc:c<=16) (hd:d < 65536) :
  K7 (.int .u16 (.ofNat d)) (.int .i64 (.ofNat c))=some (.int .u16 (.ofNat (d / 2 ^ c)))/\Km (.int .u16 (.ofNat (d / 2 ^ c))) (.int .u16 (.ofNat 1))=some (.int .u16 (.ofNat (Nat.land (d / 2 ^ c) 1))) /\
  Qn (.ofNat (Nat.land (d / 2 ^ c) 1)) (.ofNat 1)=El d c:=by
 have h1:d / 2 ^ c < 65536:=Nat.lt_of_le_of_lt (Nat.div_le_self ..) hd;refine ⟨?_,?_,rfl⟩
 ·show some (Value.int .u16 (.ofNat (Nat.div d (Nat.pow 2 (Nat.min c 16)))))=_;have e:Nat.min c 16=c:=Nat.min_eq_left hc;rw [e];rfl
 ·show some (Value.int .u16 (Jl .u16 (.ofNat (Nat.land (d / 2 ^ c % 65536) (1 % 65536)))))=_;rw [Nat.mod_eq_of_lt h1];have e:Nat.land (d / 2 ^ c) (1 % 65536)=d / 2 ^ c % 2:=Nat.and_one_is_mod _;rw [e,Dg (k:=.u16) (show d / 2 ^ c % 2 < 65536 by omega)]
theorem o5 (th d:Nat):∀ (k j:Nat),(D8 th d k j).length<=k/\(∀ x∈D8 th d k j,j<=x/\x < j+k)/\(D8 th d k j).Pairwise (· < ·)
 |0,_=>⟨Nat.le_refl 0,λx h=>(by cases h),.nil⟩
 |k+1,j=>by
  obtain ⟨h1,h2,h3⟩:=o5 th d k (j+1);show (cond (Zfq th d j) (j::D8 th d k (j+1)) (D8 th d k (j+1))).length<=k+1/\(∀ x∈cond (Zfq th d j) (j::D8 th d k (j+1)) (D8 th d k (j+1)),j<=x/\x < j+(k+1))/\(cond (Zfq th d j) (j::D8 th d k (j+1)) (D8 th d k (j+1))).Pairwise (· < ·);cases Zfq th d j with
  |true=>
   refine ⟨Nat.succ_le_succ h1,λx hx=>?_,List.pairwise_cons.2 ⟨λx hx=>?_,h3⟩⟩
   ·rcases List.mem_cons.1 hx with rfl |hx
    ·omega
    ·have:=h2 x hx;omega
   ·have:=h2 x hx;omega
  |false=>exact ⟨Nat.le_succ_of_le h1,λx hx=>by have:=h2 x hx;omega,h3⟩
theorem Zl9 {K a b:Nat} (hK:8<=K/\K<=16):1<=Vz a/\Vz a<=8/\1<=Wi K a b/\Wi K a b<=8/\Vz a * Wi K a b<=K/\1<=Eh 8 (K / Vz a):=by
 obtain ⟨w,hw⟩:∃ w,w=Vz a:=⟨_,rfl⟩;have w8:1<=w/\w<=8:=by rw [hw];unfold Vz;omega
 have q:1<=K / w/\K / w * w<=K:=⟨by rw [Nat.le_div_iff_mul_le (by omega)];omega,Nat.div_mul_le_self ..⟩
 have mn:1<=Eh 8 (K / w)/\Eh 8 (K / w)<=K / w/\Eh 8 (K / w)<=8:=by
  unfold Eh;cases Hl:Nat.blt (K / w) 8 with
  |true=>rw [Nat.blt_eq] at Hl;show 1<=K / w/\K / w<=K / w/\K / w<=8;omega
  |false=>
   have:=M8 Hl;show 1<=8/\8<=K / w/\8<=8;omega
 have hh:Wi K a b=1+b % Eh 8 (K / w):=by unfold Wi;rw [<- hw]
 have hm:=Nat.mod_lt b (show 0 < Eh 8 (K / w) by omega)
 rw [<- hw];refine ⟨w8.1,w8.2,by omega,by omega,?_,mn.1⟩
 rw [Nat.mul_comm];exact Nat.le_trans (Nat.mul_le_mul_right w (show Wi K a b<=K / w by omega)) q.2
theorem Zg1 {K a b th d:Nat} (hK:8<=K/\K<=16):Kd (Vz a) (Wi K a b) (badL K a b th d):=by
 obtain ⟨h1,h2,h3,h4,h5,_⟩:=Zl9 (a:=a) (b:=b) hK;obtain ⟨_,k2,k3⟩:=o5 th d (Vz a * Wi K a b) 0;exact ⟨h1,h2,h3,h4,by omega,λx hx=>by have:=k2 x hx;omega,k3⟩
theorem Zlm {β:Type} {Zh base b:Nat} {H:TH} {x y:TV} {pre:List Nat} {v:Nat} (hb:H[b]? = some (.cells [x,y,Xj 3 1 (pre.map tN)])) (ht:Zh<=b) (Hl:base<=b) (hl:pre.length < 80000) (k:TH->Option β) :
  (loadT .take Zh base false 1 H (.ptr b (0+2)) λt H1=>X6 Zh H1 3 1 8 t (.row .full (.own 3) 1 [tN v]) λt2 H2=>Za (storeT Zh base 1 H2 (.ptr b (0+2)) t2) k)=k (H.set b (.cells [x,y,Xj 3 1 ((pre++[v]).map tN)])):=by
 have key:∀ (H1:TH) (z:TV),H1[b]? = some (.cells [x,y,z])->H1.set b (.cells [x,y,Xj 3 1 ((pre++[v]).map tN)])=H.set b (.cells [x,y,Xj 3 1 ((pre++[v]).map tN)]) ->
   (X6 Zh H1 3 1 8 (Xj 3 1 (pre.map tN)) (.row .full (.own 3) 1 [tN v]) λt2 H2=>Za (storeT Zh base 1 H2 (.ptr b (0+2)) t2) k)=k (H.set b (.cells [x,y,Xj 3 1 ((pre++[v]).map tN)])):=λH1 z h1 h2=>by
  rw [Et (dc (by rw [List.length_map];omega))]
  have e:pre.map tN++[tN v]=(pre++[v]).map tN:=by rw [List.map_append];rfl
  rw [e,Qy (n:=1) (off:=0+2) (x:=Xj 3 1 ((pre++[v]).map tN)) h1 ht yg (.inr Hl) (by rw [Io];rfl) (by simp),Io,<- h2]
  rfl
 cases pre with
 |nil=>
  have hx:[x,y,Xj 3 1 (([]:List Nat).map tN)][0+2]? = some (.row .nil .set 0 []):=rfl;rw [Zx hb hx rfl rfl];exact key H _ hb rfl
 |cons p l=>
  have e:(loadT .take Zh base false 1 H (.ptr b (0+2)) λt H1=>X6 Zh H1 3 1 8 t (.row .full (.own 3) 1 [tN v]) λt2 H2=>Za (storeT Zh base 1 H2 (.ptr b (0+2)) t2) k) =
    (X6 Zh (H.set b (.cells [x,y,Zk])) 3 1 8 (Xj 3 1 ((p::l).map tN)) (.row .full (.own 3) 1 [tN v]) λt2 H2=>Za (storeT Zh base 1 H2 (.ptr b (0+2)) t2) k):=by
   show K1 (Yx H b λcs=>Zf (nth cs 2) λz=>Mc .take Zh base H b cs 2 z Qr) _=_;unfold Yx;rw [Xq,hb];show K1 (Zp (Nat.ble Zh b) (Qr (Xj 3 1 ((p::l).map tN)) (Kg H b (.cells [x,y,Zk])))) _=_;rw [Nat.ble_eq_true_of_le ht,M3 hb];rfl
  rw [e];exact key _ Zk (Jv hb) (List.set_set ..)
theorem Znt (call:Z3) (Zh:Nat) {K a b th dd:Nat} {H:TH} (hK:8<=K/\K<=16) (ha:a < 256) (hb:b < 256) (xr:th < 256) (hd:dd < 65536) (Oc:Zh<=Zb H) :
  F54 call Zh [.agg [tK .u8 a,tK .u8 b,tK .u8 th,tK .u16 dd],tN K] H=some (.agg [tN (Vz a),tN (Wi K a b),rS 1 ((badL K a b th dd).map tN)],H):=by
 obtain ⟨h1,h2,h3',h4,h5,h6⟩:=Zl9 (a:=a) (b:=b) hK;obtain ⟨w,hw⟩:∃ w,w=Vz a:=⟨_,rfl⟩;obtain ⟨h,hh⟩:∃ h,h=Wi K a b:=⟨_,rfl⟩;have hh2:h=1+b % Eh 8 (K / w):=by rw [hh];unfold Wi;rw [<- hw]
 obtain ⟨sp,fy⟩:∃ sp,sp=badL K a b th dd:=⟨_,rfl⟩;have hsp2:sp=D8 th dd (w * h) 0:=by rw [fy,hw,hh];rfl
 rw [<- hw] at h1 h2 h5 h6;rw [<- hh] at h3' h4 h5;rw [<- hw,<- hh,<- fy];obtain ⟨A,hA⟩:∃ A:Kc,A=.cells [tK .u8 a,tK .u8 b,tK .u8 th,tK .u16 dd]:=⟨_,rfl⟩
 have key:Qg (C54 call Zh (Zb H) (.agg [tK .u8 a,tK .u8 b,tK .u8 th,tK .u16 dd],tN K,Zk,Zk,Zk,Zk,Zk,Zk,Zk,Zk,()) H)
   λe S H1=>e=.ret/\S.2.2.2.1=.ptr (Zb H+1) 0/\H1[Zb H+1]? = some (.cells [tN w,tN h,rS 1 (sp.map tN)])/\X7 H1 (Zb H)=H:=by
  obtain ⟨B,hB⟩:∃ B,B=Zv (Zv H A) (.cells Uz):=⟨_,rfl⟩;have hb0:B[Zb H]? = some A:=by rw [hB];exact Qm Qf
  have hlB:Zb B=Zb H+1+1:=by rw [hB,Qd,Qd]
  rw [hA] at hb0;have l0:∀ {β:Type} (k:TV->TH->Option β),loadT .Xi Zh (Zb H) false 1 B (.ptr (Zb H) (0+0)) k=k (tK .u8 a) B:=λk=>Zx hb0 rfl rfl rfl;have v0:Ki .i64 (.int .u8 (.ofNat a))=some (.int .i64 (.ofNat a)):=vo _ (by omega)
  have v1:Ki .i64 (.int .u8 (.ofNat b))=some (.int .i64 (.ofNat b)):=vo _ (by omega)
  have v2:Ki .i64 (.int .u8 (.ofNat th))=some (.int .i64 (.ofNat th)):=vo _ (by omega)
  have r0:Y1 (.int .i64 (.ofNat a)) (.int .i64 (.ofNat 8))=some (.int .i64 (.ofNat (a % 8))):=Gu (by decide)
  have s0:Z0 (.int .i64 (.ofNat 1)) (.int .i64 (.ofNat (a % 8)))=some (.int .i64 (.ofNat w)):=by rw [hw];exact X9 (by omega)
  have g0:Uk [(0,1,tN w)] Uz=some (.agg [tN w,tN 0,.row .nil .set 0 []]):=rfl;obtain ⟨uu,uo⟩:∃ uu:List TV->TH,uu=h3 H A (.cells Uz):=⟨_,rfl⟩
  have st1:storeT Zh (Zb H) 3 (Zv B (.cells Uz)) (.ptr (Zb H+1+1) 0) (.agg [tN w,tN 0,.row .nil .set 0 []])=some (uu [tN w,tN 0,.row .nil .set 0 []]):=by
   have hx:(Zv B (.cells Uz))[Zb H+1+1]? = some (.cells Uz):=by rw [<- hlB];exact Qf
   rw [Qy (off:=0) (n:=3) (x:=.agg [tN w,tN 0,.row .nil .set 0 []]) hx (by omega) rfl (.inr (by omega)) rfl (by decide),Yb,Kr (cs:=Uz) (xs:=[tN w,tN 0,.row .nil .set 0 []]) rfl,hB,uo]
   exact congrArg some Ai
  have q0:Jp (.int .i64 (.ofNat K)) (.int .i64 (.ofNat w))=some (.int .i64 (.ofNat (K / w))):=Pe (by omega) (by omega)
  have r1:Y1 (.int .i64 (.ofNat b)) (.int .i64 (.ofNat (Eh 8 (K / w))))=some (.int .i64 (.ofNat (b % Eh 8 (K / w)))):=Gu (by omega)
  have s1:Z0 (.int .i64 (.ofNat 1)) (.int .i64 (.ofNat (b % Eh 8 (K / w))))=some (.int .i64 (.ofNat h)):=by rw [hh2];exact X9 (by rw [<- hh2];omega)
  have k1:∀ {β:Type} (X:List TV) (k:TV->TH->Option β),loadT .Xi Zh (Zb H) false 1 (uu X) (.ptr (Zb H) (0+1)) k=k (tK .u8 b) (uu X):=λX k=>by rw [uo];exact Zx (h3_a.trans (congrArg some hA)) rfl rfl rfl
  have k2:∀ {β:Type} (X:List TV) (k:TV->TH->Option β),loadT .Xi Zh (Zb H) false 1 (uu X) (.ptr (Zb H) (0+2)) k=k (tK .u8 th) (uu X):=λX k=>by rw [uo];exact Zx (h3_a.trans (congrArg some hA)) rfl rfl rfl
  have k3:∀ {β:Type} (X:List TV) (k:TV->TH->Option β),loadT .Xi Zh (Zb H) false 1 (uu X) (.ptr (Zb H) (0+3)) k=k (tK .u16 dd) (uu X):=λX k=>by rw [uo];exact Zx (h3_a.trans (congrArg some hA)) rfl rfl rfl
  have k4:∀ {β:Type} (y z:TV) (k:TV->TH->Option β),loadT .Xi Zh (Zb H) false 1 (uu [tN w,y,z]) (.ptr (Zb H+1+1) (0+0)) k=k (tN w) (uu [tN w,y,z]):=λy z k=>by rw [uo];exact Zx qp rfl rfl rfl
  have k5:∀ {β:Type} (z:TV) (k:TV->TH->Option β),loadT .Xi Zh (Zb H) false 1 (uu [tN w,tN h,z]) (.ptr (Zb H+1+1) (0+1)) k=k (tN h) (uu [tN w,tN h,z]):=λz k=>by rw [uo];exact Zx qp rfl rfl rfl
  have st2:storeT Zh (Zb H) 1 (uu [tN w,tN 0,.row .nil .set 0 []]) (.ptr (Zb H+1+1) (0+1)) (tN h)=some (uu [tN w,tN h,.row .nil .set 0 []]):=by
   rw [uo,Qy (n:=1) (off:=0+1) (x:=tN h) qp (by omega) rfl (.inl rfl) rfl (by simp)]
   exact congrArg some Ai
  have mu:Y2 (.int .i64 (.ofNat w)) (.int .i64 (.ofNat h))=some (.int .i64 (.ofNat (w * h))):=M7 (by omega)
  simp only [C54,VV,<- hA,Qd,<- hB,l0,v0,v1,r0,s0,g0,hlB,st1,q0,r1,s1,k1,k4,k5,X5,J6,st2,mu,Zge]
  refine Qg.sq (Q1:=λe S H1=>e=.normal/\S.2.2.2.1=.ptr (Zb H+1) 0/\S.2.2.2.2.1=.ptr (Zb H+1+1) 0/\H1=uu [tN w,tN h,Xj 3 1 (sp.map tN)])
   (Qg.bl (Q1:=λe S H1=>e=.exit 0/\S.2.2.2.1=.ptr (Zb H+1) 0/\S.2.2.2.2.1=.ptr (Zb H+1+1) 0/\H1=uu [tN w,tN h,Xj 3 1 (sp.map tN)]) ?_ ?_ ?_ ?_) ?_ ?_ ?_
  ·refine Qg.loop (λk S H1=>∃ j pre,S.2.2.1=.ptr (Zb H) 0/\S.2.2.2.1=.ptr (Zb H+1) 0/\S.2.2.2.2.1=.ptr (Zb H+1+1) 0/\S.2.2.2.2.2.2.1=tN (w * h)/\S.2.2.2.2.2.2.2.1=tN j/\H1=uu [tN w,tN h,Xj 3 1 ((pre:List Nat).map tN)]/\j<=w * h/\k=w * h - j/\pre.length<=j/\sp=pre++D8 th dd (w * h - j) j) ?_ fuel (w * h) _ _ (by rw [Yg];omega)
    ⟨0,[],rfl,rfl,rfl,rfl,rfl,rfl,Nat.zero_le _,rfl,Nat.le_refl 0,hsp2⟩
   rintro k S H1 ⟨j,pre,e2,e3,e4,e6,e7,rfl,hj,rfl,Ns,Qx⟩;rcases Nat.eq_or_lt_of_le hj with hj |hj
   ·rw [hj,Nat.sub_self] at Qx;have Qx:sp=pre:=by rw [Qx];exact List.append_nil _
    simp only [VV,e2,e3,e4,e6,e7,Ql,Kf (Nat.le_of_eq hj.symm)];exact .fin (.inr ⟨by simp,rfl,rfl,rfl,by rw [Qx]⟩)
   ·have hk:w * h - j=(w * h - (j+1))+1:=by omega
    rw [hk] at Qx;have Qx:sp=pre++cond (Zfq th dd j) (j::D8 th dd (w * h - (j+1)) (j+1)) (D8 th dd (w * h - (j+1)) (j+1)):=Qx;obtain ⟨q1,q2,q3⟩:=bit16 (c:=j) (by omega) hd
    have q4:Y2 (.int .i64 (.ofNat 5)) (.int .i64 (.ofNat j))=some (.int .i64 (.ofNat (5 * j))):=M7 (by omega)
    have q5:Z0 (.int .i64 (.ofNat th)) (.int .i64 (.ofNat (5 * j)))=some (.int .i64 (.ofNat (th+5 * j))):=X9 (by omega)
    have q6:Y1 (.int .i64 (.ofNat (th+5 * j))) (.int .i64 (.ofNat 4))=some (.int .i64 (.ofNat ((th+5 * j) % 4))):=Gu (by decide)
    have q7:Qn (.ofNat ((th+5 * j) % 4)) (.ofNat 0)=Nat.beq ((th+5 * j) % 4) 0:=rfl;have a3:Z0 (.int .i64 (.ofNat j)) (.int .i64 (.ofNat 1))=some (.int .i64 (.ofNat (j+1))):=X9 (by omega)
    have ta:∀ {β:Type} (k:TH->Option β),(loadT .take Zh (Zb H) false 1 (uu [tN w,tN h,Xj 3 1 (pre.map tN)]) (.ptr (Zb H+1+1) (0+2)) λt H1=>X6 Zh H1 3 1 8 t (.row .full (.own 3) 1 [tN j]) λt2 H2=>Za (storeT Zh (Zb H) 1 H2 (.ptr (Zb H+1+1) (0+2)) t2) k)=k (uu [tN w,tN h,Xj 3 1 ((pre++[j]).map tN)]):=λk=>by
     rw [uo,Zlm qp (by omega) (by omega) (by omega),Ai]
    unfold Zfq at Qx;cases b1:El dd j with
    |false=>
     rw [b1] at Qx;simp only [VV,e2,e3,e4,e6,e7,Ql,Xo hj,k2,k3,q1,q2,q3,b1,a3];exact .fin (.inl ⟨rfl,w * h - (j+1),by omega,j+1,pre,rfl,rfl,rfl,rfl,rfl,rfl,hj,rfl,by omega,Qx⟩)
    |true=>
     cases b2:Nat.beq ((th+5 * j) % 4) 0 with
     |false=>
      rw [b1,b2] at Qx;simp only [VV,e2,e3,e4,e6,e7,Ql,Xo hj,k2,k3,q1,q2,q3,v2,q4,q5,q6,q7,b1,b2,a3];exact .fin (.inl ⟨rfl,w * h - (j+1),by omega,j+1,pre,rfl,rfl,rfl,rfl,rfl,rfl,hj,rfl,by omega,Qx⟩)
     |true=>
      rw [b1,b2] at Qx;simp only [VV,e2,e3,e4,e6,e7,Ql,Xo hj,k2,k3,q1,q2,q3,v2,q4,q5,q6,q7,b1,b2,a3,show Yf 1 [0] [tN j] (Y5 [tN 0] 1)=some [tN j] from rfl,ta];exact .fin (.inl ⟨rfl,w * h - (j+1),by omega,j+1,pre++[j],rfl,rfl,rfl,rfl,rfl,rfl,hj,rfl,by simp;omega,by rw [Qx];simp⟩)
  ·rintro S H1 ⟨h,_⟩;cases h
  ·rintro i S H1 ⟨h1,h2⟩;cases h1;exact ⟨rfl,h2⟩
  ·rintro S H1 ⟨h,_⟩;cases h
  ·rintro S H1 ⟨_,e3,e4,rfl⟩
   have fin:∃ H2 H3,(∀ {β:Type} (k:TV->TH->Option β),loadT .settle Zh (Zb H) true 3 (uu [tN w,tN h,Xj 3 1 (sp.map tN)]) (.ptr (Zb H+1+1) 0) k=k (.agg [tN w,tN h,rS 1 (sp.map tN)]) H2) /\
     storeT Zh (Zb H) 3 H2 (.ptr (Zb H+1) 0) (.agg [tN w,tN h,rS 1 (sp.map tN)])=some H3/\H3[Zb H+1]? = some (.cells [tN w,tN h,rS 1 (sp.map tN)])/\X7 H3 (Zb H)=H:=by
    have st:∀ (X:List TV),∃ H3,storeT Zh (Zb H) 3 (h3 H A (.cells Uz) X) (.ptr (Zb H+1) 0) (.agg [tN w,tN h,rS 1 (sp.map tN)])=some H3/\H3[Zb H+1]? = some (.cells [tN w,tN h,rS 1 (sp.map tN)])/\X7 H3 (Zb H)=H:=λX=>
     ⟨_,by rw [Qy (off:=0) (n:=3) (x:=.agg [tN w,tN h,rS 1 (sp.map tN)]) h3_z (by omega) rfl (.inr (by omega)) rfl (by decide),Yb,Kr (cs:=Uz) (xs:=[tN w,tN h,rS 1 (sp.map tN)]) rfl],Jv h3_z,take_set a9 (by omega)⟩
    cases hs:sp.map tN with
    |nil=>
     rw [hs] at st;obtain ⟨H3,a1,a2,a3⟩:=st [tN w,tN h,.row .nil .set 0 []];refine ⟨_,H3,λk=>?_,a1,a2,a3⟩;rw [uo];exact Xw qp (by simp) rfl
    |cons p l=>
     rw [hs] at st;obtain ⟨H3,a1,a2,a3⟩:=st [tN w,tN h,.row .Jf .set 1 (p::l)];refine ⟨_,H3,λk=>?_,a1,a2,a3⟩;rw [uo];show K1 (Yx (h3 H A (.cells Uz) [tN w,tN h,.row .Jf (.own 3) 1 (p::l)]) (Zb H+1+1) λcs=>Zp (Nat.ble (0+3) (Zb cs)) (cond (Kk Xs (Vi cs 0 3)) (Qr (.agg (Ve V3 (Vi cs 0 3))) (Kg _ (Zb H+1+1) (.cells (Kl cs 0 (Ve V3 (Vi cs 0 3)))))) (Qr (.agg (Vi cs 0 3)) _))) k=_;unfold Yx;rw [Xq,qp];show K1 (Qr (.agg [tN w,tN h,.row .Jf .set 1 (p::l)]) (Kg (h3 H A (.cells Uz) [tN w,tN h,.row .Jf (.own 3) 1 (p::l)]) (Zb H+1+1) (.cells [tN w,tN h,.row .Jf .set 1 (p::l)]))) k=_;rw [M3 qp,Ai];rfl
   obtain ⟨H2,H3,f1,f2,f3,f4⟩:=fin;simp only [VV,e3,e4,f1,f2];exact .fin ⟨rfl,rfl,f3,f4⟩
  ·rintro i S H1 ⟨h,_⟩;cases h
  ·rintro S H1 ⟨h,_⟩;cases h
 obtain ⟨e,S,H1,r1,rfl,r3,hz,ht⟩:=key;show Za (C54 call Zh (Zb H) (.agg [tK .u8 a,tK .u8 b,tK .u8 th,tK .u16 dd],tN K,Zk,Zk,Zk,Zk,Zk,Zk,Zk,Zk,()) H) _=_;rw [r1];have lA:∀ {β:Type} (bb:Nat) (k:TV->TH->Option β),loadT .take Zh bb true 3 H1 (.ptr (Zb H+1) 0) k=k (.agg [tN w,tN h,rS 1 (sp.map tN)]) H1:=λbb k=>Xw hz (by simp) rfl
 simp only [VV,r3,lA];rw [Z6 rfl,ht]
end
end Go.Proofs.YtgemobbfikjmoaaGreatDoor
namespace Go.Proofs.YtgemobbfikjmoaaGreatDoor
open Go Go.Ev
set_option maxRecDepth 100000
noncomputable section
theorem Zco (d:Nat) {w h n m:Nat} {c c':Cp} {q:Lf} {sp:List Nat} {bl:List (Nat×Nat)} {H:TH} (ok:Kd w h sp) (hn:sp≠[]->n=1) (hm:bl≠[]->m=2) (Pq:bl.length < 90000) (hsm:∀ b∈bl,b.1 < 1000000/\b.2 < 1000000) :
  Zm (tc (d+4)) 111 [tS w h c n sp,.row c' q m (bl.map tQ)] H =
   some (.Xh [.agg (J3 w h sp),tU (Mj w (w * h) (Qs w h sp) bl none 0).2,tN (Mj w (w * h) (Qs w h sp) bl none 0).1]):=
 Yc (ws:=[tS w h c n sp,.row c' .set m (bl.map tQ)]) rfl rfl (Zr7 d 0 ok hn (Nat.zero_le _) hm Pq hsm) (y6 rfl)
end
end Go.Proofs.YtgemobbfikjmoaaGreatDoor
namespace Go.Proofs.YtgemobbfikjmoaaGreatDoor
open Go Go.Ev
set_option maxRecDepth 100000
noncomputable section
theorem Zi3 {w h:Nat} {H:TH} {l:List TV}:y7 false H (.agg [tN w,tN h,rS 1 l])=some (.agg [tN w,tN h,rS 1 l]):=by cases l <;> rfl
theorem Zjd (d:Nat) {K a b th dd:Nat} {H:TH} (hK:8<=K/\K<=16) (ha:a < 256) (hb:b < 256) (xr:th < 256) (hd:dd < 65536) :
  Zm (tc (d+1)) 54 [.agg [tK .u8 a,tK .u8 b,tK .u8 th,tK .u16 dd],tN K] H=some (.agg [tN (Vz a),tN (Wi K a b),rS 1 ((badL K a b th dd).map tN)]):=
 Yc (ws:=[.agg [tK .u8 a,tK .u8 b,tK .u8 th,tK .u16 dd],tN K]) (H':=[]) (a:=false) rfl rfl ((Y4 (F:=F54) (by kernel_rfl) ..).trans (Znt _ 0 hK ha hb xr hd (Nat.zero_le _))) Zi3
theorem vq (d Zh:Nat) {c:Cp} {n g:Nat} {m:List TV} (zs:List Nat) (hn:zs≠[]->n=1) (p:Nat->Bool) {H:TH} (hlen:zs.length < 90000) (hm:Z2 pass m=true)
  (hp:∀ z∈zs,tc d Zh g ([tN z]++m) H=some (tB (p z),H)) :
  tc (d+2) Zh 65 [.row c .set n (zs.map tN),.fn (.func g) [] m] H=some (tB (Iy p zs),H):=by
 have hf:Iy (λz:Int=>p z.toNat) (zs.map Int.ofNat)=Iy p zs:=by rw [Hm,Hm,List.any_map];rfl
 rw [Zno,<- hf]
 exact vr d Zh (zs.map Int.ofNat) (λh=>hn (λe=>h (by rw [e];rfl))) (λz=>p z.toNat) (by rw [List.length_map];exact hlen) hm (λz hz=>by
  obtain ⟨q,hq,rfl⟩:=List.mem_map.1 hz;exact hp q hq)
end
end Go.Proofs.YtgemobbfikjmoaaGreatDoor
namespace Go.Proofs.YtgemobbfikjmoaaGreatDoor
open Go Go.Ev
set_option maxRecDepth 100000
theorem jg (g a:Nat):El g a=g.testBit a:=by
 have h:Nat.land (g / 2 ^ a) 1=g / 2 ^ a % 2:=Nat.and_one_is_mod _;show Nat.beq (Nat.land (g / 2 ^ a) 1) 1=_;rw [h,Nat.testBit_eq_decide_div_mod_eq]
 by_cases e:g / 2 ^ a % 2=1
 ·rw [decide_eq_true e,e];rfl
 ·rw [decide_eq_false e];have:g / 2 ^ a % 2=0:=by omega
  rw [this];rfl
theorem Zbw {α:Type} (p:α->Bool) (l:List α):Iy p l=true↔∃ x∈l,p x=true:=by rw [Hm,List.any_eq_true]
theorem Bk {a b:Bool} (h:a=true↔b=true):a=b:=by
 cases a <;> cases b <;> simp_all
theorem Zj7 {x y:Nat} {l:List Nat}:Yz x (y::l)=(Nat.beq x y || Yz x l):=by
 show cond (Nat.beq x y) true (Yz x l)=_;cases Nat.beq x y <;> rfl
theorem vi {a b i:Nat} (ha:a < 65536) (hb:b < 65536):(Iu a b).testBit i=(a.testBit i && !b.testBit i):=by
 unfold Iu;have p64:(2:Nat) ^ 64=18446744073709551616:=by decide
 have e:(18446744073709551615 - b:Nat)=2 ^ 64 - (b+1):=by omega
 rw [Nat.testBit_and,e,Nat.testBit_two_pow_sub_succ (show b < 2 ^ 64 by omega)]
 by_cases h:i < 64
 ·rw [decide_eq_true h];rfl
 ·have:a.testBit i=false:=Nat.testBit_lt_two_pow (Nat.lt_of_lt_of_le (Nat.lt_of_lt_of_le ha (by decide:65536<=2 ^ 16)) (Nat.pow_le_pow_right (by decide) (by omega)))
  rw [this];rfl
theorem jw:∀ (l:List Nat) (g i:Nat),g < 65536->(∀ x∈l,x < 16)->(jz l g).testBit i=(g.testBit i && !Yz i l)
 |[],g,i,_,_=>by show g.testBit i=(g.testBit i && true);rw [Bool.and_true]
 |c::l,g,i,hg,hl=>by
  have hc:2 ^ c < 65536:=fq (hl c (List.mem_cons_self ..));have hd:Iu g (2 ^ c) < 65536:=Nat.lt_of_le_of_lt (Nat.and_le_left) hg;show (jz l (Iu g (2 ^ c))).testBit i=_;rw [jw l _ i hd (λx hx=>hl x (List.mem_cons_of_mem _ hx)),vi hg hc,Nat.testBit_two_pow,Zj7]
  have e:Nat.beq i c=decide (c=i):=by
   by_cases h:c=i
   ·rw [decide_eq_true h,h,Nat.beq_refl]
   ·rw [decide_eq_false h];exact Wm (λe=>h e.symm)
  rw [e];cases g.testBit i <;> cases decide (c=i) <;> cases Yz i l <;> rfl
theorem Zp8 {n:Nat} (h:n<=16):Nat.pow 2 n - 1 < 65536:=by
 have h1:2 ^ n<=2 ^ 16:=Nat.pow_le_pow_right (by decide) h
 have h2:(2:Nat) ^ 16=65536:=by decide
 show 2 ^ n - 1 < 65536;have h3:0 < 2 ^ n:=Nat.pow_pos (by decide)
 omega
theorem Zr2 {w h:Nat} {sp:List Nat} (ok:Kd w h sp):Qs w h sp < 65536:=Aj _ _ (Zp8 ok.Ca)
theorem Zj9 {w h:Nat} {sp:List Nat} (ok:Kd w h sp) (i:Nat):(Qs w h sp).testBit i=(decide (i < w * h) && !Yz i sp):=by
 unfold Qs;rw [jw sp _ i (Zp8 ok.Ca) (λx hx=>Nat.lt_of_lt_of_le (ok.lt x hx) ok.Ca)];show ((2 ^ (w * h) - 1).testBit i && _)=_;rw [Nat.testBit_two_pow_sub_one]
theorem Pr {w h:Nat} {sp:List Nat} (ok:Kd w h sp) (i:Nat):(Qs w h sp).testBit i=true↔i < w * h/\i ∉ sp:=by
 rw [Zj9 ok,Bool.and_eq_true,decide_eq_true_eq,<- Wy];cases Yz i sp <;> simp
theorem Su (sp:List Nat):∀ (k j x:Nat),x∈Dm sp k j↔j<=x/\x < j+k/\x ∉ sp
 |0,j,x=>by
  constructor
  ·intro h;cases h
  ·rintro ⟨_,_,_⟩;omega
 |k+1,j,x=>by
  have ih:=Su sp k (j+1) x;show x∈cond (Yz j sp) (Dm sp k (j+1)) (j::Dm sp k (j+1))↔_;cases e:Yz j sp with
  |true=>
   show x∈Dm sp k (j+1)↔_;rw [ih];have hj:=(Wy j sp).1 e;constructor
   ·rintro ⟨h1,h2,h3⟩;exact ⟨by omega,by omega,h3⟩
   ·rintro ⟨h1,h2,h3⟩;have:j≠x:=λe=>h3 (e ▸ hj);exact ⟨by omega,by omega,h3⟩
  |false=>
   show x∈j::Dm sp k (j+1)↔_;rw [List.mem_cons,ih];constructor
   ·rintro (rfl |⟨h1,h2,h3⟩)
    ·exact ⟨Nat.le_refl _,by omega,λh=>by rw [(Wy ..).2 h] at e;cases e⟩
    ·exact ⟨by omega,by omega,h3⟩
   ·rintro ⟨h1,h2,h3⟩;rcases Nat.eq_or_lt_of_le h1 with h |h
    ·exact .inl h.symm
    ·exact .inr ⟨h,by omega,h3⟩
theorem Sv (sp:List Nat):∀ (k j:Nat),(Dm sp k j).Pairwise (· < ·)
 |0,_=>.nil
 |k+1,j=>by
  show (cond (Yz j sp) (Dm sp k (j+1)) (j::Dm sp k (j+1))).Pairwise (· < ·)
  cases Yz j sp with
  |true=>exact Sv sp k (j+1)
  |false=>exact List.pairwise_cons.2 ⟨λx hx=>by have:=(Su sp k (j+1) x).1 hx;omega,Sv sp k (j+1)⟩
theorem Bg {w h:Nat} {sp:List Nat} {x:Nat}:x∈Vk w h sp↔x < w * h/\x ∉ sp:=by
 unfold Vk;rw [Su];constructor
 ·rintro ⟨_,h1,h2⟩;exact ⟨by omega,h2⟩
 ·rintro ⟨h1,h2⟩;exact ⟨Nat.zero_le _,by omega,h2⟩
theorem Zgv {w c:Nat} {l:List Nat} {p:Nat×Nat}:p∈nxt w l c↔p.1=c/\p.2∈l/\((c % w < w - 1/\p.2=c+1)\/p.2=c+w):=by
 obtain ⟨a,b⟩:=p;have e:nxt w l c=cond (Nat.blt (c % w) (w - 1)) (cond (Yz (c+1) l) [(c,c+1)] []) []++cond (Yz (c+w) l) [(c,c+w)] []:=rfl;rw [e,List.mem_append]
 have h1:(a,b)∈cond (Nat.blt (c % w) (w - 1)) (cond (Yz (c+1) l) [(c,c+1)] []) []↔c % w < w - 1/\c+1∈l/\a=c/\b=c+1:=by
  rw [<- Wy,<- Nat.blt_eq];cases Nat.blt (c % w) (w - 1) <;> cases Yz (c+1) l <;> simp
 have h2:(a,b)∈cond (Yz (c+w) l) [(c,c+w)] []↔c+w∈l/\a=c/\b=c+w:=by
  rw [<- Wy];cases Yz (c+w) l <;> simp
 rw [h1,h2];show _↔a=c/\b∈l/\((c % w < w - 1/\b=c+1)\/b=c+w);clear h1 h2 e;constructor
 ·rintro (⟨h1,h2,h3,h4⟩ |⟨h1,h3,h4⟩)
  ·exact ⟨h3,by rw [h4];exact h2,.inl ⟨h1,h4⟩⟩
  ·exact ⟨h3,by rw [h4];exact h1,.inr h4⟩
 ·rintro ⟨h1,h2,⟨h3,h4⟩ |h3⟩
  ·exact .inl ⟨h3,by rw [<- h4];exact h2,h1,h4⟩
  ·exact .inr ⟨by rw [<- h3];exact h2,h1,h3⟩
theorem Cy {w:Nat} {l:List Nat} {p:Nat×Nat}:∀ (cs:List Nat),p∈L6 w l cs↔p.1∈cs/\p.2∈l/\((p.1 % w < w - 1/\p.2=p.1+1)\/p.2=p.1+w)
 |[]=>by
  constructor
  ·intro h;cases h
  ·rintro ⟨h,_⟩;cases h
 |c::cs=>by
  show p∈nxt w l c++L6 w l cs↔_;rw [List.mem_append,Zgv,Cy cs,List.mem_cons];constructor
  ·rintro (⟨rfl,h1,h2⟩ |⟨h1,h2⟩)
   ·exact ⟨.inl rfl,h1,h2⟩
   ·exact ⟨.inr h1,h2⟩
  ·rintro ⟨h |h,h1,h2⟩
   ·subst h;exact .inl ⟨rfl,h1,h2⟩
   ·exact .inr ⟨h,h1,h2⟩
def tr (p q:Nat×Nat):Prop:=p.1 < q.1\/(p.1=q.1/\p.2 < q.2)
theorem yx {w:Nat} (hw:1<=w) (l:List Nat):∀ (cs:List Nat),cs.Pairwise (· < ·)->(L6 w l cs).Pairwise tr
 |[],_=>.nil
 |c::cs,h=>by
  obtain ⟨h1,h2⟩:=List.pairwise_cons.1 h;show (nxt w l c++L6 w l cs).Pairwise tr;refine List.pairwise_append.2 ⟨?_,yx hw l cs h2,λp hp q hq=>?_⟩
  ·show (cond (Nat.blt (c % w) (w - 1)) (cond (Yz (c+1) l) [(c,c+1)] []) []++cond (Yz (c+w) l) [(c,c+w)] []).Pairwise tr;cases e1:Nat.blt (c % w) (w - 1) <;> cases Yz (c+1) l <;> cases Yz (c+w) l <;> simp [tr]
   rw [Nat.blt_eq] at e1;omega
  ·rw [Zgv] at hp;rw [Cy] at hq;exact .inl (by rw [hp.1];exact h1 _ hq.1)
theorem sl {w c:Nat} (hw:1<=w):c % w < w - 1↔0 < (c+1) % w:=by
 have h1:=Nat.mod_lt c (show w > 0 by omega)
 have h2:(c+1) % w=(c % w+1) % w:=by rw [Nat.mod_add_mod]
 by_cases h:c % w+1 < w
 ·rw [h2,Nat.mod_eq_of_lt h];omega
 ·have:c % w+1=w:=by omega
  rw [h2,this,Nat.mod_self];omega
section
variable {w h:Nat} {sp:List Nat}
theorem dn (ok:Kd w h sp) {p:Nat×Nat}:p∈Ka w h sp↔(Qs w h sp).testBit p.1=true/\(Qs w h sp).testBit p.2=true/\((p.2=p.1+1/\0 < p.2 % w)\/p.2=p.1+w):=by
 unfold Ka;rw [Cy,Bg,Bg,Pr ok,Pr ok];constructor
 ·rintro ⟨h1,h2,⟨h3,h4⟩ |h3⟩
  ·exact ⟨h1,h2,.inl ⟨h4,by rw [h4];exact (sl ok.w1).1 h3⟩⟩
  ·exact ⟨h1,h2,.inr h3⟩
 ·rintro ⟨h1,h2,⟨h3,h4⟩ |h3⟩
  ·exact ⟨h1,h2,.inl ⟨(sl ok.w1).2 (by rw [<- h3];exact h4),h3⟩⟩
  ·exact ⟨h1,h2,.inr h3⟩
theorem Zi1 (ok:Kd w h sp):(Ka w h sp).Pairwise tr:=yx ok.w1 _ _ (Sv ..)
theorem o6:∀ (l:List (Nat×Nat)),l.Pairwise tr->B9 l=true
 |[],_=>rfl
 |[_],_=>rfl
 |a::b::l,hp=>by
  obtain ⟨h1,h2⟩:=List.pairwise_cons.1 hp;show cond (eqQ b a) false (B9 (b::l))=true
  have:eqQ b a=false:=by
   have h3:=h1 b (List.mem_cons_self ..);unfold eqQ;rcases h3 with h3 |⟨_,h3⟩
   ·rw [Wm (show b.1≠a.1 by omega)];rfl
   ·rw [Wm (show b.2≠a.2 by omega)];simp
  rw [this];exact o6 (b::l) h2
theorem Zm3 (ok:Kd w h sp):∀ p∈Ka w h sp,p.1 < 16/\p.2 < 16:=λp hp=>by
 obtain ⟨h1,h2,_⟩:=(dn ok).1 hp;have:=ok.Ca;have:=(Pr ok _).1 h1;have:=(Pr ok _).1 h2;omega
theorem Zq7 {c:Nat} {l:List Nat}:(nxt w l c).length<=2:=by
 show (cond (Nat.blt (c % w) (w - 1)) (cond (Yz (c+1) l) [(c,c+1)] []) []++cond (Yz (c+w) l) [(c,c+w)] []).length<=2;cases Nat.blt (c % w) (w - 1) <;> cases Yz (c+1) l <;> cases Yz (c+w) l <;> simp
theorem yw {l:List Nat}:∀ (cs:List Nat),(L6 w l cs).length<=2 * cs.length
 |[]=>Nat.le_refl 0
 |c::cs=>by
  show (nxt w l c++L6 w l cs).length<=2 * (cs.length+1);have h1:=Zq7 (w:=w) (c:=c) (l:=l);have h2:=yw (l:=l) cs;rw [List.length_append];omega
theorem dq (ok:Kd w h sp):(Ka w h sp).length<=32:=by
 have h1:=yw (w:=w) (l:=Vk w h sp) (Vk w h sp);have h2:=Bh sp (w * h) 0;have h3:=ok.Ca;unfold Ka;unfold Vk at *;omega
theorem gh {m:Nat} (h:∀ i,m.testBit i=false):m=0:=Nat.eq_of_testBit_eq λi=>by rw [h i,Nat.zero_testBit]
theorem Zph (ok:Kd w h sp) {p:Nat×Nat} {prev:Option (Nat×Nat)} {used:Nat} (hp:p∈Ka w h sp) (hpr:∀ q,prev=some q->tr q p) :
  Il w (w * h) (Qs w h sp) prev p used=cond (used.testBit p.1 || used.testBit p.2) 6 0:=by
 obtain ⟨g1,g2,g3⟩:=(dn ok).1 hp;have l1:=(Pr ok _).1 g1;have l2:=(Pr ok _).1 g2;have h16:=ok.Ca
 have e1:Nat.blt (Hb p.1 p.2) (w * h)=true:=by
  rw [Nat.blt_eq];unfold Hb;cases Nat.blt p.1 p.2 with
  |true=>exact l2.1
  |false=>exact l1.1
 have e2:Dy w p=false:=by
  unfold Dy;rcases g3 with ⟨e,hm⟩ |e
  ·have d1:Int.ofNat p.2 - Int.ofNat p.1=.ofNat 1:=by rw [e];show ((p.1+1:Nat):Int) - (p.1:Int)=1;omega
   rw [d1];have:Qn (.ofNat (p.2 % w)) (.ofNat 0)=false:=Wm (by omega)
   rw [this];cases Qn (.ofNat 1) (.ofNat w) <;> rfl
  ·have d1:Int.ofNat p.2 - Int.ofNat p.1=.ofNat w:=by rw [e];show ((p.1+w:Nat):Int) - (p.1:Int)=(w:Int);omega
   rw [d1];have:Qn (.ofNat w) (.ofNat w)=true:=Uj rfl;rw [this];rfl
 have e3:Ol prev p=false:=by
  cases prev with
  |none=>rfl
  |some q=>
   have hq:=hpr q rfl;unfold Ol;show decide (0<=cond (Qn (Pz q.1 p.1) 0) (cond (Qn (Pz q.2 p.2) 0) (cond (Nat.blt 0 0) (.negSucc 0) 0) (Pz q.2 p.2)) (Pz q.1 p.1))=false;rcases hq with hq |⟨hq,hq'⟩
   ·have:Pz q.1 p.1=.negSucc 0:=by
     unfold Pz;rw [(by rw [Nat.blt_eq];exact hq:Nat.blt q.1 p.1=true)];rfl
    rw [this];rfl
   ·have c1:Pz q.1 p.1=0:=by
     unfold Pz;rw [hq]
     have:Nat.blt p.1 p.1=false:=by
      cases e:Nat.blt p.1 p.1 with
      |false=>rfl
      |true=>rw [Nat.blt_eq] at e;omega
     rw [this];rfl
    have c2:Pz q.2 p.2=.negSucc 0:=by
     unfold Pz;rw [(by rw [Nat.blt_eq];exact hq':Nat.blt q.2 p.2=true)];rfl
    rw [c1,c2];rfl
 have t1:(Wa p).testBit p.1=true:=by
  show (2 ^ p.1 ||| 2 ^ p.2).testBit p.1=true
  rw [Nat.testBit_or,Nat.testBit_two_pow_self];rfl
 have tQs:∀ i,(Wa p).testBit i=true↔p.1=i\/p.2=i:=λi=>by
  show (2 ^ p.1 ||| 2 ^ p.2).testBit i=true↔_
  rw [Nat.testBit_or,Bool.or_eq_true,Nat.testBit_two_pow,Nat.testBit_two_pow,decide_eq_true_eq,decide_eq_true_eq]
 have hsl:Wa p < 65536:=Nat.or_lt_two_pow (n:=16) (fq (by omega)) (fq (by omega))
 have e4:Iu (Wa p) (Qs w h sp)=0:=gh λi=>by
  rw [vi hsl (Zr2 ok)];cases e:(Wa p).testBit i with
  |false=>rfl
  |true=>
   rcases (tQs i).1 e with rfl |rfl
   ·rw [g1];rfl
   ·rw [g2];rfl
 have e5:Qn (.ofNat (Nat.land (Wa p) used)) (.ofNat 0)=!(used.testBit p.1 || used.testBit p.2):=by
  show Nat.beq (Wa p &&& used) 0=_;cases hu:(used.testBit p.1 || used.testBit p.2) with
  |false=>
   rw [Bool.or_eq_false_iff] at hu
   have:Wa p &&& used=0:=gh λi=>by
    rw [Nat.testBit_and];cases e:(Wa p).testBit i with
    |false=>rfl
    |true=>
     rcases (tQs i).1 e with rfl |rfl
     ·rw [hu.1];rfl
     ·rw [hu.2];rfl
   rw [this];rfl
  |true=>
   refine Wm λe=>?_;rw [Bool.or_eq_true] at hu;have h0:∀ i,(Wa p &&& used).testBit i=false:=λi=>by rw [e,Nat.zero_testBit]
   rcases hu with hu |hu
   ·have:=h0 p.1;rw [Nat.testBit_and,hu,(tQs p.1).2 (.inl rfl)] at this;cases this
   ·have:=h0 p.2;rw [Nat.testBit_and,hu,(tQs p.2).2 (.inr rfl)] at this;cases this
 unfold Il;rw [e1,e2,e3,e4,e5];cases (used.testBit p.1 || used.testBit p.2) <;> rfl
structure wq (w h:Nat) (sp:List Nat) (l:List (Nat×Nat)) (used:List Nat) (tw:Nat):Prop where
 sub:∀ p∈l,p∈Ka w h sp
 asc:l.Pairwise tr
 val:(tw=0/\∃ m,(∀ bs,Mj w (w * h) (Qs w h sp) (l++bs) none 0=Mj w (w * h) (Qs w h sp) bs l.getLast? m)/\∀ x,m.testBit x=Yz x used) \/
  (tw=6/\∀ bs,Mj w (w * h) (Qs w h sp) (l++bs) none 0=(6,0))
theorem wq.nil:wq w h sp [] [] 0:=⟨λ_ hh=>(by cases hh),.nil,.inl ⟨rfl,0,λ_=>rfl,λx=>by rw [Nat.zero_testBit];rfl⟩⟩
theorem Zos {x:Nat} (a b:List Nat):Yz x (a++b)=(Yz x a || Yz x b):=by
 refine Bk ?_;rw [Wy,List.mem_append,Bool.or_eq_true,Wy,Wy]
theorem wq.put (ok:Kd w h sp) {l:List (Nat×Nat)} {used:List Nat} {tw:Nat} (st:wq w h sp l used tw) {p:Nat×Nat} (hp:p∈Ka w h sp) (hl:∀ q∈l,tr q p)
  (hu:(Yz p.1 used || Yz p.2 used)=false):wq w h sp (l++[p]) (used++[p.1,p.2]) tw:=by
 refine ⟨λq hq=>?_,List.pairwise_append.2 ⟨st.asc,List.pairwise_singleton ..,λa ha b hb=>by rw [List.mem_singleton] at hb;rw [hb];exact hl a ha⟩,?_⟩
 ·rcases List.mem_append.1 hq with hq |hq
  ·exact st.sub q hq
  ·rw [List.mem_singleton] at hq;rw [hq];exact hp
 ·rcases st.val with ⟨h0,m,h1,h2⟩ |⟨h0,h1⟩
  ·refine .inl ⟨h0,Nat.lor m (Wa p),λbs=>?_,λx=>?_⟩
   ·rw [List.append_assoc,h1];show cond (Nat.beq (Il w (w * h) (Qs w h sp) l.getLast? p m) 0) (Mj w (w * h) (Qs w h sp) bs (some p) (Nat.lor m (Wa p))) (Il w (w * h) (Qs w h sp) l.getLast? p m,0)=_;rw [Zph ok hp (λq hq=>hl q (List.mem_of_getLast? hq)),h2,h2,hu];rw [List.getLast?_append];rfl
   ·show (m ||| (2 ^ p.1 ||| 2 ^ p.2)).testBit x=_
    rw [Nat.testBit_or,Nat.testBit_or,h2,Zos,Nat.testBit_two_pow,Nat.testBit_two_pow];congr 1;refine Bk ?_;rw [Bool.or_eq_true,decide_eq_true_eq,decide_eq_true_eq,Wy];constructor
    ·rintro (rfl |rfl) <;> simp
    ·intro hx;rcases List.mem_cons.1 hx with rfl |hx
     ·exact .inl rfl
     ·rw [List.mem_singleton] at hx;exact .inr hx.symm
  ·exact .inr ⟨h0,λbs=>by rw [List.append_assoc];exact h1 _⟩
end
end Go.Proofs.YtgemobbfikjmoaaGreatDoor
