/- What the functions that SawIdle calls answer, part one.
   Conditions: none beyond the given statement's own. -/
import Derived.Test.YtgemobbfikjmoaaGreatDoorPaE
set_option linter.unusedVariables false
set_option linter.unusedSimpArgs false
set_option linter.defProp false
namespace Go.Proofs.YtgemobbfikjmoaaGreatDoor
open Go Go.Ev
set_option maxRecDepth 100000
noncomputable section
abbrev tc (d:Nat):Zbc:=tabCall P TC table d
theorem tc_f {f:Nat} {F:Zbc→Nat→List TV→TH→Option (TV×TH)} (h:table.get f=some (fun ih tlo _ args H=>F ih tlo args H)) (d tlo:Nat) (args:List TV) (H:TH) :
  tc (d+1) tlo f args H=F (tc d) tlo args H:=by
 show Option.rec (motive:=fun _=>Option (TV×TH)) _ (fun F=>F (tc d) tlo f args H) (table.get f)=_
 rw [h]
theorem Zdo {call:Zbc} {f:Nat} {vs ws:List TV} {H H':TH} {v w:TV} {a:Bool} (hi:insT H vs=some ws) (ha:anyG actT vs=a) (hc:call 0 f ws []=some (v,H')) (ho:outR a H' v=some w):Zah call f vs H=some w:=by
 unfold Zah
 rw [hi]
 show treeT call f ws (anyG actT vs)=_
 rw [ha]
 unfold treeT
 rw [hc]
 exact ho
theorem outR_v {a:Bool} {H:TH} {x:Value}:outR a H (.v x)=some (.v x):=(rfl)
theorem Zdl:fuel=100000:=rfl
def idxT (x:Int):List Int→Nat→Int
 |[],_=>.negSucc 0
 |y::ys,j=>cond (Zca x y) (.ofNat j) (idxT x ys (j+1))
def hasT (x:Int):List Int→Bool
 |[]=>false
 |y::ys=>cond (Zca x y) true (hasT x ys)
theorem idxT_has (x:Int):∀ (l:List Int) (j:Nat),decide ((0:Int)≤idxT x l j)=hasT x l
 |[],_=>rfl
 |y::ys,j=>by
  show decide ((0:Int)≤cond (Zca x y) (Int.ofNat j) (idxT x ys (j+1)))=cond (Zca x y) true (hasT x ys)
  cases Zca x y with
  |true=>exact decide_eq_true (Int.natCast_nonneg j)
  |false=>exact idxT_has x ys (j+1)
theorem index_run (call:Zbc) (tlo:Nat) {c:Cp} {n:Nat} {zs:List Int} {x:Int} {H:TH} (hn:zs≠[]→n=1) (hlen:zs.length < 90000) :
  F137 call tlo [.row c .set n (zs.map tI),tI x] H=some (tI (idxT x zs 0),H):=by
 have key:EndsT (C137 call tlo (Zag H) (.row c .set n (zs.map tI),tI x,Zao,Zao,Zao,Zao,Zao,Zao,()) H)
   fun e S H1=>e=.ret∧S.2.2.1=tI (idxT x zs 0)∧H1=H:=by
  simp only [C137,VV,Zat,List.length_map]
  refine EndsT.sq (Q1:=fun e S H1=>H1=H∧((e=.normal∧idxT x zs 0=.negSucc 0)∨(e=.ret∧S.2.2.1=tI (idxT x zs 0)))) (EndsT.bl (Q1:=fun e S H1=>H1=H∧((e=.exit 0∧idxT x zs 0=.negSucc 0)∨(e=.ret∧S.2.2.1=tI (idxT x zs 0)))) ?_ ?_ ?_ ?_) ?_ ?_ ?_
  ·refine EndsT.loop (fun k S H1=>∃ j,S.1=.row c .set n (zs.map tI)∧S.2.1=tI x∧S.2.2.2.2.1=tN zs.length∧S.2.2.2.2.2.1=tN j∧H1=H∧j≤zs.length∧k=zs.length - j∧idxT x zs 0=idxT x (zs.drop j) j) ?_ fuel zs.length _ _ (by rw [Zdl];omega)
    ⟨0,rfl,rfl,rfl,rfl,rfl,Nat.zero_le _,rfl,rfl⟩
   rintro k S H1 ⟨j,h0,h1,h4,h5,rfl,hj,rfl,hgo⟩
   rcases Nat.eq_or_lt_of_le hj with hj |hj
   ·rw [hj,List.drop_length] at hgo
    simp only [VV,h0,h1,h4,h5,Zcg,blt_f (Nat.le_of_eq hj.symm)]
    exact .fin (.inr ⟨by simp,rfl,.inl ⟨rfl,hgo⟩⟩)
   ·have hn1:=hn (by intro h;rw [h] at hj;simp at hj)
    subst hn1
    rw [List.drop_eq_getElem_cons hj] at hgo
    have hgo:idxT x zs 0=cond (Zca x zs[j]) (.ofNat j) (idxT x (zs.drop (j+1)) (j+1)):=hgo
    have hel:(zs.map tI)[j]? = some (tI zs[j]):=by rw [List.getElem?_map,List.getElem?_eq_getElem hj];rfl
    simp only [VV,h0,h1,h4,h5,Zcg,blt_t hj,Zbv hel,load_el (cs:=Zav (tI zs[j])) (off:=0) rfl,add_n (show j+1 < 9223372036854775808 by omega)]
    cases hb:Zca x zs[j] with
    |true=>
     rw [hb] at hgo
     simp only [VV]
     exact .fin (.inr ⟨by simp,rfl,.inr ⟨rfl,congrArg tI hgo.symm⟩⟩)
    |false=>
     rw [hb] at hgo
     simp only [VV,add_n (show j+1 < 9223372036854775808 by omega)]
     exact .fin (.inl ⟨rfl,zs.length - (j+1),by omega,j+1,rfl,rfl,rfl,rfl,rfl,hj,rfl,hgo⟩)
  ·rintro S H1 ⟨_,h |h⟩ <;> simp at h
  ·rintro i S H1 ⟨h1,⟨h2,h3⟩ |⟨h2,_⟩⟩
   ·cases h2;exact ⟨h1,.inl ⟨rfl,h3⟩⟩
   ·cases h2
  ·rintro S H1 ⟨h1,⟨h2,_⟩ |⟨_,h3⟩⟩
   ·cases h2
   ·exact ⟨h1,.inr ⟨rfl,h3⟩⟩
  ·rintro S H1 ⟨rfl,⟨_,h⟩ |⟨h,_⟩⟩
   ·exact ⟨.ret,_,_,rfl,rfl,congrArg tI h.symm,rfl⟩
   ·cases h
  ·rintro i S H1 ⟨_,⟨h,_⟩ |⟨h,_⟩⟩ <;> cases h
  ·rintro S H1 ⟨rfl,⟨h,_⟩ |⟨_,h⟩⟩
   ·cases h
   ·exact ⟨rfl,h,rfl⟩
 obtain ⟨e,S,H1,h1,rfl,h2,rfl⟩:=key
 show Zaa (C137 call tlo (Zag H1) (.row c .set n (zs.map tI),tI x,Zao,Zao,Zao,Zao,Zao,Zao,()) H1) _=_
 rw [h1]
 simp only [VV,h2,Zbm Zdq]
 rw [Zct,Zat,List.take_length]
theorem contains_run (d tlo:Nat) {c:Cp} {n:Nat} {zs:List Int} {x:Int} {H:TH} (hn:zs≠[]→n=1) (hlen:zs.length < 90000) :
  tc (d+2) tlo 64 [.row c .set n (zs.map tI),tI x] H=some (tB (hasT x zs),H):=by
 rw [tc_f (F:=F64) (by kernel_rfl)]
 have hcall:Zah (tc (d+1)) 137 [.row c .set n (zs.map tI),tI x] H=some (tI (idxT x zs 0)):=
  Zdo (ws:=[.row c .set n (zs.map tI),tI x]) (H':=[]) rfl rfl ((tc_f (F:=F137) (by kernel_rfl) ..).trans (index_run _ _ hn hlen)) rfl
 have hg:evGeq (.int .i64 (idxT x zs 0)) (.int .i64 (.ofNat 0))=some (.bool (hasT x zs)):=by rw [geq_i];exact congrArg (fun b=>some (Value.bool b)) (idxT_has x zs 0)
 show Zaa (C64 (tc (d+1)) tlo (Zag H) (.row c .set n (zs.map tI),tI x,Zao,()) H) _=_
 simp only [C64,VV,hcall,hg,Zbm Zdq]
 rw [Zct,Zat,List.take_length]
end
end Go.Proofs.YtgemobbfikjmoaaGreatDoor
namespace Go.Proofs.YtgemobbfikjmoaaGreatDoor
open Go Go.Ev
set_option maxRecDepth 100000
noncomputable section
def idxF {α:Type} (p:α→Bool):List α→Nat→Int
 |[],_=>.negSucc 0
 |y::ys,j=>cond (p y) (.ofNat j) (idxF p ys (j+1))
def hasF {α:Type} (p:α→Bool):List α→Bool
 |[]=>false
 |y::ys=>cond (p y) true (hasF p ys)
theorem idxF_has {α:Type} (p:α→Bool):∀ (l:List α) (j:Nat),decide ((0:Int)≤idxF p l j)=hasF p l
 |[],_=>rfl
 |y::ys,j=>by
  show decide ((0:Int)≤cond (p y) (Int.ofNat j) (idxF p ys (j+1)))=cond (p y) true (hasF p ys)
  cases p y with
  |true=>exact decide_eq_true (Int.natCast_nonneg j)
  |false=>exact idxF_has p ys (j+1)
theorem hasF_any {α:Type} (p:α→Bool):∀ (l:List α),hasF p l=l.any p
 |[]=>rfl
 |y::ys=>by
  show cond (p y) true (hasF p ys)=(p y || ys.any p)
  rw [hasF_any p ys];cases p y <;> rfl
abbrev tP (p:Int×Int):TV:=.agg [tI p.1,tI p.2]
theorem indexFI_run (call:Zbc) (tlo:Nat) {c:Cp} {n g:Nat} {m:List TV} (zs:List Int) (hn:zs≠[]→n=1) (p:Int→Bool) {H:TH} (hlen:zs.length < 90000) (hm:Zbu pass m=true)
  (hp:∀ z∈zs,call tlo g ([tI z]++m) H=some (tB (p z),H)) :
  F138 call tlo [.row c .set n (zs.map tI),.fn (.func g) [] m] H=some (tI (idxF p zs 0),H):=by
 have key:EndsT (C138 call tlo (Zag H) (.row c .set n (zs.map tI),.fn (.func g) [] m,Zao,Zao,Zao,Zao,Zao,Zao,()) H)
   fun e S H1=>e=.ret∧S.2.2.1=tI (idxF p zs 0)∧H1=H:=by
  simp only [C138,VV,Zat,List.length_map]
  refine EndsT.sq (Q1:=fun e S H1=>H1=H∧((e=.normal∧idxF p zs 0=.negSucc 0)∨(e=.ret∧S.2.2.1=tI (idxF p zs 0)))) (EndsT.bl (Q1:=fun e S H1=>H1=H∧((e=.exit 0∧idxF p zs 0=.negSucc 0)∨(e=.ret∧S.2.2.1=tI (idxF p zs 0)))) ?_ ?_ ?_ ?_) ?_ ?_ ?_
  ·refine EndsT.loop (fun k S H1=>∃ j,S.1=.row c .set n (zs.map tI)∧S.2.1=.fn (.func g) [] m∧S.2.2.2.2.1=tN zs.length∧S.2.2.2.2.2.1=tN j∧H1=H∧j≤zs.length∧k=zs.length - j∧idxF p zs 0=idxF p (zs.drop j) j) ?_ fuel zs.length _ _ (by rw [Zdl];omega)
    ⟨0,rfl,rfl,rfl,rfl,rfl,Nat.zero_le _,rfl,rfl⟩
   rintro k S H1 ⟨j,h0,h1,h4,h5,rfl,hj,rfl,hgo⟩
   rcases Nat.eq_or_lt_of_le hj with hj |hj
   ·rw [hj,List.drop_length] at hgo
    simp only [VV,h0,h1,h4,h5,Zcg,blt_f (Nat.le_of_eq hj.symm)]
    exact .fin (.inr ⟨by simp,rfl,.inl ⟨rfl,hgo⟩⟩)
   ·have hn1:=hn (by intro h;rw [h] at hj;simp at hj)
    subst hn1
    rw [List.drop_eq_getElem_cons hj] at hgo
    have hgo:idxF p zs 0=cond (p zs[j]) (.ofNat j) (idxF p (zs.drop (j+1)) (j+1)):=hgo
    have hel:(zs.map tI)[j]? = some (tI zs[j]):=by rw [List.getElem?_map,List.getElem?_eq_getElem hj];rfl
    have hcall:∀ {β:Type} (k:TV→TH→Option β),Zdc TC call tlo (.fn (.func g) [] m) [tI zs[j]] H1 k=k (tB (p zs[j])) H1:=fun k=>
     callFn_of (by show Zbu pass (tI zs[j]::m)=true;rw [allG_cons,show pass (tI zs[j])=true from rfl];exact hm) (hp _ (List.getElem_mem hj))
    simp only [VV,h0,h1,h4,h5,Zcg,blt_t hj,Zbv hel,hcall]
    cases hb:p zs[j] with
    |true=>
     rw [hb] at hgo
     simp only [VV]
     exact .fin (.inr ⟨by simp,rfl,.inr ⟨rfl,congrArg tI hgo.symm⟩⟩)
    |false=>
     rw [hb] at hgo
     simp only [VV,add_n (show j+1 < 9223372036854775808 by omega)]
     exact .fin (.inl ⟨rfl,zs.length - (j+1),by omega,j+1,rfl,rfl,rfl,rfl,rfl,hj,rfl,hgo⟩)
  ·rintro S H1 ⟨_,h |h⟩ <;> simp at h
  ·rintro i S H1 ⟨h1,⟨h2,h3⟩ |⟨h2,_⟩⟩
   ·cases h2;exact ⟨h1,.inl ⟨rfl,h3⟩⟩
   ·cases h2
  ·rintro S H1 ⟨h1,⟨h2,_⟩ |⟨_,h3⟩⟩
   ·cases h2
   ·exact ⟨h1,.inr ⟨rfl,h3⟩⟩
  ·rintro S H1 ⟨rfl,⟨_,h⟩ |⟨h,_⟩⟩
   ·exact ⟨.ret,_,_,rfl,rfl,congrArg tI h.symm,rfl⟩
   ·cases h
  ·rintro i S H1 ⟨_,⟨h,_⟩ |⟨h,_⟩⟩ <;> cases h
  ·rintro S H1 ⟨rfl,⟨h,_⟩ |⟨_,h⟩⟩
   ·cases h
   ·exact ⟨rfl,h,rfl⟩
 obtain ⟨e,S,H1,h1,rfl,h2,rfl⟩:=key
 show Zaa (C138 call tlo (Zag H1) (.row c .set n (zs.map tI),.fn (.func g) [] m,Zao,Zao,Zao,Zao,Zao,Zao,()) H1) _=_
 rw [h1]
 simp only [bz_some,resE_r,h2,fin_one resOk_v Zdq,Zde]
theorem containsFI_run (d tlo:Nat) {c:Cp} {n g:Nat} {m:List TV} (zs:List Int) (hn:zs≠[]→n=1) (p:Int→Bool) {H:TH} (hlen:zs.length < 90000) (hm:Zbu pass m=true)
  (hp:∀ z∈zs,tc d tlo g ([tI z]++m) H=some (tB (p z),H)) :
  tc (d+2) tlo 65 [.row c .set n (zs.map tI),.fn (.func g) [] m] H=some (tB (hasF p zs),H):=by
 rw [tc_f (F:=F65) (by kernel_rfl)]
 have hcall:∀ {β:Type} (k:TV→TH→Option β),Zbr (tc (d+1)) tlo 138 [.row c .set n (zs.map tI),.fn (.func g) [] m] H k=k (tI (idxF p zs 0)) H:=fun k=>
  Zcy (by simp only [VV]) ((tc_f (F:=F138) (by kernel_rfl) ..).trans (indexFI_run _ _ zs hn p hlen hm hp))
 have hg:evGeq (.int .i64 (idxF p zs 0)) (.int .i64 (.ofNat 0))=some (.bool (hasF p zs)):=by rw [geq_i];exact congrArg (fun b=>some (Value.bool b)) (idxF_has p zs 0)
 show Zaa (C65 (tc (d+1)) tlo (Zag H) (.row c .set n (zs.map tI),.fn (.func g) [] m,Zao,()) H) _=_
 simp only [C65,VV,hcall,hg,Zbm Zdq,Zde]
theorem indexFP_run (call:Zbc) (tlo:Nat) {c:Cp} {n g:Nat} {m:List TV} (zs:List (Int×Int)) (hn:zs≠[]→n=2) (p:(Int×Int)→Bool) {H:TH} (hlen:zs.length < 90000) (hm:Zbu pass m=true)
  (hp:∀ z∈zs,call tlo g ([tP z]++m) H=some (tB (p z),H)) :
  F134 call tlo [.row c .set n (zs.map tP),.fn (.func g) [] m] H=some (tI (idxF p zs 0),H):=by
 have key:EndsT (C134 call tlo (Zag H) (.row c .set n (zs.map tP),.fn (.func g) [] m,Zao,Zao,Zao,Zao,Zao,Zao,()) H)
   fun e S H1=>e=.ret∧S.2.2.1=tI (idxF p zs 0)∧H1=H:=by
  simp only [C134,VV,Zat,List.length_map]
  refine EndsT.sq (Q1:=fun e S H1=>H1=H∧((e=.normal∧idxF p zs 0=.negSucc 0)∨(e=.ret∧S.2.2.1=tI (idxF p zs 0)))) (EndsT.bl (Q1:=fun e S H1=>H1=H∧((e=.exit 0∧idxF p zs 0=.negSucc 0)∨(e=.ret∧S.2.2.1=tI (idxF p zs 0)))) ?_ ?_ ?_ ?_) ?_ ?_ ?_
  ·refine EndsT.loop (fun k S H1=>∃ j,S.1=.row c .set n (zs.map tP)∧S.2.1=.fn (.func g) [] m∧S.2.2.2.2.1=tN zs.length∧S.2.2.2.2.2.1=tN j∧H1=H∧j≤zs.length∧k=zs.length - j∧idxF p zs 0=idxF p (zs.drop j) j) ?_ fuel zs.length _ _ (by rw [Zdl];omega)
    ⟨0,rfl,rfl,rfl,rfl,rfl,Nat.zero_le _,rfl,rfl⟩
   rintro k S H1 ⟨j,h0,h1,h4,h5,rfl,hj,rfl,hgo⟩
   rcases Nat.eq_or_lt_of_le hj with hj |hj
   ·rw [hj,List.drop_length] at hgo
    simp only [VV,h0,h1,h4,h5,Zcg,blt_f (Nat.le_of_eq hj.symm)]
    exact .fin (.inr ⟨by simp,rfl,.inl ⟨rfl,hgo⟩⟩)
   ·have hn1:=hn (by intro h;rw [h] at hj;simp at hj)
    subst hn1
    rw [List.drop_eq_getElem_cons hj] at hgo
    have hgo:idxF p zs 0=cond (p zs[j]) (.ofNat j) (idxF p (zs.drop (j+1)) (j+1)):=hgo
    have hel:(zs.map tP)[j]? = some (tP zs[j]):=by rw [List.getElem?_map,List.getElem?_eq_getElem hj];rfl
    have hcall:∀ {β:Type} (k:TV→TH→Option β),Zdc TC call tlo (.fn (.func g) [] m) [tP zs[j]] H1 k=k (tB (p zs[j])) H1:=fun k=>
     callFn_of (by show Zbu pass (tP zs[j]::m)=true;rw [allG_cons,show pass (tP zs[j])=true from rfl];exact hm) (hp _ (List.getElem_mem hj))
    simp only [VV,h0,h1,h4,h5,Zcg,blt_t hj,Zbv hel,hcall]
    cases hb:p zs[j] with
    |true=>
     rw [hb] at hgo
     simp only [VV]
     exact .fin (.inr ⟨by simp,rfl,.inr ⟨rfl,congrArg tI hgo.symm⟩⟩)
    |false=>
     rw [hb] at hgo
     simp only [VV,add_n (show j+1 < 9223372036854775808 by omega)]
     exact .fin (.inl ⟨rfl,zs.length - (j+1),by omega,j+1,rfl,rfl,rfl,rfl,rfl,hj,rfl,hgo⟩)
  ·rintro S H1 ⟨_,h |h⟩ <;> simp at h
  ·rintro i S H1 ⟨h1,⟨h2,h3⟩ |⟨h2,_⟩⟩
   ·cases h2;exact ⟨h1,.inl ⟨rfl,h3⟩⟩
   ·cases h2
  ·rintro S H1 ⟨h1,⟨h2,_⟩ |⟨_,h3⟩⟩
   ·cases h2
   ·exact ⟨h1,.inr ⟨rfl,h3⟩⟩
  ·rintro S H1 ⟨rfl,⟨_,h⟩ |⟨h,_⟩⟩
   ·exact ⟨.ret,_,_,rfl,rfl,congrArg tI h.symm,rfl⟩
   ·cases h
  ·rintro i S H1 ⟨_,⟨h,_⟩ |⟨h,_⟩⟩ <;> cases h
  ·rintro S H1 ⟨rfl,⟨h,_⟩ |⟨_,h⟩⟩
   ·cases h
   ·exact ⟨rfl,h,rfl⟩
 obtain ⟨e,S,H1,h1,rfl,h2,rfl⟩:=key
 show Zaa (C134 call tlo (Zag H1) (.row c .set n (zs.map tP),.fn (.func g) [] m,Zao,Zao,Zao,Zao,Zao,Zao,()) H1) _=_
 rw [h1]
 simp only [bz_some,resE_r,h2,fin_one resOk_v Zdq,Zde]
theorem containsFP_run (d tlo:Nat) {c:Cp} {n g:Nat} {m:List TV} (zs:List (Int×Int)) (hn:zs≠[]→n=2) (p:(Int×Int)→Bool) {H:TH} (hlen:zs.length < 90000) (hm:Zbu pass m=true)
  (hp:∀ z∈zs,tc d tlo g ([tP z]++m) H=some (tB (p z),H)) :
  tc (d+2) tlo 59 [.row c .set n (zs.map tP),.fn (.func g) [] m] H=some (tB (hasF p zs),H):=by
 rw [tc_f (F:=F59) (by kernel_rfl)]
 have hcall:∀ {β:Type} (k:TV→TH→Option β),Zbr (tc (d+1)) tlo 134 [.row c .set n (zs.map tP),.fn (.func g) [] m] H k=k (tI (idxF p zs 0)) H:=fun k=>
  Zcy (by simp only [VV]) ((tc_f (F:=F134) (by kernel_rfl) ..).trans (indexFP_run _ _ zs hn p hlen hm hp))
 have hg:evGeq (.int .i64 (idxF p zs 0)) (.int .i64 (.ofNat 0))=some (.bool (hasF p zs)):=by rw [geq_i];exact congrArg (fun b=>some (Value.bool b)) (idxF_has p zs 0)
 show Zaa (C59 (tc (d+1)) tlo (Zag H) (.row c .set n (zs.map tP),.fn (.func g) [] m,Zao,()) H) _=_
 simp only [C59,VV,hcall,hg,Zbm Zdq,Zde]
end
end Go.Proofs.YtgemobbfikjmoaaGreatDoor
namespace Go.Proofs.YtgemobbfikjmoaaGreatDoor
open Go Go.Ev
set_option maxRecDepth 100000
noncomputable section
def hasN (x:Nat):List Nat→Bool
 |[]=>false
 |y::ys=>cond (Nat.beq x y) true (hasN x ys)
theorem hasN_T (x:Nat):∀ (l:List Nat),hasT (.ofNat x) (l.map Int.ofNat)=hasN x l
 |[]=>rfl
 |y::ys=>by
  show cond (Zca (.ofNat x) (.ofNat y)) true (hasT (.ofNat x) (ys.map Int.ofNat))=cond (Nat.beq x y) true (hasN x ys)
  rw [hasN_T x ys];rfl
theorem hasN_mem (x:Nat):∀ (l:List Nat),hasN x l=true↔x∈l
 |[]=>by simp [hasN]
 |y::ys=>by
  show cond (Nat.beq x y) true (hasN x ys)=true↔_
  rw [List.mem_cons]
  cases hb:Nat.beq x y with
  |true=>have:=Nat.eq_of_beq_eq_true hb;simp [this]
  |false=>
   have:x≠y:=ne_of_beq' hb
   show hasN x ys=true↔_
   rw [hasN_mem x ys];simp [this]
theorem map_tN (l:List Nat):l.map tN=(l.map Int.ofNat).map tI:=by rw [List.map_map];rfl
theorem containsN_run (d tlo:Nat) {c:Cp} {n:Nat} {zs:List Nat} {x:Nat} {H:TH} (hn:zs≠[]→n=1) (hlen:zs.length < 90000) :
  tc (d+2) tlo 64 [.row c .set n (zs.map tN),tN x] H=some (tB (hasN x zs),H):=by
 rw [map_tN,← hasN_T]
 exact contains_run d tlo (fun h=>hn (fun e=>h (by rw [e];rfl))) (by rw [List.length_map];exact hlen)
abbrev tS (w h:Nat) (c:Cp) (n:Nat) (sp:List Nat):TV:=.agg [tN w,tN h,.row c .set n (sp.map tN)]
def goodF (sp:List Nat):Nat→Nat→List Nat
 |0,_=>[]
 |k+1,j=>cond (hasN j sp) (goodF sp k (j+1)) (j::goodF sp k (j+1))
def goodL (w h:Nat) (sp:List Nat):List Nat:=goodF sp (w * h) 0
theorem goodF_len (sp:List Nat):∀ (k j:Nat),(goodF sp k j).length≤k
 |0,_=>Nat.le_refl 0
 |k+1,j=>by
  show (cond (hasN j sp) (goodF sp k (j+1)) (j::goodF sp k (j+1))).length≤k+1
  have:=goodF_len sp k (j+1)
  cases hasN j sp with
  |true=>exact Nat.le_succ_of_le this
  |false=>exact Nat.succ_le_succ this
theorem room8 {n:Nat} (h:n < 90000):Zcc 8 n=true:=by
 unfold Zcc
 have h1:Nat.ble (Nat.mul n 8) BIG=true:=Nat.ble_eq_true_of_le (by
                                     show n * 8≤BIG;have:(720000:Nat)≤BIG:=by decide
                                     omega)
 have h2:Nat.blt n BIG=true:=by
                    rw [Nat.blt_eq];have:(720000:Nat)≤BIG:=by decide
                    omega
 rw [h1,h2];rfl
theorem good_run (d tlo:Nat) {w h n:Nat} {c:Cp} {sp:List Nat} {H:TH} (hw:w < 1000) (hh:h < 80) (hn:sp≠[]→n=1) (hsp:sp.length < 90000) :
  tc (d+3) tlo 56 [tS w h c n sp] H=some (Zcr 3 1 ((goodL w h sp).map tN),H):=by
 have hwh:w * h < 80000:=Nat.lt_of_le_of_lt (Nat.mul_le_mul (Nat.le_of_lt hw) (Nat.le_of_lt_succ hh)) (by omega)
 rw [tc_f (F:=F56) (by kernel_rfl)]
 have key:EndsT (C56 (tc (d+2)) tlo (Zag H) (tS w h c n sp,Zao,Zao,Zao,Zao,Zao,Zao,Zao,Zao,()) H)
   fun e S H1=>e=.ret∧S.2.2.1=Zcr 3 1 ((goodL w h sp).map tN)∧H1=Zaq H (.cells [tN w,tN h,.row c .set n (sp.map tN)]):=by
  have hbox:(Zaq H (.cells [tN w,tN h,.row c .set n (sp.map tN)]))[Zag H]? = some (.cells [tN w,tN h,.row c .set n (sp.map tN)]):=Zbh
  have l0:∀ {β:Type} (k:TV→TH→Option β),Zbg .lend tlo (Zag H) false 1 (Zaq H (.cells [tN w,tN h,.row c .set n (sp.map tN)])) (.ptr (Zag H) (0+0)) k=k (tN w) _:=fun k=>Zbf hbox rfl rfl rfl
  have l1:∀ {β:Type} (k:TV→TH→Option β),Zbg .lend tlo (Zag H) false 1 (Zaq H (.cells [tN w,tN h,.row c .set n (sp.map tN)])) (.ptr (Zag H) (0+1)) k=k (tN h) _:=fun k=>Zbf hbox rfl rfl rfl
  have l2:∀ {β:Type} (k:TV→TH→Option β),Zbg .lend tlo (Zag H) false 1 (Zaq H (.cells [tN w,tN h,.row c .set n (sp.map tN)])) (.ptr (Zag H) (0+2)) k=k (.row c .set n (sp.map tN)) _:=fun k=>Zbf hbox rfl rfl rfl
  simp only [C56,VV,l0,l1,mul_n (show w * h < 9223372036854775808 by omega)]
  refine EndsT.sq (Q1:=fun e S H1=>H1=Zaq H (.cells [tN w,tN h,.row c .set n (sp.map tN)])∧e=.normal∧S.2.2.2.1=Zcr 3 1 ((goodL w h sp).map tN)) (EndsT.bl (Q1:=fun e S H1=>H1=Zaq H (.cells [tN w,tN h,.row c .set n (sp.map tN)])∧e=.exit 0∧S.2.2.2.1=Zcr 3 1 ((goodL w h sp).map tN)) ?_ ?_ ?_ ?_) ?_ ?_ ?_
  ·refine EndsT.loop (fun k S H1=>∃ j pre,S.2.1=.ptr (Zag H) 0∧S.2.2.2.1=Zcr 3 1 ((pre:List Nat).map tN)∧S.2.2.2.2.2.1=tN (w * h)∧S.2.2.2.2.2.2.1=tN j∧H1=Zaq H (.cells [tN w,tN h,.row c .set n (sp.map tN)])∧j≤w * h∧k=w * h - j∧pre.length≤j∧goodL w h sp=pre++goodF sp (w * h - j) j) ?_ fuel (w * h) _ _ (by rw [Zdl];omega)
    ⟨0,[],rfl,rfl,rfl,rfl,rfl,Nat.zero_le _,rfl,Nat.le_refl 0,rfl⟩
   rintro k S H1 ⟨j,pre,h1,h3,h5,h6,rfl,hj,rfl,hpl,hgo⟩
   rcases Nat.eq_or_lt_of_le hj with hj |hj
   ·rw [hj,Nat.sub_self] at hgo
    have hgo:goodL w h sp=pre:=by rw [hgo];exact List.append_nil _
    simp only [VV,h1,h3,h5,h6,Zcg,blt_f (Nat.le_of_eq hj.symm)]
    exact .fin (.inr ⟨by simp,rfl,rfl,by rw [hgo]⟩)
   ·have hk:w * h - j=(w * h - (j+1))+1:=by omega
    rw [hk] at hgo
    have hgo:goodL w h sp=pre++cond (hasN j sp) (goodF sp (w * h - (j+1)) (j+1)) (j::goodF sp (w * h - (j+1)) (j+1)):=hgo
    have hcall:Zah (tc (d+2)) 64 [.row c .set n (sp.map tN),tN j] (Zaq H (.cells [tN w,tN h,.row c .set n (sp.map tN)]))=some (tB (hasN j sp)):=
     Zdo (ws:=[.row c .set n (sp.map tN),tN j]) (H':=[]) rfl rfl (containsN_run d 0 hn hsp) rfl
    simp only [VV,h1,h3,h5,h6,Zcg,blt_t hj,l2,hcall]
    cases hb:hasN j sp with
    |true=>
     rw [hb] at hgo
     simp only [VV,hb,Bool.not_true,add_n (show j+1 < 9223372036854775808 by omega)]
     exact .fin (.inl ⟨rfl,w * h - (j+1),by omega,j+1,pre,rfl,rfl,rfl,rfl,rfl,hj,rfl,by omega,hgo⟩)
    |false=>
     rw [hb] at hgo
     have happ:∀ {β:Type} (k:TV→TH→Option β),Zcm tlo (Zaq H (.cells [tN w,tN h,.row c .set n (sp.map tN)])) 3 1 8 (Zcr 3 1 (pre.map tN)) (.row .full (.own 3) 1 [tN j]) k=k (Zcr 3 1 ((pre++[j]).map tN)) _:=fun k=>by
      rw [append_one (room8 (by rw [List.length_map];omega)),List.map_append];rfl
     simp only [VV,hb,Bool.not_false,show Zcx 1 [0] [tN j] (repG [tN 0] 1)=some [tN j] from rfl,happ,add_n (show j+1 < 9223372036854775808 by omega)]
     exact .fin (.inl ⟨rfl,w * h - (j+1),by omega,j+1,pre++[j],rfl,rfl,rfl,rfl,rfl,hj,rfl,by simp;omega,by rw [hgo];simp⟩)
  ·rintro S H1 ⟨_,h,_⟩;cases h
  ·rintro i S H1 ⟨h1,h2,h3⟩;cases h2;exact ⟨h1,rfl,h3⟩
  ·rintro S H1 ⟨_,h,_⟩;cases h
  ·rintro S H1 ⟨rfl,_,h⟩
   simp only [VV,h]
   exact .fin ⟨rfl,rfl,rfl⟩
  ·rintro i S H1 ⟨_,h,_⟩;cases h
  ·rintro S H1 ⟨_,h,_⟩;cases h
 obtain ⟨e,S,H1,h1,rfl,h2,rfl⟩:=key
 show Zaa (C56 (tc (d+2)) tlo (Zag H) (tS w h c n sp,Zao,Zao,Zao,Zao,Zao,Zao,Zao,Zao,()) H) _=_
 rw [h1]
 simp only [bz_some,resE_r,h2,fin_one resOk_O loose_O,take_push]
end
end Go.Proofs.YtgemobbfikjmoaaGreatDoor
namespace Go.Proofs.YtgemobbfikjmoaaGreatDoor
open Go Go.Ev
set_option maxRecDepth 100000
noncomputable section
abbrev tQ (p:Nat×Nat):TV:=.agg [tN p.1,tN p.2]
def eqQ (p q:Nat×Nat):Bool:=Nat.beq p.1 q.1 && (Nat.beq p.2 q.2 && true)
theorem flatQ_len:∀ (l:List (Nat×Nat)),(Zbl (l.map tQ)).length=l.length * 2
 |[]=>rfl
 |p::l=>by
  show ([tN p.1,tN p.2]++Zbl (l.map tQ)).length=_
  rw [List.length_append,flatQ_len l];simp;omega
theorem flatQ_at:∀ (l:List (Nat×Nat)) (j:Nat) (h:j < l.length),((Zbl (l.map tQ)).drop (j * 2)).take 2=[tN l[j].1,tN l[j].2]
 |p::l,0,_=>rfl
 |p::l,j+1,h=>by
  have h:j < l.length:=by simpa using h
  show (([tN p.1,tN p.2]++Zbl (l.map tQ)).drop ((j+1) * 2)).take 2=_
  have e:(j+1) * 2=2+j * 2:=by omega
  rw [e,← List.drop_drop]
  show ((Zbl (l.map tQ)).drop (j * 2)).take 2=_
  rw [flatQ_at l j h];rfl
theorem load_Q {β:Type} {m:Ld} {tlo base b j:Nat} {H:TH} {l:List (Nat×Nat)} {k:TV→TH→Option β} (hb:H[b]? = some (.cells (Zbl (l.map tQ)))) (h:j < l.length):Zbg m tlo base true 2 H (.ptr b (0+j * 2)) k=k (tQ l[j]) H:=by
 have e:=flatQ_at l j h
 rw [Zcw hb (by rw [flatQ_len];omega) (by
  rw [Nat.zero_add,e];rfl),Nat.zero_add,e]
def noAdj:List (Nat×Nat)→Bool
 |[]=>true
 |a::l=>match l with
  |[]=>true
  |b::_=>cond (eqQ b a) false (noAdj l)
theorem noAdj_at:∀ (l:List (Nat×Nat)) (j:Nat) (h:j+1 < l.length),noAdj l=true→eqQ l[j+1] l[j]=false
 |[],_,h,_=>by simp at h
 |[_],_,h,_=>by simp at h
 |a::b::l,0,_,hn=>by
  have hn:cond (eqQ b a) false (noAdj (b::l))=true:=hn
  show eqQ b a=false
  cases hb:eqQ b a with
  |true=>rw [hb] at hn;cases hn
  |false=>rfl
 |a::b::l,j+1,h,hn=>by
  have hn:cond (eqQ b a) false (noAdj (b::l))=true:=hn
  have h2:noAdj (b::l)=true:=by
   cases hb:eqQ b a with
   |true=>rw [hb] at hn;cases hn
   |false=>rw [hb] at hn;exact hn
  exact noAdj_at (b::l) j (by simpa using h) h2
theorem compact_run (call:Zbc) (tlo:Nat) {b cap:Nat} {l:List (Nat×Nat)} {H:TH} (hlen:l.length < 90000) (hb:H[b]? = some (.cells (Zbl (l.map tQ)))) (hna:noAdj l=true) :
  F136 call tlo [.vec b 0 l.length cap 2 true] H=some (.vec b 0 l.length cap 2 true,H):=by
 have key:EndsT (C136 call tlo (Zag H) (.vec b 0 l.length cap 2 true,Zao,Zao,Zao,Zao,Zao,Zao,Zao,Zao,Zao,()) H)
   fun e S H1=>e=.ret∧S.2.1=.vec b 0 l.length cap 2 true∧H1=H:=by
  simp only [C136,VV,Zcg]
  cases h2:Nat.blt l.length 2 with
  |true=>
   simp only [VV]
   exact .fin ⟨rfl,rfl,rfl⟩
  |false=>
   simp only [VV]
   refine EndsT.sq (Q1:=fun e S H1=>H1=H∧e=.normal∧S.1=.vec b 0 l.length cap 2 true) (EndsT.bl (Q1:=fun e S H1=>H1=H∧e=.exit 0∧S.1=.vec b 0 l.length cap 2 true) ?_ ?_ ?_ ?_) ?_ ?_ ?_
   ·refine EndsT.loop (fun k S H1=>∃ j,S.1=.vec b 0 l.length cap 2 true∧S.2.2.1=tN j∧H1=H∧1≤j∧j≤l.length∧k=l.length - j) ?_ fuel (l.length - 1) _ _ (by rw [Zdl];omega)
     ⟨1,rfl,rfl,rfl,Nat.le_refl 1,by
                        have:¬ l.length < 2:=fun h=>by rw [← Nat.blt_eq] at h;rw [h2] at h;cases h
                        omega,rfl⟩
    rintro k S H1 ⟨j,h0,h2,rfl,h1j,hj,rfl⟩
    rcases Nat.eq_or_lt_of_le hj with hj |hj
    ·simp only [VV,h0,h2,Zcg,blt_f (Nat.le_of_eq hj.symm)]
     exact .fin (.inr ⟨by simp,rfl,rfl,rfl⟩)
    ·obtain ⟨i,rfl⟩:∃ i,j=i+1:=⟨j - 1,by omega⟩
     have hq:=noAdj_at l i hj hna
     have e1:∀ {β:Type} (k:TV→TH→Option β),Zbg .lend tlo (Zag H1) true 2 H1 (.ptr b (0+(i+1) * 2)) k=k (tQ l[i+1]) H1:=fun k=>load_Q hb hj
     have e2:∀ {β:Type} (k:TV→TH→Option β),Zbg .lend tlo (Zag H1) true 2 H1 (.ptr b (0+i * 2)) k=k (tQ l[i]) H1:=fun k=>load_Q hb (by omega)
     have hs:Zcl (.int .i64 (.ofNat (i+1))) (.int .i64 (.ofNat 1))=some (.int .i64 (.ofNat i)):=by rw [sub_n (by omega) (by omega)];rfl
     have hq:(Zca (.ofNat l[i+1].1) (.ofNat l[i].1) && (Zca (.ofNat l[i+1].2) (.ofNat l[i].2) && true))=false:=hq
     simp only [VV,h0,h2,Zcg,blt_t hj,idxSl_vec hj,idxSl_vec (show i < l.length by omega),e1,e2,hs,hq,add_n (show i+1+1 < 9223372036854775808 by omega)]
     exact .fin (.inl ⟨rfl,l.length - (i+1+1),by omega,i+1+1,rfl,rfl,rfl,by omega,hj,rfl⟩)
   ·rintro S H1 ⟨_,h,_⟩;cases h
   ·rintro i S H1 ⟨h1,h2,h3⟩;cases h2;exact ⟨h1,rfl,h3⟩
   ·rintro S H1 ⟨_,h,_⟩;cases h
   ·rintro S H1 ⟨rfl,_,h⟩
    simp only [VV,h]
    exact .fin ⟨rfl,rfl,rfl⟩
   ·rintro i S H1 ⟨_,h,_⟩;cases h
   ·rintro S H1 ⟨_,h,_⟩;cases h
 obtain ⟨e,S,H1,h1,rfl,h2,rfl⟩:=key
 show Zaa (C136 call tlo (Zag H1) (.vec b 0 l.length cap 2 true,Zao,Zao,Zao,Zao,Zao,Zao,Zao,Zao,Zao,()) H1) _=_
 rw [h1]
 simp only [VV,h2]
 rfl
theorem compact_nil (call:Zbc) (tlo:Nat) {H:TH}:F136 call tlo [nilT] H=some (nilT,H):=by
 show Zaa (C136 call tlo (Zag H) (nilT,Zao,Zao,Zao,Zao,Zao,Zao,Zao,Zao,Zao,()) H) _=_
 simp only [C136,nil_row,VV,Zat,List.length_nil,Zcg,show Nat.blt 0 2=true from rfl,fin_one resOk_set loose_set]
 rw [Zbm loose_set,Zct,List.take_length]
def nxt (w:Nat) (l:List Nat) (c:Nat):List (Nat×Nat):=
 List.append (cond (Nat.blt (c % w) (w - 1)) (cond (hasN (c+1) l) [(c,c+1)] []) []) (cond (hasN (c+w) l) [(c,c+w)] [])
def pairsF (w:Nat) (l:List Nat):List Nat→List (Nat×Nat)
 |[]=>[]
 |c::cs=>List.append (nxt w l c) (pairsF w l cs)
def Zci (w h:Nat) (sp:List Nat):List (Nat×Nat):=pairsF w (goodL w h sp) (goodL w h sp)
theorem room16 {n:Nat} (h:n < 200000):Zcc 16 n=true:=by
 unfold Zcc
 have h1:Nat.ble (Nat.mul n 16) BIG=true:=Nat.ble_eq_true_of_le (by
                                      show n * 16≤BIG;have:(3200000:Nat)≤BIG:=by decide
                                      omega)
 have h2:Nat.blt n BIG=true:=by
                    rw [Nat.blt_eq];have:(3200000:Nat)≤BIG:=by decide
                    omega
 rw [h1,h2];rfl
theorem app_Q {β:Type} {tlo:Nat} {H:TH} {pre:List (Nat×Nat)} {p:Nat×Nat} (h:pre.length < 190000) (k:TV→TH→Option β) :
  Zcm tlo H 71 2 16 (Zcr 71 2 (pre.map tQ)) (.row .full (.own 71) 2 [tQ p]) k=k (Zcr 71 2 ((pre++[p]).map tQ)) H:=by
 rw [append_one (room16 (by rw [List.length_map];omega)),List.map_append];rfl
theorem goodF_lt (sp:List Nat):∀ (k j:Nat),∀ x∈goodF sp k j,x < j+k
 |0,_,x,h=>by cases h
 |k+1,j,x,h=>by
  have h:x∈cond (hasN j sp) (goodF sp k (j+1)) (j::goodF sp k (j+1)):=h
  cases hb:hasN j sp with
  |true=>rw [hb] at h;have:=goodF_lt sp k (j+1) x h;omega
  |false=>
   rw [hb] at h
   rcases List.mem_cons.1 h with rfl |h
   ·omega
   ·have:=goodF_lt sp k (j+1) x h;omega
abbrev rS (n:Nat) (l:List TV):TV:=.row (cpO l) .set (szO n l) l
theorem good_tree (d:Nat) {w h n:Nat} {c:Cp} {sp:List Nat} {H:TH} (hw:w < 1000) (hh:h < 80) (hn:sp≠[]→n=1) (hsp:sp.length < 90000) :
  Zah (tc (d+3)) 56 [tS w h c n sp] H=some (Zcr 3 1 ((goodL w h sp).map tN)):=
 Zdo (ws:=[tS w h c n sp]) (H':=[]) (a:=false) rfl (by cases c <;> rfl) (good_run d 0 hw hh hn hsp) outR_O
theorem pairs_run (d tlo:Nat) {w h n:Nat} {c:Cp} {sp:List Nat} {H:TH} (hw0:0 < w) (hw:w < 1000) (hh:h < 80) (hn:sp≠[]→n=1) (hsp:sp.length < 90000) (hna:noAdj (Zci w h sp)=true) (hplen:(Zci w h sp).length < 90000) :
  ∃ H',tc (d+4) tlo 63 [tS w h c n sp] H=some ((match Zci w h sp with |[]=>nilT |l=>.vec (Zag H+1) 0 l.length (UNK+2) 2 true),H')∧(Zci w h sp≠[]→H'[Zag H+1]? = some (.cells (Zbl ((Zci w h sp).map tQ)))):=by
 have hwh:w * h < 80000:=Nat.lt_of_le_of_lt (Nat.mul_le_mul (Nat.le_of_lt hw) (Nat.le_of_lt_succ hh)) (by omega)
 rw [tc_f (F:=F63) (by kernel_rfl)]
 obtain ⟨gl,hgl⟩:∃ gl,gl=goodL w h sp:=⟨_,rfl⟩
 have hgl':gl.length < 80000:=by rw [hgl];exact Nat.lt_of_le_of_lt (goodF_len sp _ _) hwh
 have hlt:∀ x∈gl,x < 80000:=fun x hx=>by rw [hgl] at hx;have:=goodF_lt sp _ _ x hx;omega
 have hpl:Zci w h sp=pairsF w gl gl:=by unfold Zci;rw [← hgl]
 obtain ⟨B,hB⟩:∃ B,B=Zaq H (.cells [tN w,tN h,.row c .set n (sp.map tN)]):=⟨_,rfl⟩
 have hbox:B[Zag H]? = some (.cells [tN w,tN h,.row c .set n (sp.map tN)]):=by rw [hB];exact Zbh
 have hlB:Zag B=Zag H+1:=by rw [hB];exact Zbp
 have key:EndsT (C63 (tc (d+3)) tlo (Zag H) (tS w h c n sp,Zao,Zao,Zao,Zao,Zao,Zao,Zao,Zao,Zao,Zao,Zao,()) H)
   fun e S H1=>e=.ret∧S.2.2.1=(match Zci w h sp with |[]=>nilT |l=>.vec (Zag H+1) 0 l.length (UNK+2) 2 true)∧(Zci w h sp≠[]→H1[Zag H+1]? = some (.cells (Zbl ((Zci w h sp).map tQ)))):=by
  have l0:∀ {β:Type} (k:TV→TH→Option β),Zbg .lend tlo (Zag H) false 1 B (.ptr (Zag H) (0+0)) k=k (tN w) B:=fun k=>Zbf hbox rfl rfl rfl
  have lA:∀ {β:Type} (k:TV→TH→Option β),Zbg .lend tlo (Zag H) true 3 B (.ptr (Zag H) 0) k=k (tS w h c n sp) B:=fun k=>Zcw hbox (by simp) rfl
  simp only [C63,VV,← hB,lA,good_tree d hw hh hn hsp,← hgl,Zat B,Zat (gl.map tN),List.length_map]
  refine EndsT.sq (Q1:=fun e S H1=>H1=B∧e=.normal∧S.2.2.2.1=Zcr 71 2 ((Zci w h sp).map tQ)) (EndsT.bl (Q1:=fun e S H1=>H1=B∧e=.exit 0∧S.2.2.2.1=Zcr 71 2 ((Zci w h sp).map tQ)) ?_ ?_ ?_ ?_) ?_ ?_ ?_
  ·refine EndsT.loop (fun k S H1=>∃ j pre,S.2.1=.ptr (Zag H) 0∧S.2.2.2.1=Zcr 71 2 ((pre:List (Nat×Nat)).map tQ)∧S.2.2.2.2.1=rS 1 (gl.map tN)∧S.2.2.2.2.2.2.1=rS 1 (gl.map tN)∧S.2.2.2.2.2.2.2.1=tN gl.length∧S.2.2.2.2.2.2.2.2.1=tN j∧H1=B∧j≤gl.length∧k=gl.length - j∧pre.length≤2 * j∧Zci w h sp=pre++pairsF w gl (gl.drop j)) ?_ fuel gl.length _ _ (by rw [Zdl];omega)
    ⟨0,[],rfl,rfl,rfl,rfl,rfl,rfl,rfl,Nat.zero_le _,rfl,Nat.le_refl 0,hpl⟩
   rintro k S H1 ⟨j,pre,h1,h3,h4,h6,h7,h8,rfl,hj,rfl,hpl2,hgo⟩
   rcases Nat.eq_or_lt_of_le hj with hj |hj
   ·rw [hj,List.drop_length] at hgo
    have hgo:Zci w h sp=pre:=by rw [hgo];exact List.append_nil _
    simp only [VV,h1,h3,h4,h6,h7,h8,Zcg,blt_f (Nat.le_of_eq hj.symm)]
    exact .fin (.inr ⟨by simp,rfl,rfl,by rw [hgo]⟩)
   ·have hne:gl.map tN≠[]:=by intro e;rw [List.map_eq_nil_iff] at e;rw [e] at hj;simp at hj
    have hsz:szO 1 (gl.map tN)=1:=szO_eq hne
    have hszn:gl≠[]→szO 1 (gl.map tN)=1:=fun _=>hsz
    obtain ⟨x,hx⟩:∃ x,x=gl[j]:=⟨_,rfl⟩
    have hxl:x < 80000:=hlt x (by rw [hx];exact List.getElem_mem hj)
    rw [List.drop_eq_getElem_cons hj,← hx] at hgo
    have hgo:Zci w h sp=pre++List.append (nxt w gl x) (pairsF w gl (gl.drop (j+1))):=hgo
    have hel:(gl.map tN)[j]? = some (tN x):=by rw [List.getElem?_map,List.getElem?_eq_getElem hj,hx];rfl
    have hix:Zbn 1 (.row (cpO (gl.map tN)) .set (szO 1 (gl.map tN)) (gl.map tN)) (tN j)=some (.el .set [tN x] 0):=by rw [hsz];exact Zbv hel
    have hc1:Zah (tc (d+3)) 64 [rS 1 (gl.map tN),tN (x+1)] H1=some (tB (hasN (x+1) gl)):=
     Zdo (ws:=[rS 1 (gl.map tN),tN (x+1)]) (H':=[]) rfl rfl (containsN_run (d+1) 0 hszn (by omega)) rfl
    have hc2:Zah (tc (d+3)) 64 [rS 1 (gl.map tN),tN (x+w)] H1=some (tB (hasN (x+w) gl)):=
     Zdo (ws:=[rS 1 (gl.map tN),tN (x+w)]) (H':=[]) rfl rfl (containsN_run (d+1) 0 hszn (by omega)) rfl
    have a1:Zbe (.int .i64 (.ofNat x)) (.int .i64 (.ofNat 1))=some (.int .i64 (.ofNat (x+1))):=add_n (by omega)
    have a2:Zbe (.int .i64 (.ofNat x)) (.int .i64 (.ofNat w))=some (.int .i64 (.ofNat (x+w))):=add_n (by omega)
    have a3:Zbe (.int .i64 (.ofNat j)) (.int .i64 (.ofNat 1))=some (.int .i64 (.ofNat (j+1))):=add_n (by omega)
    have a4:evRem (.int .i64 (.ofNat x)) (.int .i64 (.ofNat w))=some (.int .i64 (.ofNat (x % w))):=rem_n hw0
    have a5:Zcl (.int .i64 (.ofNat w)) (.int .i64 (.ofNat 1))=some (.int .i64 (.ofNat (w - 1))):=sub_n hw0 (by omega)
    have g1:∀ a b:Nat,aggT [(0,1,tN a),(1,1,tN b)] zc71=some (tQ (a,b)):=fun a b=>rfl
    have g2:∀ a b:Nat,Zcx 2 [0] [.agg [tN a,tN b]] (repG [.agg zc71] 1)=some [tQ (a,b)]:=fun a b=>rfl
    have p1:∀ {β:Type} (k:TV→TH→Option β),Zcm tlo H1 71 2 16 (Zcr 71 2 (pre.map tQ)) (.row .full (.own 71) 2 [tQ (x,x+1)]) k=k (Zcr 71 2 ((pre++[(x,x+1)]).map tQ)) H1:=fun k=>app_Q (by omega) k
    have p2:∀ {β:Type} (k:TV→TH→Option β),Zcm tlo H1 71 2 16 (Zcr 71 2 (pre.map tQ)) (.row .full (.own 71) 2 [tQ (x,x+w)]) k=k (Zcr 71 2 ((pre++[(x,x+w)]).map tQ)) H1:=fun k=>app_Q (by omega) k
    have p3:∀ {β:Type} (k:TV→TH→Option β),Zcm tlo H1 71 2 16 (Zcr 71 2 ((pre++[(x,x+1)]).map tQ)) (.row .full (.own 71) 2 [tQ (x,x+w)]) k=k (Zcr 71 2 (((pre++[(x,x+1)])++[(x,x+w)]).map tQ)) H1:=fun k=>app_Q (by simp;omega) k
    unfold nxt at hgo
    cases b1:Nat.blt (x % w) (w - 1) <;> cases b2:hasN (x+1) gl <;> cases b3:hasN (x+w) gl <;> rw [b1,b2,b3] at hgo <;>
     simp only [VV,h1,h3,h4,h6,h7,h8,Zcg,blt_t hj,hix,l0,a1,a2,a3,a4,a5,b1,b2,b3,hc1,hc2,g1,g2,p1,p2,p3] <;>
     first
     |exact .fin (.inl ⟨rfl,gl.length - (j+1),by omega,j+1,pre,rfl,rfl,rfl,rfl,rfl,rfl,rfl,hj,rfl,by omega,by rw [hgo];simp⟩)
     |exact .fin (.inl ⟨rfl,gl.length - (j+1),by omega,j+1,pre++[(x,x+1)],rfl,rfl,rfl,rfl,rfl,rfl,rfl,hj,rfl,by simp;omega,by rw [hgo];simp⟩)
     |exact .fin (.inl ⟨rfl,gl.length - (j+1),by omega,j+1,pre++[(x,x+w)],rfl,rfl,rfl,rfl,rfl,rfl,rfl,hj,rfl,by simp;omega,by rw [hgo];simp⟩)
     |exact .fin (.inl ⟨rfl,gl.length - (j+1),by omega,j+1,(pre++[(x,x+1)])++[(x,x+w)],rfl,rfl,rfl,rfl,rfl,rfl,rfl,hj,rfl,by simp;omega,by rw [hgo];simp⟩)
  ·rintro S H1 ⟨_,h,_⟩;cases h
  ·rintro i S H1 ⟨h1,h2,h3⟩;cases h2;exact ⟨h1,rfl,h3⟩
  ·rintro S H1 ⟨_,h,_⟩;cases h
  ·rintro S H1 ⟨rfl,_,hS⟩
   cases hp:Zci w h sp with
   |nil=>
    rw [hp] at hS
    have hS:S.2.2.2.1=.row .nil .set 0 []:=hS
    have hc:∀ {β:Type} (k:TV→TH→Option β),Zbr (tc (d+3)) tlo 136 [.row .nil .set 0 []] H1 k=k (.row .nil .set 0 []) H1:=fun k=>
     Zcy rfl ((tc_f (F:=F136) (by kernel_rfl) ..).trans (compact_nil _ _))
    simp only [VV,hS,hc]
    exact .fin ⟨rfl,rfl,fun h=>absurd rfl h⟩
   |cons p l=>
    rw [hp] at hS
    rw [hp] at hna
    have hS:S.2.2.2.1=.row .opn (.own 71) 2 ((p::l).map tQ):=hS
    have hll:(p::l).length < 90000:=by
     have:(Zci w h sp).length < 90000:=hplen
     rwa [hp] at this
    have hg:(Zaq H1 (.cells (Zbl ((p::l).map tQ))))[Zag H1]? = some (.cells (Zbl ((p::l).map tQ))):=Zbh
    have hc:∀ {β:Type} (k:TV→TH→Option β),Zbr (tc (d+3)) tlo 136 [.vec (Zag H1) 0 (p::l).length (UNK+2) 2 true] (Zaq H1 (.cells (Zbl ((p::l).map tQ)))) k=k (.vec (Zag H1) 0 (p::l).length (UNK+2) 2 true) (Zaq H1 (.cells (Zbl ((p::l).map tQ)))):=fun k=>
     Zcy rfl ((tc_f (F:=F136) (by kernel_rfl) ..).trans (compact_run _ _ hll hg hna))
    simp only [VV,hS,Zat ((p::l).map tQ),List.length_map,hc]
    rw [hlB] at hg ⊢
    exact .fin ⟨rfl,rfl,fun _=>hg⟩
  ·rintro i S H1 ⟨_,h,_⟩;cases h
  ·rintro S H1 ⟨_,h,_⟩;cases h
 obtain ⟨e,S,H1,h1,rfl,h2,h3⟩:=key
 show ∃ H',Zaa (C63 (tc (d+3)) tlo (Zag H) (tS w h c n sp,Zao,Zao,Zao,Zao,Zao,Zao,Zao,Zao,Zao,Zao,Zao,()) H) _=_∧_
 rw [h1]
 cases hp:Zci w h sp with
 |nil=>
  rw [hp] at h2
  refine ⟨Zdg H1 (Zag H),?_,fun h=>absurd rfl h⟩
  have h2:S.2.2.1=.row .nil .set 0 []:=h2
  simp only [bz_some,resE_r,h2,fin_one resOk_set loose_set]
 |cons p l=>
  rw [hp] at h2 h3
  refine ⟨H1,?_,fun _=>h3 (by simp)⟩
  have h2:S.2.2.1=.vec (Zag H+1) 0 (p::l).length (UNK+2) 2 true:=h2
  simp only [VV,h2]
  rfl
end
end Go.Proofs.YtgemobbfikjmoaaGreatDoor
namespace Go.Proofs.YtgemobbfikjmoaaGreatDoor
open Go Go.Ev
set_option maxRecDepth 100000
noncomputable section
theorem grp_Q:∀ (l:List (Nat×Nat)),grpT true 2 l.length (Zbl (l.map tQ))=some (l.map tQ)
 |[]=>rfl
 |p::l=>by
  show Zaf (cellT true 2 (Zbl ((p::l).map tQ))) (fun x=>Zaf (grpT true 2 l.length (dropG (Zbl ((p::l).map tQ)) 2)) fun l=>some (x::l))=_
  have e1:cellT true 2 (Zbl ((p::l).map tQ))=some (tQ p):=by
   show Zap (Nat.ble 2 (Zag (Zbl ((p::l).map tQ)))) _=_
   have:2≤(Zbl ((p::l).map tQ)).length:=by rw [flatQ_len];simp;omega
   rw [Zat,Nat.ble_eq_true_of_le this]
   show some (TV.agg (Zdg (Zbl ((p::l).map tQ)) 2))=_
   rw [Zct];rfl
  have e2:dropG (Zbl ((p::l).map tQ)) 2=Zbl (l.map tQ):=by rw [dropG_eq];rfl
  rw [e1,e2,grp_Q l];rfl
theorem flatQ_closed:∀ (l:List (Nat×Nat)),(Zbl (l.map tQ)).all Zbw=true
 |[]=>rfl
 |p::l=>by
  show ([tN p.1,tN p.2]++Zbl (l.map tQ)).all Zbw=true
  rw [List.all_append,flatQ_closed l];rfl
theorem rows_Q {H:TH} {b:Nat} {l:List (Nat×Nat)} (hb:H[b]? = some (.cells (Zbl (l.map tQ)))):rowsT H b 0 l.length 2 true=some (l.map tQ):=by
 unfold rowsT Zco
 rw [Zcb,hb]
 show Zap (Nat.ble (0+l.length * 2) (Zag (Zbl (l.map tQ)))) (Zap (Zbu Zbw (segG (Zbl (l.map tQ)) 0 (l.length * 2))) (grpT true 2 l.length (dropG (Zbl (l.map tQ)) 0)))=_
 have e:segG (Zbl (l.map tQ)) 0 (l.length * 2)=Zbl (l.map tQ):=by
  unfold segG;rw [Zct,dropG_eq,List.drop_zero,List.take_of_length_le (by rw [flatQ_len];exact Nat.le_refl _)]
 rw [e,Zat,flatQ_len,Nat.zero_add,Nat.ble_eq_true_of_le (Nat.le_refl _),Zds,flatQ_closed,dropG_eq,List.drop_zero,grp_Q];rfl
theorem unk_big:1000000 < UNK:=by unfold UNK;decide
theorem out_vec {H:TH} {b:Nat} {l:List (Nat×Nat)} (hb:H[b]? = some (.cells (Zbl (l.map tQ)))) (hl:l.length < 90000):outR false H (.vec b 0 l.length (UNK+2) 2 true)=some (.row .opn .set 2 (l.map tQ)):=by
 have hu:=unk_big
 show Zaf (rowsT H b 0 l.length 2 true) (fun es=>Zap (capV l.length (UNK+2) 2) (Zap (cond false (Zbu flatE es) true) (some (TV.row (cond (Nat.beq l.length (UNK+2)) .full .opn) .set 2 es))))=_
 rw [rows_Q hb]
 have e1:capV l.length (UNK+2) 2=true:=by
  unfold capV
  rw [Nat.ble_eq_true_of_le (by omega),beqt (show UNK+2=Nat.add UNK 2 from rfl)]
  show Nat.blt l.length UNK=true
  rw [Nat.blt_eq];omega
 have e2:Nat.beq l.length (UNK+2)=false:=beqf (by omega)
 rw [e1,e2];rfl
theorem pairs_tree (d:Nat) {w h n:Nat} {c:Cp} {sp:List Nat} {H:TH} (hw0:0 < w) (hw:w < 1000) (hh:h < 80) (hn:sp≠[]→n=1) (hsp:sp.length < 90000) (hna:noAdj (Zci w h sp)=true) (hpl:(Zci w h sp).length < 90000) :
  Zah (tc (d+4)) 63 [tS w h c n sp] H=some (rS 2 ((Zci w h sp).map tQ)):=by
 obtain ⟨H',h1,h2⟩:=pairs_run d 0 (H:=[]) (c:=c) hw0 hw hh hn hsp hna hpl
 refine Zdo (ws:=[tS w h c n sp]) (a:=false) rfl (by cases c <;> rfl) h1 ?_
 cases hp:Zci w h sp with
 |nil=>rfl
 |cons p l=>
  rw [hp] at h2 hpl
  exact out_vec (h2 (by simp)) hpl
end
end Go.Proofs.YtgemobbfikjmoaaGreatDoor
namespace Go.Proofs.YtgemobbfikjmoaaGreatDoor
open Go Go.Ev
set_option maxRecDepth 100000
noncomputable section
abbrev tU (n:Nat):TV:=.v (.int .u64 (.ofNat n))
theorem tb64_eq:tb64=tab64:=rfl
theorem tab_map (i:Nat):(tabT tb64)[i]? = (tab64[i]?).map fun z=>TV.v (.int .u8 z):=by
 unfold tabT
 rw [mapG_eq,List.getElem?_map,tb64_eq]
theorem tab_at (k:Fin 64) {i:Nat} (hi:i=(2 ^ k.val * 285870213051353865 % 18446744073709551616) / 2 ^ 58):(tabT tb64)[i]? = some (.v (.int .u8 (.ofNat k.val))):=by
 have h:tab64[i]? = some (Int.ofNat k.val):=by rw [hi];exact tab64_at k
 rw [tab_map,h];rfl
theorem tz64_run (call:Zbc) (tlo:Nat) {s:Nat} (h0:s≠0) (hs:s < 18446744073709551616) {H:TH} :
  F197 call tlo [tU s] H=some (tN (low 64 s),H):=by
 have hk:=low_lt 64 s h0 hs
 have hn:evNeg (.int .u64 (.ofNat s))=some (.int .u64 (.ofNat (18446744073709551616 - s))):=by
  show some (Value.int .u64 (wrapF .u64 (Int.sub 0 (.ofNat s))))=_
  rw [wrapF_eq,IntKind.wrap_u64]
  have:(Int.sub 0 (Int.ofNat s)) % 18446744073709551616=Int.ofNat (18446744073709551616 - s):=by
   show (0 - (s:Int)) % 18446744073709551616=((18446744073709551616 - s:Nat):Int)
   omega
  rw [this]
 have ha:evAnd (.int .u64 (.ofNat s)) (.int .u64 (.ofNat (18446744073709551616 - s)))=some (.int .u64 (.ofNat (2 ^ low 64 s))):=by
  rw [and_u hs (by omega),and_neg 64 s h0 hs]
 have he:Zca (.ofNat s) (.ofNat 0)=false:=by rw [intEq_dec,decide_eq_false (by intro h;exact h0 (Int.ofNat.inj h))]
 obtain ⟨k,hkk⟩:∃ k:Fin 64,k.val=low 64 s:=⟨⟨_,hk⟩,rfl⟩
 obtain ⟨m,hmm⟩:∃ m,m=2 ^ k.val * 285870213051353865 % 18446744073709551616:=⟨_,rfl⟩
 obtain ⟨j,hj⟩:∃ j,j=m / 2 ^ 58:=⟨_,rfl⟩
 have hm:evMul (.int .u64 (.ofNat (2 ^ low 64 s))) (.int .u64 (.ofNat 285870213051353865))=some (.int .u64 (.ofNat m)):=by
  rw [hmm,← hkk]
  exact mul_u _ _
 have hi:j < 64:=by rw [hj,hmm];omega
 have hat:(tabT tb64)[j]? = some (.v (.int .u8 (.ofNat (low 64 s)))):=by
  rw [← hkk]
  exact tab_at k (by rw [hj,hmm])
 have hs2:evShr (.int .u64 (.ofNat m)) (.int .u64 (.ofNat 58))=some (.int .u64 (.ofNat j)):=by rw [hj];exact shr_u (by decide)
 clear hj hmm
 have hx:Zbj 64 1 (.el .set tab1 0) (.v (.int .u64 (.ofNat j)))=some (.el .set tab1 j):=by
  show Zap (Nat.blt j 64) (Zar (.el .set tab1 0) (Nat.mul j 1))=_
  rw [(by rw [Nat.blt_eq];exact hi:Nat.blt j 64=true)]
  show some (TV.el .set tab1 (0+j * 1))=_
  rw [Nat.zero_add,Nat.mul_one]
 have hl:∀ {β:Type} (kk:TV→TH→Option β),Zbg .lend tlo (Zag H) false 1 H (.el .set tab1 j) kk=kk (.v (.int .u8 (.ofNat (low 64 s)))) H:=fun kk=>load_el hat
 have hc:evConv .i64 (.int .u8 (.ofNat (low 64 s)))=some (.int .i64 (.ofNat (low 64 s))):=by
  show some (Value.int .i64 (wrapF .i64 (.ofNat (low 64 s))))=_
  rw [wrap_in (by unfold I64;exact ⟨by have:=Int.natCast_nonneg (low 64 s);show _≤((low 64 s:Nat):Int);omega,by show ((low 64 s:Nat):Int) < _;omega⟩)]
 show Zaa (C197 call tlo (Zag H) (tU s,Zao,Zao,()) H) _=_
 simp only [C197,VV,he,hn,ha,hm,hs2,hx,hl,hc,Zbm Zdq,Zde]
theorem tz_tree (d:Nat) {s:Nat} (h0:s≠0) (hs:s < 18446744073709551616) {H:TH}:Zah (tc (d+2)) 156 [tU s] H=some (tN (low 64 s)):=by
 refine Zdo (ws:=[tU s]) (H':=[]) (v:=tN (low 64 s)) rfl rfl ?_ rfl
 rw [tc_f (F:=F156) (by kernel_rfl)]
 have hc:Zah (tc (d+1)) 197 [tU s] []=some (tN (low 64 s)):=
  Zdo (ws:=[tU s]) (H':=[]) rfl rfl ((tc_f (F:=F197) (by kernel_rfl) ..).trans (tz64_run _ _ h0 hs)) rfl
 show Zaa (C156 (tc (d+1)) 0 (Zag []) (tU s,Zao,()) []) _=_
 simp only [C156,VV,hc,Zbm Zdq,Zde]
theorem list_run (d tlo:Nat) {s:Nat} (hs:s < 18446744073709551616) {H:TH} :
  tc (d+3) tlo 100 [tU s] H=some (Zcr 3 1 ((Zdh s).map tN),H):=by
 rw [tc_f (F:=F100) (by kernel_rfl)]
 have key:EndsT (C100 (tc (d+2)) tlo (Zag H) (tU s,Zao,Zao,Zao,()) H) fun e S H1=>e=.ret∧S.2.1=Zcr 3 1 ((Zdh s).map tN)∧H1=H:=by
  simp only [C100,VV]
  refine EndsT.sq (Q1:=fun e S H1=>H1=H∧e=.normal∧S.2.2.1=Zcr 3 1 ((Zdh s).map tN)) (EndsT.bl (Q1:=fun e S H1=>H1=H∧e=.exit 0∧S.2.2.1=Zcr 3 1 ((Zdh s).map tN)) ?_ ?_ ?_ ?_) ?_ ?_ ?_
  ·refine EndsT.loop (fun k S H1=>∃ s' pre,S.1=tU s'∧S.2.2.1=Zcr 3 1 ((pre:List Nat).map tN)∧H1=H∧s' < 18446744073709551616∧Zdh s=pre++Zdh s'∧k=(Zdh s').length) ?_ fuel (Zdh s).length _ _
    (Nat.lt_of_le_of_lt (ev_bits_length s) (by decide)) ⟨s,[],rfl,rfl,rfl,hs,rfl,rfl⟩
   rintro k S H1 ⟨s',pre,h0,h2,rfl,hs',hb,rfl⟩
   by_cases hz:s'=0
   ·subst hz
    simp only [VV,h0,h2,show Zca (.ofNat 0) (.ofNat 0)=true from rfl,Bool.not_true]
    rw [ev_bits_zero,List.append_nil] at hb
    exact .fin (.inr ⟨by simp,rfl,rfl,by rw [hb]⟩)
   ·have he:Zca (.ofNat s') (.ofNat 0)=false:=by rw [intEq_dec,decide_eq_false (by intro h;exact hz (Int.ofNat.inj h))]
    have hlen:pre.length+1 < 90000:=by
     have h1:=ev_bits_length s
     rw [hb,List.length_append] at h1
     omega
    have happ:∀ {β:Type} (k:TV→TH→Option β),Zcm tlo H1 3 1 8 (Zcr 3 1 (pre.map tN)) (.row .full (.own 3) 1 [tN (low 64 s')]) k=k (Zcr 3 1 ((pre++[low 64 s']).map tN)) H1:=fun k=>by
     rw [append_one (room8 (by rw [List.length_map];omega)),List.map_append];rfl
    have hsub:Zcl (.int .u64 (.ofNat s')) (.int .u64 (.ofNat 1))=some (.int .u64 (.ofNat (s' - 1))):=sub_u (by omega) hs'
    have hand:evAnd (.int .u64 (.ofNat s')) (.int .u64 (.ofNat (s' - 1)))=some (.int .u64 (.ofNat (s' &&& (s' - 1)))):=and_u hs' (by omega)
    have hb':=ev_bits_low hz hs'
    simp only [VV,h0,h2,he,Bool.not_false,tz_tree d hz hs',show ∀ x:Nat,Zcx 1 [0] [tN x] (repG [tN 0] 1)=some [tN x] from fun x=>rfl,happ,hsub,hand]
    exact .fin (.inl ⟨rfl,(Zdh (s' &&& (s' - 1))).length,by rw [hb'];simp,s' &&& (s' - 1),pre++[low 64 s'],rfl,rfl,rfl,by have:=and_pred_lt hz;omega,by rw [hb,hb',List.append_assoc];rfl,rfl⟩)
  ·rintro S H1 ⟨_,h,_⟩;cases h
  ·rintro i S H1 ⟨h1,h2,h3⟩;cases h2;exact ⟨h1,rfl,h3⟩
  ·rintro S H1 ⟨_,h,_⟩;cases h
  ·rintro S H1 ⟨rfl,_,h⟩
   simp only [VV,h]
   exact .fin ⟨rfl,rfl,rfl⟩
  ·rintro i S H1 ⟨_,h,_⟩;cases h
  ·rintro S H1 ⟨_,h,_⟩;cases h
 obtain ⟨e,S,H1,h1,rfl,h2,rfl⟩:=key
 show Zaa (C100 (tc (d+2)) tlo (Zag H1) (tU s,Zao,Zao,Zao,()) H1) _=_
 rw [h1]
 simp only [bz_some,resE_r,h2,fin_one resOk_O loose_O,Zde]
theorem list_tree (d:Nat) {s:Nat} (hs:s < 18446744073709551616) {H:TH}:Zah (tc (d+3)) 100 [tU s] H=some (Zcr 3 1 ((Zdh s).map tN)):=
 Zdo (ws:=[tU s]) (H':=[]) (a:=false) rfl rfl (list_run d 0 hs) outR_O
end
end Go.Proofs.YtgemobbfikjmoaaGreatDoor
namespace Go.Proofs.YtgemobbfikjmoaaGreatDoor
open Go Go.Ev
set_option maxRecDepth 100000
noncomputable section
def plT (w h g:Nat) (near:List Nat):List TV:=tN w::tN h::tU g::near.map tU
theorem plT_len (w h g:Nat) (near:List Nat):(plT w h g near).length=near.length+3:=by simp [plT]
theorem plT_w (w h g:Nat) (near:List Nat):(plT w h g near)[0+0]? = some (tN w):=rfl
theorem plT_g (w h g:Nat) (near:List Nat):(plT w h g near)[0+2]? = some (tU g):=rfl
theorem plT_n {w h g:Nat} {near:List Nat} {a v:Nat} (ha:near[a]? = some v):(plT w h g near)[0+3+a * 1]? = some (tU v):=by
 have e:0+3+a * 1=a+3:=by omega
 rw [e]
 show (near.map tU)[a]? = _
 rw [List.getElem?_map,ha];rfl
theorem plT_set {w h g:Nat} {near:List Nat} {a v:Nat} (ha:a < near.length):overG (plT w h g near) (0+3+a * 1) [tU v]=plT w h g (near.set a v):=by
 have e:0+3+a * 1=a+3:=by omega
 rw [e,over_one _ _ _ (by rw [plT_len];omega)]
 show tN w::tN h::tU g::(near.map tU).set a (tU v)=_
 unfold plT
 rw [List.map_set]
theorem plT_setg {w h g v:Nat} {near:List Nat}:overG (plT w h g near) (0+2) [tU v]=plT w h v near:=by
 rw [over_one _ _ _ (by rw [plT_len];omega)];rfl
def inB (g a:Nat):Bool:=Nat.beq (Nat.land (Nat.div g (Nat.pow 2 a)) 1) 1
def orAt (a x:Nat) (l:List Nat):List Nat:=l.set a (Nat.lor (l[a]?.getD 0) x)
def joinN (g a b:Nat) (near:List Nat):List Nat:=cond (inB g a) (cond (inB g b) (orAt b (Nat.pow 2 a) (orAt a (Nat.pow 2 b) near)) near) near
theorem orAt_len (a x:Nat) (l:List Nat):(orAt a x l).length=l.length:=List.length_set ..
theorem joinN_len (g a b:Nat) (near:List Nat):(joinN g a b near).length=near.length:=by
 unfold joinN
 cases inB g a <;> cases inB g b <;> simp [orAt_len]
theorem p16 {c:Nat} (hc:c < 16):2 ^ c < 65536:=by
 have:2 ^ c < 2 ^ 16:=Nat.pow_lt_pow_right (by decide) hc
 simpa using this
theorem get_lt {l:List Nat} {i:Nat} (h:∀ x∈l,x < 65536):l[i]?.getD 0 < 65536:=by
 cases hi:l[i]? with
 |none=>show 0 < 65536;decide
 |some y=>exact h y (List.mem_of_getElem? hi)
theorem orAt_lt {a x:Nat} {l:List Nat} (hx:x < 65536) (h:∀ y∈l,y < 65536):∀ y∈orAt a x l,y < 65536:=by
 intro y hy
 rcases List.mem_or_eq_of_mem_set hy with h1 |h1
 ·exact h y h1
 ·rw [h1];exact Nat.or_lt_two_pow (n:=16) (get_lt h) hx
theorem joinN_lt {g a b:Nat} {near:List Nat} (ha:a < 16) (hb:b < 16) (h:∀ x∈near,x < 65536):∀ x∈joinN g a b near,x < 65536:=by
 unfold joinN
 cases inB g a with
 |false=>exact h
 |true=>cases inB g b with
  |false=>exact h
  |true=>exact orAt_lt (p16 ha) (orAt_lt (p16 hb) h)
theorem join_run (call:Zbc) (tlo:Nat) {b w h g x y:Nat} {near:List Nat} {H:TH} (hb:H[b]? = some (.cells (plT w h g near))) (ht:tlo≤b) (hg:g < 65536) (hl:near.length=16) (hn:∀ v∈near,v < 65536) (hx:x < 16) (hy:y < 16) :
  F152 call tlo [.ptr b 0,tN x,tN y] H=some (.tup [],H.set b (.cells (plT w h g (joinN g x y near)))):=by
 have s1:∀ z:Nat,z < 16→evShr (.int .u64 (.ofNat g)) (.int .i64 (.ofNat z))=some (.int .u64 (.ofNat (g / 2 ^ z))):=fun z hz=>shr_u (by omega)
 have d1:∀ z:Nat,g / 2 ^ z < 18446744073709551616:=fun z=>Nat.lt_of_le_of_lt (Nat.div_le_self ..) (by omega)
 have s2:∀ z:Nat,evAnd (.int .u64 (.ofNat (g / 2 ^ z))) (.int .u64 (.ofNat 1))=some (.int .u64 (.ofNat (g / 2 ^ z &&& 1))):=fun z=>and_u (d1 z) (by decide)
 have s3:∀ z:Nat,Zca (.ofNat (g / 2 ^ z &&& 1)) (.ofNat 1)=inB g z:=fun z=>rfl
 have lg:∀ {β:Type} (k:TV→TH→Option β),Zbg .lend tlo (Zag H) false 1 H (.ptr b (0+2)) k=k (tU g) H:=fun k=>Zbf hb (plT_g ..) rfl rfl
 have e1:∀ z:Nat,z < 16→evShl (.int .u64 (.ofNat 1)) (.int .i64 (.ofNat z))=some (.int .u64 (.ofNat (2 ^ z))):=fun z hz=>by
  have:=p16 hz
  rw [shl_u (by omega) (by rw [Nat.one_mul];omega),Nat.one_mul]
 have hset:H.set b (.cells (plT w h g near))=H:=by
  obtain ⟨h1,h2⟩:=List.getElem?_eq_some_iff.1 hb
  rw [← h2,List.set_getElem_self]
 show Zaa (C152 call tlo (Zag H) (.ptr b 0,tN x,tN y,Zao,()) H) _=_
 have hh:∀ H':TH,Zag H'=Zag H→Zdw (Zag H) (.tup []) H'=(.tup [],H'):=fun H' hh'=>by
  rw [Zbm rfl,← hh',Zde]
 cases bx:inB g x with
 |false=>
  simp only [C152,VV,lg,s1 x hx,s2,s3,bx,hh H rfl,joinN,hset]
 |true=>
  cases by':inB g y with
  |false=>
   simp only [C152,VV,lg,s1 x hx,s1 y hy,s2,s3,bx,by',hh H rfl,joinN,hset]
  |true=>
   obtain ⟨v,hv⟩:∃ v,near[x]? = some v:=⟨_,List.getElem?_eq_getElem (by omega)⟩
   have hv16:v < 65536:=hn v (List.mem_of_getElem? hv)
   obtain ⟨H1,hH1⟩:∃ H1,H1=H.set b (.cells (plT w h g (orAt x (2 ^ y) near))):=⟨_,rfl⟩
   have hb1:H1[b]? = some (.cells (plT w h g (orAt x (2 ^ y) near))):=by rw [hH1];exact set_get hb
   obtain ⟨u,hu⟩:∃ u,(orAt x (2 ^ y) near)[y]? = some u:=⟨_,List.getElem?_eq_getElem (by rw [orAt_len];omega)⟩
   have hu16:u < 65536:=orAt_lt (p16 hy) hn u (List.mem_of_getElem? hu)
   have ln:∀ {β:Type} (k:TV→TH→Option β),Zbg .lend tlo (Zag H) false 1 H (.ptr b (0+3+x * 1)) k=k (tU v) H:=fun k=>Zbf hb (plT_n hv) rfl rfl
   have ln2:∀ {β:Type} (k:TV→TH→Option β),Zbg .lend tlo (Zag H) false 1 H1 (.ptr b (0+3+y * 1)) k=k (tU u) H1:=fun k=>Zbf hb1 (plT_n hu) rfl rfl
   have o1:evOr (.int .u64 (.ofNat v)) (.int .u64 (.ofNat (2 ^ y)))=some (.int .u64 (.ofNat (v ||| 2 ^ y))):=or_u (by omega) (by have:=p16 hy;omega)
   have o2:evOr (.int .u64 (.ofNat u)) (.int .u64 (.ofNat (2 ^ x)))=some (.int .u64 (.ofNat (u ||| 2 ^ x))):=or_u (by omega) (by have:=p16 hx;omega)
   have st1:Zas tlo (Zag H) 1 H (.ptr b (0+3+x * 1)) (tU (v ||| 2 ^ y))=some H1:=by
    rw [Zcf (n:=1) (off:=0+3+x * 1) (x:=tU (v ||| 2 ^ y)) hb ht rfl (.inl rfl) rfl (by rw [plT_len];omega),hH1,cellsT_v,plT_set (by omega)]
    unfold orAt;rw [hv];rfl
   have st2:Zas tlo (Zag H) 1 H1 (.ptr b (0+3+y * 1)) (tU (u ||| 2 ^ x))=some (H.set b (.cells (plT w h g (orAt y (2 ^ x) (orAt x (2 ^ y) near))))):=by
    rw [Zcf (n:=1) (off:=0+3+y * 1) (x:=tU (u ||| 2 ^ x)) hb1 ht rfl (.inl rfl) rfl (by rw [plT_len,orAt_len];omega),cellsT_v,plT_set (by rw [orAt_len];omega),hH1,List.set_set]
    show _=some (H.set b (.cells (plT w h g ((orAt x (2 ^ y) near).set y (Nat.lor ((orAt x (2 ^ y) near)[y]?.getD 0) (2 ^ x))))))
    rw [hu];rfl
   have tp:∀ {β:Type} {H':TH} {off:Nat} (k:TV→TH→Option β),Zdf 0 false (.ptr b off) H' k=k (.ptr b off) H':=fun k=>rfl
   simp only [C152,VV,lg,s1 x hx,s1 y hy,s2,s3,bx,by',e1 x hx,e1 y hy,ln,ln2,o1,o2,tp,idxArr_ptr hx,idxArr_ptr hy,st1,st2,joinN,hh _ lenG_set]
   rfl
end
end Go.Proofs.YtgemobbfikjmoaaGreatDoor
namespace Go.Proofs.YtgemobbfikjmoaaGreatDoor
open Go Go.Ev
set_option maxRecDepth 100000
noncomputable section
def goodM:List Nat→Nat→Nat
 |[],g=>g
 |c::cs,g=>goodM cs (dif g (Nat.pow 2 c))
def nearS (w g c:Nat) (near:List Nat):List Nat:=cond (Nat.blt 0 (Nat.mod c w)) (joinN g (Nat.sub c 1) c near) near
def nearN (w g:Nat):Nat→List Nat
 |0=>List.replicate 16 0
 |c+1=>cond (Nat.blt c w) (nearS w g c (nearN w g c)) (joinN g (Nat.sub c w) c (nearS w g c (nearN w g c)))
theorem nearS_len (w g c:Nat) (near:List Nat):(nearS w g c near).length=near.length:=by
 unfold nearS
 cases Nat.blt 0 (Nat.mod c w) with
 |true=>exact joinN_len ..
 |false=>rfl
theorem nearN_len (w g:Nat):∀ c,(nearN w g c).length=16
 |0=>List.length_replicate ..
 |c+1=>by
  show (cond (Nat.blt c w) (nearS w g c (nearN w g c)) (joinN g (Nat.sub c w) c (nearS w g c (nearN w g c)))).length=16
  cases Nat.blt c w with
  |true=>exact (nearS_len ..).trans (nearN_len w g c)
  |false=>exact (joinN_len ..).trans ((nearS_len ..).trans (nearN_len w g c))
theorem nearS_lt {w g c:Nat} {near:List Nat} (hc:c < 16) (h:∀ x∈near,x < 65536):∀ x∈nearS w g c near,x < 65536:=by
 unfold nearS
 cases Nat.blt 0 (Nat.mod c w) with
 |true=>exact joinN_lt (by show c - 1 < 16;omega) hc h
 |false=>exact h
theorem nearN_lt (w g:Nat):∀ c,c≤16→∀ x∈nearN w g c,x < 65536
 |0,_=>by
  intro x hx
  have hx:x∈List.replicate 16 0:=hx
  rw [List.mem_replicate] at hx
  rw [hx.2];decide
 |c+1,h=>by
  show ∀ x∈cond (Nat.blt c w) (nearS w g c (nearN w g c)) (joinN g (Nat.sub c w) c (nearS w g c (nearN w g c))),x < 65536
  have h1:=nearS_lt (w:=w) (g:=g) (c:=c) (by omega) (nearN_lt w g c (by omega))
  cases Nat.blt c w with
  |true=>exact h1
  |false=>exact joinN_lt (by show c - w < 16;omega) (by omega) h1
theorem goodM_lt:∀ (l:List Nat) (g:Nat),g < 65536→goodM l g < 65536
 |[],_,h=>h
 |c::cs,g,h=>goodM_lt cs _ (Nat.lt_of_le_of_lt Nat.and_le_left h)
structure SlabOk (w h:Nat) (sp:List Nat):Prop where
 w1:1≤w
 w8:w≤8
 h1:1≤h
 h8:h≤8
 n16:w * h≤16
 lt:∀ x∈sp,x < w * h
 asc:sp.Pairwise (· < ·)
def Zda (w h:Nat) (sp:List Nat):Nat:=goodM sp (Nat.pow 2 (w * h) - 1)
def plateT (w h:Nat) (sp:List Nat):List TV:=plT w h (Zda w h sp) (nearN w (Zda w h sp) (w * h))
theorem plT_own (w h g:Nat) (near:List Nat):(plT w h g near).any isOwn=false:=by
 show (false || (false || (false || (near.map tU).any isOwn)))=false
 rw [List.any_map]
 have:near.any (isOwn ∘ tU)=false:=by rw [List.any_eq_false];intro x _;simp [isOwn]
 rw [this];rfl
theorem plT_stor (w h g:Nat) (near:List Nat):stor (.agg (plT w h g near))=true:=by
 show Zbu storC (plT w h g near)=true
 rw [Zds]
 show (true && (true && (true && (near.map tU).all storC)))=true
 rw [List.all_map]
 have:near.all (storC ∘ tU)=true:=by rw [List.all_eq_true];intro x _;rfl
 rw [this];rfl
theorem plT_loose (w h g:Nat) (near:List Nat):Zbu looseC (plT w h g near)=true:=by
 rw [Zds]
 show (true && (true && (true && (near.map tU).all looseC)))=true
 rw [List.all_map]
 have:near.all (looseC ∘ tU)=true:=by rw [List.all_eq_true];intro x _;rfl
 rw [this];rfl
theorem over_all {cs xs:List TV} (h:xs.length=cs.length):overG cs 0 xs=xs:=by
 rw [overG_eq _ _ _ (by omega),Nat.zero_add,h,List.drop_length,List.take_zero,List.nil_append,List.append_nil]
def h3 (H:TH) (A Z:TObj) (X:List TV):TH:=Zaq (Zaq (Zaq H A) Z) (.cells X)
section
variable {H:TH} {A Z:TObj} {X Y:List TV}
theorem h3_a:(h3 H A Z X)[Zag H]? = some A:=Zbi (Zbi Zbh)
theorem h3_z:(h3 H A Z X)[Zag H+1]? = some Z:=by
 have:(Zaq (Zaq H A) Z)[Zag (Zaq H A)]? = some Z:=Zbh
 rw [Zbp] at this
 exact Zbi this
theorem h3_x:(h3 H A Z X)[Zag H+1+1]? = some (.cells X):=by
 have:(h3 H A Z X)[Zag (Zaq (Zaq H A) Z)]? = some (.cells X):=Zbh
 rwa [Zbp,Zbp] at this
theorem h3_eq:h3 H A Z X=H++[A,Z,.cells X]:=by
 show ((H++[A])++[Z])++[.cells X]=_
 simp
theorem h3_set:(h3 H A Z X).set (Zag H+1+1) (.cells Y)=h3 H A Z Y:=by
 rw [h3_eq,h3_eq,Zat,List.set_append_right _ _ (by omega)]
 have:H.length+1+1 - H.length=2:=by omega
 rw [this];rfl
theorem h3_setz:(h3 H A Z X).set (Zag H+1) (.cells Y)=h3 H A (.cells Y) X:=by
 rw [h3_eq,h3_eq,Zat,List.set_append_right _ _ (by omega)]
 have:H.length+1 - H.length=1:=by omega
 rw [this];rfl
theorem h3_take:Zdg (h3 H A Z X) (Zag H)=H:=by
 rw [h3_eq,Zct,Zat,List.take_append_of_le_length (Nat.le_refl _),List.take_length]
end
theorem le_of_blt_f {a b:Nat} (h:Nat.blt a b=false):b≤a:=by
 rcases Nat.lt_or_ge a b with h2 |h2
 ·rw [← Nat.blt_eq] at h2;rw [h] at h2;cases h2
 ·exact h2
theorem laid_run (d tlo:Nat) {w h n:Nat} {c:Cp} {sp:List Nat} {H:TH} (ok:SlabOk w h sp) (hn:sp≠[]→n=1) (htl:tlo≤Zag H) :
  tc (d+2) tlo 94 [tS w h c n sp] H=some (.tup [.agg (plateT w h sp),tN 0],H):=by
 rw [tc_f (F:=F94) (by kernel_rfl)]
 obtain ⟨w1,w8,h1,h8,n16,hlt,hasc⟩:=ok
 obtain ⟨A,hA⟩:∃ A:TObj,A=.cells [tN w,tN h,.row c .set n (sp.map tN)]:=⟨_,rfl⟩
 have hspl:sp.length≤w * h:=by
  have:=List.pairwise_iff_getElem.1 hasc
  have aux:∀ i (hi:i < sp.length),i≤sp[i]:=by
   intro i
   induction i with
   |zero=>intro _;omega
   |succ i ih=>
    intro hi
    have h2:=ih (by omega)
    have h3:=this i (i+1) (by omega) hi (by omega)
    omega
  rcases Nat.eq_zero_or_pos sp.length with h0 |h0
  ·omega
  ·have h4:=aux (sp.length - 1) (by omega)
   have h5:=hlt _ (List.getElem_mem (l:=sp) (n:=sp.length - 1) (by omega))
   omega
 have key:EndsT (C94 (tc (d+1)) tlo (Zag H) (tS w h c n sp,Zao,Zao,Zao,Zao,Zao,Zao,Zao,Zao,Zao,Zao,Zao,Zao,Zao,Zao,Zao,Zao,Zao,Zao,Zao,Zao,Zao,()) H)
   fun e S H1=>e=.ret∧S.2.2.1=.ptr (Zag H+1) 0∧S.2.2.2.1=tN 0∧∃ X,H1=h3 H A (.cells (plateT w h sp)) X:=by
  obtain ⟨B,hB⟩:∃ B,B=Zaq (Zaq H A) (.cells Zdb):=⟨_,rfl⟩
  have hb0:B[Zag H]? = some A:=by rw [hB];exact Zbi Zbh
  have hlB:Zag B=Zag H+1+1:=by rw [hB,Zbp,Zbp]
  rw [hA] at hb0
  have b0:∀ {β:Type} (m:Ld) (k:TV→TH→Option β),Zbg m tlo (Zag H) false 1 B (.ptr (Zag H) (0+0)) k=k (tN w) B:=fun m k=>Zbf hb0 rfl rfl rfl
  have b1:∀ {β:Type} (m:Ld) (k:TV→TH→Option β),Zbg m tlo (Zag H) false 1 B (.ptr (Zag H) (0+1)) k=k (tN h) B:=fun m k=>Zbf hb0 rfl rfl rfl
  have c1:Zcj (.int .i64 (.ofNat w)) (.int .i64 (.ofNat 1))=some (.bool false):=by rw [Zcg,blt_f w1]
  have c2:evGtr (.int .i64 (.ofNat w)) (.int .i64 (.ofNat 8))=some (.bool false):=by rw [gtr_n,blt_f w8]
  have c3:Zcj (.int .i64 (.ofNat h)) (.int .i64 (.ofNat 1))=some (.bool false):=by rw [Zcg,blt_f h1]
  have c4:evGtr (.int .i64 (.ofNat h)) (.int .i64 (.ofNat 8))=some (.bool false):=by rw [gtr_n,blt_f h8]
  have c5:evMul (.int .i64 (.ofNat w)) (.int .i64 (.ofNat h))=some (.int .i64 (.ofNat (w * h))):=mul_n (by omega)
  have c6:evGtr (.int .i64 (.ofNat (w * h))) (.int .i64 (.ofNat 16))=some (.bool false):=by rw [gtr_n,blt_f n16]
  have p2:2 ^ (w * h)≤65536:=by
   have:2 ^ (w * h)≤2 ^ 16:=Nat.pow_le_pow_right (by decide) n16
   simpa using this
  have p1:0 < 2 ^ (w * h):=Nat.pow_pos (by decide)
  have c7:evShl (.int .u64 (.ofNat 1)) (.int .i64 (.ofNat (w * h)))=some (.int .u64 (.ofNat (2 ^ (w * h)))):=by
   rw [shl_u (by omega) (by rw [Nat.one_mul];omega),Nat.one_mul]
  have c8:Zcl (.int .u64 (.ofNat (2 ^ (w * h)))) (.int .u64 (.ofNat 1))=some (.int .u64 (.ofNat (2 ^ (w * h) - 1))):=sub_u p1 (by omega)
  have g1:aggT [(0,1,tN w),(1,1,tN h),(2,1,tU (2 ^ (w * h) - 1))] Zdb=some (.agg (plT w h (2 ^ (w * h) - 1) (List.replicate 16 0))):=rfl
  have st:Zas tlo (Zag H) 19 (Zaq B (.cells Zdb)) (.ptr (Zag H+1+1) 0) (.agg (plT w h (2 ^ (w * h) - 1) (List.replicate 16 0)))=some (h3 H A (.cells Zdb) (plT w h (2 ^ (w * h) - 1) (List.replicate 16 0))):=by
   have hx:(Zaq B (.cells Zdb))[Zag H+1+1]? = some (.cells Zdb):=by rw [← hlB];exact Zbh
   rw [Zcf (off:=0) (n:=19) (x:=.agg (plT w h (2 ^ (w * h) - 1) (List.replicate 16 0))) hx (by omega) (plT_stor ..) (.inr (by omega)) (by rw [Zdr,plT_len];rfl) (by decide),Zdr,over_all (by rw [plT_len];rfl),hB]
   exact congrArg some h3_set
  have hst:stor (tS w h c n sp)=true:=by cases c <;> rfl
  simp only [C94,VV,← hA,Zbp,← hB,b0,b1,c1,c2,c3,c4,c5,c6,c7,c8,g1,hlB,st,Bool.not_false,Bool.not_true]
  have z0:∀ {β:Type} (m:Ld) (X:List TV) (k:TV→TH→Option β),Zbg m tlo (Zag H) false 1 (h3 H A (.cells Zdb) X) (.ptr (Zag H) (0+0)) k=k (tN w) (h3 H A (.cells Zdb) X):=fun m X k=>Zbf (h3_a.trans (congrArg some hA)) rfl rfl rfl
  have z2:∀ {β:Type} (m:Ld) (X:List TV) (k:TV→TH→Option β),Zbg m tlo (Zag H) false 1 (h3 H A (.cells Zdb) X) (.ptr (Zag H) (0+2)) k=k (.row c .set n (sp.map tN)) (h3 H A (.cells Zdb) X):=fun m X k=>Zbf (h3_a.trans (congrArg some hA)) rfl rfl rfl
  simp only [VV,z2,Zat (sp.map tN),List.length_map]
  refine EndsT.sq (Q1:=fun e S H1=>e=.normal∧S.2.1=.ptr (Zag H) 0∧S.2.2.1=.ptr (Zag H+1) 0∧S.2.2.2.2.1=tN (w * h)∧S.2.2.2.2.2.1=.ptr (Zag H+1+1) 0∧H1=h3 H A (.cells Zdb) (plT w h (Zda w h sp) (List.replicate 16 0)))
   (EndsT.bl (Q1:=fun e S H1=>e=.exit 1∧S.2.1=.ptr (Zag H) 0∧S.2.2.1=.ptr (Zag H+1) 0∧S.2.2.2.2.1=tN (w * h)∧S.2.2.2.2.2.1=.ptr (Zag H+1+1) 0∧H1=h3 H A (.cells Zdb) (plT w h (Zda w h sp) (List.replicate 16 0))) ?_ ?_ ?_ ?_) ?_ ?_ ?_
  ·refine EndsT.loop (fun k S H1=>∃ j last g,S.2.1=.ptr (Zag H) 0∧S.2.2.1=.ptr (Zag H+1) 0∧S.2.2.2.2.1=tN (w * h)∧S.2.2.2.2.2.1=.ptr (Zag H+1+1) 0∧S.2.2.2.2.2.2.1=tI last∧S.2.2.2.2.2.2.2.2.2.2.2.1=.row c .set n (sp.map tN)∧S.2.2.2.2.2.2.2.2.2.2.2.2.1=tN sp.length∧S.2.2.2.2.2.2.2.2.2.2.2.2.2.1=tN j∧H1=h3 H A (.cells Zdb) (plT w h g (List.replicate 16 0)) ∧
     j≤sp.length∧k=sp.length - j∧g < 65536∧(∀ y∈sp.drop j,last < Int.ofNat y)∧Zda w h sp=goodM (sp.drop j) g) ?_ fuel sp.length _ _ (by rw [Zdl];omega)
    ⟨0,.negSucc 0,_,rfl,rfl,rfl,rfl,rfl,rfl,rfl,rfl,rfl,Nat.zero_le _,rfl,by omega,fun y _=>Int.lt_of_lt_of_le (Int.negSucc_lt_zero 0) (Int.natCast_nonneg y),rfl⟩
   rintro k S H1 ⟨j,last,g,e1,e2,e4,e5,e6,e11,e12,e13,rfl,hj,rfl,hg,hla,hgo⟩
   rcases Nat.eq_or_lt_of_le hj with hj |hj
   ·rw [hj,List.drop_length] at hgo
    have hgo:Zda w h sp=g:=hgo
    simp only [VV,e1,e2,e4,e5,e12,e13,Zcg,blt_f (Nat.le_of_eq hj.symm)]
    exact .fin (.inr ⟨by simp,rfl,rfl,rfl,rfl,rfl,by rw [hgo]⟩)
   ·have hn1:=hn (by intro h0;rw [h0] at hj;simp at hj)
    subst hn1
    obtain ⟨x,hx⟩:∃ x,x=sp[j]:=⟨_,rfl⟩
    rw [List.drop_eq_getElem_cons hj,← hx] at hgo hla
    have hgo:Zda w h sp=goodM (sp.drop (j+1)) (dif g (2 ^ x)):=hgo
    have hxl:x < w * h:=hlt x (by rw [hx];exact List.getElem_mem hj)
    have hel:(sp.map tN)[j]? = some (tN x):=by rw [List.getElem?_map,List.getElem?_eq_getElem hj,hx];rfl
    have hlx:=hla x (List.mem_cons_self ..)
    have k1:Zcj (.int .i64 (.ofNat x)) (.int .i64 (.ofNat 0))=some (.bool false):=by rw [Zcg,blt_f (Nat.zero_le x)]
    have k2:evGeq (.int .i64 (.ofNat x)) (.int .i64 (.ofNat (w * h)))=some (.bool false):=by rw [geq_n,blt_t hxl];rfl
    have k3:evLeq (.int .i64 (.ofNat x)) (.int .i64 last)=some (.bool false):=by rw [leq_i,decide_eq_false (by omega)]
    have px:=p16 (c:=x) (by omega)
    have k4:evShl (.int .u64 (.ofNat 1)) (.int .i64 (.ofNat x))=some (.int .u64 (.ofNat (2 ^ x))):=by rw [shl_u (by omega) (by rw [Nat.one_mul];omega),Nat.one_mul]
    have k5:Zdd (.int .u64 (.ofNat g)) (.int .u64 (.ofNat (2 ^ x)))=some (.int .u64 (.ofNat (dif g (2 ^ x)))):=andnot_u (by omega) (by omega)
    have lg:∀ {β:Type} (k:TV→TH→Option β),Zbg .lend tlo (Zag H) false 1 (h3 H A (.cells Zdb) (plT w h g (List.replicate 16 0))) (.ptr (Zag H+1+1) (0+2)) k=k (tU g) _:=fun k=>Zbf h3_x (plT_g ..) rfl rfl
    have sg:Zas tlo (Zag H) 1 (h3 H A (.cells Zdb) (plT w h g (List.replicate 16 0))) (.ptr (Zag H+1+1) (0+2)) (tU (dif g (2 ^ x)))=some (h3 H A (.cells Zdb) (plT w h (dif g (2 ^ x)) (List.replicate 16 0))):=by
     rw [Zcf (n:=1) (off:=0+2) (x:=tU (dif g (2 ^ x))) h3_x (by omega) rfl (.inl rfl) rfl (by rw [plT_len];omega),cellsT_v,plT_setg,h3_set]
    simp only [VV,e1,e2,e4,e5,e6,e11,e12,e13,Zcg,blt_t hj,Zbv hel,k1,k2,k3,k4,k5,lg,sg,Bool.not_false,Bool.not_true,add_n (show j+1 < 9223372036854775808 by omega)]
    refine .fin (.inl ⟨rfl,sp.length - (j+1),by omega,j+1,.ofNat x,dif g (2 ^ x),rfl,rfl,rfl,rfl,rfl,rfl,rfl,rfl,rfl,hj,rfl,Nat.lt_of_le_of_lt Nat.and_le_left hg,fun y hy=>?_,hgo⟩)
    have hp:=(List.pairwise_cons.1 (by have:=hasc.drop (i:=j);rw [List.drop_eq_getElem_cons hj,← hx] at this;exact this)).1 y hy
    exact Int.ofNat_lt.2 hp
  ·rintro S H1 ⟨h,_⟩;cases h
  ·rintro i S H1 ⟨h1,h2⟩;cases h1;exact ⟨rfl,h2⟩
  ·rintro S H1 ⟨h,_⟩;cases h
  ·rintro S H1 ⟨_,e1,e2,e4,e5,rfl⟩
   obtain ⟨g,hg⟩:∃ g,g=Zda w h sp:=⟨_,rfl⟩
   have hg16:g < 65536:=by rw [hg];exact goodM_lt _ _ (by show 2 ^ (w * h) - 1 < 65536;omega)
   simp only [VV,e1,e2,e4,e5,← hg]
   refine EndsT.sq (Q1:=fun e S H1=>e=.normal∧S.2.2.1=.ptr (Zag H+1) 0∧S.2.2.2.2.2.1=.ptr (Zag H+1+1) 0∧H1=h3 H A (.cells Zdb) (plT w h g (nearN w g (w * h))))
    (EndsT.bl (Q1:=fun e S H1=>e=.exit 4∧S.2.2.1=.ptr (Zag H+1) 0∧S.2.2.2.2.2.1=.ptr (Zag H+1+1) 0∧H1=h3 H A (.cells Zdb) (plT w h g (nearN w g (w * h)))) ?_ ?_ ?_ ?_) ?_ ?_ ?_
   ·refine EndsT.loop (fun k S H1=>∃ j,S.2.1=.ptr (Zag H) 0∧S.2.2.1=.ptr (Zag H+1) 0∧S.2.2.2.2.2.1=.ptr (Zag H+1+1) 0∧S.2.2.2.2.2.2.2.2.2.2.2.2.2.2.2.2.2.1=tN (w * h)∧S.2.2.2.2.2.2.2.2.2.2.2.2.2.2.2.2.2.2.1=tN j∧H1=h3 H A (.cells Zdb) (plT w h g (nearN w g j))∧j≤w * h∧k=w * h - j) ?_ fuel (w * h) _ _ (by rw [Zdl];omega)
     ⟨0,rfl,rfl,rfl,rfl,rfl,rfl,Nat.zero_le _,rfl⟩
    rintro k S H1 ⟨j,e1,e2,e5,e17,e18,rfl,hj,rfl⟩
    rcases Nat.eq_or_lt_of_le hj with hj |hj
    ·simp only [VV,e1,e2,e5,e17,e18,Zcg,blt_f (Nat.le_of_eq hj.symm)]
     exact .fin (.inr ⟨by simp,rfl,rfl,rfl,by rw [hj]⟩)
    ·have k1:evRem (.int .i64 (.ofNat j)) (.int .i64 (.ofNat w))=some (.int .i64 (.ofNat (j % w))):=rem_n (by omega)
     have k3:evGeq (.int .i64 (.ofNat j)) (.int .i64 (.ofNat w))=some (.bool (!Nat.blt j w)):=geq_n ..
     have k2:evGtr (.int .i64 (.ofNat (j % w))) (.int .i64 (.ofNat 0))=some (.bool (Nat.blt 0 (j % w))):=gtr_n ..
     have jr:∀ (near:List Nat) (x:Nat),near.length=16→(∀ v∈near,v < 65536)→x < 16→tc (d+1) tlo 152 [.ptr (Zag H+1+1) 0,tN x,tN j] (h3 H A (.cells Zdb) (plT w h g near))=some (.tup [],h3 H A (.cells Zdb) (plT w h g (joinN g x j near))):=fun near x hl hv hx=>by
      rw [tc_f (F:=F152) (by kernel_rfl),join_run _ tlo h3_x (by omega) hg16 hl hv hx (by omega),h3_set]
     have n0:=nearN_len w g j
     have n1:=nearN_lt w g j (by omega)
     have m1:=nearS_lt (w:=w) (g:=g) (c:=j) (by omega) n1
     have a3:Zbe (.int .i64 (.ofNat j)) (.int .i64 (.ofNat 1))=some (.int .i64 (.ofNat (j+1))):=add_n (by omega)
     cases b1:Nat.blt 0 (j % w) <;> cases b2:Nat.blt j w
     ·have q2:Zcl (.int .i64 (.ofNat j)) (.int .i64 (.ofNat w))=some (.int .i64 (.ofNat (j - w))):=sub_n (le_of_blt_f b2) (by omega)
      have jj:∀ {β:Type} (k:TV→TH→Option β),Zbr (tc (d+1)) tlo 152 [.ptr (Zag H+1+1) 0,tN (j - w),tN j] (h3 H A (.cells Zdb) (plT w h g (nearN w g j))) k=k (.tup []) (h3 H A (.cells Zdb) (plT w h g (joinN g (j - w) j (nearN w g j)))):=fun k=>Zcy rfl (jr _ _ n0 n1 (by omega))
      simp only [VV,e1,e2,e5,e17,e18,Zcg,blt_t hj,z0,k1,k2,k3,b1,b2,q2,jj,Bool.not_true,Bool.not_false,a3]
      exact .fin (.inl ⟨rfl,w * h - (j+1),by omega,j+1,rfl,rfl,rfl,rfl,rfl,by
       show _=h3 H A _ (plT w h g (cond (Nat.blt j w) (nearS w g j (nearN w g j)) (joinN g (Nat.sub j w) j (nearS w g j (nearN w g j)))))
       have e:nearS w g j (nearN w g j)=nearN w g j:=by unfold nearS;rw [show Nat.blt 0 (Nat.mod j w)=false from b1];rfl
       rw [b2,e];rfl,hj,rfl⟩)
     ·simp only [VV,e1,e2,e5,e17,e18,Zcg,blt_t hj,z0,k1,k2,k3,b1,b2,Bool.not_true,Bool.not_false,a3]
      exact .fin (.inl ⟨rfl,w * h - (j+1),by omega,j+1,rfl,rfl,rfl,rfl,rfl,by
       show _=h3 H A _ (plT w h g (cond (Nat.blt j w) (nearS w g j (nearN w g j)) (joinN g (Nat.sub j w) j (nearS w g j (nearN w g j)))))
       have e:nearS w g j (nearN w g j)=nearN w g j:=by unfold nearS;rw [show Nat.blt 0 (Nat.mod j w)=false from b1];rfl
       rw [b2,e];rfl,hj,rfl⟩)
     ·have hj0:0 < j:=Nat.pos_of_ne_zero (fun h=>by rw [h,Nat.zero_mod] at b1;cases b1)
      have q1:Zcl (.int .i64 (.ofNat j)) (.int .i64 (.ofNat 1))=some (.int .i64 (.ofNat (j - 1))):=sub_n hj0 (by omega)
      have q2:Zcl (.int .i64 (.ofNat j)) (.int .i64 (.ofNat w))=some (.int .i64 (.ofNat (j - w))):=sub_n (le_of_blt_f b2) (by omega)
      have e:nearS w g j (nearN w g j)=joinN g (j - 1) j (nearN w g j):=by unfold nearS;rw [show Nat.blt 0 (Nat.mod j w)=true from b1];rfl
      rw [e] at m1
      have jj:∀ {β:Type} (k:TV→TH→Option β),Zbr (tc (d+1)) tlo 152 [.ptr (Zag H+1+1) 0,tN (j - 1),tN j] (h3 H A (.cells Zdb) (plT w h g (nearN w g j))) k=k (.tup []) (h3 H A (.cells Zdb) (plT w h g (joinN g (j - 1) j (nearN w g j)))):=fun k=>Zcy rfl (jr _ _ n0 n1 (by omega))
      have jk:∀ {β:Type} (k:TV→TH→Option β),Zbr (tc (d+1)) tlo 152 [.ptr (Zag H+1+1) 0,tN (j - w),tN j] (h3 H A (.cells Zdb) (plT w h g (joinN g (j - 1) j (nearN w g j)))) k=k (.tup []) (h3 H A (.cells Zdb) (plT w h g (joinN g (j - w) j (joinN g (j - 1) j (nearN w g j))))):=fun k=>Zcy rfl (jr _ _ (by rw [joinN_len,n0]) m1 (by omega))
      simp only [VV,e1,e2,e5,e17,e18,Zcg,blt_t hj,z0,k1,k2,k3,b1,b2,q1,q2,jj,jk,Bool.not_true,Bool.not_false,a3]
      exact .fin (.inl ⟨rfl,w * h - (j+1),by omega,j+1,rfl,rfl,rfl,rfl,rfl,by
       show _=h3 H A _ (plT w h g (cond (Nat.blt j w) (nearS w g j (nearN w g j)) (joinN g (Nat.sub j w) j (nearS w g j (nearN w g j)))))
       rw [b2,e];rfl,hj,rfl⟩)
     ·have hj0:0 < j:=Nat.pos_of_ne_zero (fun h=>by rw [h,Nat.zero_mod] at b1;cases b1)
      have q1:Zcl (.int .i64 (.ofNat j)) (.int .i64 (.ofNat 1))=some (.int .i64 (.ofNat (j - 1))):=sub_n hj0 (by omega)
      have e:nearS w g j (nearN w g j)=joinN g (j - 1) j (nearN w g j):=by unfold nearS;rw [show Nat.blt 0 (Nat.mod j w)=true from b1];rfl
      have jj:∀ {β:Type} (k:TV→TH→Option β),Zbr (tc (d+1)) tlo 152 [.ptr (Zag H+1+1) 0,tN (j - 1),tN j] (h3 H A (.cells Zdb) (plT w h g (nearN w g j))) k=k (.tup []) (h3 H A (.cells Zdb) (plT w h g (joinN g (j - 1) j (nearN w g j)))):=fun k=>Zcy rfl (jr _ _ n0 n1 (by omega))
      simp only [VV,e1,e2,e5,e17,e18,Zcg,blt_t hj,z0,k1,k2,k3,b1,b2,q1,jj,Bool.not_true,Bool.not_false,a3]
      exact .fin (.inl ⟨rfl,w * h - (j+1),by omega,j+1,rfl,rfl,rfl,rfl,rfl,by
       show _=h3 H A _ (plT w h g (cond (Nat.blt j w) (nearS w g j (nearN w g j)) (joinN g (Nat.sub j w) j (nearS w g j (nearN w g j)))))
       rw [b2,e];rfl,hj,rfl⟩)
   ·rintro S H1 ⟨h,_⟩;cases h
   ·rintro i S H1 ⟨h1,h2⟩;cases h1;exact ⟨rfl,h2⟩
   ·rintro S H1 ⟨h,_⟩;cases h
   ·rintro S H1 ⟨_,e2,e5,rfl⟩
    have hpl:(plT w h g (nearN w g (w * h))).length=19:=by rw [plT_len,nearN_len]
    have lA:∀ {β:Type} (k:TV→TH→Option β),Zbg .settle tlo (Zag H) true 19 (h3 H A (.cells Zdb) (plT w h g (nearN w g (w * h)))) (.ptr (Zag H+1+1) 0) k=k (.agg (plT w h g (nearN w g (w * h)))) _:=fun k=>by
     rw [Zcw h3_x (by omega) (by rw [List.drop_zero,List.take_of_length_le (by omega)];exact plT_own ..),List.drop_zero,List.take_of_length_le (by omega)]
    have sA:Zas tlo (Zag H) 19 (h3 H A (.cells Zdb) (plT w h g (nearN w g (w * h)))) (.ptr (Zag H+1) 0) (.agg (plT w h g (nearN w g (w * h))))=some (h3 H A (.cells (plT w h g (nearN w g (w * h)))) (plT w h g (nearN w g (w * h)))):=by
     rw [Zcf (off:=0) (n:=19) (x:=.agg (plT w h g (nearN w g (w * h)))) h3_z (by omega) (plT_stor ..) (.inr (by omega)) (by rw [Zdr,hpl]) (by decide),Zdr,over_all (by rw [hpl];rfl),h3_setz]
    simp only [VV,e2,e5,lA,sA]
    exact .fin ⟨rfl,rfl,rfl,_,by rw [hg];rfl⟩
   ·rintro i S H1 ⟨h,_⟩;cases h
   ·rintro S H1 ⟨h,_⟩;cases h
  ·rintro i S H1 ⟨h,_⟩;cases h
  ·rintro S H1 ⟨h,_⟩;cases h
 obtain ⟨e,S,H1,r1,rfl,r2,r3,X,rfl⟩:=key
 show Zaa (C94 (tc (d+1)) tlo (Zag H) (tS w h c n sp,Zao,Zao,Zao,Zao,Zao,Zao,Zao,Zao,Zao,Zao,Zao,Zao,Zao,Zao,Zao,Zao,Zao,Zao,Zao,Zao,Zao,()) H) _=_
 rw [r1]
 have hpl:(plateT w h sp).length=19:=by unfold plateT;rw [plT_len,nearN_len]
 have hz:(h3 H A (.cells (plateT w h sp)) X)[Zag H+1]? = some (.cells (plateT w h sp)):=h3_z
 have lA:∀ {β:Type} (b:Nat) (k:TV→TH→Option β),Zbg .take tlo b true 19 (h3 H A (.cells (plateT w h sp)) X) (.ptr (Zag H+1) 0) k=k (.agg (plateT w h sp)) (h3 H A (.cells (plateT w h sp)) X):=fun b k=>by
  rw [Zcw hz (by omega) (by rw [List.drop_zero,List.take_of_length_le (by omega)];exact plT_own ..),List.drop_zero,List.take_of_length_le (by omega)]
 simp only [VV,r2,r3,lA]
 rw [Zbm (by
  show Zbu looseT [.agg (plateT w h sp),tN 0]=true
  show cond (Zbu looseC (plateT w h sp)) true false=true
  unfold plateT
  rw [plT_loose];rfl),h3_take]
end
end Go.Proofs.YtgemobbfikjmoaaGreatDoor
namespace Go.Proofs.YtgemobbfikjmoaaGreatDoor
open Go Go.Ev
set_option maxRecDepth 100000
noncomputable section
theorem outs_U {a:Bool} {H:TH}:∀ (l:List Nat),outsC a H (l.map tU)=some (l.map tU)
 |[]=>rfl
 |x::l=>by
  show Zaf (outC a H (tU x)) (fun y=>Zaf (outsC a H (l.map tU)) fun l=>some (y::l))=_
  rw [outs_U l];rfl
theorem outR_plate {a:Bool} {H:TH} {w h g:Nat} {near:List Nat} {es:List TV} (he:outsT a H es=some es):outR a H (.tup (.agg (plT w h g near)::es))=some (.tup (.agg (plT w h g near)::es)):=by
 show Zaf (Zaf (Zaf (outsC a H (plT w h g near)) fun ds=>some (TV.agg ds)) fun y=>Zaf (outsT a H es) fun l=>some (y::l)) (fun ds=>some (TV.tup ds))=_
 have:outsC a H (plT w h g near)=some (plT w h g near):=by
  show Zaf (some (tN w)) (fun y=>Zaf (Zaf (some (tN h)) fun y=>Zaf (Zaf (some (tU g)) fun y=>Zaf (outsC a H (near.map tU)) fun l=>some (y::l)) fun l=>some (y::l)) fun l=>some (y::l))=_
  rw [outs_U];rfl
 rw [this,he];rfl
theorem Zdi {w h g:Nat} {near:List Nat}:mapG setC (plT w h g near)=plT w h g near:=by
 rw [mapG_eq]
 show tN w::tN h::tU g::(near.map tU).map setC=_
 rw [List.map_map];rfl
theorem laid_tree (d:Nat) {w h n:Nat} {c:Cp} {sp:List Nat} {H:TH} (ok:SlabOk w h sp) (hn:sp≠[]→n=1):Zah (tc (d+2)) 94 [tS w h c n sp] H=some (.tup [.agg (plateT w h sp),tN 0]):=
 Zdo (ws:=[tS w h c n sp]) rfl rfl (laid_run d 0 ok hn (Nat.zero_le _)) (outR_plate rfl)
theorem bits_lt (s:Nat) (hs:s < 65536):∀ x∈Zdh s,x < 16:=by
 have key:∀ (f:Nat) (s p q:Nat),s < 2 ^ q→∀ x∈evBitsF f s p,x < p+q:=by
  intro f
  induction f with
  |zero=>intro s p q _ x hx;cases hx
  |succ f ih=>
   intro s p q hs x hx
   rw [ev_bitsF_succ] at hx
   split at hx
   ·cases hx
   ·rename_i h0
    cases q with
    |zero=>exfalso;simp at hs;omega
    |succ q=>
     have h2:s / 2 < 2 ^ q:=by rw [Nat.pow_succ] at hs;omega
     split at hx
     ·rcases List.mem_cons.1 hx with rfl |hx
      ·omega
      ·have:=ih _ _ _ h2 x hx;omega
     ·have:=ih _ _ _ h2 x hx;omega
 intro x hx
 have:=key 64 s 0 16 (by simpa using hs) x hx
 omega
def h2 (H:TH) (A:TObj) (X:List TV):TH:=Zaq (Zaq H A) (.cells X)
end
end Go.Proofs.YtgemobbfikjmoaaGreatDoor
namespace Go.Proofs.YtgemobbfikjmoaaGreatDoor
open Go Go.Ev
set_option maxRecDepth 100000
noncomputable section
def cmpN (a b:Nat):Int:=cond (Nat.blt a b) (.negSucc 0) (cond (Nat.blt b a) 1 0)
def cmpL:List Nat→List Nat→Int
 |[],ys=>cond (Nat.blt 0 ys.length) (.negSucc 0) 0
 |a::xs,ys=>match ys with
  |[]=>1
  |b::ys=>cond (Zca (cmpN a b) 0) (cmpL xs ys) (cmpN a b)
end
end Go.Proofs.YtgemobbfikjmoaaGreatDoor
namespace Go.Proofs.YtgemobbfikjmoaaGreatDoor
open Go Go.Ev
set_option maxRecDepth 100000
noncomputable section
def maxN (a b:Nat):Nat:=cond (Nat.blt a b) b a
def minN (a b:Nat):Nat:=cond (Nat.blt b a) b a
theorem lesser_min {a b:Nat}:Zdv false (.int .i64 (.ofNat a)) (.int .i64 (.ofNat b))=some (.int .i64 (.ofNat (minN a b))):=by
 show some (Value.int .i64 (cond (Nat.blt b a) (.ofNat b) (.ofNat a)))=_
 unfold minN
 cases Nat.blt b a <;> rfl
def setQ (b:Nat×Nat):Nat:=Nat.lor (Nat.pow 2 b.1) (Nat.pow 2 b.2)
def shapeB (w:Nat) (b:Nat×Nat):Bool:=
 cond (Zca (Int.ofNat b.2 - Int.ofNat b.1) (.ofNat w)) false (cond (Zca (Int.ofNat b.2 - Int.ofNat b.1) (.ofNat 1)) (Zca (.ofNat (b.2 % w)) (.ofNat 0)) true)
def orderB (prev:Option (Nat×Nat)) (b:Nat×Nat):Bool:=match prev with
 |none=>false
 |some p=>decide (0≤cmpL [p.1,p.2] [b.1,b.2])
def errC (w n g:Nat) (prev:Option (Nat×Nat)) (b:Nat×Nat) (used:Nat):Nat:=
 cond (!Nat.blt (maxN b.1 b.2) n) 2 (cond (shapeB w b) 5 (cond (orderB prev b) 7 (cond (!Zca (.ofNat (dif (setQ b) g)) (.ofNat 0)) 13 (cond (!Zca (.ofNat (Nat.land (setQ b) used)) (.ofNat 0)) 6 0))))
def cutN (w n g:Nat):List (Nat×Nat)→Option (Nat×Nat)→Nat→Nat×Nat
 |[],_,used=>(0,used)
 |b::bs,prev,used=>cond (Nat.beq (errC w n g prev b used) 0) (cutN w n g bs (some b) (Nat.lor used (setQ b))) (errC w n g prev b used,0)
theorem push_set {H:TH} {o p:TObj}:(Zaq H o).set (Zag H) p=Zaq H p:=by
 show (H++[o]).set (Zag H) p=H++[p]
 rw [Zat,List.set_append_right _ _ (Nat.le_refl _),Nat.sub_self];rfl
theorem take_pushes {H H1:TH} {o:TObj} {n:Nat} (h:Zdg H1 n=H) (hn:n≤Zag H1):Zdg (Zaq H1 o) n=H:=by
 rw [Zct] at *
 show List.take n (H1++[o])=H
 rw [Zat] at hn
 rw [List.take_append_of_le_length hn,h]
theorem take_set {H H1:TH} {o:TObj} {n i:Nat} (h:Zdg H1 n=H) (hi:n≤i):Zdg (H1.set i o) n=H:=by
 rw [Zct] at *
 rw [List.take_set_of_le hi,h]
structure CutSt (H:TH) (A:TObj) (X:List TV) (H1:TH):Prop where
 a:H1[Zag H]? = some A
 z:∃ Z,H1[Zag H+1]? = some (.cells Z)∧Z.length=19
 x:H1[Zag H+1+1]? = some (.cells X)
 t:Zdg H1 (Zag H)=H
 l:Zag H+3≤Zag H1
theorem CutSt.push {H:TH} {A:TObj} {X:List TV} {H1:TH} (st:CutSt H A X H1) (o:TObj):CutSt H A X (Zaq H1 o):=
 ⟨Zbi st.a,let ⟨Z,h1,h2⟩:=st.z;⟨Z,Zbi h1,h2⟩,Zbi st.x,take_pushes st.t (by have:=st.l;omega),by rw [Zbp];have:=st.l;omega⟩
end
end Go.Proofs.YtgemobbfikjmoaaGreatDoor
namespace Go.Proofs.YtgemobbfikjmoaaGreatDoor
open Go Go.Ev
set_option maxRecDepth 100000
noncomputable section
abbrev tK (k:IntKind) (n:Nat):TV:=.v (.int k (.ofNat n))
def badC (th d c:Nat):Bool:=cond (inB d c) (Nat.beq ((th+5 * c) % 4) 0) false
def badF (th d:Nat):Nat→Nat→List Nat
 |0,_=>[]
 |k+1,j=>cond (badC th d j) (j::badF th d k (j+1)) (badF th d k (j+1))
def wideOf (a:Nat):Nat:=1+a % 8
def highOf (K a b:Nat):Nat:=1+b % minN 8 (K / wideOf a)
def badL (K a b th d:Nat):List Nat:=badF th d (wideOf a * highOf K a b) 0
theorem conv_n (k:IntKind) {x:Nat} (h:x < 9223372036854775808):evConv .i64 (.int k (.ofNat x))=some (.int .i64 (.ofNat x)):=by
 show some (Value.int .i64 (wrapF .i64 (.ofNat x)))=_
 rw [wrap_in (I64_nat h)]
theorem bit16 {d c:Nat} (hc:c≤16) (hd:d < 65536) :
  evShr (.int .u16 (.ofNat d)) (.int .i64 (.ofNat c))=some (.int .u16 (.ofNat (d / 2 ^ c)))∧evAnd (.int .u16 (.ofNat (d / 2 ^ c))) (.int .u16 (.ofNat 1))=some (.int .u16 (.ofNat (Nat.land (d / 2 ^ c) 1))) ∧
  Zca (.ofNat (Nat.land (d / 2 ^ c) 1)) (.ofNat 1)=inB d c:=by
 have h1:d / 2 ^ c < 65536:=Nat.lt_of_le_of_lt (Nat.div_le_self ..) hd
 refine ⟨?_,?_,rfl⟩
 ·show some (Value.int .u16 (.ofNat (Nat.div d (Nat.pow 2 (Nat.min c 16)))))=_
  have e:Nat.min c 16=c:=Nat.min_eq_left hc
  rw [e];rfl
 ·show some (Value.int .u16 (wrapF .u16 (.ofNat (Nat.land (d / 2 ^ c % 65536) (1 % 65536)))))=_
  rw [Nat.mod_eq_of_lt h1]
  have e:Nat.land (d / 2 ^ c) (1 % 65536)=d / 2 ^ c % 2:=Nat.and_one_is_mod _
  rw [e,wrapF_ofNat (k:=.u16) (show d / 2 ^ c % 2 < 65536 by omega)]
theorem badF_spec (th d:Nat):∀ (k j:Nat),(badF th d k j).length≤k∧(∀ x∈badF th d k j,j≤x∧x < j+k)∧(badF th d k j).Pairwise (· < ·)
 |0,_=>⟨Nat.le_refl 0,fun x h=>(by cases h),.nil⟩
 |k+1,j=>by
  obtain ⟨h1,h2,h3⟩:=badF_spec th d k (j+1)
  show (cond (badC th d j) (j::badF th d k (j+1)) (badF th d k (j+1))).length≤k+1∧(∀ x∈cond (badC th d j) (j::badF th d k (j+1)) (badF th d k (j+1)),j≤x∧x < j+(k+1))∧(cond (badC th d j) (j::badF th d k (j+1)) (badF th d k (j+1))).Pairwise (· < ·)
  cases badC th d j with
  |true=>
   refine ⟨Nat.succ_le_succ h1,fun x hx=>?_,List.pairwise_cons.2 ⟨fun x hx=>?_,h3⟩⟩
   ·rcases List.mem_cons.1 hx with rfl |hx
    ·omega
    ·have:=h2 x hx;omega
   ·have:=h2 x hx;omega
  |false=>exact ⟨Nat.le_succ_of_le h1,fun x hx=>by have:=h2 x hx;omega,h3⟩
theorem sides {K a b:Nat} (hK:8≤K∧K≤16):1≤wideOf a∧wideOf a≤8∧1≤highOf K a b∧highOf K a b≤8∧wideOf a * highOf K a b≤K∧1≤minN 8 (K / wideOf a):=by
 obtain ⟨w,hw⟩:∃ w,w=wideOf a:=⟨_,rfl⟩
 have w8:1≤w∧w≤8:=by rw [hw];unfold wideOf;omega
 have q:1≤K / w∧K / w * w≤K:=⟨by rw [Nat.le_div_iff_mul_le (by omega)];omega,Nat.div_mul_le_self ..⟩
 have mn:1≤minN 8 (K / w)∧minN 8 (K / w)≤K / w∧minN 8 (K / w)≤8:=by
  unfold minN
  cases hbb:Nat.blt (K / w) 8 with
  |true=>rw [Nat.blt_eq] at hbb;show 1≤K / w∧K / w≤K / w∧K / w≤8;omega
  |false=>
   have:=le_of_blt_f hbb
   show 1≤8∧8≤K / w∧8≤8;omega
 have hh:highOf K a b=1+b % minN 8 (K / w):=by unfold highOf;rw [← hw]
 have hm:=Nat.mod_lt b (show 0 < minN 8 (K / w) by omega)
 rw [← hw]
 refine ⟨w8.1,w8.2,by omega,by omega,?_,mn.1⟩
 rw [Nat.mul_comm]
 exact Nat.le_trans (Nat.mul_le_mul_right w (show highOf K a b≤K / w by omega)) q.2
theorem made_ok {K a b th d:Nat} (hK:8≤K∧K≤16):SlabOk (wideOf a) (highOf K a b) (badL K a b th d):=by
 obtain ⟨h1,h2,h3,h4,h5,_⟩:=sides (a:=a) (b:=b) hK
 obtain ⟨_,k2,k3⟩:=badF_spec th d (wideOf a * highOf K a b) 0
 exact ⟨h1,h2,h3,h4,by omega,fun x hx=>by have:=k2 x hx;omega,k3⟩
theorem take_app {β:Type} {tlo base b:Nat} {H:TH} {x y:TV} {pre:List Nat} {v:Nat} (hb:H[b]? = some (.cells [x,y,Zcr 3 1 (pre.map tN)])) (ht:tlo≤b) (hbb:base≤b) (hl:pre.length < 80000) (k:TH→Option β) :
  (Zbg .take tlo base false 1 H (.ptr b (0+2)) fun t H1=>Zcm tlo H1 3 1 8 t (.row .full (.own 3) 1 [tN v]) fun t2 H2=>Zaa (Zas tlo base 1 H2 (.ptr b (0+2)) t2) k)=k (H.set b (.cells [x,y,Zcr 3 1 ((pre++[v]).map tN)])):=by
 have key:∀ (H1:TH) (z:TV),H1[b]? = some (.cells [x,y,z])→H1.set b (.cells [x,y,Zcr 3 1 ((pre++[v]).map tN)])=H.set b (.cells [x,y,Zcr 3 1 ((pre++[v]).map tN)]) →
   (Zcm tlo H1 3 1 8 (Zcr 3 1 (pre.map tN)) (.row .full (.own 3) 1 [tN v]) fun t2 H2=>Zaa (Zas tlo base 1 H2 (.ptr b (0+2)) t2) k)=k (H.set b (.cells [x,y,Zcr 3 1 ((pre++[v]).map tN)])):=fun H1 z h1 h2=>by
  rw [append_one (room8 (by rw [List.length_map];omega))]
  have e:pre.map tN++[tN v]=(pre++[v]).map tN:=by rw [List.map_append];rfl
  rw [e,Zcf (n:=1) (off:=0+2) (x:=Zcr 3 1 ((pre++[v]).map tN)) h1 ht stor_O (.inr hbb) (by rw [cellsT_O];rfl) (by simp),cellsT_O,← h2]
  rfl
 cases pre with
 |nil=>
  have hx:[x,y,Zcr 3 1 (([]:List Nat).map tN)][0+2]? = some (.row .nil .set 0 []):=rfl
  rw [Zbf hb hx rfl rfl]
  exact key H _ hb rfl
 |cons p l=>
  have e:(Zbg .take tlo base false 1 H (.ptr b (0+2)) fun t H1=>Zcm tlo H1 3 1 8 t (.row .full (.own 3) 1 [tN v]) fun t2 H2=>Zaa (Zas tlo base 1 H2 (.ptr b (0+2)) t2) k) =
    (Zcm tlo (H.set b (.cells [x,y,Zao])) 3 1 8 (Zcr 3 1 ((p::l).map tN)) (.row .full (.own 3) 1 [tN v]) fun t2 H2=>Zaa (Zas tlo base 1 H2 (.ptr b (0+2)) t2) k):=by
   show bindT (Zco H b fun cs=>Zaf (nth cs 2) fun z=>ldCell .take tlo base H b cs 2 z Zbt) _=_
   unfold Zco
   rw [Zcb,hb]
   show bindT (Zap (Nat.ble tlo b) (Zbt (Zcr 3 1 ((p::l).map tN)) (setBox H b (.cells [x,y,Zao])))) _=_
   rw [Nat.ble_eq_true_of_le ht,set_box hb];rfl
  rw [e]
  exact key _ Zao (set_get hb) (List.set_set ..)
theorem made_run (call:Zbc) (tlo:Nat) {K a b th dd:Nat} {H:TH} (hK:8≤K∧K≤16) (ha:a < 256) (hb:b < 256) (hth:th < 256) (hd:dd < 65536) (htl:tlo≤Zag H) :
  F54 call tlo [.agg [tK .u8 a,tK .u8 b,tK .u8 th,tK .u16 dd],tN K] H=some (.agg [tN (wideOf a),tN (highOf K a b),rS 1 ((badL K a b th dd).map tN)],H):=by
 obtain ⟨h1,h2,h3',h4,h5,h6⟩:=sides (a:=a) (b:=b) hK
 obtain ⟨w,hw⟩:∃ w,w=wideOf a:=⟨_,rfl⟩
 obtain ⟨h,hh⟩:∃ h,h=highOf K a b:=⟨_,rfl⟩
 have hh2:h=1+b % minN 8 (K / w):=by rw [hh];unfold highOf;rw [← hw]
 obtain ⟨sp,hsp⟩:∃ sp,sp=badL K a b th dd:=⟨_,rfl⟩
 have hsp2:sp=badF th dd (w * h) 0:=by rw [hsp,hw,hh];rfl
 rw [← hw] at h1 h2 h5 h6
 rw [← hh] at h3' h4 h5
 rw [← hw,← hh,← hsp]
 obtain ⟨A,hA⟩:∃ A:TObj,A=.cells [tK .u8 a,tK .u8 b,tK .u8 th,tK .u16 dd]:=⟨_,rfl⟩
 have key:EndsT (C54 call tlo (Zag H) (.agg [tK .u8 a,tK .u8 b,tK .u8 th,tK .u16 dd],tN K,Zao,Zao,Zao,Zao,Zao,Zao,Zao,Zao,()) H)
   fun e S H1=>e=.ret∧S.2.2.2.1=.ptr (Zag H+1) 0∧H1[Zag H+1]? = some (.cells [tN w,tN h,rS 1 (sp.map tN)])∧Zdg H1 (Zag H)=H:=by
  obtain ⟨B,hB⟩:∃ B,B=Zaq (Zaq H A) (.cells zc24):=⟨_,rfl⟩
  have hb0:B[Zag H]? = some A:=by rw [hB];exact Zbi Zbh
  have hlB:Zag B=Zag H+1+1:=by rw [hB,Zbp,Zbp]
  rw [hA] at hb0
  have l0:∀ {β:Type} (k:TV→TH→Option β),Zbg .lend tlo (Zag H) false 1 B (.ptr (Zag H) (0+0)) k=k (tK .u8 a) B:=fun k=>Zbf hb0 rfl rfl rfl
  have v0:evConv .i64 (.int .u8 (.ofNat a))=some (.int .i64 (.ofNat a)):=conv_n _ (by omega)
  have v1:evConv .i64 (.int .u8 (.ofNat b))=some (.int .i64 (.ofNat b)):=conv_n _ (by omega)
  have v2:evConv .i64 (.int .u8 (.ofNat th))=some (.int .i64 (.ofNat th)):=conv_n _ (by omega)
  have r0:evRem (.int .i64 (.ofNat a)) (.int .i64 (.ofNat 8))=some (.int .i64 (.ofNat (a % 8))):=rem_n (by decide)
  have s0:Zbe (.int .i64 (.ofNat 1)) (.int .i64 (.ofNat (a % 8)))=some (.int .i64 (.ofNat w)):=by rw [hw];exact add_n (by omega)
  have g0:aggT [(0,1,tN w)] zc24=some (.agg [tN w,tN 0,.row .nil .set 0 []]):=rfl
  obtain ⟨h30,hh30⟩:∃ h30:List TV→TH,h30=h3 H A (.cells zc24):=⟨_,rfl⟩
  have st1:Zas tlo (Zag H) 3 (Zaq B (.cells zc24)) (.ptr (Zag H+1+1) 0) (.agg [tN w,tN 0,.row .nil .set 0 []])=some (h30 [tN w,tN 0,.row .nil .set 0 []]):=by
   have hx:(Zaq B (.cells zc24))[Zag H+1+1]? = some (.cells zc24):=by rw [← hlB];exact Zbh
   rw [Zcf (off:=0) (n:=3) (x:=.agg [tN w,tN 0,.row .nil .set 0 []]) hx (by omega) rfl (.inr (by omega)) rfl (by decide),Zdr,over_all (cs:=zc24) (xs:=[tN w,tN 0,.row .nil .set 0 []]) rfl,hB,hh30]
   exact congrArg some h3_set
  have q0:evQuo (.int .i64 (.ofNat K)) (.int .i64 (.ofNat w))=some (.int .i64 (.ofNat (K / w))):=quo_n (by omega) (by omega)
  have r1:evRem (.int .i64 (.ofNat b)) (.int .i64 (.ofNat (minN 8 (K / w))))=some (.int .i64 (.ofNat (b % minN 8 (K / w)))):=rem_n (by omega)
  have s1:Zbe (.int .i64 (.ofNat 1)) (.int .i64 (.ofNat (b % minN 8 (K / w))))=some (.int .i64 (.ofNat h)):=by rw [hh2];exact add_n (by rw [← hh2];omega)
  have k1:∀ {β:Type} (X:List TV) (k:TV→TH→Option β),Zbg .lend tlo (Zag H) false 1 (h30 X) (.ptr (Zag H) (0+1)) k=k (tK .u8 b) (h30 X):=fun X k=>by rw [hh30];exact Zbf (h3_a.trans (congrArg some hA)) rfl rfl rfl
  have k2:∀ {β:Type} (X:List TV) (k:TV→TH→Option β),Zbg .lend tlo (Zag H) false 1 (h30 X) (.ptr (Zag H) (0+2)) k=k (tK .u8 th) (h30 X):=fun X k=>by rw [hh30];exact Zbf (h3_a.trans (congrArg some hA)) rfl rfl rfl
  have k3:∀ {β:Type} (X:List TV) (k:TV→TH→Option β),Zbg .lend tlo (Zag H) false 1 (h30 X) (.ptr (Zag H) (0+3)) k=k (tK .u16 dd) (h30 X):=fun X k=>by rw [hh30];exact Zbf (h3_a.trans (congrArg some hA)) rfl rfl rfl
  have k4:∀ {β:Type} (y z:TV) (k:TV→TH→Option β),Zbg .lend tlo (Zag H) false 1 (h30 [tN w,y,z]) (.ptr (Zag H+1+1) (0+0)) k=k (tN w) (h30 [tN w,y,z]):=fun y z k=>by rw [hh30];exact Zbf h3_x rfl rfl rfl
  have k5:∀ {β:Type} (z:TV) (k:TV→TH→Option β),Zbg .lend tlo (Zag H) false 1 (h30 [tN w,tN h,z]) (.ptr (Zag H+1+1) (0+1)) k=k (tN h) (h30 [tN w,tN h,z]):=fun z k=>by rw [hh30];exact Zbf h3_x rfl rfl rfl
  have st2:Zas tlo (Zag H) 1 (h30 [tN w,tN 0,.row .nil .set 0 []]) (.ptr (Zag H+1+1) (0+1)) (tN h)=some (h30 [tN w,tN h,.row .nil .set 0 []]):=by
   rw [hh30,Zcf (n:=1) (off:=0+1) (x:=tN h) h3_x (by omega) rfl (.inl rfl) rfl (by simp)]
   exact congrArg some h3_set
  have mu:evMul (.int .i64 (.ofNat w)) (.int .i64 (.ofNat h))=some (.int .i64 (.ofNat (w * h))):=mul_n (by omega)
  simp only [C54,VV,← hA,Zbp,← hB,l0,v0,v1,r0,s0,g0,hlB,st1,q0,r1,s1,k1,k4,k5,lesser_min,isV_v,st2,mu,storC_v]
  refine EndsT.sq (Q1:=fun e S H1=>e=.normal∧S.2.2.2.1=.ptr (Zag H+1) 0∧S.2.2.2.2.1=.ptr (Zag H+1+1) 0∧H1=h30 [tN w,tN h,Zcr 3 1 (sp.map tN)])
   (EndsT.bl (Q1:=fun e S H1=>e=.exit 0∧S.2.2.2.1=.ptr (Zag H+1) 0∧S.2.2.2.2.1=.ptr (Zag H+1+1) 0∧H1=h30 [tN w,tN h,Zcr 3 1 (sp.map tN)]) ?_ ?_ ?_ ?_) ?_ ?_ ?_
  ·refine EndsT.loop (fun k S H1=>∃ j pre,S.2.2.1=.ptr (Zag H) 0∧S.2.2.2.1=.ptr (Zag H+1) 0∧S.2.2.2.2.1=.ptr (Zag H+1+1) 0∧S.2.2.2.2.2.2.1=tN (w * h)∧S.2.2.2.2.2.2.2.1=tN j∧H1=h30 [tN w,tN h,Zcr 3 1 ((pre:List Nat).map tN)]∧j≤w * h∧k=w * h - j∧pre.length≤j∧sp=pre++badF th dd (w * h - j) j) ?_ fuel (w * h) _ _ (by rw [Zdl];omega)
    ⟨0,[],rfl,rfl,rfl,rfl,rfl,rfl,Nat.zero_le _,rfl,Nat.le_refl 0,hsp2⟩
   rintro k S H1 ⟨j,pre,e2,e3,e4,e6,e7,rfl,hj,rfl,hpl,hgo⟩
   rcases Nat.eq_or_lt_of_le hj with hj |hj
   ·rw [hj,Nat.sub_self] at hgo
    have hgo:sp=pre:=by rw [hgo];exact List.append_nil _
    simp only [VV,e2,e3,e4,e6,e7,Zcg,blt_f (Nat.le_of_eq hj.symm)]
    exact .fin (.inr ⟨by simp,rfl,rfl,rfl,by rw [hgo]⟩)
   ·have hk:w * h - j=(w * h - (j+1))+1:=by omega
    rw [hk] at hgo
    have hgo:sp=pre++cond (badC th dd j) (j::badF th dd (w * h - (j+1)) (j+1)) (badF th dd (w * h - (j+1)) (j+1)):=hgo
    obtain ⟨q1,q2,q3⟩:=bit16 (c:=j) (by omega) hd
    have q4:evMul (.int .i64 (.ofNat 5)) (.int .i64 (.ofNat j))=some (.int .i64 (.ofNat (5 * j))):=mul_n (by omega)
    have q5:Zbe (.int .i64 (.ofNat th)) (.int .i64 (.ofNat (5 * j)))=some (.int .i64 (.ofNat (th+5 * j))):=add_n (by omega)
    have q6:evRem (.int .i64 (.ofNat (th+5 * j))) (.int .i64 (.ofNat 4))=some (.int .i64 (.ofNat ((th+5 * j) % 4))):=rem_n (by decide)
    have q7:Zca (.ofNat ((th+5 * j) % 4)) (.ofNat 0)=Nat.beq ((th+5 * j) % 4) 0:=rfl
    have a3:Zbe (.int .i64 (.ofNat j)) (.int .i64 (.ofNat 1))=some (.int .i64 (.ofNat (j+1))):=add_n (by omega)
    have ta:∀ {β:Type} (k:TH→Option β),(Zbg .take tlo (Zag H) false 1 (h30 [tN w,tN h,Zcr 3 1 (pre.map tN)]) (.ptr (Zag H+1+1) (0+2)) fun t H1=>Zcm tlo H1 3 1 8 t (.row .full (.own 3) 1 [tN j]) fun t2 H2=>Zaa (Zas tlo (Zag H) 1 H2 (.ptr (Zag H+1+1) (0+2)) t2) k)=k (h30 [tN w,tN h,Zcr 3 1 ((pre++[j]).map tN)]):=fun k=>by
     rw [hh30,take_app h3_x (by omega) (by omega) (by omega),h3_set]
    unfold badC at hgo
    cases b1:inB dd j with
    |false=>
     rw [b1] at hgo
     simp only [VV,e2,e3,e4,e6,e7,Zcg,blt_t hj,k2,k3,q1,q2,q3,b1,a3]
     exact .fin (.inl ⟨rfl,w * h - (j+1),by omega,j+1,pre,rfl,rfl,rfl,rfl,rfl,rfl,hj,rfl,by omega,hgo⟩)
    |true=>
     cases b2:Nat.beq ((th+5 * j) % 4) 0 with
     |false=>
      rw [b1,b2] at hgo
      simp only [VV,e2,e3,e4,e6,e7,Zcg,blt_t hj,k2,k3,q1,q2,q3,v2,q4,q5,q6,q7,b1,b2,a3]
      exact .fin (.inl ⟨rfl,w * h - (j+1),by omega,j+1,pre,rfl,rfl,rfl,rfl,rfl,rfl,hj,rfl,by omega,hgo⟩)
     |true=>
      rw [b1,b2] at hgo
      simp only [VV,e2,e3,e4,e6,e7,Zcg,blt_t hj,k2,k3,q1,q2,q3,v2,q4,q5,q6,q7,b1,b2,a3,show Zcx 1 [0] [tN j] (repG [tN 0] 1)=some [tN j] from rfl,ta]
      exact .fin (.inl ⟨rfl,w * h - (j+1),by omega,j+1,pre++[j],rfl,rfl,rfl,rfl,rfl,rfl,hj,rfl,by simp;omega,by rw [hgo];simp⟩)
  ·rintro S H1 ⟨h,_⟩;cases h
  ·rintro i S H1 ⟨h1,h2⟩;cases h1;exact ⟨rfl,h2⟩
  ·rintro S H1 ⟨h,_⟩;cases h
  ·rintro S H1 ⟨_,e3,e4,rfl⟩
   have fin:∃ H2 H3,(∀ {β:Type} (k:TV→TH→Option β),Zbg .settle tlo (Zag H) true 3 (h30 [tN w,tN h,Zcr 3 1 (sp.map tN)]) (.ptr (Zag H+1+1) 0) k=k (.agg [tN w,tN h,rS 1 (sp.map tN)]) H2) ∧
     Zas tlo (Zag H) 3 H2 (.ptr (Zag H+1) 0) (.agg [tN w,tN h,rS 1 (sp.map tN)])=some H3∧H3[Zag H+1]? = some (.cells [tN w,tN h,rS 1 (sp.map tN)])∧Zdg H3 (Zag H)=H:=by
    have st:∀ (X:List TV),∃ H3,Zas tlo (Zag H) 3 (h3 H A (.cells zc24) X) (.ptr (Zag H+1) 0) (.agg [tN w,tN h,rS 1 (sp.map tN)])=some H3∧H3[Zag H+1]? = some (.cells [tN w,tN h,rS 1 (sp.map tN)])∧Zdg H3 (Zag H)=H:=fun X=>
     ⟨_,by rw [Zcf (off:=0) (n:=3) (x:=.agg [tN w,tN h,rS 1 (sp.map tN)]) h3_z (by omega) rfl (.inr (by omega)) rfl (by decide),Zdr,over_all (cs:=zc24) (xs:=[tN w,tN h,rS 1 (sp.map tN)]) rfl],set_get h3_z,take_set h3_take (by omega)⟩
    cases hs:sp.map tN with
    |nil=>
     rw [hs] at st
     obtain ⟨H3,a1,a2,a3⟩:=st [tN w,tN h,.row .nil .set 0 []]
     refine ⟨_,H3,fun k=>?_,a1,a2,a3⟩
     rw [hh30]
     exact Zcw h3_x (by simp) rfl
    |cons p l=>
     rw [hs] at st
     obtain ⟨H3,a1,a2,a3⟩:=st [tN w,tN h,.row .opn .set 1 (p::l)]
     refine ⟨_,H3,fun k=>?_,a1,a2,a3⟩
     rw [hh30]
     show bindT (Zco (h3 H A (.cells zc24) [tN w,tN h,.row .opn (.own 3) 1 (p::l)]) (Zag H+1+1) fun cs=>Zap (Nat.ble (0+3) (Zag cs)) (cond (anyG isOwn (segG cs 0 3)) (Zbt (.agg (mapG setC (segG cs 0 3))) (setBox _ (Zag H+1+1) (.cells (overG cs 0 (mapG setC (segG cs 0 3)))))) (Zbt (.agg (segG cs 0 3)) _))) k=_
     unfold Zco
     rw [Zcb,h3_x]
     show bindT (Zbt (.agg [tN w,tN h,.row .opn .set 1 (p::l)]) (setBox (h3 H A (.cells zc24) [tN w,tN h,.row .opn (.own 3) 1 (p::l)]) (Zag H+1+1) (.cells [tN w,tN h,.row .opn .set 1 (p::l)]))) k=_
     rw [set_box h3_x,h3_set];rfl
   obtain ⟨H2,H3,f1,f2,f3,f4⟩:=fin
   simp only [VV,e3,e4,f1,f2]
   exact .fin ⟨rfl,rfl,f3,f4⟩
  ·rintro i S H1 ⟨h,_⟩;cases h
  ·rintro S H1 ⟨h,_⟩;cases h
 obtain ⟨e,S,H1,r1,rfl,r3,hz,ht⟩:=key
 show Zaa (C54 call tlo (Zag H) (.agg [tK .u8 a,tK .u8 b,tK .u8 th,tK .u16 dd],tN K,Zao,Zao,Zao,Zao,Zao,Zao,Zao,Zao,()) H) _=_
 rw [r1]
 have lA:∀ {β:Type} (bb:Nat) (k:TV→TH→Option β),Zbg .take tlo bb true 3 H1 (.ptr (Zag H+1) 0) k=k (.agg [tN w,tN h,rS 1 (sp.map tN)]) H1:=fun bb k=>Zcw hz (by simp) rfl
 simp only [VV,r3,lA]
 rw [Zbm rfl,ht]
end
end Go.Proofs.YtgemobbfikjmoaaGreatDoor
namespace Go.Proofs.YtgemobbfikjmoaaGreatDoor
open Go Go.Ev
set_option maxRecDepth 100000
noncomputable section
theorem outR_slab {w h:Nat} {H:TH} {l:List TV}:outR false H (.agg [tN w,tN h,rS 1 l])=some (.agg [tN w,tN h,rS 1 l]):=by cases l <;> rfl
theorem made_tree (d:Nat) {K a b th dd:Nat} {H:TH} (hK:8≤K∧K≤16) (ha:a < 256) (hb:b < 256) (hth:th < 256) (hd:dd < 65536) :
  Zah (tc (d+1)) 54 [.agg [tK .u8 a,tK .u8 b,tK .u8 th,tK .u16 dd],tN K] H=some (.agg [tN (wideOf a),tN (highOf K a b),rS 1 ((badL K a b th dd).map tN)]):=
 Zdo (ws:=[.agg [tK .u8 a,tK .u8 b,tK .u8 th,tK .u16 dd],tN K]) (H':=[]) (a:=false) rfl rfl ((tc_f (F:=F54) (by kernel_rfl) ..).trans (made_run _ 0 hK ha hb hth hd (Nat.zero_le _))) outR_slab
theorem containsFN_run (d tlo:Nat) {c:Cp} {n g:Nat} {m:List TV} (zs:List Nat) (hn:zs≠[]→n=1) (p:Nat→Bool) {H:TH} (hlen:zs.length < 90000) (hm:Zbu pass m=true)
  (hp:∀ z∈zs,tc d tlo g ([tN z]++m) H=some (tB (p z),H)) :
  tc (d+2) tlo 65 [.row c .set n (zs.map tN),.fn (.func g) [] m] H=some (tB (hasF p zs),H):=by
 have hf:hasF (fun z:Int=>p z.toNat) (zs.map Int.ofNat)=hasF p zs:=by rw [hasF_any,hasF_any,List.any_map];rfl
 rw [map_tN,← hf]
 exact containsFI_run d tlo (zs.map Int.ofNat) (fun h=>hn (fun e=>h (by rw [e];rfl))) (fun z=>p z.toNat) (by rw [List.length_map];exact hlen) hm (fun z hz=>by
  obtain ⟨q,hq,rfl⟩:=List.mem_map.1 hz
  exact hp q hq)
end
end Go.Proofs.YtgemobbfikjmoaaGreatDoor
namespace Go.Proofs.YtgemobbfikjmoaaGreatDoor
open Go Go.Ev
set_option maxRecDepth 100000
theorem bool_eq {a b:Bool} (h:a=true↔b=true):a=b:=by
 cases a <;> cases b <;> simp_all
theorem hasN_cons {x y:Nat} {l:List Nat}:hasN x (y::l)=(Nat.beq x y || hasN x l):=by
 show cond (Nat.beq x y) true (hasN x l)=_
 cases Nat.beq x y <;> rfl
theorem dif_test {a b i:Nat} (ha:a < 65536) (hb:b < 65536):(dif a b).testBit i=(a.testBit i && !b.testBit i):=by
 unfold dif
 have p64:(2:Nat) ^ 64=18446744073709551616:=by decide
 have e:(18446744073709551615 - b:Nat)=2 ^ 64 - (b+1):=by omega
 rw [Nat.testBit_and,e,Nat.testBit_two_pow_sub_succ (show b < 2 ^ 64 by omega)]
 by_cases h:i < 64
 ·rw [decide_eq_true h];rfl
 ·have:a.testBit i=false:=Nat.testBit_lt_two_pow (Nat.lt_of_lt_of_le (Nat.lt_of_lt_of_le ha (by decide:65536≤2 ^ 16)) (Nat.pow_le_pow_right (by decide) (by omega)))
  rw [this];rfl
theorem goodM_test:∀ (l:List Nat) (g i:Nat),g < 65536→(∀ x∈l,x < 16)→(goodM l g).testBit i=(g.testBit i && !hasN i l)
 |[],g,i,_,_=>by show g.testBit i=(g.testBit i && true);rw [Bool.and_true]
 |c::l,g,i,hg,hl=>by
  have hc:2 ^ c < 65536:=p16 (hl c (List.mem_cons_self ..))
  have hd:dif g (2 ^ c) < 65536:=Nat.lt_of_le_of_lt (Nat.and_le_left) hg
  show (goodM l (dif g (2 ^ c))).testBit i=_
  rw [goodM_test l _ i hd (fun x hx=>hl x (List.mem_cons_of_mem _ hx)),dif_test hg hc,Nat.testBit_two_pow,hasN_cons]
  have e:Nat.beq i c=decide (c=i):=by
   by_cases h:c=i
   ·rw [decide_eq_true h,h,Nat.beq_refl]
   ·rw [decide_eq_false h];exact beqf (fun e=>h e.symm)
  rw [e]
  cases g.testBit i <;> cases decide (c=i) <;> cases hasN i l <;> rfl
theorem all_lt {n:Nat} (h:n≤16):Nat.pow 2 n - 1 < 65536:=by
 have h1:2 ^ n≤2 ^ 16:=Nat.pow_le_pow_right (by decide) h
 have h2:(2:Nat) ^ 16=65536:=by decide
 show 2 ^ n - 1 < 65536
 have h3:0 < 2 ^ n:=Nat.pow_pos (by decide)
 omega
theorem full_lt {w h:Nat} {sp:List Nat} (ok:SlabOk w h sp):Zda w h sp < 65536:=goodM_lt _ _ (all_lt ok.n16)
theorem full_test {w h:Nat} {sp:List Nat} (ok:SlabOk w h sp) (i:Nat):(Zda w h sp).testBit i=(decide (i < w * h) && !hasN i sp):=by
 unfold Zda
 rw [goodM_test sp _ i (all_lt ok.n16) (fun x hx=>Nat.lt_of_lt_of_le (ok.lt x hx) ok.n16)]
 show ((2 ^ (w * h) - 1).testBit i && _)=_
 rw [Nat.testBit_two_pow_sub_one]
theorem full_iff {w h:Nat} {sp:List Nat} (ok:SlabOk w h sp) (i:Nat):(Zda w h sp).testBit i=true↔i < w * h∧i ∉ sp:=by
 rw [full_test ok,Bool.and_eq_true,decide_eq_true_eq,← hasN_mem];cases hasN i sp <;> simp
theorem goodF_mem (sp:List Nat):∀ (k j x:Nat),x∈goodF sp k j↔j≤x∧x < j+k∧x ∉ sp
 |0,j,x=>by
  constructor
  ·intro h;cases h
  ·rintro ⟨_,_,_⟩;omega
 |k+1,j,x=>by
  have ih:=goodF_mem sp k (j+1) x
  show x∈cond (hasN j sp) (goodF sp k (j+1)) (j::goodF sp k (j+1))↔_
  cases e:hasN j sp with
  |true=>
   show x∈goodF sp k (j+1)↔_
   rw [ih]
   have hj:=(hasN_mem j sp).1 e
   constructor
   ·rintro ⟨h1,h2,h3⟩;exact ⟨by omega,by omega,h3⟩
   ·rintro ⟨h1,h2,h3⟩
    have:j≠x:=fun e=>h3 (e ▸ hj)
    exact ⟨by omega,by omega,h3⟩
  |false=>
   show x∈j::goodF sp k (j+1)↔_
   rw [List.mem_cons,ih]
   constructor
   ·rintro (rfl |⟨h1,h2,h3⟩)
    ·exact ⟨Nat.le_refl _,by omega,fun h=>by rw [(hasN_mem ..).2 h] at e;cases e⟩
    ·exact ⟨by omega,by omega,h3⟩
   ·rintro ⟨h1,h2,h3⟩
    rcases Nat.eq_or_lt_of_le h1 with h |h
    ·exact .inl h.symm
    ·exact .inr ⟨h,by omega,h3⟩
theorem goodF_asc (sp:List Nat):∀ (k j:Nat),(goodF sp k j).Pairwise (· < ·)
 |0,_=>.nil
 |k+1,j=>by
  show (cond (hasN j sp) (goodF sp k (j+1)) (j::goodF sp k (j+1))).Pairwise (· < ·)
  cases hasN j sp with
  |true=>exact goodF_asc sp k (j+1)
  |false=>exact List.pairwise_cons.2 ⟨fun x hx=>by have:=(goodF_mem sp k (j+1) x).1 hx;omega,goodF_asc sp k (j+1)⟩
theorem goodL_mem {w h:Nat} {sp:List Nat} {x:Nat}:x∈goodL w h sp↔x < w * h∧x ∉ sp:=by
 unfold goodL
 rw [goodF_mem]
 constructor
 ·rintro ⟨_,h1,h2⟩;exact ⟨by omega,h2⟩
 ·rintro ⟨h1,h2⟩;exact ⟨Nat.zero_le _,by omega,h2⟩
theorem nxt_mem {w c:Nat} {l:List Nat} {p:Nat×Nat}:p∈nxt w l c↔p.1=c∧p.2∈l∧((c % w < w - 1∧p.2=c+1)∨p.2=c+w):=by
 obtain ⟨a,b⟩:=p
 have e:nxt w l c=cond (Nat.blt (c % w) (w - 1)) (cond (hasN (c+1) l) [(c,c+1)] []) []++cond (hasN (c+w) l) [(c,c+w)] []:=rfl
 rw [e,List.mem_append]
 have h1:(a,b)∈cond (Nat.blt (c % w) (w - 1)) (cond (hasN (c+1) l) [(c,c+1)] []) []↔c % w < w - 1∧c+1∈l∧a=c∧b=c+1:=by
  rw [← hasN_mem,← Nat.blt_eq]
  cases Nat.blt (c % w) (w - 1) <;> cases hasN (c+1) l <;> simp
 have h2:(a,b)∈cond (hasN (c+w) l) [(c,c+w)] []↔c+w∈l∧a=c∧b=c+w:=by
  rw [← hasN_mem]
  cases hasN (c+w) l <;> simp
 rw [h1,h2]
 show _↔a=c∧b∈l∧((c % w < w - 1∧b=c+1)∨b=c+w)
 clear h1 h2 e
 constructor
 ·rintro (⟨h1,h2,h3,h4⟩ |⟨h1,h3,h4⟩)
  ·exact ⟨h3,by rw [h4];exact h2,.inl ⟨h1,h4⟩⟩
  ·exact ⟨h3,by rw [h4];exact h1,.inr h4⟩
 ·rintro ⟨h1,h2,⟨h3,h4⟩ |h3⟩
  ·exact .inl ⟨h3,by rw [← h4];exact h2,h1,h4⟩
  ·exact .inr ⟨by rw [← h3];exact h2,h1,h3⟩
theorem pairsF_mem {w:Nat} {l:List Nat} {p:Nat×Nat}:∀ (cs:List Nat),p∈pairsF w l cs↔p.1∈cs∧p.2∈l∧((p.1 % w < w - 1∧p.2=p.1+1)∨p.2=p.1+w)
 |[]=>by
  constructor
  ·intro h;cases h
  ·rintro ⟨h,_⟩;cases h
 |c::cs=>by
  show p∈nxt w l c++pairsF w l cs↔_
  rw [List.mem_append,nxt_mem,pairsF_mem cs,List.mem_cons]
  constructor
  ·rintro (⟨rfl,h1,h2⟩ |⟨h1,h2⟩)
   ·exact ⟨.inl rfl,h1,h2⟩
   ·exact ⟨.inr h1,h2⟩
  ·rintro ⟨h |h,h1,h2⟩
   ·subst h;exact .inl ⟨rfl,h1,h2⟩
   ·exact .inr ⟨h,h1,h2⟩
def lexL (p q:Nat×Nat):Prop:=p.1 < q.1∨(p.1=q.1∧p.2 < q.2)
theorem pairsF_asc {w:Nat} (hw:1≤w) (l:List Nat):∀ (cs:List Nat),cs.Pairwise (· < ·)→(pairsF w l cs).Pairwise lexL
 |[],_=>.nil
 |c::cs,h=>by
  obtain ⟨h1,h2⟩:=List.pairwise_cons.1 h
  show (nxt w l c++pairsF w l cs).Pairwise lexL
  refine List.pairwise_append.2 ⟨?_,pairsF_asc hw l cs h2,fun p hp q hq=>?_⟩
  ·show (cond (Nat.blt (c % w) (w - 1)) (cond (hasN (c+1) l) [(c,c+1)] []) []++cond (hasN (c+w) l) [(c,c+w)] []).Pairwise lexL
   cases e1:Nat.blt (c % w) (w - 1) <;> cases hasN (c+1) l <;> cases hasN (c+w) l <;> simp [lexL]
   rw [Nat.blt_eq] at e1
   omega
  ·rw [nxt_mem] at hp
   rw [pairsF_mem] at hq
   exact .inl (by rw [hp.1];exact h1 _ hq.1)
theorem succ_mod {w c:Nat} (hw:1≤w):c % w < w - 1↔0 < (c+1) % w:=by
 have h1:=Nat.mod_lt c (show w > 0 by omega)
 have h2:(c+1) % w=(c % w+1) % w:=by rw [Nat.mod_add_mod]
 by_cases h:c % w+1 < w
 ·rw [h2,Nat.mod_eq_of_lt h];omega
 ·have:c % w+1=w:=by omega
  rw [h2,this,Nat.mod_self];omega
section
variable {w h:Nat} {sp:List Nat}
theorem pairs_mem (ok:SlabOk w h sp) {p:Nat×Nat}:p∈Zci w h sp↔(Zda w h sp).testBit p.1=true∧(Zda w h sp).testBit p.2=true∧((p.2=p.1+1∧0 < p.2 % w)∨p.2=p.1+w):=by
 unfold Zci
 rw [pairsF_mem,goodL_mem,goodL_mem,full_iff ok,full_iff ok]
 constructor
 ·rintro ⟨h1,h2,⟨h3,h4⟩ |h3⟩
  ·exact ⟨h1,h2,.inl ⟨h4,by rw [h4];exact (succ_mod ok.w1).1 h3⟩⟩
  ·exact ⟨h1,h2,.inr h3⟩
 ·rintro ⟨h1,h2,⟨h3,h4⟩ |h3⟩
  ·exact ⟨h1,h2,.inl ⟨(succ_mod ok.w1).2 (by rw [← h3];exact h4),h3⟩⟩
  ·exact ⟨h1,h2,.inr h3⟩
theorem pairs_asc (ok:SlabOk w h sp):(Zci w h sp).Pairwise lexL:=pairsF_asc ok.w1 _ _ (goodF_asc ..)
theorem asc_noAdj:∀ (l:List (Nat×Nat)),l.Pairwise lexL→noAdj l=true
 |[],_=>rfl
 |[_],_=>rfl
 |a::b::l,hp=>by
  obtain ⟨h1,h2⟩:=List.pairwise_cons.1 hp
  show cond (eqQ b a) false (noAdj (b::l))=true
  have:eqQ b a=false:=by
   have h3:=h1 b (List.mem_cons_self ..)
   unfold eqQ
   rcases h3 with h3 |⟨_,h3⟩
   ·rw [beqf (show b.1≠a.1 by omega)];rfl
   ·rw [beqf (show b.2≠a.2 by omega)];simp
  rw [this]
  exact asc_noAdj (b::l) h2
theorem pairs_lt (ok:SlabOk w h sp):∀ p∈Zci w h sp,p.1 < 16∧p.2 < 16:=fun p hp=>by
 obtain ⟨h1,h2,_⟩:=(pairs_mem ok).1 hp
 have:=ok.n16
 have:=(full_iff ok _).1 h1
 have:=(full_iff ok _).1 h2
 omega
theorem nxt_len {c:Nat} {l:List Nat}:(nxt w l c).length≤2:=by
 show (cond (Nat.blt (c % w) (w - 1)) (cond (hasN (c+1) l) [(c,c+1)] []) []++cond (hasN (c+w) l) [(c,c+w)] []).length≤2
 cases Nat.blt (c % w) (w - 1) <;> cases hasN (c+1) l <;> cases hasN (c+w) l <;> simp
theorem pairsF_len {l:List Nat}:∀ (cs:List Nat),(pairsF w l cs).length≤2 * cs.length
 |[]=>Nat.le_refl 0
 |c::cs=>by
  show (nxt w l c++pairsF w l cs).length≤2 * (cs.length+1)
  have h1:=nxt_len (w:=w) (c:=c) (l:=l)
  have h2:=pairsF_len (l:=l) cs
  rw [List.length_append];omega
theorem pairs_len (ok:SlabOk w h sp):(Zci w h sp).length≤32:=by
 have h1:=pairsF_len (w:=w) (l:=goodL w h sp) (goodL w h sp)
 have h2:=goodF_len sp (w * h) 0
 have h3:=ok.n16
 unfold Zci
 unfold goodL at *
 omega
theorem zero_test {m:Nat} (h:∀ i,m.testBit i=false):m=0:=Nat.eq_of_testBit_eq fun i=>by rw [h i,Nat.zero_testBit]
theorem err_pair (ok:SlabOk w h sp) {p:Nat×Nat} {prev:Option (Nat×Nat)} {used:Nat} (hp:p∈Zci w h sp) (hpr:∀ q,prev=some q→lexL q p) :
  errC w (w * h) (Zda w h sp) prev p used=cond (used.testBit p.1 || used.testBit p.2) 6 0:=by
 obtain ⟨g1,g2,g3⟩:=(pairs_mem ok).1 hp
 have l1:=(full_iff ok _).1 g1
 have l2:=(full_iff ok _).1 g2
 have h16:=ok.n16
 have e1:Nat.blt (maxN p.1 p.2) (w * h)=true:=by
  rw [Nat.blt_eq];unfold maxN
  cases Nat.blt p.1 p.2 with
  |true=>exact l2.1
  |false=>exact l1.1
 have e2:shapeB w p=false:=by
  unfold shapeB
  rcases g3 with ⟨e,hm⟩ |e
  ·have d1:Int.ofNat p.2 - Int.ofNat p.1=.ofNat 1:=by rw [e];show ((p.1+1:Nat):Int) - (p.1:Int)=1;omega
   rw [d1]
   have:Zca (.ofNat (p.2 % w)) (.ofNat 0)=false:=beqf (by omega)
   rw [this]
   cases Zca (.ofNat 1) (.ofNat w) <;> rfl
  ·have d1:Int.ofNat p.2 - Int.ofNat p.1=.ofNat w:=by rw [e];show ((p.1+w:Nat):Int) - (p.1:Int)=(w:Int);omega
   rw [d1]
   have:Zca (.ofNat w) (.ofNat w)=true:=beqt rfl
   rw [this];rfl
 have e3:orderB prev p=false:=by
  cases prev with
  |none=>rfl
  |some q=>
   have hq:=hpr q rfl
   unfold orderB
   show decide (0≤cond (Zca (cmpN q.1 p.1) 0) (cond (Zca (cmpN q.2 p.2) 0) (cond (Nat.blt 0 0) (.negSucc 0) 0) (cmpN q.2 p.2)) (cmpN q.1 p.1))=false
   rcases hq with hq |⟨hq,hq'⟩
   ·have:cmpN q.1 p.1=.negSucc 0:=by
     unfold cmpN
     rw [(by rw [Nat.blt_eq];exact hq:Nat.blt q.1 p.1=true)];rfl
    rw [this];rfl
   ·have c1:cmpN q.1 p.1=0:=by
     unfold cmpN
     rw [hq]
     have:Nat.blt p.1 p.1=false:=by
      cases e:Nat.blt p.1 p.1 with
      |false=>rfl
      |true=>rw [Nat.blt_eq] at e;omega
     rw [this];rfl
    have c2:cmpN q.2 p.2=.negSucc 0:=by
     unfold cmpN
     rw [(by rw [Nat.blt_eq];exact hq':Nat.blt q.2 p.2=true)];rfl
    rw [c1,c2];rfl
 have t1:(setQ p).testBit p.1=true:=by
  show (2 ^ p.1 ||| 2 ^ p.2).testBit p.1=true
  rw [Nat.testBit_or,Nat.testBit_two_pow_self];rfl
 have tQs:∀ i,(setQ p).testBit i=true↔p.1=i∨p.2=i:=fun i=>by
  show (2 ^ p.1 ||| 2 ^ p.2).testBit i=true↔_
  rw [Nat.testBit_or,Bool.or_eq_true,Nat.testBit_two_pow,Nat.testBit_two_pow,decide_eq_true_eq,decide_eq_true_eq]
 have hsl:setQ p < 65536:=Nat.or_lt_two_pow (n:=16) (p16 (by omega)) (p16 (by omega))
 have e4:dif (setQ p) (Zda w h sp)=0:=zero_test fun i=>by
  rw [dif_test hsl (full_lt ok)]
  cases e:(setQ p).testBit i with
  |false=>rfl
  |true=>
   rcases (tQs i).1 e with rfl |rfl
   ·rw [g1];rfl
   ·rw [g2];rfl
 have e5:Zca (.ofNat (Nat.land (setQ p) used)) (.ofNat 0)=!(used.testBit p.1 || used.testBit p.2):=by
  show Nat.beq (setQ p &&& used) 0=_
  cases hu:(used.testBit p.1 || used.testBit p.2) with
  |false=>
   rw [Bool.or_eq_false_iff] at hu
   have:setQ p &&& used=0:=zero_test fun i=>by
    rw [Nat.testBit_and]
    cases e:(setQ p).testBit i with
    |false=>rfl
    |true=>
     rcases (tQs i).1 e with rfl |rfl
     ·rw [hu.1];rfl
     ·rw [hu.2];rfl
   rw [this];rfl
  |true=>
   refine beqf fun e=>?_
   rw [Bool.or_eq_true] at hu
   have h0:∀ i,(setQ p &&& used).testBit i=false:=fun i=>by rw [e,Nat.zero_testBit]
   rcases hu with hu |hu
   ·have:=h0 p.1
    rw [Nat.testBit_and,hu,(tQs p.1).2 (.inl rfl)] at this;cases this
   ·have:=h0 p.2
    rw [Nat.testBit_and,hu,(tQs p.2).2 (.inr rfl)] at this;cases this
 unfold errC
 rw [e1,e2,e3,e4,e5]
 cases (used.testBit p.1 || used.testBit p.2) <;> rfl
structure PickSt (w h:Nat) (sp:List Nat) (l:List (Nat×Nat)) (used:List Nat) (tw:Nat):Prop where
 sub:∀ p∈l,p∈Zci w h sp
 asc:l.Pairwise lexL
 val:(tw=0∧∃ m,(∀ bs,cutN w (w * h) (Zda w h sp) (l++bs) none 0=cutN w (w * h) (Zda w h sp) bs l.getLast? m)∧∀ x,m.testBit x=hasN x used) ∨
  (tw=6∧∀ bs,cutN w (w * h) (Zda w h sp) (l++bs) none 0=(6,0))
theorem PickSt.nil:PickSt w h sp [] [] 0:=⟨fun _ hh=>(by cases hh),.nil,.inl ⟨rfl,0,fun _=>rfl,fun x=>by rw [Nat.zero_testBit];rfl⟩⟩
theorem hasN_app {x:Nat} (a b:List Nat):hasN x (a++b)=(hasN x a || hasN x b):=by
 refine bool_eq ?_
 rw [hasN_mem,List.mem_append,Bool.or_eq_true,hasN_mem,hasN_mem]
theorem PickSt.put (ok:SlabOk w h sp) {l:List (Nat×Nat)} {used:List Nat} {tw:Nat} (st:PickSt w h sp l used tw) {p:Nat×Nat} (hp:p∈Zci w h sp) (hl:∀ q∈l,lexL q p)
  (hu:(hasN p.1 used || hasN p.2 used)=false):PickSt w h sp (l++[p]) (used++[p.1,p.2]) tw:=by
 refine ⟨fun q hq=>?_,List.pairwise_append.2 ⟨st.asc,List.pairwise_singleton ..,fun a ha b hb=>by rw [List.mem_singleton] at hb;rw [hb];exact hl a ha⟩,?_⟩
 ·rcases List.mem_append.1 hq with hq |hq
  ·exact st.sub q hq
  ·rw [List.mem_singleton] at hq;rw [hq];exact hp
 ·rcases st.val with ⟨h0,m,h1,h2⟩ |⟨h0,h1⟩
  ·refine .inl ⟨h0,Nat.lor m (setQ p),fun bs=>?_,fun x=>?_⟩
   ·rw [List.append_assoc,h1]
    show cond (Nat.beq (errC w (w * h) (Zda w h sp) l.getLast? p m) 0) (cutN w (w * h) (Zda w h sp) bs (some p) (Nat.lor m (setQ p))) (errC w (w * h) (Zda w h sp) l.getLast? p m,0)=_
    rw [err_pair ok hp (fun q hq=>hl q (List.mem_of_getLast? hq)),h2,h2,hu]
    rw [List.getLast?_append];rfl
   ·show (m ||| (2 ^ p.1 ||| 2 ^ p.2)).testBit x=_
    rw [Nat.testBit_or,Nat.testBit_or,h2,hasN_app,Nat.testBit_two_pow,Nat.testBit_two_pow]
    congr 1
    refine bool_eq ?_
    rw [Bool.or_eq_true,decide_eq_true_eq,decide_eq_true_eq,hasN_mem]
    constructor
    ·rintro (rfl |rfl) <;> simp
    ·intro hx
     rcases List.mem_cons.1 hx with rfl |hx
     ·exact .inl rfl
     ·rw [List.mem_singleton] at hx;exact .inr hx.symm
  ·exact .inr ⟨h0,fun bs=>by rw [List.append_assoc];exact h1 _⟩
end
end Go.Proofs.YtgemobbfikjmoaaGreatDoor
