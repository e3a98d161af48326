/- What the functions that SawIdle calls answer, part three; the law walked.
   Conditions: none beyond the given statement's own. -/
import Derived.Test.YtgemobbfikjmoaaGreatDoorPaG
set_option linter.unusedVariables false
set_option linter.unusedSimpArgs false
set_option linter.defProp false
namespace Go.Proofs.YtgemobbfikjmoaaGreatDoor
open Go Go.Ev
set_option maxRecDepth 100000
noncomputable section
theorem lenT_vec {b off len cap n:Nat} {ag:Bool}:lenT (.vec b off len cap n ag)=some (tN len):=(rfl)
theorem idxSl_vec {b off len cap n j:Nat} {ag:Bool} (h:j < len):Zbn n (.vec b off len cap n ag) (tN j)=some (.ptr b (off+j * n)):=by
 show Zap (Nat.beq n n) (Zap (Nat.blt j len) (some (TV.ptr b (Nat.add off (Nat.mul j n)))))=_
 rw [Nat.beq_refl,blt_t h];rfl
section
variable {b off len cap n:Nat} {ag:Bool}
theorem lend_vec:Zab (.vec b off len cap n ag)=.vec b off len cap n ag:=(rfl)
theorem keep_vec:Zae (.vec b off len cap n ag)=.vec b off len cap n ag:=(rfl)
theorem set_vec:Zak (.vec b off len cap n ag)=.vec b off len cap n ag:=(rfl)
theorem hush_vec:hush (.vec b off len cap n ag)=.vec b off len cap n ag:=(rfl)
theorem stale_vec:stale (.vec b off len cap n ag)=.vec b off len cap n ag:=(rfl)
theorem pass_vec:pass (.vec b off len cap n ag)=true:=(rfl)
theorem resOk_vec:Zbo (.vec b off len cap n ag)=true:=(rfl)
end
theorem thaw_vec {β:Type} {n m:Nat} {ag ag':Bool} {b off len cap:Nat} {H:TH} {k:TV→TH→Option β}:Zdf n ag (.vec b off len cap m ag') H k=k (.vec b off len cap m ag') H:=(rfl)
def Holds (H:TH) (b:Nat) (H':TH):Prop:=Zag H≤Zag H'∧∀ i,i < Zag H→i≠b→H'[i]? = H[i]?
theorem Holds.refl (H:TH) (b:Nat):Holds H b H:=⟨Nat.le_refl _,fun _ _ _=>rfl⟩
theorem Holds.set {H H':TH} {b:Nat} {o:TObj} (h:Holds H b H'):Holds H b (H'.set b o):=⟨by rw [lenG_set];exact h.1,fun i h1 h2=>by rw [set_old h2];exact h.2 i h1 h2⟩
def idxP {α:Type} (p:α→Bool):List α→Nat→Option Nat
 |[],_=>none
 |y::ys,j=>cond (p y) (some j) (idxP p ys (j+1))
def idxI:Option Nat→Int
 |none=>.negSucc 0
 |some j=>.ofNat j
theorem indexV_run (call:Zbc) (tlo:Nat) {b cap g:Nat} {m:List TV} (zs:List Nat) (p:Nat→Bool) {H:TH} (hb:H[b]? = some (.cells (zs.map tN))) (hlen:zs.length < 90000) (hm:Zbu pass m=true)
  (hp:∀ z∈zs,call tlo g ([tN z]++m) H=some (tB (p z),H)) :
  F138 call tlo [.vec b 0 zs.length cap 1 false,.fn (.func g) [] m] H=some (tI (idxI (idxP p zs 0)),H):=by
 have key:EndsT (C138 call tlo (Zag H) (.vec b 0 zs.length cap 1 false,.fn (.func g) [] m,Zao,Zao,Zao,Zao,Zao,Zao,()) H)
   fun e S H1=>e=.ret∧S.2.2.1=tI (idxI (idxP p zs 0))∧H1=H:=by
  simp only [C138,VV,lend_vec,keep_vec,lenT_vec]
  refine EndsT.rng (k:=zs.length) (fun k S H1=>∃ j,S.1=.vec b 0 zs.length cap 1 false∧S.2.1=.fn (.func g) [] m∧S.2.2.2.2.1=tN zs.length∧S.2.2.2.2.2.1=tN j∧H1=H∧j≤zs.length∧k=zs.length - j∧idxP p zs 0=idxP p (zs.drop j) j)
   (fun _ H1=>H1=H∧idxP p zs 0=none) (fun S H1=>S.2.2.1=tI (idxI (idxP p zs 0))∧H1=H) ?_ (by rw [Zdl];omega) ⟨0,rfl,rfl,rfl,rfl,rfl,Nat.zero_le _,rfl,rfl⟩ ?_ (fun _ _ h=>⟨rfl,h⟩)
  ·rintro k S H1 ⟨j,h0,h1,h4,h5,rfl,hj,rfl,hgo⟩
   rcases Nat.eq_or_lt_of_le hj with hj |hj
   ·rw [hj,List.drop_length] at hgo
    simp only [VV,h0,h1,h4,h5,Zcg,blt_f (Nat.le_of_eq hj.symm)]
    exact .fin (.inr (.inl ⟨rfl,rfl,hgo⟩))
   ·rw [List.drop_eq_getElem_cons hj] at hgo
    have hgo:idxP p zs 0=cond (p zs[j]) (some j) (idxP p (zs.drop (j+1)) (j+1)):=hgo
    have hel:(zs.map tN)[0+j * 1]? = some (tN zs[j]):=by rw [Nat.zero_add,Nat.mul_one,List.getElem?_map,List.getElem?_eq_getElem hj];rfl
    have hcall:∀ {β:Type} (k:TV→TH→Option β),Zdc TC call tlo (.fn (.func g) [] m) [tN zs[j]] H1 k=k (tB (p zs[j])) H1:=fun k=>
     callFn_of (by show Zbu pass (tN zs[j]::m)=true;rw [allG_cons,show pass (tN zs[j])=true from rfl];exact hm) (hp _ (List.getElem_mem hj))
    have hl:∀ {β:Type} (md:Ld) (k:TV→TH→Option β),Zbg md tlo (Zag H1) false 1 H1 (.ptr b (0+j * 1)) k=k (tN zs[j]) H1:=fun md k=>Zbf hb hel rfl rfl
    cases hpj:p zs[j] with
    |true=>
     rw [hpj] at hgo hcall
     simp only [VV,h0,h1,h4,h5,Zcg,blt_t hj,lend_vec,keep_vec,idxSl_vec hj,hl,hcall]
     exact .fin (.inr (.inr ⟨rfl,by rw [hgo];rfl,rfl⟩))
    |false=>
     rw [hpj] at hgo hcall
     simp only [VV,h0,h1,h4,h5,Zcg,blt_t hj,lend_vec,keep_vec,idxSl_vec hj,hl,hcall,add_n (show j+1 < 9223372036854775808 by omega)]
     exact .fin (.inl ⟨rfl,zs.length - (j+1),by omega,j+1,rfl,rfl,rfl,rfl,rfl,hj,rfl,hgo⟩)
  ·rintro S H1 ⟨rfl,h⟩
   simp only [VV]
   exact .fin ⟨rfl,by rw [h];rfl,rfl⟩
 obtain ⟨e,S,H1,h1,rfl,h2,rfl⟩:=key
 show Zaa (C138 call tlo (Zag H1) (.vec b 0 zs.length cap 1 false,.fn (.func g) [] m,Zao,Zao,Zao,Zao,Zao,Zao,()) H1) _=_
 rw [h1]
 simp only [bz_some,resE_r,h2,fin_one resOk_v Zdq,Zde]
end
end Go.Proofs.YtgemobbfikjmoaaGreatDoor
namespace Go.Proofs.YtgemobbfikjmoaaGreatDoor
open Go Go.Ev
set_option maxRecDepth 100000
noncomputable section
def Zbx {α:Type} (p:α→Bool):List α→List α
 |[]=>[]
 |z::zs=>cond (p z) (Zbx p zs) (z::Zbx p zs)
theorem keepL_len {α:Type} (p:α→Bool):∀ l:List α,(Zbx p l).length≤l.length
 |[]=>Nat.le_refl _
 |z::zs=>by
  have:=keepL_len p zs
  show (cond (p z) (Zbx p zs) (z::Zbx p zs)).length≤zs.length+1
  cases p z
  ·show (Zbx p zs).length+1≤_;omega
  ·show (Zbx p zs).length≤_;omega
theorem keepL_app {α:Type} (p:α→Bool):∀ (a b:List α),Zbx p (a++b)=Zbx p a++Zbx p b
 |[],_=>rfl
 |z::a,b=>by
  show cond (p z) (Zbx p (a++b)) (z::Zbx p (a++b))=cond (p z) (Zbx p a) (z::Zbx p a)++Zbx p b
  rw [keepL_app p a b]
  cases p z <;> rfl
theorem keepL_all {α:Type} {p:α→Bool}:∀ {l:List α},(∀ z∈l,p z=false)→Zbx p l=l
 |[],_=>rfl
 |z::l,h=>by
  show cond (p z) (Zbx p l) (z::Zbx p l)=z::l
  rw [h z List.mem_cons_self,keepL_all fun y hy=>h y (List.mem_cons_of_mem _ hy)];rfl
theorem idxP_none {α:Type} {p:α→Bool}:∀ {l:List α} {j:Nat},idxP p l j=none→∀ z∈l,p z=false
 |[],_,_,z,hz=>by cases hz
 |y::l,j,h,z,hz=>by
  have h:cond (p y) (some j) (idxP p l (j+1))=none:=h
  cases hy:p y with
  |true=>rw [hy] at h;cases h
  |false=>
   rw [hy] at h
   rcases List.mem_cons.1 hz with rfl |hz
   ·exact hy
   ·exact idxP_none h z hz
theorem idxP_some {α:Type} {p:α→Bool}:∀ {l:List α} {j i:Nat},idxP p l j=some i→∃ k,i=j+k∧k < l.length∧(∀ z∈l.take k,p z=false)∧Zbx p (l.take (k+1))=l.take k
 |[],_,_,h=>by cases h
 |y::l,j,i,h=>by
  have h:cond (p y) (some j) (idxP p l (j+1))=some i:=h
  cases hy:p y with
  |true=>
   rw [hy] at h
   cases h
   refine ⟨0,rfl,Nat.succ_pos _,fun z hz=>(by cases hz),?_⟩
   show cond (p y) [] [y]=[]
   rw [hy];rfl
  |false=>
   rw [hy] at h
   obtain ⟨k,h1,h2,h3,h4⟩:=idxP_some h
   refine ⟨k+1,by omega,Nat.succ_lt_succ h2,fun z hz=>?_,?_⟩
   ·rw [List.take_succ_cons] at hz
    rcases List.mem_cons.1 hz with rfl |hz
    ·exact hy
    ·exact h3 z hz
   ·rw [List.take_succ_cons,List.take_succ_cons]
    show cond (p y) (Zbx p (l.take (k+1))) (y::Zbx p (l.take (k+1)))=_
    rw [hy,h4];rfl
theorem cut_hi {b len cap n k:Nat} {ag:Bool} (hk:k≤len) (hc:cap=UNK+n):cutT n (.vec b 0 len cap n ag) none (some (tN k)) none=some (.vec b 0 k cap n ag):=by
 show Zap (Nat.beq n n) (cond (cond (Nat.ble UNK cap) true false) (Zaf (some 0) fun l=>Zaf (some k) fun h=>Zap (Nat.ble l h) (Zap (Nat.ble h len) (Zap (Nat.beq cap (Nat.add UNK n))
    (some (TV.vec b (Nat.add 0 (Nat.mul l n)) (Nat.sub h l) cap n ag))))) _)=_
 rw [Nat.beq_refl,hc,show Nat.ble UNK (UNK+n)=true from Nat.ble_eq_true_of_le (by omega)]
 show Zap (Nat.ble 0 k) (Zap (Nat.ble k len) (Zap (Nat.beq (UNK+n) (UNK+n)) (some (TV.vec b (0+0 * n) (k - 0) (UNK+n) n ag))))=_
 rw [Nat.beq_refl,Nat.ble_eq_true_of_le hk,Nat.ble_eq_true_of_le (Nat.zero_le k),Nat.zero_mul];rfl
theorem cut_lo {b len cap n k:Nat} {ag:Bool} (hk:k≤len) (hc:cap=UNK+n):cutT n (.vec b 0 len cap n ag) (some (tN k)) none none=some (.vec b (0+k * n) (len - k) cap n ag):=by
 show Zap (Nat.beq n n) (cond (cond (Nat.ble UNK cap) true false) (Zaf (some k) fun l=>Zaf (some len) fun h=>Zap (Nat.ble l h) (Zap (Nat.ble h len) (Zap (Nat.beq cap (Nat.add UNK n))
    (some (TV.vec b (Nat.add 0 (Nat.mul l n)) (Nat.sub h l) cap n ag))))) _)=_
 rw [Nat.beq_refl,hc,show Nat.ble UNK (UNK+n)=true from Nat.ble_eq_true_of_le (by omega)]
 show Zap (Nat.ble k len) (Zap (Nat.ble len len) (Zap (Nat.beq (UNK+n) (UNK+n)) (some (TV.vec b (0+k * n) (len - k) (UNK+n) n ag))))=_
 rw [Nat.beq_refl,Nat.ble_eq_true_of_le hk,Nat.ble_eq_true_of_le (Nat.le_refl len)];rfl
theorem clear_vec {tlo b off len cap n:Nat} {ag:Bool} {H:TH} {z cs:List TV} (hb:H[b]? = some (.cells cs)) (ht:tlo≤b) (hz:z.length=n) (hl:off+len * n≤cs.length) :
  ∃ cs',clearT tlo H z (.vec b off len cap n ag)=some (H.set b (.cells cs'))∧cs'.length=cs.length∧cs'.take off=cs.take off:=by
 show ∃ cs',cond (Nat.beq len 0) (some H) (Zap (Nat.ble tlo b) (Zco H b fun cs=>Zap (Nat.ble (Nat.add off (Nat.mul len n)) (Zag cs)) (some (setBox H b (.cells (overG cs off (repG z len)))))))=some (H.set b (.cells cs'))∧_
 cases h0:Nat.beq len 0 with
 |true=>
  refine ⟨cs,?_,rfl,rfl⟩
  show some H=_
  rw [box_same hb]
 |false=>
  refine ⟨overG cs off (repG z len),?_,?_,?_⟩
  ·show Zap (Nat.ble tlo b) (Zco H b fun cs=>Zap (Nat.ble (off+len * n) (Zag cs)) (some (setBox H b (.cells (overG cs off (repG z len))))))=_
   unfold Zco
   rw [Nat.ble_eq_true_of_le ht,Zcb,hb]
   show Zap (Nat.ble (off+len * n) (Zag cs)) (some (setBox H b (.cells (overG cs off (repG z len)))))=_
   rw [Zat,Nat.ble_eq_true_of_le hl,set_box hb];rfl
  ·rw [overG_eq _ _ _ (by rw [repG_length,hz];exact hl),List.length_append,List.length_append,List.length_take,List.length_drop,repG_length,hz];omega
  ·rw [overG_eq _ _ _ (by rw [repG_length,hz];exact hl),List.take_append_of_le_length (by rw [List.length_take];omega),List.take_take,Nat.min_self]
theorem take_set_one {α:Type} {cs:List α} {k:Nat} {x:α} (h:k < cs.length):(cs.set k x).take (k+1)=cs.take k++[x]:=by
 rw [List.take_add_one,List.getElem?_set_self h,List.take_set_of_le (Nat.le_refl k)];rfl
theorem take_one {zs:List Nat} {j:Nat} (h:j < zs.length):zs.take (j+1)=zs.take j++[zs[j]]:=by
 rw [List.take_add_one,List.getElem?_eq_getElem h,Option.toList_some]
theorem deleteV_run (d tlo:Nat) {b cap g:Nat} {m:List TV} (zs:List Nat) (p:Nat→Bool) {H:TH} (hb:H[b]? = some (.cells (zs.map tN))) (hcap:cap=UNK+1) (ht:tlo≤b) (hlen:zs.length < 90000) (hm:Zbu pass m=true)
  (hp:∀ e,d≤e→∀ z∈zs,∀ H',Holds H b H'→tc e tlo g ([tN z]++m) H'=some (tB (p z),H')) :
  ∃ H' cs,tc (d+2) tlo 99 [.vec b 0 zs.length cap 1 false,.fn (.func g) [] m] H=some (.vec b 0 (Zbx p zs).length cap 1 false,H')∧H'[b]? = some (.cells cs)∧Holds H b H'∧cs.take (Zbx p zs).length=(Zbx p zs).map tN∧cs.length=zs.length:=by
 rw [tc_f (F:=F99) (by kernel_rfl)]
 have hkl:=keepL_len p zs
 have hcl:∀ {β:Type} (k:TV→TH→Option β),Zbr (tc (d+1)) tlo 138 [.vec b 0 zs.length cap 1 false,.fn (.func g) [] m] H k=k (tI (idxI (idxP p zs 0))) H:=fun k=>
  Zcy (by simp only [VV,pass_vec]) ((tc_f (F:=F138) (by kernel_rfl) ..).trans (indexV_run _ _ zs p hb hlen hm fun z hz=>hp _ (Nat.le_refl d) z hz H (Holds.refl _ _)))
 have key:EndsT (C99 (tc (d+1)) tlo (Zag H) (.vec b 0 zs.length cap 1 false,.fn (.func g) [] m,Zao,Zao,Zao,Zao,Zao,Zao,Zao,()) H)
   fun e S H1=>e=.ret∧S.2.2.1=.vec b 0 (Zbx p zs).length cap 1 false∧∃ cs,H1[b]? = some (.cells cs)∧Holds H b H1∧cs.take (Zbx p zs).length=(Zbx p zs).map tN∧cs.length=zs.length:=by
  cases hi:idxP p zs 0 with
  |none=>
   have hall:=keepL_all (idxP_none hi)
   rw [hi] at hcl
   simp only [C99,VV,set_vec,pass_vec,hcl,show Zca (idxI none) (.negSucc 0)=true from rfl]
   exact .fin ⟨rfl,by rw [hall],zs.map tN,hb,Holds.refl _ _,by rw [hall,List.take_of_length_le (by rw [List.length_map];exact Nat.le_refl _)],List.length_map ..⟩
  |some i=>
   rw [hi] at hcl
   obtain ⟨k,rfl,hk,hk1,hk2⟩:=idxP_some hi
   rw [Nat.zero_add] at hcl
   have a1:Zbe (.int .i64 (.ofNat k)) (.int .i64 (.ofNat 1))=some (.int .i64 (.ofNat (k+1))):=add_n (by omega)
   simp only [C99,VV,set_vec,lend_vec,keep_vec,pass_vec,hcl,show ∀ k:Nat,Zca (.ofNat k) (.negSucc 0)=false from fun _=>rfl,show idxI (some k)=.ofNat k from rfl,a1]
   refine EndsT.rng (k:=zs.length - (k+1)) (fun f S H1=>∃ j cs,S.1=.vec b 0 zs.length cap 1 false∧S.2.1=.fn (.func g) [] m∧S.2.2.2.1=tN (Zbx p (zs.take j)).length∧S.2.2.2.2.1=tN j∧j≤zs.length∧f=zs.length - j∧(Zbx p (zs.take j)).length < j ∧
     H1[b]? = some (.cells cs)∧Holds H b H1∧cs.length=zs.length∧cs.take (Zbx p (zs.take j)).length=(Zbx p (zs.take j)).map tN∧cs.drop j=(zs.drop j).map tN)
    (fun S H1=>∃ cs,S.1=.vec b 0 zs.length cap 1 false∧S.2.2.2.1=tN (Zbx p zs).length∧H1[b]? = some (.cells cs)∧Holds H b H1∧cs.length=zs.length∧cs.take (Zbx p zs).length=(Zbx p zs).map tN) (fun _ _=>False) ?_ (by rw [Zdl];omega)
    ⟨k+1,zs.map tN,rfl,rfl,by rw [hk2,List.length_take,Nat.min_eq_left (by omega)],rfl,hk,rfl,by rw [hk2,List.length_take];omega,hb,Holds.refl _ _,List.length_map ..,by rw [hk2,List.length_take,Nat.min_eq_left (by omega),List.map_take],by rw [List.map_drop]⟩ ?_ (fun _ _ h=>h.elim)
   ·rintro f S H1 ⟨j,cs,h0,h1,h3,h4,hj,rfl,hkj,hc,hH,hcl,htk,hdr⟩
    rcases Nat.eq_or_lt_of_le hj with hj |hj
    ·rw [hj,List.take_length] at htk h3
     simp only [VV,h0,h1,h3,h4,lend_vec,keep_vec,lenT_vec,Zcg,blt_f (Nat.le_of_eq hj.symm)]
     exact .fin (.inr (.inl ⟨rfl,cs,rfl,rfl,hc,hH,hcl,htk⟩))
    ·have hel:cs[0+j * 1]? = some (tN zs[j]):=by
      have:(cs.drop j)[0]? = ((zs.drop j).map tN)[0]?:=by rw [hdr]
      rw [List.getElem?_drop,List.getElem?_map,List.getElem?_drop,Nat.add_zero,List.getElem?_eq_getElem hj] at this
      rw [Nat.zero_add,Nat.mul_one,this];rfl
     have hcall:∀ {β:Type} (k:TV→TH→Option β),Zdc TC (tc (d+1)) tlo (.fn (.func g) [] m) [tN zs[j]] H1 k=k (tB (p zs[j])) H1:=fun k=>
      callFn_of (by show Zbu pass (tN zs[j]::m)=true;rw [allG_cons,show pass (tN zs[j])=true from rfl];exact hm) (hp (d+1) (Nat.le_succ d) _ (List.getElem_mem hj) _ hH)
     have hl:∀ {β:Type} (md:Ld) (k:TV→TH→Option β),Zbg md tlo (Zag H) false 1 H1 (.ptr b (0+j * 1)) k=k (tN zs[j]) H1:=fun md k=>Zbf hc hel rfl rfl
     have htj:Zbx p (zs.take (j+1))=Zbx p (zs.take j)++cond (p zs[j]) [] [zs[j]]:=by rw [take_one hj,keepL_app];rfl
     have a2:Zbe (.int .i64 (.ofNat j)) (.int .i64 (.ofNat 1))=some (.int .i64 (.ofNat (j+1))):=add_n (by omega)
     have a3:Zbe (.int .i64 (.ofNat (Zbx p (zs.take j)).length)) (.int .i64 (.ofNat 1))=some (.int .i64 (.ofNat ((Zbx p (zs.take j)).length+1))):=add_n (by omega)
     cases hpj:p zs[j] with
     |true=>
      rw [hpj] at hcall htj
      have htj:Zbx p (zs.take (j+1))=Zbx p (zs.take j):=by rw [htj];exact List.append_nil _
      simp only [VV,h0,h1,h3,h4,lend_vec,keep_vec,lenT_vec,Zcg,blt_t hj,Bool.not_true,Bool.not_false,idxSl_vec hj,hl,hcall,add_n (show j+1 < 9223372036854775808 by omega)]
      exact .fin (.inl ⟨rfl,zs.length - (j+1),by omega,j+1,cs,rfl,rfl,by rw [htj],rfl,hj,rfl,by rw [htj];omega,hc,hH,hcl,by rw [htj];exact htk,by rw [← List.drop_drop,hdr,← List.map_drop,List.drop_drop]⟩)
     |false=>
      rw [hpj] at hcall htj
      have htj:Zbx p (zs.take (j+1))=Zbx p (zs.take j)++[zs[j]]:=htj
      have hst:Zas tlo (Zag H) 1 H1 (.ptr b (0+(Zbx p (zs.take j)).length * 1)) (tN zs[j])=some (H1.set b (.cells (cs.set (Zbx p (zs.take j)).length (tN zs[j])))):=by
       rw [Zcf (n:=1) (x:=tN zs[j]) hc ht rfl (.inl rfl) rfl (by omega),cellsT_v,Nat.zero_add,Nat.mul_one,over_one _ _ _ (by omega)]
      simp only [VV,h0,h1,h3,h4,lend_vec,keep_vec,stale_vec,lenT_vec,Zcg,blt_t hj,idxSl_vec hj,idxSl_vec (show (Zbx p (zs.take j)).length < zs.length by omega),Bool.not_true,Bool.not_false,hl,hcall,thaw_vec,hst,add_n (show j+1 < 9223372036854775808 by omega),add_n (show (Zbx p (zs.take j)).length+1 < 9223372036854775808 by omega)]
      refine .fin (.inl ⟨rfl,zs.length - (j+1),by omega,j+1,cs.set (Zbx p (zs.take j)).length (tN zs[j]),rfl,rfl,?_,rfl,hj,rfl,?_,set_get hc,hH.set,by rw [List.length_set];exact hcl,?_,?_⟩)
      ·rw [htj,List.length_append];rfl
      ·rw [htj,List.length_append];show _+1 < _;omega
      ·rw [htj,List.length_append,show [zs[j]].length=1 from rfl,take_set_one (by omega),htk,List.map_append];rfl
      ·rw [List.drop_set_of_lt (by omega),← List.drop_drop,hdr,← List.map_drop,List.drop_drop]
   ·rintro S H1 ⟨cs,h0,h3,hc,hH,hcl,htk⟩
    obtain ⟨cs2,r1,r2,r3⟩:=clear_vec (tlo:=tlo) (off:=0+(Zbx p zs).length * 1) (len:=zs.length - (Zbx p zs).length) (cap:=cap) (n:=1) (ag:=false) (z:=[tN 0]) hc ht rfl (by omega)
    simp only [VV,h0,h3,lend_vec,keep_vec,cut_lo hkl hcap,cut_hi hkl hcap,thaw_vec,show ∀ (b off len cap n m:Nat) (ag:Bool),vecIs (.vec b off len cap n ag) m=Nat.beq n m from fun _ _ _ _ _ _ _=>rfl,show Nat.beq 1 1=true from rfl,r1]
    refine .fin ⟨rfl,rfl,cs2,set_get hc,hH.set,?_,by rw [r2,hcl]⟩
    rw [Nat.zero_add,Nat.mul_one] at r3
    rw [r3,htk]
 obtain ⟨e,S,H1,h1,rfl,h2,cs,h3,h4,h5,h6⟩:=key
 refine ⟨H1,cs,?_,h3,h4,h5,h6⟩
 show Zaa (C99 (tc (d+1)) tlo (Zag H) (.vec b 0 zs.length cap 1 false,.fn (.func g) [] m,Zao,Zao,Zao,Zao,Zao,Zao,Zao,()) H) _=_
 rw [h1]
 simp only [bz_some,resE_r,h2]
 rfl
end
end Go.Proofs.YtgemobbfikjmoaaGreatDoor
namespace Go.Proofs.YtgemobbfikjmoaaGreatDoor
open Go Go.Ev
set_option maxRecDepth 100000
noncomputable section
theorem take_oneA {α:Type} {zs:List α} {j:Nat} (h:j < zs.length):zs.take (j+1)=zs.take j++[zs[j]]:=by
 rw [List.take_add_one,List.getElem?_eq_getElem h,Option.toList_some]
theorem Holds.push {H H':TH} {b:Nat} {o:TObj} (h:Holds H b H'):Holds H b (Zaq H' o):=⟨by rw [Zbp];have:=h.1;omega,fun i h1 h2=>by
 rw [← h.2 i h1 h2]
 show (H'++[o])[i]? = _
 exact List.getElem?_append_left (by have:=h.1;rw [Zat,Zat] at this;rw [Zat] at h1;omega)⟩
theorem flatQ_put:∀ (l:List (Nat×Nat)) (j:Nat) (q:Nat×Nat),j < l.length→overG (Zbl (l.map tQ)) (0+j * 2) [tN q.1,tN q.2]=Zbl ((l.set j q).map tQ)
 |p::l,0,q,_=>rfl
 |p::l,j+1,q,h=>by
  have ih:=flatQ_put l j q (by simpa using h)
  have e:0+(j+1) * 2=(0+j * 2)+2:=by omega
  rw [e]
  show tN p.1::tN p.2::overG (Zbl (l.map tQ)) (0+j * 2) [tN q.1,tN q.2]=_
  rw [ih];rfl
theorem flatQ_app (a b:List (Nat×Nat)):Zbl ((a++b).map tQ)=Zbl (a.map tQ)++Zbl (b.map tQ):=by rw [List.map_append,flatL_append]
theorem rep_Q:∀ n:Nat,repG [tN 0,tN 0] n=Zbl ((List.replicate n (0,0)).map tQ)
 |0=>rfl
 |n+1=>by
  show [tN 0,tN 0]++repG [tN 0,tN 0] n=_
  rw [rep_Q n];rfl
theorem flatQ_take (l:List (Nat×Nat)):∀ (k:Nat),(Zbl (l.map tQ)).take (k * 2)=Zbl ((l.take k).map tQ):=by
 induction l with
 |nil=>intro k;simp [flatL_nil]
 |cons p l ih=>
  intro k
  cases k with
  |zero=>rfl
  |succ k=>
   rw [show (k+1) * 2=k * 2+2 by omega]
   show tN p.1::tN p.2::(Zbl (l.map tQ)).take (k * 2)=_
   rw [ih];rfl
theorem clear_vecQ {tlo b k len cap:Nat} {H:TH} {ys:List (Nat×Nat)} (hb:H[b]? = some (.cells (Zbl (ys.map tQ)))) (ht:tlo≤b) (hk:k≤len) (hl:ys.length=len) :
  ∃ ys':List (Nat×Nat),clearT tlo H zc71 (.vec b (0+k * 2) (len - k) cap 2 true)=some (H.set b (.cells (Zbl (ys'.map tQ))))∧ys'.length=len∧ys'.take k=ys.take k:=by
 refine ⟨ys.take k++List.replicate (len - k) (0,0),?_,by rw [List.length_append,List.length_take,List.length_replicate];omega,by rw [List.take_append_of_le_length (by rw [List.length_take];omega),List.take_take,Nat.min_self]⟩
 show cond (Nat.beq (len - k) 0) (some H) (Zap (Nat.ble tlo b) (Zco H b fun cs=>Zap (Nat.ble (Nat.add (0+k * 2) (Nat.mul (len - k) 2)) (Zag cs)) (some (setBox H b (.cells (overG cs (0+k * 2) (repG [tN 0,tN 0] (len - k))))))))=_
 cases h0:Nat.beq (len - k) 0 with
 |true=>
  have h0:=Nat.eq_of_beq_eq_true h0
  rw [h0,show ys.take k++List.replicate 0 (0,0)=ys by rw [List.take_of_length_le (by omega)];exact List.append_nil _]
  show some H=_
  rw [box_same hb]
 |false=>
  show Zap (Nat.ble tlo b) (Zco H b fun cs=>Zap (Nat.ble (0+k * 2+(len - k) * 2) (Zag cs)) (some (setBox H b (.cells (overG cs (0+k * 2) (repG [tN 0,tN 0] (len - k)))))))=_
  unfold Zco
  rw [Nat.ble_eq_true_of_le ht,Zcb,hb]
  show Zap (Nat.ble (0+k * 2+(len - k) * 2) (Zag (Zbl (ys.map tQ)))) (some (setBox H b (.cells (overG (Zbl (ys.map tQ)) (0+k * 2) (repG [tN 0,tN 0] (len - k))))))=_
  have hfl:(Zbl (ys.map tQ)).length=len * 2:=by rw [flatQ_len,hl]
  rw [Zat,hfl,Nat.ble_eq_true_of_le (by omega),set_box hb,overG_eq _ _ _ (by rw [repG_length,hfl];show 0+k * 2+(len - k) * 2≤len * 2;omega),rep_Q,Nat.zero_add,flatQ_take,flatQ_app,
   List.drop_of_length_le (by rw [flatQ_len,flatQ_len,List.length_replicate];omega),List.append_nil];rfl
theorem indexVQ_run (call:Zbc) (tlo:Nat) {b cap g:Nat} {m:List TV} (zs:List (Nat×Nat)) (p:Nat×Nat→Bool) {H:TH} (hb:H[b]? = some (.cells (Zbl (zs.map tQ)))) (hlen:zs.length < 90000) (hm:Zbu pass m=true)
  (hp:∀ z∈zs,call tlo g ([tQ z]++m) H=some (tB (p z),H)) :
  F134 call tlo [.vec b 0 zs.length cap 2 true,.fn (.func g) [] m] H=some (tI (idxI (idxP p zs 0)),H):=by
 have key:EndsT (C134 call tlo (Zag H) (.vec b 0 zs.length cap 2 true,.fn (.func g) [] m,Zao,Zao,Zao,Zao,Zao,Zao,()) H)
   fun e S H1=>e=.ret∧S.2.2.1=tI (idxI (idxP p zs 0))∧H1=H:=by
  simp only [C134,VV,lend_vec,keep_vec,lenT_vec]
  refine EndsT.rng (k:=zs.length) (fun k S H1=>∃ j,S.1=.vec b 0 zs.length cap 2 true∧S.2.1=.fn (.func g) [] m∧S.2.2.2.2.1=tN zs.length∧S.2.2.2.2.2.1=tN j∧H1=H∧j≤zs.length∧k=zs.length - j∧idxP p zs 0=idxP p (zs.drop j) j)
   (fun _ H1=>H1=H∧idxP p zs 0=none) (fun S H1=>S.2.2.1=tI (idxI (idxP p zs 0))∧H1=H) ?_ (by rw [Zdl];omega) ⟨0,rfl,rfl,rfl,rfl,rfl,Nat.zero_le _,rfl,rfl⟩ ?_ (fun _ _ h=>⟨rfl,h⟩)
  ·rintro k S H1 ⟨j,h0,h1,h4,h5,rfl,hj,rfl,hgo⟩
   rcases Nat.eq_or_lt_of_le hj with hj |hj
   ·rw [hj,List.drop_length] at hgo
    simp only [VV,h0,h1,h4,h5,Zcg,blt_f (Nat.le_of_eq hj.symm)]
    exact .fin (.inr (.inl ⟨rfl,rfl,hgo⟩))
   ·rw [List.drop_eq_getElem_cons hj] at hgo
    have hgo:idxP p zs 0=cond (p zs[j]) (some j) (idxP p (zs.drop (j+1)) (j+1)):=hgo
    have hcall:∀ {β:Type} (k:TV→TH→Option β),Zdc TC call tlo (.fn (.func g) [] m) [tQ zs[j]] H1 k=k (tB (p zs[j])) H1:=fun k=>
     callFn_of (by show Zbu pass (tQ zs[j]::m)=true;rw [allG_cons,show pass (tQ zs[j])=true from rfl];exact hm) (hp _ (List.getElem_mem hj))
    have hl:∀ {β:Type} (md:Ld) (k:TV→TH→Option β),Zbg md tlo (Zag H1) true 2 H1 (.ptr b (0+j * 2)) k=k (tQ zs[j]) H1:=fun md k=>load_Q hb hj
    cases hpj:p zs[j] with
    |true=>
     rw [hpj] at hgo hcall
     simp only [VV,h0,h1,h4,h5,Zcg,blt_t hj,lend_vec,keep_vec,idxSl_vec hj,hl,hcall]
     exact .fin (.inr (.inr ⟨rfl,by rw [hgo];rfl,rfl⟩))
    |false=>
     rw [hpj] at hgo hcall
     simp only [VV,h0,h1,h4,h5,Zcg,blt_t hj,lend_vec,keep_vec,idxSl_vec hj,hl,hcall,add_n (show j+1 < 9223372036854775808 by omega)]
     exact .fin (.inl ⟨rfl,zs.length - (j+1),by omega,j+1,rfl,rfl,rfl,rfl,rfl,hj,rfl,hgo⟩)
  ·rintro S H1 ⟨rfl,h⟩
   simp only [VV]
   exact .fin ⟨rfl,by rw [h];rfl,rfl⟩
 obtain ⟨e,S,H1,h1,rfl,h2,rfl⟩:=key
 show Zaa (C134 call tlo (Zag H1) (.vec b 0 zs.length cap 2 true,.fn (.func g) [] m,Zao,Zao,Zao,Zao,Zao,Zao,()) H1) _=_
 rw [h1]
 simp only [bz_some,resE_r,h2,fin_one resOk_v Zdq,Zde]
theorem deleteVQ_run (d tlo:Nat) {b cap g:Nat} {m:List TV} (zs:List (Nat×Nat)) (p:Nat×Nat→Bool) {H:TH} (hb:H[b]? = some (.cells (Zbl (zs.map tQ)))) (hcap:cap=UNK+2) (ht:tlo≤b) (hlen:zs.length < 90000) (hm:Zbu pass m=true)
  (hp:∀ e,d≤e→∀ z∈zs,∀ H',Holds H b H'→tc e tlo g ([tQ z]++m) H'=some (tB (p z),H')) :
  ∃ H' ys,tc (d+2) tlo 104 [.vec b 0 zs.length cap 2 true,.fn (.func g) [] m] H=some (.vec b 0 (Zbx p zs).length cap 2 true,H')∧H'[b]? = some (.cells (Zbl ((ys:List (Nat×Nat)).map tQ)))∧Holds H b H'∧ys.take (Zbx p zs).length=Zbx p zs∧ys.length=zs.length:=by
 rw [tc_f (F:=F104) (by kernel_rfl)]
 have hkl:=keepL_len p zs
 have hcl:∀ {β:Type} (k:TV→TH→Option β),Zbr (tc (d+1)) tlo 134 [.vec b 0 zs.length cap 2 true,.fn (.func g) [] m] H k=k (tI (idxI (idxP p zs 0))) H:=fun k=>
  Zcy (by simp only [VV,pass_vec]) ((tc_f (F:=F134) (by kernel_rfl) ..).trans (indexVQ_run _ _ zs p hb hlen hm fun z hz=>hp _ (Nat.le_refl d) z hz H (Holds.refl _ _)))
 have key:EndsT (C104 (tc (d+1)) tlo (Zag H) (.vec b 0 zs.length cap 2 true,.fn (.func g) [] m,Zao,Zao,Zao,Zao,Zao,Zao,Zao,()) H)
   fun e S H1=>e=.ret∧S.2.2.1=.vec b 0 (Zbx p zs).length cap 2 true∧∃ ys,H1[b]? = some (.cells (Zbl ((ys:List (Nat×Nat)).map tQ)))∧Holds H b H1∧ys.take (Zbx p zs).length=Zbx p zs∧ys.length=zs.length:=by
  cases hi:idxP p zs 0 with
  |none=>
   have hall:=keepL_all (idxP_none hi)
   rw [hi] at hcl
   simp only [C104,VV,set_vec,pass_vec,hcl,show Zca (idxI none) (.negSucc 0)=true from rfl]
   exact .fin ⟨rfl,by rw [hall],zs,hb,Holds.refl _ _,by rw [hall,List.take_length],rfl⟩
  |some i=>
   rw [hi] at hcl
   obtain ⟨k,rfl,hk,hk1,hk2⟩:=idxP_some hi
   rw [Nat.zero_add] at hcl
   have a1:Zbe (.int .i64 (.ofNat k)) (.int .i64 (.ofNat 1))=some (.int .i64 (.ofNat (k+1))):=add_n (by omega)
   simp only [C104,VV,set_vec,lend_vec,keep_vec,pass_vec,hcl,show ∀ k:Nat,Zca (.ofNat k) (.negSucc 0)=false from fun _=>rfl,show idxI (some k)=.ofNat k from rfl,a1]
   refine EndsT.rng (k:=zs.length - (k+1)) (fun f S H1=>∃ j ys,S.1=.vec b 0 zs.length cap 2 true∧S.2.1=.fn (.func g) [] m∧S.2.2.2.1=tN (Zbx p (zs.take j)).length∧S.2.2.2.2.1=tN j∧j≤zs.length∧f=zs.length - j∧(Zbx p (zs.take j)).length < j ∧
     H1[b]? = some (.cells (Zbl ((ys:List (Nat×Nat)).map tQ)))∧Holds H b H1∧ys.length=zs.length∧ys.take (Zbx p (zs.take j)).length=Zbx p (zs.take j)∧ys.drop j=zs.drop j)
    (fun S H1=>∃ ys,S.1=.vec b 0 zs.length cap 2 true∧S.2.2.2.1=tN (Zbx p zs).length∧H1[b]? = some (.cells (Zbl ((ys:List (Nat×Nat)).map tQ)))∧Holds H b H1∧ys.length=zs.length∧ys.take (Zbx p zs).length=Zbx p zs) (fun _ _=>False) ?_ (by rw [Zdl];omega)
    ⟨k+1,zs,rfl,rfl,by rw [hk2,List.length_take,Nat.min_eq_left (by omega)],rfl,hk,rfl,by rw [hk2,List.length_take];omega,hb,Holds.refl _ _,rfl,by rw [hk2,List.length_take,Nat.min_eq_left (by omega)],rfl⟩ ?_ (fun _ _ h=>h.elim)
   ·rintro f S H1 ⟨j,ys,h0,h1,h3,h4,hj,rfl,hkj,hc,hH,hcl,htk,hdr⟩
    rcases Nat.eq_or_lt_of_le hj with hj |hj
    ·rw [hj,List.take_length] at htk h3
     simp only [VV,h0,h1,h3,h4,lend_vec,keep_vec,lenT_vec,Zcg,blt_f (Nat.le_of_eq hj.symm)]
     exact .fin (.inr (.inl ⟨rfl,ys,rfl,rfl,hc,hH,hcl,htk⟩))
    ·have hjy:j < ys.length:=by omega
     have hye:ys[j]=zs[j]:=by
      have:(ys.drop j)[0]? = (zs.drop j)[0]?:=by rw [hdr]
      rw [List.getElem?_drop,List.getElem?_drop,Nat.add_zero,List.getElem?_eq_getElem hj,List.getElem?_eq_getElem hjy] at this
      exact Option.some.inj this
     obtain ⟨q,hq⟩:∃ q,q=zs[j]:=⟨_,rfl⟩
     have hl:∀ {β:Type} (md:Ld) (k:TV→TH→Option β),Zbg md tlo (Zag H) true 2 H1 (.ptr b (0+j * 2)) k=k (tQ q) H1:=fun md k=>by rw [load_Q hc hjy,hye,hq]
     obtain ⟨H2,hH2⟩:∃ H2,H2=Zaq H1 (.cells [tN q.1,tN q.2]):=⟨_,rfl⟩
     have hHo:Holds H b H2:=by rw [hH2];exact hH.push
     have hc2:H2[b]? = some (.cells (Zbl (ys.map tQ))):=by rw [hH2];exact Zbi hc
     have k2:H2[Zag H1]? = some (.cells [tN q.1,tN q.2]):=by rw [hH2];exact Zbh
     have st:Zas tlo (Zag H) 2 (Zaq H1 (.cells zc71)) (.ptr (Zag H1) 0) (tQ q)=some H2:=by
      rw [Zcf (off:=0) (n:=2) (x:=tQ q) Zbh (by have:=(List.getElem?_eq_some_iff.1 hc).1;rw [Zat];omega) rfl (.inl rfl) rfl (by decide),Zdr,over_all (cs:=zc71) (xs:=[tN q.1,tN q.2]) rfl,push_set,hH2]
     have l2:∀ {β:Type} (md:Ld) (k:TV→TH→Option β),Zbg md tlo (Zag H) true 2 H2 (.ptr (Zag H1) 0) k=k (tQ q) H2:=fun md k=>Zcw k2 (by simp) rfl
     have hcall:∀ {β:Type} (k:TV→TH→Option β),Zdc TC (tc (d+1)) tlo (.fn (.func g) [] m) [tQ q] H2 k=k (tB (p q)) H2:=fun k=>
      callFn_of (by show Zbu pass (tQ q::m)=true;rw [allG_cons,show pass (tQ q)=true from rfl];exact hm) (hp (d+1) (Nat.le_succ d) _ (hq ▸ List.getElem_mem hj) _ hHo)
     have htj:Zbx p (zs.take (j+1))=Zbx p (zs.take j)++cond (p q) [] [q]:=by rw [take_oneA hj,keepL_app,← hq];rfl
     have a2:Zbe (.int .i64 (.ofNat j)) (.int .i64 (.ofNat 1))=some (.int .i64 (.ofNat (j+1))):=add_n (by omega)
     have a3:Zbe (.int .i64 (.ofNat (Zbx p (zs.take j)).length)) (.int .i64 (.ofNat 1))=some (.int .i64 (.ofNat ((Zbx p (zs.take j)).length+1))):=add_n (by omega)
     cases hpj:p q with
     |true=>
      rw [hpj] at hcall htj
      have htj:Zbx p (zs.take (j+1))=Zbx p (zs.take j):=by rw [htj];exact List.append_nil _
      simp only [VV,h0,h1,h3,h4,lend_vec,keep_vec,lenT_vec,Zcg,blt_t hj,Bool.not_true,Bool.not_false,idxSl_vec hj,hl,st,l2,hcall,add_n (show j+1 < 9223372036854775808 by omega)]
      exact .fin (.inl ⟨rfl,zs.length - (j+1),by omega,j+1,ys,rfl,rfl,by rw [htj],rfl,hj,rfl,by rw [htj];omega,hc2,hHo,hcl,by rw [htj];exact htk,by rw [← List.drop_drop,hdr,List.drop_drop]⟩)
     |false=>
      rw [hpj] at hcall htj
      have htj:Zbx p (zs.take (j+1))=Zbx p (zs.take j)++[q]:=htj
      have hst:Zas tlo (Zag H) 2 H2 (.ptr b (0+(Zbx p (zs.take j)).length * 2)) (tQ q)=some (H2.set b (.cells (Zbl ((ys.set (Zbx p (zs.take j)).length q).map tQ)))):=by
       rw [Zcf (n:=2) (x:=tQ q) hc2 ht rfl (.inl rfl) rfl (by rw [flatQ_len];omega),Zdr,flatQ_put _ _ _ (by omega)]
      simp only [VV,h0,h1,h3,h4,lend_vec,keep_vec,stale_vec,lenT_vec,Zcg,blt_t hj,idxSl_vec hj,idxSl_vec (show (Zbx p (zs.take j)).length < zs.length by omega),Bool.not_true,Bool.not_false,hl,st,l2,hcall,thaw_vec,hst,add_n (show j+1 < 9223372036854775808 by omega),add_n (show (Zbx p (zs.take j)).length+1 < 9223372036854775808 by omega)]
      refine .fin (.inl ⟨rfl,zs.length - (j+1),by omega,j+1,ys.set (Zbx p (zs.take j)).length q,rfl,rfl,?_,rfl,hj,rfl,?_,set_get hc2,hHo.set,by rw [List.length_set];exact hcl,?_,?_⟩)
      ·rw [htj,List.length_append];rfl
      ·rw [htj,List.length_append];show _+1 < _;omega
      ·rw [htj,List.length_append,show [q].length=1 from rfl,take_set_one (by omega),htk]
      ·rw [List.drop_set_of_lt (by omega),← List.drop_drop,hdr,List.drop_drop]
   ·rintro S H1 ⟨ys,h0,h3,hc,hH,hcl,htk⟩
    obtain ⟨ys2,r1,r2,r3⟩:=clear_vecQ (tlo:=tlo) (k:=(Zbx p zs).length) (len:=zs.length) (cap:=cap) hc ht hkl hcl
    simp only [VV,h0,h3,lend_vec,keep_vec,cut_lo hkl hcap,cut_hi hkl hcap,thaw_vec,show ∀ (b off len cap n m:Nat) (ag:Bool),vecIs (.vec b off len cap n ag) m=Nat.beq n m from fun _ _ _ _ _ _ _=>rfl,show Nat.beq 2 2=true from rfl,r1]
    exact .fin ⟨rfl,rfl,ys2,set_get hc,hH.set,by rw [r3,htk],r2⟩
 obtain ⟨e,S,H1,h1,rfl,h2,ys,h3,h4,h5,h6⟩:=key
 refine ⟨H1,ys,?_,h3,h4,h5,h6⟩
 show Zaa (C104 (tc (d+1)) tlo (Zag H) (.vec b 0 zs.length cap 2 true,.fn (.func g) [] m,Zao,Zao,Zao,Zao,Zao,Zao,Zao,()) H) _=_
 rw [h1]
 simp only [bz_some,resE_r,h2]
 rfl
end
end Go.Proofs.YtgemobbfikjmoaaGreatDoor
namespace Go.Proofs.YtgemobbfikjmoaaGreatDoor
open Go Go.Ev
set_option maxRecDepth 100000
noncomputable section
theorem idxP_has {α:Type} (p:α→Bool):∀ (l:List α) (j:Nat),intLt (idxI (idxP p l j)) (.ofNat 0)=!hasF p l
 |[],_=>rfl
 |y::ys,j=>by
  have ih:=idxP_has p ys (j+1)
  show intLt (idxI (cond (p y) (some j) (idxP p ys (j+1)))) (.ofNat 0)=!cond (p y) true (hasF p ys)
  cases p y with
  |true=>rfl
  |false=>exact ih
theorem geq_P {α:Type} (p:α→Bool) (l:List α):evGeq (.int .i64 (idxI (idxP p l 0))) (.int .i64 (.ofNat 0))=some (.bool (hasF p l)):=by
 have h:evGeq (.int .i64 (idxI (idxP p l 0))) (.int .i64 (.ofNat 0))=some (.bool (!intLt (idxI (idxP p l 0)) (.ofNat 0))):=rfl
 rw [h,idxP_has,Bool.not_not]
theorem index2_run (call:Zbc) (tlo:Nat) {c:Cp} {n:Nat} (l:List (Nat×Nat)) (q:Nat×Nat) {H:TH} (hn:l≠[]→n=2) (hlen:l.length < 90000) :
  F135 call tlo [.row c .set n (l.map tQ),tQ q] H=some (tI (idxI (idxP (beqQ q) l 0)),H):=by
 obtain ⟨B,hB⟩:∃ B,B=Zaq H (.cells [tN q.1,tN q.2]):=⟨_,rfl⟩
 have hb2:B[Zag H]? = some (.cells [tN q.1,tN q.2]):=by rw [hB];exact Zbh
 have ht:Zdg B (Zag H)=H:=by rw [hB];exact take_push
 have lq:∀ {β:Type} (k:TV→TH→Option β),Zbg .lend tlo (Zag H) true 2 B (.ptr (Zag H) 0) k=k (tQ q) B:=fun k=>Zcw hb2 (by simp) rfl
 have key:EndsT (C135 call tlo (Zag H) (.row c .set n (l.map tQ),tQ q,Zao,Zao,Zao,Zao,Zao,Zao,Zao,()) H)
   fun e S H1=>e=.ret∧S.2.2.2.1=tI (idxI (idxP (beqQ q) l 0))∧H1=B:=by
  simp only [C135,VV,Zat (l.map tQ),List.length_map,← hB]
  refine EndsT.rng (k:=l.length) (fun k S H1=>∃ j,S.1=.row c .set n (l.map tQ)∧S.2.2.1=.ptr (Zag H) 0∧S.2.2.2.2.2.1=tN l.length∧S.2.2.2.2.2.2.1=tN j∧H1=B∧j≤l.length∧k=l.length - j∧idxP (beqQ q) l 0=idxP (beqQ q) (l.drop j) j)
   (fun _ H1=>H1=B∧idxP (beqQ q) l 0=none) (fun S H1=>S.2.2.2.1=tI (idxI (idxP (beqQ q) l 0))∧H1=B) ?_ (by rw [Zdl];omega) ⟨0,rfl,rfl,rfl,rfl,rfl,Nat.zero_le _,rfl,rfl⟩ ?_ (fun _ _ h=>⟨rfl,h⟩)
  ·rintro k S H1 ⟨j,h0,h2,h5,h6,rfl,hj,rfl,hgo⟩
   rcases Nat.eq_or_lt_of_le hj with hj |hj
   ·rw [hj,List.drop_length] at hgo
    simp only [VV,h0,h2,h5,h6,Zcg,blt_f (Nat.le_of_eq hj.symm)]
    exact .fin (.inr (.inl ⟨rfl,rfl,hgo⟩))
   ·have hn1:=hn (by intro h;rw [h] at hj;simp at hj)
    subst hn1
    rw [List.drop_eq_getElem_cons hj] at hgo
    have hgo:idxP (beqQ q) l 0=cond (beqQ q l[j]) (some j) (idxP (beqQ q) (l.drop (j+1)) (j+1)):=hgo
    have hel:(l.map tQ)[j]? = some (tQ l[j]):=by rw [List.getElem?_map,List.getElem?_eq_getElem hj];rfl
    have hi:(Zca (.ofNat q.1) (.ofNat l[j].1) && (Zca (.ofNat q.2) (.ofNat l[j].2) && true))=beqQ q l[j]:=by
     show (Nat.beq q.1 l[j].1 && (Nat.beq q.2 l[j].2 && true))=cond (Nat.beq q.1 l[j].1) (Nat.beq q.2 l[j].2) false
     rw [Bool.and_true];cases Nat.beq q.1 l[j].1 <;> rfl
    cases hpj:beqQ q l[j] with
    |true=>
     rw [hpj] at hgo hi
     simp only [VV,h0,h2,h5,h6,Zcg,blt_t hj,Zbv hel,lq,hi]
     exact .fin (.inr (.inr ⟨rfl,by rw [hgo];rfl,rfl⟩))
    |false=>
     rw [hpj] at hgo hi
     simp only [VV,h0,h2,h5,h6,Zcg,blt_t hj,Zbv hel,lq,hi,add_n (show j+1 < 9223372036854775808 by omega)]
     exact .fin (.inl ⟨rfl,l.length - (j+1),by omega,j+1,rfl,rfl,rfl,rfl,rfl,hj,rfl,hgo⟩)
  ·rintro S H1 ⟨rfl,h⟩
   simp only [VV]
   exact .fin ⟨rfl,by rw [h];rfl,rfl⟩
 obtain ⟨e,S,H1,h1,rfl,h2,rfl⟩:=key
 show Zaa (C135 call tlo (Zag H) (.row c .set n (l.map tQ),tQ q,Zao,Zao,Zao,Zao,Zao,Zao,Zao,()) H) _=_
 rw [h1]
 simp only [bz_some,resE_r,h2,allG_cons,allG_nil,resOk_v,cond_t,nd_true,Zbm Zdq,ht]
theorem contains2_tree (d:Nat) {c:Cp} {n:Nat} (l:List (Nat×Nat)) (q:Nat×Nat) {H:TH} (hn:l≠[]→n=2) (hlen:l.length < 90000) :
  Zah (tc (d+2)) 62 [.row c .set n (l.map tQ),tQ q] H=some (tB (hasF (beqQ q) l)):=by
 refine Zdo (ws:=[.row c .set n (l.map tQ),tQ q]) (H':=[]) (v:=tB (hasF (beqQ q) l)) (a:=false) ?_ ?_ ?_ rfl
 ·rfl
 ·cases c <;> rfl
 rw [tc_f (F:=F62) (by kernel_rfl)]
 obtain ⟨B,hB⟩:∃ B:TH,B=Zaq [] (.cells [tN q.1,tN q.2]):=⟨_,rfl⟩
 have hb2:B[Zag ([]:TH)]? = some (.cells [tN q.1,tN q.2]):=by rw [hB];exact Zbh
 have ht:Zdg B (Zag ([]:TH))=[]:=by rw [hB];exact take_push
 have lq:∀ {β:Type} (k:TV→TH→Option β),Zbg .lend 0 (Zag ([]:TH)) true 2 B (.ptr (Zag ([]:TH)) 0) k=k (tQ q) B:=fun k=>Zcw hb2 (by simp) rfl
 have hi:Zah (tc (d+1)) 135 [.row c .set n (l.map tQ),tQ q] B=some (tI (idxI (idxP (beqQ q) l 0))):=
  Zdo (ws:=[.row c .set n (l.map tQ),tQ q]) (H':=[]) (a:=false) rfl (by cases c <;> rfl) ((tc_f (F:=F135) (by kernel_rfl) ..).trans (index2_run _ _ l q hn hlen)) rfl
 show Zaa (C62 (tc (d+1)) 0 (Zag ([]:TH)) (.row c .set n (l.map tQ),tQ q,Zao,Zao,()) []) _=_
 simp only [C62,VV,← hB,lq,hi,geq_P,Zbm Zdq,ht]
theorem indexFL_run (call:Zbc) (tlo:Nat) {c:Cp} {n g:Nat} {m:List TV} (zs:List (List (Nat×Nat))) (p:List (Nat×Nat)→Bool) {H:TH} (hn:zs≠[]→n=1) (hlen:zs.length < 90000) (hm:Zbu pass m=true)
  (hp:∀ z∈zs,call tlo g ([rQ z]++m) H=some (tB (p z),H)) :
  F69 call tlo [.row c .set n (zs.map rQ),.fn (.func g) [] m] H=some (tI (idxI (idxP p zs 0)),H):=by
 have key:EndsT (C69 call tlo (Zag H) (.row c .set n (zs.map rQ),.fn (.func g) [] m,Zao,Zao,Zao,Zao,Zao,Zao,()) H)
   fun e S H1=>e=.ret∧S.2.2.1=tI (idxI (idxP p zs 0))∧H1=H:=by
  simp only [C69,VV,Zat (zs.map rQ),List.length_map]
  refine EndsT.rng (k:=zs.length) (fun k S H1=>∃ j,S.1=.row c .set n (zs.map rQ)∧S.2.1=.fn (.func g) [] m∧S.2.2.2.2.1=tN zs.length∧S.2.2.2.2.2.1=tN j∧H1=H∧j≤zs.length∧k=zs.length - j∧idxP p zs 0=idxP p (zs.drop j) j)
   (fun _ H1=>H1=H∧idxP p zs 0=none) (fun S H1=>S.2.2.1=tI (idxI (idxP p zs 0))∧H1=H) ?_ (by rw [Zdl];omega) ⟨0,rfl,rfl,rfl,rfl,rfl,Nat.zero_le _,rfl,rfl⟩ ?_ (fun _ _ h=>⟨rfl,h⟩)
  ·rintro k S H1 ⟨j,h0,h1,h4,h5,rfl,hj,rfl,hgo⟩
   rcases Nat.eq_or_lt_of_le hj with hj |hj
   ·rw [hj,List.drop_length] at hgo
    simp only [VV,h0,h1,h4,h5,Zcg,blt_f (Nat.le_of_eq hj.symm)]
    exact .fin (.inr (.inl ⟨rfl,rfl,hgo⟩))
   ·have hn1:=hn (by intro h;rw [h] at hj;simp at hj)
    subst hn1
    rw [List.drop_eq_getElem_cons hj] at hgo
    have hgo:idxP p zs 0=cond (p zs[j]) (some j) (idxP p (zs.drop (j+1)) (j+1)):=hgo
    have hel:(zs.map rQ)[j]? = some (rQ zs[j]):=by rw [List.getElem?_map,List.getElem?_eq_getElem hj];rfl
    have hcall:∀ {β:Type} (k:TV→TH→Option β),Zdc TC call tlo (.fn (.func g) [] m) [rQ zs[j]] H1 k=k (tB (p zs[j])) H1:=fun k=>
     callFn_of (by show Zbu pass (rQ zs[j]::m)=true;rw [allG_cons,show pass (rQ zs[j])=true from rfl];exact hm) (hp _ (List.getElem_mem hj))
    have hl:∀ {β:Type} (md:Ld) (k:TV→TH→Option β),Zbg md tlo (Zag H1) false 1 H1 (.el .set [rQ zs[j]] 0) k=k (rQ zs[j]) H1:=fun md k=>load_el rfl
    cases hpj:p zs[j] with
    |true=>
     rw [hpj] at hgo hcall
     simp only [VV,h0,h1,h4,h5,Zcg,blt_t hj,Zbv hel,hl,hcall]
     exact .fin (.inr (.inr ⟨rfl,by rw [hgo];rfl,rfl⟩))
    |false=>
     rw [hpj] at hgo hcall
     simp only [VV,h0,h1,h4,h5,Zcg,blt_t hj,Zbv hel,hl,hcall,add_n (show j+1 < 9223372036854775808 by omega)]
     exact .fin (.inl ⟨rfl,zs.length - (j+1),by omega,j+1,rfl,rfl,rfl,rfl,rfl,hj,rfl,hgo⟩)
  ·rintro S H1 ⟨rfl,h⟩
   simp only [VV]
   exact .fin ⟨rfl,by rw [h];rfl,rfl⟩
 obtain ⟨e,S,H1,h1,rfl,h2,rfl⟩:=key
 show Zaa (C69 call tlo (Zag H1) (.row c .set n (zs.map rQ),.fn (.func g) [] m,Zao,Zao,Zao,Zao,Zao,Zao,()) H1) _=_
 rw [h1]
 simp only [bz_some,resE_r,h2,fin_one resOk_v Zdq,Zde]
theorem containsFL_run (d tlo:Nat) {c:Cp} {n g:Nat} {m:List TV} (zs:List (List (Nat×Nat))) (p:List (Nat×Nat)→Bool) {H:TH} (hn:zs≠[]→n=1) (hlen:zs.length < 90000) (hm:Zbu pass m=true)
  (hp:∀ z∈zs,tc d tlo g ([rQ z]++m) H=some (tB (p z),H)) :
  tc (d+2) tlo 57 [.row c .set n (zs.map rQ),.fn (.func g) [] m] H=some (tB (hasF p zs),H):=by
 rw [tc_f (F:=F57) (by kernel_rfl)]
 have hcall:∀ {β:Type} (k:TV→TH→Option β),Zbr (tc (d+1)) tlo 69 [.row c .set n (zs.map rQ),.fn (.func g) [] m] H k=k (tI (idxI (idxP p zs 0))) H:=fun k=>
  Zcy (by simp only [VV]) ((tc_f (F:=F69) (by kernel_rfl) ..).trans (indexFL_run _ _ zs p hn hlen hm hp))
 show Zaa (C57 (tc (d+1)) tlo (Zag H) (.row c .set n (zs.map rQ),.fn (.func g) [] m,Zao,()) H) _=_
 simp only [C57,VV,hcall,geq_P,Zbm Zdq,Zde]
theorem containsFQ_run (d tlo:Nat) {c:Cp} {n g:Nat} {m:List TV} (zs:List (Nat×Nat)) (p:Nat×Nat→Bool) {H:TH} (hn:zs≠[]→n=2) (hlen:zs.length < 90000) (hm:Zbu pass m=true)
  (hp:∀ z∈zs,tc d tlo g ([tQ z]++m) H=some (tB (p z),H)) :
  tc (d+2) tlo 59 [.row c .set n (zs.map tQ),.fn (.func g) [] m] H=some (tB (hasF p zs),H):=by
 have hmap:zs.map tQ=(zs.map fun q=>(Int.ofNat q.1,Int.ofNat q.2)).map tP:=by rw [List.map_map];rfl
 have hf:hasF (fun q:Int×Int=>p (q.1.toNat,q.2.toNat)) (zs.map fun q=>(Int.ofNat q.1,Int.ofNat q.2))=hasF p zs:=by
  rw [hasF_any,hasF_any,List.any_map];rfl
 have hp2:∀ z∈(zs.map fun q=>(Int.ofNat q.1,Int.ofNat q.2)),tc d tlo g ([tP z]++m) H=some (tB ((fun q:Int×Int=>p (q.1.toNat,q.2.toNat)) z),H):=fun z hz=>by
  obtain ⟨⟨q1,q2⟩,hq,rfl⟩:=List.mem_map.1 hz
  show tc d tlo g ([tQ (q1,q2)]++m) H=some (tB (p (q1,q2)),H)
  exact hp (q1,q2) hq
 have:=containsFP_run d tlo (c:=c) (n:=n) (zs.map fun q=>(Int.ofNat q.1,Int.ofNat q.2)) (fun hne=>hn fun e2=>hne (by rw [e2];rfl)) (fun q=>p (q.1.toNat,q.2.toNat)) (by rw [List.length_map];exact hlen) hm hp2
 rw [hf,← hmap] at this
 exact this
def touchB (c:Nat) (b:Nat×Nat):Bool:=cond (Nat.beq b.1 c) true (Nat.beq b.2 c)
theorem idle11_run (d tlo:Nat) {b c:Nat} {q:Nat×Nat} {H:TH} (hb:H[b]? = some (.cells [tN c])) :
  tc (d+1) tlo 60 [tQ q,.ptr b 0] H=some (tB (touchB c q),H):=by
 rw [tc_f (F:=F60) (by kernel_rfl)]
 obtain ⟨B,hB⟩:∃ B,B=Zaq H (.cells [tN q.1,tN q.2]):=⟨_,rfl⟩
 have hb1:B[b]? = some (.cells [tN c]):=by rw [hB];exact Zbi hb
 have hb2:B[Zag H]? = some (.cells [tN q.1,tN q.2]):=by rw [hB];exact Zbh
 have l0:∀ {β:Type} (k:TV→TH→Option β),Zbg .lend tlo (Zag H) false 1 B (.ptr b 0) k=k (tN c) B:=fun k=>Zbf hb1 rfl rfl rfl
 have l1:∀ {β:Type} (k:TV→TH→Option β),Zbg .lend tlo (Zag H) false 1 B (.ptr (Zag H) (0+0 * 1)) k=k (tN q.1) B:=fun k=>Zbf hb2 rfl rfl rfl
 have l2:∀ {β:Type} (k:TV→TH→Option β),Zbg .lend tlo (Zag H) false 1 B (.ptr (Zag H) (0+1 * 1)) k=k (tN q.2) B:=fun k=>Zbf hb2 rfl rfl rfl
 have i0:Zbj 2 1 (.ptr (Zag H) 0) (tN 0)=some (.ptr (Zag H) (0+0 * 1)):=rfl
 have i1:Zbj 2 1 (.ptr (Zag H) 0) (tN 1)=some (.ptr (Zag H) (0+1 * 1)):=rfl
 have ht:Zdg B (Zag H)=H:=by rw [hB];exact take_push
 show Zaa (C60 (tc d) tlo (Zag H) (tQ q,.ptr b 0,Zao,Zao,()) H) _=_
 unfold touchB
 cases h1:Nat.beq q.1 c <;>
  simp only [C60,VV,← hB,l0,l1,l2,i0,i1,show Zca (.ofNat q.1) (.ofNat c)=Nat.beq q.1 c from rfl,show Zca (.ofNat q.2) (.ofNat c)=Nat.beq q.2 c from rfl,h1,Bool.not_true,Bool.not_false,Zbm Zdq,ht]
theorem idle1_run (d tlo:Nat) {b c:Nat} {x:List (Nat×Nat)} {H:TH} (hb:H[b]? = some (.cells [tN c])) (hx:x.length < 90000) :
  tc (d+4) tlo 58 [rQ x,.ptr b 0] H=some (tB (!hasF (touchB c) x),H):=by
 rw [tc_f (F:=F58) (by kernel_rfl)]
 have hc:∀ {β:Type} (k:TV→TH→Option β),Zbr (tc (d+3)) tlo 59 [rQ x,.fn (.func 60) [] [.ptr b 0]] H k=k (tB (hasF (touchB c) x)) H:=fun k=>
  Zcy rfl (containsFQ_run (d+1) tlo x (touchB c) (fun hne=>szO_eq (fun e=>hne (List.map_eq_nil_iff.1 e))) hx rfl fun z _=>idle11_run d tlo hb)
 show Zaa (C58 (tc (d+3)) tlo (Zag H) (rQ x,.ptr b 0,Zao,()) H) _=_
 simp only [C58,VV,hc,Zbm Zdq,Zde]
theorem idle2_run (d tlo:Nat) {b:Nat} {q:Nat×Nat} {x:List (Nat×Nat)} {H:TH} (hb:H[b]? = some (.cells [tN q.1,tN q.2])) (hx:x.length < 90000) :
  tc (d+3) tlo 61 [rQ x,.ptr b 0] H=some (tB (!hasF (beqQ q) x),H):=by
 rw [tc_f (F:=F61) (by kernel_rfl)]
 have lq:∀ {β:Type} (k:TV→TH→Option β),Zbg .lend tlo (Zag H) true 2 H (.ptr b 0) k=k (tQ q) H:=fun k=>Zcw hb (by simp) rfl
 have hc:Zah (tc (d+2)) 62 [rQ x,tQ q] H=some (tB (hasF (beqQ q) x)):=contains2_tree d x q (fun hne=>szO_eq (fun e=>hne (List.map_eq_nil_iff.1 e))) hx
 show Zaa (C61 (tc (d+2)) tlo (Zag H) (rQ x,.ptr b 0,Zao,()) H) _=_
 simp only [C61,VV,lq,hc,Zbm Zdq,Zde]
theorem idle3_run (d tlo:Nat) {b c:Nat} {l:List Nat} {H:TH} (hb:H[b]? = some (.cells [Zcr 3 1 (l.map tN)])) (hl:l.length < 90000) :
  tc (d+3) tlo 66 [tN c,.ptr b 0] H=some (tB (hasN c l),H):=by
 rw [tc_f (F:=F66) (by kernel_rfl)]
 have lq:∀ {β:Type} (k:TV→TH→Option β),Zbg .lend tlo (Zag H) false 1 H (.ptr b 0) k=k (.row (cpO (l.map tN)) (lfB (l.map tN)) (szO 1 (l.map tN)) (l.map tN)) H:=fun k=>load_own hb
 have hsv:Zak (.row (cpO (l.map tN)) (lfB (l.map tN)) (szO 1 (l.map tN)) (l.map tN))=.row (cpO (l.map tN)) (lfB (l.map tN)) (szO 1 (l.map tN)) (l.map tN):=by cases l <;> rfl
 have hc:Zah (tc (d+2)) 64 [.row (cpO (l.map tN)) (lfB (l.map tN)) (szO 1 (l.map tN)) (l.map tN),tN c] H=some (tB (hasN c l)):=by
  cases l with
  |nil=>exact Zdo (ws:=[.row .nil .set 0 [],tN c]) (H':=[]) (a:=false) rfl rfl (containsN_run (zs:=[]) d 0 (fun h=>absurd rfl h) (by simp)) rfl
  |cons y l=>exact Zdo (ws:=[.row .opn .set 1 ((y::l).map tN),tN c]) (H':=[]) (a:=true) rfl rfl (containsN_run (zs:=y::l) d 0 (fun _=>rfl) hl) rfl
 show Zaa (C66 (tc (d+2)) tlo (Zag H) (tN c,.ptr b 0,Zao,()) H) _=_
 simp only [C66,VV,lq,hsv,hc,Zbm Zdq,Zde]
end
end Go.Proofs.YtgemobbfikjmoaaGreatDoor
namespace Go.Proofs.YtgemobbfikjmoaaGreatDoor
open Go Go.Ev
set_option maxRecDepth 100000
noncomputable section
theorem grp_N:∀ (k:Nat) (cs:List TV),k≤cs.length→grpT false 1 k cs=some (cs.take k)
 |0,cs,_=>by rw [List.take_zero];rfl
 |k+1,[],h=>absurd h (by simp)
 |k+1,x::cs,h=>by
  show Zaf (some x) (fun y=>Zaf (grpT false 1 k (dropG (x::cs) 1)) fun l=>some (y::l))=_
  rw [dropG_eq]
  show Zaf (some x) (fun y=>Zaf (grpT false 1 k cs) fun l=>some (y::l))=_
  rw [grp_N k cs (by simpa using h)];rfl
theorem closed_N (ys:List Nat):(ys.map tN).all Zbw=true:=by
 rw [List.all_map,List.all_eq_true];intro x _;rfl
theorem cap_ok {k n:Nat} (h:k < 90000):capV k (UNK+n) n=true∧Nat.beq k (UNK+n)=false:=by
 have hu:=unk_big
 refine ⟨?_,beqf (by omega)⟩
 unfold capV
 rw [Nat.ble_eq_true_of_le (by omega),beqt (show UNK+n=Nat.add UNK n from rfl)]
 show Nat.blt k UNK=true
 rw [Nat.blt_eq];omega
theorem out_vecN {H:TH} {b:Nat} {cs:List TV} {ys:List Nat} (hb:H[b]? = some (.cells cs)) (ht:cs.take ys.length=ys.map tN) (hk:ys.length≤cs.length) (hl:ys.length < 90000) :
  outC false H (.vec b 0 ys.length (UNK+1) 1 false)=some (.row .opn .set 1 (ys.map tN)):=by
 show Zaf (rowsT H b 0 ys.length 1 false) (fun es=>Zap (capV ys.length (UNK+1) 1) (Zap (cond false (Zbu flatE es) true) (some (TV.row (cond (Nat.beq ys.length (UNK+1)) .full .opn) .set 1 es))))=_
 have hr:rowsT H b 0 ys.length 1 false=some (ys.map tN):=by
  unfold rowsT Zco
  rw [Zcb,hb]
  show Zap (Nat.ble (0+ys.length * 1) (Zag cs)) (Zap (Zbu Zbw (segG cs 0 (ys.length * 1))) (grpT false 1 ys.length (dropG cs 0)))=_
  have e:segG cs 0 (ys.length * 1)=ys.map tN:=by unfold segG;rw [Zct,dropG_eq,List.drop_zero,Nat.mul_one,ht]
  rw [e,Zat,Nat.ble_eq_true_of_le (by omega),Zds,closed_N,dropG_eq,List.drop_zero,grp_N _ _ hk,ht];rfl
 rw [hr,(cap_ok hl).1,(cap_ok hl).2];rfl
theorem grp_Qk:∀ (ys:List (Nat×Nat)) (k:Nat),k≤ys.length→grpT true 2 k (Zbl (ys.map tQ))=some ((ys.take k).map tQ)
 |ys,0,_=>by rw [List.take_zero];rfl
 |[],k+1,h=>absurd h (by simp)
 |p::l,k+1,h=>by
  show Zaf (cellT true 2 (Zbl ((p::l).map tQ))) (fun x=>Zaf (grpT true 2 k (dropG (Zbl ((p::l).map tQ)) 2)) fun l=>some (x::l))=_
  have e1:cellT true 2 (Zbl ((p::l).map tQ))=some (tQ p):=by
   show Zap (Nat.ble 2 (Zag (Zbl ((p::l).map tQ)))) _=_
   have:2≤(Zbl ((p::l).map tQ)).length:=by rw [flatQ_len];simp;omega
   rw [Zat,Nat.ble_eq_true_of_le this]
   show some (TV.agg (Zdg (Zbl ((p::l).map tQ)) 2))=_
   rw [Zct];rfl
  have e2:dropG (Zbl ((p::l).map tQ)) 2=Zbl (l.map tQ):=by rw [dropG_eq];rfl
  rw [e1,e2,grp_Qk l k (by simpa using h)];rfl
theorem out_vecQ {H:TH} {b:Nat} {ys zs:List (Nat×Nat)} (hb:H[b]? = some (.cells (Zbl (ys.map tQ)))) (ht:ys.take zs.length=zs) (hk:zs.length≤ys.length) (hl:zs.length < 90000) :
  outC false H (.vec b 0 zs.length (UNK+2) 2 true)=some (.row .opn .set 2 (zs.map tQ)):=by
 show Zaf (rowsT H b 0 zs.length 2 true) (fun es=>Zap (capV zs.length (UNK+2) 2) (Zap (cond false (Zbu flatE es) true) (some (TV.row (cond (Nat.beq zs.length (UNK+2)) .full .opn) .set 2 es))))=_
 have hr:rowsT H b 0 zs.length 2 true=some (zs.map tQ):=by
  unfold rowsT Zco
  rw [Zcb,hb]
  show Zap (Nat.ble (0+zs.length * 2) (Zag (Zbl (ys.map tQ)))) (Zap (Zbu Zbw (segG (Zbl (ys.map tQ)) 0 (zs.length * 2))) (grpT true 2 zs.length (dropG (Zbl (ys.map tQ)) 0)))=_
  have e:segG (Zbl (ys.map tQ)) 0 (zs.length * 2)=Zbl (zs.map tQ):=by unfold segG;rw [Zct,dropG_eq,List.drop_zero,flatQ_take,ht]
  rw [e,Zat,flatQ_len,Nat.ble_eq_true_of_le (by omega),Zds,flatQ_closed,dropG_eq,List.drop_zero,grp_Qk _ _ hk,ht];rfl
 rw [hr,(cap_ok hl).1,(cap_ok hl).2];rfl
theorem flat_N:∀ l:List Nat,Zbl (l.map tN)=l.map tN
 |[]=>rfl
 |x::l=>by
  show [tN x]++Zbl (l.map tN)=_
  rw [flat_N l];rfl
def lessB (near:List Nat) (w g n c:Nat):Bool:=match mostF near w (dif g (2 ^ c)) with
 |some m=>Nat.blt m n
 |none=>false
theorem saw_idle1 (d tlo:Nat) {w h g n c bp bn:Nat} {near:List Nat} {H:TH} (hw:1≤w) (hnl:near.length=16) (hnear:∀ x∈near,x < 65536) (hg:g < 65536) (hc:c < 16) (hp:H[bp]? = some (.cells (plT w h g near))) (hn:H[bn]? = some (.cells [tN n]))
  (hs:(mostF near w (dif g (2 ^ c))).isSome=true):tc (d+22) tlo 101 [tN c,.ptr bp 0,.ptr bn 0] H=some (tB (lessB near w g n c),H):=by
 rw [tc_f (F:=F101) (by kernel_rfl)]
 obtain ⟨m,hm⟩:=Option.isSome_iff_exists.1 hs
 have p1:=p16 hc
 have z1:evShl (.int .u64 (.ofNat 1)) (.int .i64 (.ofNat c))=some (.int .u64 (.ofNat (2 ^ c))):=by rw [shl_u (by omega) (by rw [Nat.one_mul];omega),Nat.one_mul]
 have z2:Zdd (.int .u64 (.ofNat g)) (.int .u64 (.ofNat (2 ^ c)))=some (.int .u64 (.ofNat (dif g (2 ^ c)))):=andnot_u (by omega) (by omega)
 have lB:∀ {β:Type} (k:TV→TH→Option β),Zbg .lend tlo (Zag H) true 19 H (.ptr bp 0) k=k (.agg (plT w h g near)) H:=fun k=>load_plate hp hnl
 have lg:∀ {β:Type} (k:TV→TH→Option β),Zbg .lend tlo (Zag H) false 1 H (.ptr bp (0+2)) k=k (tU g) H:=fun k=>Zbf hp (plT_g ..) rfl rfl
 have ln:∀ {β:Type} (k:TV→TH→Option β),Zbg .lend tlo (Zag H) false 1 H (.ptr bn 0) k=k (tN n) H:=fun k=>Zbf hn rfl rfl rfl
 have hmt:Zah (tc (d+21)) 95 [.agg (plT w h g near),tU (dif g (2 ^ c))] H=some (tN m):=most_tree d hw hnl hnear (dif_lt hg) hm
 have hl:lessB near w g n c=Nat.blt m n:=by unfold lessB;rw [hm]
 show Zaa (C101 (tc (d+21)) tlo (Zag H) (tN c,.ptr bp 0,.ptr bn 0,Zao,()) H) _=_
 simp only [C101,VV,lB,lg,Zdi,z1,z2,hmt,ln,Zcg,hl,Zbm Zdq,Zde]
section
variable {w h n:Nat} {c:Cp} {sp:List Nat}
theorem Idle_tree (d:Nat) {m:Nat} {H:TH} (ok:SlabOk w h sp) (hn:sp≠[]→n=1) (hmost:mostF (nearO w h sp) w (Zda w h sp)=some m) (hs:∀ x∈Zdh (Zda w h sp),(mostF (nearO w h sp) w (dif (Zda w h sp) (2 ^ x))).isSome=true) :
  ∃ c' n',Zah (tc (d+26)) 23 [tS w h c n sp] H=some (.tup [.row c' .set n' ((Zbx (lessB (nearO w h sp) w (Zda w h sp) m) (Zdh (Zda w h sp))).map tN),tN 0])∧(Zbx (lessB (nearO w h sp) w (Zda w h sp) m) (Zdh (Zda w h sp))≠[]→n'=1):=by
 obtain ⟨gd,hgd⟩:∃ gd,gd=Zda w h sp:=⟨_,rfl⟩
 have hg16:gd < 65536:=by rw [hgd];exact fullM_lt ok
 obtain ⟨near,hnear⟩:∃ near,near=nearO w h sp:=⟨_,rfl⟩
 have hnl:near.length=16:=by rw [hnear];exact nearN_len ..
 have hnlt:∀ x∈near,x < 65536:=by rw [hnear];exact nearN_lt _ _ _ ok.n16
 obtain ⟨l,hl⟩:∃ l,l=Zdh gd:=⟨_,rfl⟩
 rw [← hnear,← hgd] at hmost
 rw [← hnear,← hgd,← hl] at hs
 rw [← hnear,← hgd,← hl]
 have hl16:∀ x∈l,x < 16:=fun x hx=>bits_lt _ hg16 x (hl ▸ hx)
 have hll:l.length < 80000:=by rw [hl];exact Nat.lt_of_le_of_lt (ev_bits_length _) (by decide)
 have hpt:plateT w h sp=plT w h gd near:=by rw [hnear,hgd];rfl
 obtain ⟨A,hA⟩:∃ B:TH,B=Zaq [] (.cells [tN w,tN h,.row c .set n (sp.map tN)]):=⟨_,rfl⟩
 obtain ⟨B,hB⟩:∃ B,B=Zaq A (.cells (plT w h gd near)):=⟨_,rfl⟩
 obtain ⟨C,hC⟩:∃ C,C=Zaq B (.cells [tN m]):=⟨_,rfl⟩
 obtain ⟨D,hD⟩:∃ D,D=Zaq C (.cells (l.map tN)):=⟨_,rfl⟩
 have kA:A[Zag ([]:TH)]? = some (.cells [tN w,tN h,.row c .set n (sp.map tN)]):=by rw [hA];exact Zbh
 have kB:B[Zag A]? = some (.cells (plT w h gd near)):=by rw [hB];exact Zbh
 have kC:C[Zag A]? = some (.cells (plT w h gd near)):=by rw [hC];exact Zbi kB
 have kCn:C[Zag B]? = some (.cells [tN m]):=by rw [hC];exact Zbh
 have kD:D[Zag A]? = some (.cells (plT w h gd near)):=by rw [hD];exact Zbi kC
 have kDn:D[Zag B]? = some (.cells [tN m]):=by rw [hD];exact Zbi kCn
 have kDl:D[Zag C]? = some (.cells (l.map tN)):=by rw [hD];exact Zbh
 have nB:Zag B=Zag A+1:=by rw [hB];exact Zbp
 have nC:Zag C=Zag B+1:=by rw [hC];exact Zbp
 have nD:Zag D=Zag C+1:=by rw [hD];exact Zbp
 have hst:stor (tS w h c n sp)=true:=by cases c <;> rfl
 have lA:∀ {β:Type} (k:TV→TH→Option β),Zbg .lend 0 (Zag ([]:TH)) true 3 A (.ptr (Zag ([]:TH)) 0) k=k (tS w h c n sp) A:=fun k=>Zcw kA (by simp) rfl
 have lB:∀ {β:Type} (k:TV→TH→Option β),Zbg .lend 0 (Zag ([]:TH)) true 19 B (.ptr (Zag A) 0) k=k (.agg (plT w h gd near)) B:=fun k=>load_plate kB hnl
 have lg:∀ {β:Type} (k:TV→TH→Option β),Zbg .lend 0 (Zag ([]:TH)) false 1 B (.ptr (Zag A) (0+2)) k=k (tU gd) B:=fun k=>Zbf kB (plT_g ..) rfl rfl
 have lg2:∀ {β:Type} (k:TV→TH→Option β),Zbg .lend 0 (Zag ([]:TH)) false 1 C (.ptr (Zag A) (0+2)) k=k (tU gd) C:=fun k=>Zbf kC (plT_g ..) rfl rfl
 have st:Zas 0 (Zag ([]:TH)) 19 (Zaq A (.cells Zdb)) (.ptr (Zag A) 0) (.agg (plT w h gd near))=some B:=by rw [hB];exact store_plate hnl (Nat.zero_le _) (Nat.zero_le _)
 have st2:Zas 0 (Zag ([]:TH)) 1 (Zaq B (.cells [tN 0])) (.ptr (Zag B) 0) (tN m)=some C:=by rw [hC];exact store_new (Nat.zero_le _) rfl (.inl rfl) rfl
 have hld:∀ H,Zah (tc (d+25)) 94 [tS w h c n sp] H=some (.tup [.agg (plT w h gd near),tN 0]):=fun H=>by rw [← hpt];exact laid_tree (d+23) ok hn
 have hm:∀ H,Zah (tc (d+25)) 95 [.agg (plT w h gd near),tU gd] H=some (tN m):=fun H=>most_tree (d+4) ok.w1 hnl hnlt hg16 hmost
 have hlist:∀ H,Zah (tc (d+25)) 100 [tU gd] H=some (Zcr 3 1 (l.map tN)):=fun H=>by rw [hl];exact list_tree (d+22) (by omega)
 have hkl:=keepL_len (lessB near w gd m) l
 have main:∃ v H' c' n',tc (d+26) 0 23 [tS w h c n sp] []=some (.tup [v,tN 0],H')∧outC false H' v=some (.row c' .set n' ((Zbx (lessB near w gd m) l).map tN))∧(Zbx (lessB near w gd m) l≠[]→n'=1)∧(∀ cs,v≠.agg cs):=by
  rw [tc_f (F:=F23) (by kernel_rfl)]
  cases hlc:l with
  |nil=>
   rw [hlc] at hlist
   have hcl:∀ {β:Type} (k:TV→TH→Option β),Zbr (tc (d+25)) 0 99 [nilT,.fn (.func 101) [] [.ptr (Zag A) 0,.ptr (Zag B) 0]] C k=k nilT C:=fun k=>by
    refine Zcy rfl ?_
    rw [tc_f (F:=F99) (by kernel_rfl)]
    have hi:∀ {β:Type} (k:TV→TH→Option β),Zbr (tc (d+24)) 0 138 [nilT,.fn (.func 101) [] [.ptr (Zag A) 0,.ptr (Zag B) 0]] C k=k (tI (.negSucc 0)) C:=fun k=>
     Zcy rfl ((tc_f (F:=F138) (by kernel_rfl) ..).trans (indexFI_run (c:=.nil) (n:=0) (g:=101) (m:=[.ptr (Zag A) 0,.ptr (Zag B) 0]) _ _ [] (fun h=>absurd rfl h) (fun _=>false) (by simp) rfl (fun z hz=>by cases hz)))
    show Zaa (C99 (tc (d+24)) 0 (Zag C) (nilT,.fn (.func 101) [] [.ptr (Zag A) 0,.ptr (Zag B) 0],Zao,Zao,Zao,Zao,Zao,Zao,Zao,()) C) _=_
    simp only [C99,VV,hi,show Zca (.negSucc 0) (.negSucc 0)=true from rfl,Zbm loose_set,Zde]
   refine ⟨nilT,[],.nil,0,?_,rfl,fun h=>absurd rfl h,fun cs h=>(by cases h)⟩
   show Zaa (C23 (tc (d+25)) 0 (Zag ([]:TH)) (tS w h c n sp,Zao,Zao,Zao,Zao,Zao,Zao,Zao,()) []) _=_
   simp only [C23,VV,hst,← hA,lA,hld,Zdi,st,show Zca (.ofNat 0) (.ofNat 0)=true from rfl,Bool.not_true,lB,lg,hm,st2,lg2,hlist,List.map_nil,rowO_nil,hcl]
   rw [Zbm rfl,Zct,show Zag ([]:TH)=0 from rfl,List.take_zero]
  |cons y l'=>
   rw [← hlc]
   have hro:Zcr 3 1 (l.map tN)=.row .opn (.own 3) 1 (l.map tN):=by rw [hlc];rfl
   rw [hro] at hlist
   have hfl:Zbl (l.map tN)=l.map tN:=flat_N l
   obtain ⟨H',cs,r1,r2,r3,r4,r5⟩:=deleteV_run (d+23) 0 (b:=Zag C) (cap:=UNK+1) (g:=101) (m:=[.ptr (Zag A) 0,.ptr (Zag B) 0]) l (lessB near w gd m) kDl rfl (Nat.zero_le _) (by omega) rfl
    (fun e he z hz H2 hH2=>by
     obtain ⟨e',rfl⟩:∃ e',e=e'+22:=⟨e - 22,by omega⟩
     exact saw_idle1 e' 0 ok.w1 hnl hnlt hg16 (hl16 z hz) ((hH2.2 _ (by omega) (by omega)).trans kD) ((hH2.2 _ (by omega) (by omega)).trans kDn) (hs z hz))
   have hcl:∀ {β:Type} (k:TV→TH→Option β),Zbr (tc (d+25)) 0 99 [.vec (Zag C) 0 l.length (UNK+1) 1 false,.fn (.func 101) [] [.ptr (Zag A) 0,.ptr (Zag B) 0]] D k=k (.vec (Zag C) 0 (Zbx (lessB near w gd m) l).length (UNK+1) 1 false) H':=fun k=>Zcy rfl r1
   refine ⟨.vec (Zag C) 0 (Zbx (lessB near w gd m) l).length (UNK+1) 1 false,H',.opn,1,?_,out_vecN r2 r4 (by omega) (by omega),fun _=>rfl,fun cs h=>(by cases h)⟩
   show Zaa (C23 (tc (d+25)) 0 (Zag ([]:TH)) (tS w h c n sp,Zao,Zao,Zao,Zao,Zao,Zao,Zao,()) []) _=_
   simp only [C23,VV,hst,← hA,lA,hld,Zdi,st,show Zca (.ofNat 0) (.ofNat 0)=true from rfl,Bool.not_true,lB,lg,hm,st2,lg2,hlist,Zat (l.map tN),List.length_map,hfl,← hD,hcl]
   rfl
 obtain ⟨v,H',c',n',h1,h2,h3,h4⟩:=main
 refine ⟨c',n',?_,h3⟩
 refine Zdo (ws:=[tS w h c n sp]) (a:=false) rfl (by cases c <;> rfl) h1 ?_
 have h5:outT false H' v=outC false H' v:=by
  cases v with
  |agg cs=>exact absurd rfl (h4 cs)
  |_=>rfl
 show Zaf (Zaf (outT false H' v) fun y=>Zaf (Zaf (some (tN 0)) fun z=>Zaf (some []) fun l=>some (z::l)) fun l=>some (y::l)) (fun ds=>some (TV.tup ds))=_
 rw [h5,h2];rfl
end
end
end Go.Proofs.YtgemobbfikjmoaaGreatDoor
namespace Go.Proofs.YtgemobbfikjmoaaGreatDoor
open Go Go.Ev
set_option maxRecDepth 100000
noncomputable section
def lessN (near:List Nat) (q:Nat×Nat):List Nat:=
 (near.set q.1 (dif (near[q.1]?.getD 0) (2 ^ q.2))).set q.2 (dif ((near.set q.1 (dif (near[q.1]?.getD 0) (2 ^ q.2)))[q.2]?.getD 0) (2 ^ q.1))
def stillB (near:List Nat) (w g n:Nat) (q:Nat×Nat):Bool:=match mostF (lessN near q) w g with
 |some m=>Nat.beq m n
 |none=>false
theorem set_all {near:List Nat} {i v:Nat} (h:∀ x∈near,x < 65536) (hv:v < 65536):∀ x∈near.set i v,x < 65536:=fun x hx=>by
 rcases List.mem_or_eq_of_mem_set hx with h1 |h1
 ·exact h x h1
 ·rw [h1];exact hv
theorem get_both {near:List Nat} {i:Nat} (h:∀ x∈near,x < 65536) (hi:i < near.length):near[i]? = some (near[i]?.getD 0)∧near[i]?.getD 0 < 65536:=by
 rw [List.getElem?_eq_getElem hi]
 exact ⟨rfl,h _ (List.getElem_mem hi)⟩
theorem saw_sure1 (d tlo:Nat) {w h g n bp bn:Nat} {q:Nat×Nat} {near:List Nat} {H:TH} (hw:1≤w) (hnl:near.length=16) (hnear:∀ x∈near,x < 65536) (hg:g < 65536) (hq1:q.1 < 16) (hq2:q.2 < 16) (hp:H[bp]? = some (.cells (plT w h g near))) (hn:H[bn]? = some (.cells [tN n])) (htl:tlo≤Zag H)
  (hs:(mostF (lessN near q) w g).isSome=true):tc (d+22) tlo 105 [tQ q,.ptr bp 0,.ptr bn 0] H=some (tB (stillB near w g n q),H):=by
 rw [tc_f (F:=F105) (by kernel_rfl)]
 obtain ⟨m,hm⟩:=Option.isSome_iff_exists.1 hs
 have p1:=p16 hq1
 have p2:=p16 hq2
 obtain ⟨v1,hv1⟩:∃ v,v=near[q.1]?.getD 0:=⟨_,rfl⟩
 obtain ⟨g1,g2⟩:=get_both hnear (show q.1 < near.length by omega)
 rw [← hv1] at g1 g2
 obtain ⟨n1,hn1⟩:∃ n1,n1=near.set q.1 (dif v1 (2 ^ q.2)):=⟨_,rfl⟩
 have hn1l:n1.length=16:=by rw [hn1,List.length_set,hnl]
 have hn1a:∀ x∈n1,x < 65536:=by rw [hn1];exact set_all hnear (dif_lt g2)
 obtain ⟨v2,hv2⟩:∃ v,v=n1[q.2]?.getD 0:=⟨_,rfl⟩
 obtain ⟨g3,g4⟩:=get_both hn1a (show q.2 < n1.length by omega)
 rw [← hv2] at g3 g4
 obtain ⟨n2,hn2⟩:∃ n2,n2=n1.set q.2 (dif v2 (2 ^ q.1)):=⟨_,rfl⟩
 have hn2l:n2.length=16:=by rw [hn2,List.length_set,hn1l]
 have hn2a:∀ x∈n2,x < 65536:=by rw [hn2];exact set_all hn1a (dif_lt g4)
 have hcn:lessN near q=n2:=by rw [hn2,hv2,hn1,hv1];rfl
 rw [hcn] at hm
 obtain ⟨A,hA⟩:∃ B,B=Zaq H (.cells [tN q.1,tN q.2]):=⟨_,rfl⟩
 obtain ⟨B0,hB0⟩:∃ B,B=Zaq A (.cells (plT w h g near)):=⟨_,rfl⟩
 obtain ⟨B1,hB1⟩:∃ B,B=Zaq A (.cells (plT w h g n1)):=⟨_,rfl⟩
 obtain ⟨B2,hB2⟩:∃ B,B=Zaq A (.cells (plT w h g n2)):=⟨_,rfl⟩
 have nA:Zag A=Zag H+1:=by rw [hA];exact Zbp
 have kA:A[Zag H]? = some (.cells [tN q.1,tN q.2]):=by rw [hA];exact Zbh
 have kAp:A[bp]? = some (.cells (plT w h g near)):=by rw [hA];exact Zbi hp
 have kAn:A[bn]? = some (.cells [tN n]):=by rw [hA];exact Zbi hn
 have t2:Zdg B2 (Zag H)=H:=by rw [hB2];refine take_more ?_ (by omega);rw [hA];exact take_push
 have k0:B0[Zag A]? = some (.cells (plT w h g near)):=by rw [hB0];exact Zbh
 have k1:B1[Zag A]? = some (.cells (plT w h g n1)):=by rw [hB1];exact Zbh
 have k2:B2[Zag A]? = some (.cells (plT w h g n2)):=by rw [hB2];exact Zbh
 have k0q:B0[Zag H]? = some (.cells [tN q.1,tN q.2]):=by rw [hB0];exact Zbi kA
 have k1q:B1[Zag H]? = some (.cells [tN q.1,tN q.2]):=by rw [hB1];exact Zbi kA
 have k2g:B2[bp]? = some (.cells (plT w h g near)):=by rw [hB2];exact Zbi kAp
 have k2n:B2[bn]? = some (.cells [tN n]):=by rw [hB2];exact Zbi kAn
 have lp:∀ {β:Type} (k:TV→TH→Option β),Zbg .settle tlo (Zag H) true 19 A (.ptr bp 0) k=k (.agg (plT w h g near)) A:=fun k=>load_plate kAp hnl
 have st:Zas tlo (Zag H) 19 (Zaq A (.cells Zdb)) (.ptr (Zag A) 0) (.agg (plT w h g near))=some B0:=by rw [hB0];exact store_plate hnl (by omega) (by omega)
 have i0:Zbj 2 1 (.ptr (Zag H) 0) (tN 0)=some (.ptr (Zag H) (0+0 * 1)):=rfl
 have i1:Zbj 2 1 (.ptr (Zag H) 0) (tN 1)=some (.ptr (Zag H) (0+1 * 1)):=rfl
 have a1:∀ {β:Type} (k:TV→TH→Option β),Zbg .lend tlo (Zag H) false 1 B0 (.ptr (Zag H) (0+0 * 1)) k=k (tN q.1) B0:=fun k=>Zbf k0q rfl rfl rfl
 have a2:∀ {β:Type} (k:TV→TH→Option β),Zbg .lend tlo (Zag H) false 1 B0 (.ptr (Zag H) (0+1 * 1)) k=k (tN q.2) B0:=fun k=>Zbf k0q rfl rfl rfl
 have a3:∀ {β:Type} (k:TV→TH→Option β),Zbg .lend tlo (Zag H) false 1 B1 (.ptr (Zag H) (0+0 * 1)) k=k (tN q.1) B1:=fun k=>Zbf k1q rfl rfl rfl
 have a4:∀ {β:Type} (k:TV→TH→Option β),Zbg .lend tlo (Zag H) false 1 B1 (.ptr (Zag H) (0+1 * 1)) k=k (tN q.2) B1:=fun k=>Zbf k1q rfl rfl rfl
 have j1:Zbj 16 1 (.ptr (Zag A) (0+3)) (tN q.1)=some (.ptr (Zag A) (0+3+q.1 * 1)):=idxArr_ptr hq1
 have j2:Zbj 16 1 (.ptr (Zag A) (0+3)) (tN q.2)=some (.ptr (Zag A) (0+3+q.2 * 1)):=idxArr_ptr hq2
 have b1:∀ {β:Type} (k:TV→TH→Option β),Zbg .lend tlo (Zag H) false 1 B0 (.ptr (Zag A) (0+3+q.1 * 1)) k=k (tU v1) B0:=fun k=>Zbf k0 (plT_n g1) rfl rfl
 have b2:∀ {β:Type} (k:TV→TH→Option β),Zbg .lend tlo (Zag H) false 1 B1 (.ptr (Zag A) (0+3+q.2 * 1)) k=k (tU v2) B1:=fun k=>Zbf k1 (plT_n g3) rfl rfl
 have z1:evShl (.int .u64 (.ofNat 1)) (.int .i64 (.ofNat q.1))=some (.int .u64 (.ofNat (2 ^ q.1))):=by rw [shl_u (by omega) (by rw [Nat.one_mul];omega),Nat.one_mul]
 have z2:evShl (.int .u64 (.ofNat 1)) (.int .i64 (.ofNat q.2))=some (.int .u64 (.ofNat (2 ^ q.2))):=by rw [shl_u (by omega) (by rw [Nat.one_mul];omega),Nat.one_mul]
 have y1:Zdd (.int .u64 (.ofNat v1)) (.int .u64 (.ofNat (2 ^ q.2)))=some (.int .u64 (.ofNat (dif v1 (2 ^ q.2)))):=andnot_u (by omega) (by omega)
 have y2:Zdd (.int .u64 (.ofNat v2)) (.int .u64 (.ofNat (2 ^ q.1)))=some (.int .u64 (.ofNat (dif v2 (2 ^ q.1)))):=andnot_u (by omega) (by omega)
 have s1:Zas tlo (Zag H) 1 B0 (.ptr (Zag A) (0+3+q.1 * 1)) (tU (dif v1 (2 ^ q.2)))=some B1:=by
  rw [Zcf (n:=1) (x:=tU (dif v1 (2 ^ q.2))) k0 (by omega) rfl (.inl rfl) rfl (by rw [plT_len];omega),cellsT_v,plT_set (by omega),← hn1,hB0,push_set,hB1]
 have s2:Zas tlo (Zag H) 1 B1 (.ptr (Zag A) (0+3+q.2 * 1)) (tU (dif v2 (2 ^ q.1)))=some B2:=by
  rw [Zcf (n:=1) (x:=tU (dif v2 (2 ^ q.1))) k1 (by omega) rfl (.inl rfl) rfl (by rw [plT_len];omega),cellsT_v,plT_set (by omega),← hn2,hB1,push_set,hB2]
 have l2:∀ {β:Type} (k:TV→TH→Option β),Zbg .lend tlo (Zag H) true 19 B2 (.ptr (Zag A) 0) k=k (.agg (plT w h g n2)) B2:=fun k=>load_plate k2 hn2l
 have lg:∀ {β:Type} (k:TV→TH→Option β),Zbg .lend tlo (Zag H) false 1 B2 (.ptr bp (0+2)) k=k (tU g) B2:=fun k=>Zbf k2g (plT_g ..) rfl rfl
 have ln:∀ {β:Type} (k:TV→TH→Option β),Zbg .lend tlo (Zag H) false 1 B2 (.ptr bn 0) k=k (tN n) B2:=fun k=>Zbf k2n rfl rfl rfl
 have hmt:Zah (tc (d+21)) 95 [.agg (plT w h g n2),tU g] B2=some (tN m):=most_tree d hw hn2l hn2a hg hm
 have hl:stillB near w g n q=Nat.beq m n:=by unfold stillB;rw [hcn,hm]
 show Zaa (C105 (tc (d+21)) tlo (Zag H) (tQ q,.ptr bp 0,.ptr bn 0,Zao,Zao,Zao,()) H) _=_
 simp only [C105,VV,← hA,lp,Zdi,st,i0,i1,a1,a2,j1,b1,z2,y1,thaw_ptr,s1,a3,a4,j2,b2,z1,y2,s2,l2,lg,hmt,ln,show Zca (.ofNat m) (.ofNat n)=Nat.beq m n from rfl,hl,Zbm Zdq,t2]
section
variable {w h n:Nat} {c:Cp} {sp:List Nat}
theorem Sure_tree (d:Nat) {m:Nat} {l:List (Nat×Nat)} {H:TH} (ok:SlabOk w h sp) (hn:sp≠[]→n=1) (hmost:mostF (nearO w h sp) w (Zda w h sp)=some m) (hf:firstF (nearO w h sp) w (Zda w h sp)=some l) (hl16:∀ q∈l,q.1 < 16∧q.2 < 16) (hll:l.length < 80000) (hs:∀ q∈l,(mostF (lessN (nearO w h sp) q) w (Zda w h sp)).isSome=true) :
  ∃ c' n',Zah (tc (d+26)) 25 [tS w h c n sp] H=some (.tup [.row c' .set n' ((Zbx (stillB (nearO w h sp) w (Zda w h sp) m) l).map tQ),tN 0])∧(Zbx (stillB (nearO w h sp) w (Zda w h sp) m) l≠[]→n'=2):=by
 obtain ⟨gd,hgd⟩:∃ gd,gd=Zda w h sp:=⟨_,rfl⟩
 have hg16:gd < 65536:=by rw [hgd];exact fullM_lt ok
 obtain ⟨near,hnear⟩:∃ near,near=nearO w h sp:=⟨_,rfl⟩
 have hnl:near.length=16:=by rw [hnear];exact nearN_len ..
 have hnlt:∀ x∈near,x < 65536:=by rw [hnear];exact nearN_lt _ _ _ ok.n16
 rw [← hnear,← hgd] at hmost
 rw [← hnear,← hgd] at hs hf
 rw [← hnear,← hgd]
 have hpt:plateT w h sp=plT w h gd near:=by rw [hnear,hgd];rfl
 obtain ⟨A,hA⟩:∃ B:TH,B=Zaq [] (.cells [tN w,tN h,.row c .set n (sp.map tN)]):=⟨_,rfl⟩
 obtain ⟨B,hB⟩:∃ B,B=Zaq A (.cells (plT w h gd near)):=⟨_,rfl⟩
 obtain ⟨C,hC⟩:∃ C,C=Zaq B (.cells [tN m]):=⟨_,rfl⟩
 obtain ⟨D,hD⟩:∃ D,D=Zaq C (.cells (Zbl (l.map tQ))):=⟨_,rfl⟩
 have kA:A[Zag ([]:TH)]? = some (.cells [tN w,tN h,.row c .set n (sp.map tN)]):=by rw [hA];exact Zbh
 have kB:B[Zag A]? = some (.cells (plT w h gd near)):=by rw [hB];exact Zbh
 have kC:C[Zag A]? = some (.cells (plT w h gd near)):=by rw [hC];exact Zbi kB
 have kCn:C[Zag B]? = some (.cells [tN m]):=by rw [hC];exact Zbh
 have kD:D[Zag A]? = some (.cells (plT w h gd near)):=by rw [hD];exact Zbi kC
 have kDn:D[Zag B]? = some (.cells [tN m]):=by rw [hD];exact Zbi kCn
 have kDl:D[Zag C]? = some (.cells (Zbl (l.map tQ))):=by rw [hD];exact Zbh
 have nB:Zag B=Zag A+1:=by rw [hB];exact Zbp
 have nC:Zag C=Zag B+1:=by rw [hC];exact Zbp
 have nD:Zag D=Zag C+1:=by rw [hD];exact Zbp
 have hst:stor (tS w h c n sp)=true:=by cases c <;> rfl
 have lA:∀ {β:Type} (k:TV→TH→Option β),Zbg .lend 0 (Zag ([]:TH)) true 3 A (.ptr (Zag ([]:TH)) 0) k=k (tS w h c n sp) A:=fun k=>Zcw kA (by simp) rfl
 have lB:∀ {β:Type} (k:TV→TH→Option β),Zbg .lend 0 (Zag ([]:TH)) true 19 B (.ptr (Zag A) 0) k=k (.agg (plT w h gd near)) B:=fun k=>load_plate kB hnl
 have lg:∀ {β:Type} (k:TV→TH→Option β),Zbg .lend 0 (Zag ([]:TH)) false 1 B (.ptr (Zag A) (0+2)) k=k (tU gd) B:=fun k=>Zbf kB (plT_g ..) rfl rfl
 have lB2:∀ {β:Type} (k:TV→TH→Option β),Zbg .lend 0 (Zag ([]:TH)) true 19 C (.ptr (Zag A) 0) k=k (.agg (plT w h gd near)) C:=fun k=>load_plate kC hnl
 have lg2:∀ {β:Type} (k:TV→TH→Option β),Zbg .lend 0 (Zag ([]:TH)) false 1 C (.ptr (Zag A) (0+2)) k=k (tU gd) C:=fun k=>Zbf kC (plT_g ..) rfl rfl
 have st:Zas 0 (Zag ([]:TH)) 19 (Zaq A (.cells Zdb)) (.ptr (Zag A) 0) (.agg (plT w h gd near))=some B:=by rw [hB];exact store_plate hnl (Nat.zero_le _) (Nat.zero_le _)
 have st2:Zas 0 (Zag ([]:TH)) 1 (Zaq B (.cells [tN 0])) (.ptr (Zag B) 0) (tN m)=some C:=by rw [hC];exact store_new (Nat.zero_le _) rfl (.inl rfl) rfl
 have hld:∀ H,Zah (tc (d+25)) 94 [tS w h c n sp] H=some (.tup [.agg (plT w h gd near),tN 0]):=fun H=>by rw [← hpt];exact laid_tree (d+23) ok hn
 have hm:∀ H,Zah (tc (d+25)) 95 [.agg (plT w h gd near),tU gd] H=some (tN m):=fun H=>most_tree (d+4) ok.w1 hnl hnlt hg16 hmost
 have hlist:∀ H,Zah (tc (d+25)) 97 [.agg (plT w h gd near),tU gd] H=some (Zcr 71 2 (l.map tQ)):=fun H=>first_tree (d+3) ok.w1 hnl hnlt hg16 hf
 have hkl:=keepL_len (stillB near w gd m) l
 have main:∃ v H' c' n',tc (d+26) 0 25 [tS w h c n sp] []=some (.tup [v,tN 0],H')∧outC false H' v=some (.row c' .set n' ((Zbx (stillB near w gd m) l).map tQ))∧(Zbx (stillB near w gd m) l≠[]→n'=2)∧(∀ cs,v≠.agg cs):=by
  rw [tc_f (F:=F25) (by kernel_rfl)]
  cases hlc:l with
  |nil=>
   rw [hlc] at hlist
   have hcl:∀ {β:Type} (k:TV→TH→Option β),Zbr (tc (d+25)) 0 104 [nilT,.fn (.func 105) [] [.ptr (Zag A) 0,.ptr (Zag B) 0]] C k=k nilT C:=fun k=>by
    refine Zcy rfl ?_
    rw [tc_f (F:=F104) (by kernel_rfl)]
    have hi:∀ {β:Type} (k:TV→TH→Option β),Zbr (tc (d+24)) 0 134 [nilT,.fn (.func 105) [] [.ptr (Zag A) 0,.ptr (Zag B) 0]] C k=k (tI (.negSucc 0)) C:=fun k=>
     Zcy rfl ((tc_f (F:=F134) (by kernel_rfl) ..).trans (indexFP_run (c:=.nil) (n:=0) (g:=105) (m:=[.ptr (Zag A) 0,.ptr (Zag B) 0]) _ _ [] (fun h=>absurd rfl h) (fun _=>false) (by simp) rfl (fun z hz=>by cases hz)))
    show Zaa (C104 (tc (d+24)) 0 (Zag C) (nilT,.fn (.func 105) [] [.ptr (Zag A) 0,.ptr (Zag B) 0],Zao,Zao,Zao,Zao,Zao,Zao,Zao,()) C) _=_
    simp only [C104,VV,hi,show Zca (.negSucc 0) (.negSucc 0)=true from rfl,Zbm loose_set,Zde]
   refine ⟨nilT,[],.nil,0,?_,rfl,fun h=>absurd rfl h,fun cs h=>(by cases h)⟩
   show Zaa (C25 (tc (d+25)) 0 (Zag ([]:TH)) (tS w h c n sp,Zao,Zao,Zao,Zao,Zao,Zao,Zao,()) []) _=_
   simp only [C25,VV,hst,← hA,lA,hld,Zdi,st,show Zca (.ofNat 0) (.ofNat 0)=true from rfl,Bool.not_true,lB,lg,hm,st2,lB2,lg2,hlist,List.map_nil,rowO_nil,hcl]
   rw [Zbm rfl,Zct,show Zag ([]:TH)=0 from rfl,List.take_zero]
  |cons y l'=>
   rw [← hlc]
   have hro:Zcr 71 2 (l.map tQ)=.row .opn (.own 71) 2 (l.map tQ):=by rw [hlc];rfl
   rw [hro] at hlist
   obtain ⟨H',ys,r1,r2,r3,r4,r5⟩:=deleteVQ_run (d+23) 0 (b:=Zag C) (cap:=UNK+2) (g:=105) (m:=[.ptr (Zag A) 0,.ptr (Zag B) 0]) l (stillB near w gd m) kDl rfl (Nat.zero_le _) (by omega) rfl
    (fun e he z hz H2 hH2=>by
     obtain ⟨e',rfl⟩:∃ e',e=e'+22:=⟨e - 22,by omega⟩
     exact saw_sure1 e' 0 ok.w1 hnl hnlt hg16 (hl16 z hz).1 (hl16 z hz).2 ((hH2.2 _ (by omega) (by omega)).trans kD) ((hH2.2 _ (by omega) (by omega)).trans kDn) (Nat.zero_le _) (hs z hz))
   have hcl:∀ {β:Type} (k:TV→TH→Option β),Zbr (tc (d+25)) 0 104 [.vec (Zag C) 0 l.length (UNK+2) 2 true,.fn (.func 105) [] [.ptr (Zag A) 0,.ptr (Zag B) 0]] D k=k (.vec (Zag C) 0 (Zbx (stillB near w gd m) l).length (UNK+2) 2 true) H':=fun k=>Zcy rfl r1
   refine ⟨.vec (Zag C) 0 (Zbx (stillB near w gd m) l).length (UNK+2) 2 true,H',.opn,2,?_,out_vecQ r2 r4 (by omega) (by omega),fun _=>rfl,fun cs h=>(by cases h)⟩
   show Zaa (C25 (tc (d+25)) 0 (Zag ([]:TH)) (tS w h c n sp,Zao,Zao,Zao,Zao,Zao,Zao,Zao,()) []) _=_
   simp only [C25,VV,hst,← hA,lA,hld,Zdi,st,show Zca (.ofNat 0) (.ofNat 0)=true from rfl,Bool.not_true,lB,lg,hm,st2,lB2,lg2,hlist,Zat (l.map tQ),List.length_map,← hD,hcl]
   rfl
 obtain ⟨v,H',c',n',h1,h2,h3,h4⟩:=main
 refine ⟨c',n',?_,h3⟩
 refine Zdo (ws:=[tS w h c n sp]) (a:=false) rfl (by cases c <;> rfl) h1 ?_
 have h5:outT false H' v=outC false H' v:=by
  cases v with
  |agg cs=>exact absurd rfl (h4 cs)
  |_=>rfl
 show Zaf (Zaf (outT false H' v) fun y=>Zaf (Zaf (some (tN 0)) fun z=>Zaf (some []) fun l=>some (z::l)) fun l=>some (y::l)) (fun ds=>some (TV.tup ds))=_
 rw [h5,h2];rfl
end
end
end Go.Proofs.YtgemobbfikjmoaaGreatDoor
namespace Go.Proofs.YtgemobbfikjmoaaGreatDoor
open Go Go.Ev
set_option maxRecDepth 100000
noncomputable section
def idleA (al:List (List (Nat×Nat))):List Nat→List Nat
 |[]=>[]
 |c::l=>cond (hasF (fun x=>!hasF (touchB c) x) al) (c::idleA al l) (idleA al l)
def sureA (al:List (List (Nat×Nat))):List (Nat×Nat)→List (Nat×Nat)
 |[]=>[]
 |q::l=>cond (hasF (fun x=>!hasF (beqQ q) x) al) (sureA al l) (q::sureA al l)
def darkB (w c:Nat):Bool:=Nat.beq ((c % w+c / w) % 2) 0
def darkN (w:Nat):List Nat→Nat
 |[]=>0
 |c::l=>cond (darkB w c) (darkN w l+1) (darkN w l)
theorem darkN_le (w:Nat):∀ l:List Nat,darkN w l≤l.length
 |[]=>Nat.le_refl 0
 |c::l=>by
  have:=darkN_le w l
  show cond (darkB w c) (darkN w l+1) (darkN w l)≤l.length+1
  cases darkB w c
  ·show darkN w l≤_;omega
  ·show darkN w l+1≤_;omega
theorem idleA_len (al:List (List (Nat×Nat))):∀ l:List Nat,(idleA al l).length≤l.length
 |[]=>Nat.le_refl 0
 |c::l=>by
  have:=idleA_len al l
  show (cond (hasF (fun x=>!hasF (touchB c) x) al) (c::idleA al l) (idleA al l)).length≤l.length+1
  cases hasF (fun x=>!hasF (touchB c) x) al
  ·show (idleA al l).length≤_;omega
  ·show (idleA al l).length+1≤_;omega
theorem sureA_len (al:List (List (Nat×Nat))):∀ l:List (Nat×Nat),(sureA al l).length≤l.length
 |[]=>Nat.le_refl 0
 |c::l=>by
  have:=sureA_len al l
  show (cond (hasF (fun x=>!hasF (beqQ c) x) al) (sureA al l) (c::sureA al l)).length≤l.length+1
  cases hasF (fun x=>!hasF (beqQ c) x) al
  ·show (sureA al l).length+1≤_;omega
  ·show (sureA al l).length≤_;omega
def bothB (idle:List Nat) (p:Nat×Nat):Bool:=cond (hasN p.1 idle) (hasN p.2 idle) false
def idleD (w h:Nat) (sp:List Nat) (m:Nat) (f:List (Nat×Nat)) (bar idle:List Nat) (a0:List (Nat×Nat)) (rest:List (List (Nat×Nat))):Bool:=
 Nat.blt rest.length 70000 && (allB (fun l=>Nat.blt l.length 90000) (a0::rest) && (Nat.blt f.length 80000 && (allB (fun q=>Nat.blt q.1 16 && Nat.blt q.2 16) f && (Nat.blt bar.length 80000 && (Nat.blt m 90000 &&
  (allB (fun c=>(mostF (nearO w h sp) w (dif (Zda w h sp) (2 ^ c))).isSome) (Zdh (Zda w h sp)) && (allB (fun q=>(mostF (lessN (nearO w h sp) q) w (Zda w h sp)).isSome) f &&
  (eqL Nat.beq (Zbx (lessB (nearO w h sp) w (Zda w h sp) m) (Zdh (Zda w h sp))) idle && (eqL beqQ (Zbx (stillB (nearO w h sp) w (Zda w h sp) m) f) (sureA (a0::rest) a0) &&
  ((!Nat.blt (minN (darkN w (goodL w h sp)) ((goodL w h sp).length - darkN w (goodL w h sp))) m) && ((cond (Nat.beq idle.length 0) (Nat.beq (2 * m) (goodL w h sp).length) (!Nat.beq (2 * m) (goodL w h sp).length)) &&
  ((!hasF (bothB idle) (Zci w h sp)) && (!hasF (fun c=>hasN c idle) bar)))))))))))))
def idleT (w h:Nat) (sp:List Nat):Bool:=
 match mostF (nearO w h sp) w (Zda w h sp) with
 |none=>false
 |some m=>match firstF (nearO w h sp) w (Zda w h sp) with
  |none=>false
  |some f=>match barG (nearO w h sp) w (Zdh (Zda w h sp)) (Zda w h sp) [] with
   |none=>false
   |some bar=>match leastI (Zci w h sp) (goodL w h sp) 20 0 with
    |none=>false
    |some q=>match q.2 with
     |[]=>false
     |a0::rest=>idleD w h sp m f bar (idleA (a0::rest) (goodL w h sp)) a0 rest
def allS (t:Nat→Nat→List Nat→Bool) (w h th:Nat):Bool:=allB (t w h) (subN (candF th (w * h) 0))
def allQ (t:Nat→Nat→List Nat→Bool) (w h:Nat):Bool:=t w h [] && (allS t w h 0 && (allS t w h 1 && (allS t w h 2 && allS t w h 3)))
theorem allQ_bad {t:Nat→Nat→List Nat→Bool} {w h:Nat} (hq:allQ t w h=true) (th d:Nat):t w h (badF th d (w * h) 0)=true:=by
 unfold allQ at hq
 simp only [Bool.and_eq_true] at hq
 obtain ⟨q,q0,q1,q2,q3⟩:=hq
 rcases bad_subs th d (w * h) 0 with e |e
 ·rw [e];exact q
 ·rw [candF_mod] at e
  have h4:th % 4 < 4:=Nat.mod_lt _ (by omega)
  generalize th % 4=s at e h4
  rcases s with _ |_ |_ |_ |s
  ·exact allB_ok q0 _ e
  ·exact allB_ok q1 _ e
  ·exact allB_ok q2 _ e
  ·exact allB_ok q3 _ e
  ·omega
def allH (t:Nat→Nat→List Nat→Bool) (w:Nat):Nat→Bool
 |0=>true
 |k+1=>allQ t w (k+1) && allH t w k
theorem allH_of {t:Nat→Nat→List Nat→Bool} {w:Nat}:∀ {k h:Nat},allH t w k=true→1≤h→h≤k→allQ t w h=true
 |0,h,_,h1,h2=>by omega
 |k+1,h,hk,h1,h2=>by
  have hk:(allQ t w (k+1) && allH t w k)=true:=hk
  rw [Bool.and_eq_true] at hk
  rcases Nat.eq_or_lt_of_le h2 with rfl |h2
  ·exact hk.1
  ·exact allH_of hk.2 h1 (by omega)
end
end Go.Proofs.YtgemobbfikjmoaaGreatDoor
namespace Go.Proofs.YtgemobbfikjmoaaGreatDoor
open Go Go.Ev
set_option maxRecDepth 100000
noncomputable section
theorem take_own {tlo base b e n:Nat} {l:List TV} {H:TH} (hb:H[b]? = some (.cells [Zcr e n l])) (ht:tlo≤b) :
  ∃ o:TV,∀ {β:Type} (k:TV→TH→Option β),Zbg .take tlo base false 1 H (.ptr b 0) k=k (Zcr e n l) (H.set b (.cells [o])):=by
 cases l with
 |nil=>
  refine ⟨Zcr e n [],fun k=>?_⟩
  show bindT (Zco H b fun cs=>Zaf (nth cs 0) fun x=>ldCell .take tlo base H b cs 0 x Zbt) k=_
  unfold Zco
  rw [Zcb,hb,box_same hb];rfl
 |cons a l=>
  refine ⟨Zao,fun k=>?_⟩
  show bindT (Zco H b fun cs=>Zaf (nth cs 0) fun x=>ldCell .take tlo base H b cs 0 x Zbt) k=_
  unfold Zco
  rw [Zcb,hb]
  show bindT (Zap (Nat.ble tlo b) (Zbt (Zcr e n (a::l)) (setBox H b (.cells [Zao])))) k=_
  rw [Nat.ble_eq_true_of_le ht,set_box hb];rfl
theorem eqQ_list:∀ {a b:List (Nat×Nat)},eqL beqQ a b=true→a=b
 |[],[],_=>rfl
 |[],_::_,h=>by cases h
 |_::_,[],h=>by cases h
 |x::a,y::b,h=>by
  have h:cond (cond (Nat.beq x.1 y.1) (Nat.beq x.2 y.2) false) (eqL beqQ a b) false=true:=h
  cases h1:Nat.beq x.1 y.1 with
  |false=>rw [h1] at h;cases h
  |true=>
   cases h2:Nat.beq x.2 y.2 with
   |false=>rw [h1,h2] at h;cases h
   |true=>
    rw [h1,h2] at h
    rw [eqQ_list h,Prod.ext (Nat.eq_of_beq_eq_true h1) (Nat.eq_of_beq_eq_true h2)]
theorem eqT_bb (z:Bool):eqT .bool (tB z) (tB z)=some true:=by cases z <;> rfl
theorem eqL_reflQ:∀ l:List (Nat×Nat),eqL beqQ l l=true
 |[]=>rfl
 |x::l=>by
  show cond (cond (Nat.beq x.1 x.1) (Nat.beq x.2 x.2) false) (eqL beqQ l l) false=true
  rw [Nat.beq_refl,Nat.beq_refl,eqL_reflQ l];rfl
set_option maxHeartbeats 8000000 in
theorem idle_run {a b th dd w h m i0:Nat} {sp bar idle:List Nat} {f a0 sure:List (Nat×Nat)} {rest:List (List (Nat×Nat))}
  (ha:a < 256) (hb:b < 256) (hth:th < 256) (hd:dd < 65536) (hw:w=wideOf a) (hh:h=highOf 16 a b) (hsp:sp=badL 16 a b th dd)
  (h2:mostF (nearO w h sp) w (Zda w h sp)=some m) (h3:firstF (nearO w h sp) w (Zda w h sp)=some f)
  (h5:barG (nearO w h sp) w (Zdh (Zda w h sp)) (Zda w h sp) []=some bar)
  (hi0:i0 < 80000) (hlow:∀ i,i < i0→cutsF (Zci w h sp) (goodL w h sp) i 0 []=[]) (hall:cutsF (Zci w h sp) (goodL w h sp) i0 0 []=a0::rest) (hO:rest.length < 70000)
  (hlen:∀ l∈a0::rest,l.length < 90000) (hfl:f.length < 80000) (hf16:∀ q∈f,q.1 < 16∧q.2 < 16) (hbl:bar.length < 80000) (hm:m < 90000)
  (hs1:∀ x∈Zdh (Zda w h sp),(mostF (nearO w h sp) w (dif (Zda w h sp) (2 ^ x))).isSome=true) (hs2:∀ q∈f,(mostF (lessN (nearO w h sp) q) w (Zda w h sp)).isSome=true)
  (hidle:idle=idleA (a0::rest) (goodL w h sp)) (hsure:sure=sureA (a0::rest) a0)
  (e1:Zbx (lessB (nearO w h sp) w (Zda w h sp) m) (Zdh (Zda w h sp))=idle) (e2:Zbx (stillB (nearO w h sp) w (Zda w h sp) m) f=sure)
  (e3:Nat.blt (minN (darkN w (goodL w h sp)) ((goodL w h sp).length - darkN w (goodL w h sp))) m=false)
  (e4:Nat.beq idle.length 0=Nat.beq (2 * m) (goodL w h sp).length)
  (e5:hasF (bothB idle) (Zci w h sp)=false) (e6:hasF (fun c=>hasN c idle) bar=false)
  (hworks:∀ H,Zah (tc 40) 15 [] H=some (tB true)) :
  ∃ H',tc 41 0 8 [.agg [tK .u8 a,tK .u8 b,tK .u8 th,tK .u16 dd]] []=some (tB true,H'):=by
 rw [tc_f (F:=F8) (by kernel_rfl)]
 have ok:SlabOk w h sp:=by rw [hw,hh,hsp];exact made_ok (by omega)
 have hspn:sp≠[]→szO 1 (sp.map tN)=1:=fun hne=>szO_eq (fun e=>hne (List.map_eq_nil_iff.1 e))
 have hgl16:(goodL w h sp).length≤16:=goodL_len ok
 have hglt:∀ x∈goodL w h sp,x < 16:=goodL_lt ok
 have hprl:=pairs_len ok
 obtain ⟨gl,hgl⟩:∃ gl,gl=goodL w h sp:=⟨_,rfl⟩
 obtain ⟨prs,hprs⟩:∃ prs,prs=Zci w h sp:=⟨_,rfl⟩
 obtain ⟨al,hal⟩:∃ al,al=a0::rest:=⟨_,rfl⟩
 rw [← hal] at hidle hsure hlen hall
 rw [← hgl] at hidle e3 e4 hgl16 hglt
 rw [← hprs] at e5 hprl
 have hall90:al.length < 90000:=by rw [hal];show rest.length+1 < 90000;omega
 obtain ⟨B,hB⟩:∃ B,B=Zaq (Zaq ([]:TH) (.cells [tK .u8 a,tK .u8 b,tK .u8 th,tK .u16 dd])) (.cells [tN w,tN h,rS 1 (sp.map tN)]):=⟨_,rfl⟩
 have hB1:B[1]? = some (.cells [tN w,tN h,rS 1 (sp.map tN)]):=by rw [hB];rfl
 have hB2:Zag B=2:=by rw [hB];rfl
 have l4:∀ {β:Type} (k:TV→TH→Option β),Zbg .lend 0 0 true 4 (Zaq [] (.cells [tK .u8 a,tK .u8 b,tK .u8 th,tK .u16 dd])) (.ptr 0 0) k=k (.agg [tK .u8 a,tK .u8 b,tK .u8 th,tK .u16 dd]) (Zaq [] (.cells [tK .u8 a,tK .u8 b,tK .u8 th,tK .u16 dd])):=fun k=>
  Zcw (cs:=[tK .u8 a,tK .u8 b,tK .u8 th,tK .u16 dd]) rfl (by simp) rfl
 have mt:∀ H,Zah (tc 40) 54 [.agg [tK .u8 a,tK .u8 b,tK .u8 th,tK .u16 dd],tN 16] H=some (.agg [tN w,tN h,rS 1 (sp.map tN)]):=fun H=>by
  rw [hw,hh,hsp];exact made_tree 39 (K:=16) (by omega) ha hb hth hd
 have st:Zas 0 0 3 (Zaq (Zaq [] (.cells [tK .u8 a,tK .u8 b,tK .u8 th,tK .u16 dd])) (.cells zc24)) (.ptr 1 0) (.agg [tN w,tN h,rS 1 (sp.map tN)])=some B:=by
  rw [Zcf (off:=0) (n:=3) (x:=.agg [tN w,tN h,rS 1 (sp.map tN)]) (cs:=zc24) rfl (by omega) rfl (.inr (by omega)) rfl (by decide),Zdr,over_all (cs:=zc24) (xs:=[tN w,tN h,rS 1 (sp.map tN)]) rfl,hB];rfl
 have lS:∀ {β:Type} {H:TH} (_:H[1]? = some (.cells [tN w,tN h,rS 1 (sp.map tN)])) (md:Ld) (k:TV→TH→Option β),Zbg md 0 0 true 3 H (.ptr 1 0) k=k (tS w h (cpO (sp.map tN)) (szO 1 (sp.map tN)) sp) H:=fun {β H} hH md k=>Zcw hH (by simp) rfl
 obtain ⟨B3,hB3⟩:∃ B3,B3=Zaq B (.cells [nilT]):=⟨_,rfl⟩
 have hB31:B3[1]? = some (.cells [tN w,tN h,rS 1 (sp.map tN)]):=by rw [hB3];exact Zbi hB1
 have hB32:B3[2]? = some (.cells [Zcr 3 1 (([]:List Nat).map tN)]):=by rw [hB3,← hB2];exact Zbh
 have hB33:Zag B3=3:=by rw [hB3,Zbp,hB2]
 have c1:∀ H,Zah (tc 40) 56 [tS w h (cpO (sp.map tN)) (szO 1 (sp.map tN)) sp] H=some (Zcr 3 1 (gl.map tN)):=fun H=>by
  have w8:=ok.w8
  have h8:=ok.h8
  have n16:=ok.n16
  have hl:=asc_len ok.asc (fun x hx=>Nat.lt_of_lt_of_le (ok.lt x hx) n16)
  rw [hgl];exact good_tree 37 (by omega) (by omega) hspn (by omega)
 have c2:∀ H,Zah (tc 40) 55 [tS w h (cpO (sp.map tN)) (szO 1 (sp.map tN)) sp] H=some (rS 1 (al.map rQ)):=fun H=>by
  rw [← hall];exact best_tree 20 ok hspn hi0 hlow (by rw [hall,hal];simp) (by rw [hall,hal];show rest.length+1 < 80000;omega)
 have c3:∀ H,Zah (tc 40) 16 [tS w h (cpO (sp.map tN)) (szO 1 (sp.map tN)) sp] H=some (.tup [tN m,tN 0]):=fun H=>Most_tree 18 ok hspn h2
 have c6:∀ H,Zah (tc 40) 28 [tS w h (cpO (sp.map tN)) (szO 1 (sp.map tN)) sp] H=some (.tup [Zcr 3 1 (bar.map tN),tN 0]):=fun H=>Bar_tree 18 ok hspn h5
 obtain ⟨ci,ni,c8,hni⟩:∃ ci ni,(∀ H,Zah (tc 40) 23 [tS w h (cpO (sp.map tN)) (szO 1 (sp.map tN)) sp] H=some (.tup [.row ci .set ni (idle.map tN),tN 0]))∧(idle≠[]→ni=1):=by
  obtain ⟨ci,ni,q1,q2⟩:=Idle_tree 14 (H:=[]) (c:=cpO (sp.map tN)) ok hspn h2 hs1
  rw [e1] at q1 q2
  refine ⟨ci,ni,fun H=>?_,q2⟩
  rw [← q1]
  rfl
 obtain ⟨cs,ns,c9,hns⟩:∃ ci ni,(∀ H,Zah (tc 40) 25 [tS w h (cpO (sp.map tN)) (szO 1 (sp.map tN)) sp] H=some (.tup [.row ci .set ni (sure.map tQ),tN 0]))∧(sure≠[]→ni=2):=by
  obtain ⟨ci,ni,q1,q2⟩:=Sure_tree 14 (H:=[]) (c:=cpO (sp.map tN)) ok hspn h2 h3 hf16 hfl hs2
  rw [e2] at q1 q2
  refine ⟨ci,ni,fun H=>?_,q2⟩
  rw [← q1]
  rfl
 have key:EndsT (C8 (tc 40) 0 0 (.agg [tK .u8 a,tK .u8 b,tK .u8 th,tK .u16 dd],Zao,Zao,Zao,Zao,Zao,Zao,Zao,Zao,Zao,Zao,Zao,Zao,Zao,Zao,Zao,Zao,Zao,Zao,Zao,Zao,Zao,Zao,Zao,Zao,Zao,Zao,Zao,Zao,Zao,Zao,Zao,Zao,Zao,Zao,Zao,Zao,()) [])
   fun e S H1=>e=.ret∧S.2.2.1=tB true:=by
  have lgl:Zag (gl.map tN)=gl.length:=by rw [Zat,List.length_map]
  have la0:Zag (a0.map tQ)=a0.length:=by rw [Zat,List.length_map]
  have q0:Zca (.ofNat 0) (.ofNat 0)=true:=rfl
  have hst:Zbu storC [tK .u8 a,tK .u8 b,tK .u8 th,tK .u16 dd]=true:=rfl
  simp only [C8,VV,hst,show Zag ([]:TH)=0 from rfl,l4,mt,show Zag (Zaq ([]:TH) (.cells [tK .u8 a,tK .u8 b,tK .u8 th,tK .u16 dd]))=1 from rfl,st,lS hB1,lS hB31,c2,hB2,← hB3,c1,lgl]
  refine EndsT.rng (k:=gl.length) (fun k S H1=>∃ j pre dk,S.2.2.2.1=.ptr 1 0∧S.2.2.2.2.1=rS 1 (al.map rQ)∧S.2.2.2.2.2.1=.ptr 2 0∧S.2.2.2.2.2.2.1=tN dk∧S.2.2.2.2.2.2.2.1=tN (j - dk)∧S.2.2.2.2.2.2.2.2.2.2.2.2.2.2.2.2.2.2.2.2.1=Zcr 3 1 (gl.map tN)∧S.2.2.2.2.2.2.2.2.2.2.2.2.2.2.2.2.2.2.2.2.2.1=tN gl.length∧S.2.2.2.2.2.2.2.2.2.2.2.2.2.2.2.2.2.2.2.2.2.2.1=tN j ∧
    3≤Zag H1∧H1[1]? = some (.cells [tN w,tN h,rS 1 (sp.map tN)])∧H1[2]? = some (.cells [Zcr 3 1 ((pre:List Nat).map tN)])∧j≤gl.length∧k=gl.length - j∧dk≤j∧pre.length≤j∧darkN w gl=dk+darkN w (gl.drop j)∧idle=pre++idleA al (gl.drop j))
   (fun S H1=>S.2.2.2.1=.ptr 1 0∧S.2.2.2.2.1=rS 1 (al.map rQ)∧S.2.2.2.2.2.1=.ptr 2 0∧S.2.2.2.2.2.2.1=tN (darkN w gl)∧S.2.2.2.2.2.2.2.1=tN (gl.length - darkN w gl)∧3≤Zag H1∧H1[1]? = some (.cells [tN w,tN h,rS 1 (sp.map tN)])∧H1[2]? = some (.cells [Zcr 3 1 (idle.map tN)])) (fun _ _=>False) ?_ (by rw [Zdl];omega)
   ⟨0,[],0,rfl,rfl,rfl,rfl,rfl,rfl,rfl,rfl,by omega,hB31,hB32,Nat.zero_le _,rfl,Nat.le_refl _,Nat.le_refl _,(Nat.zero_add _).symm,hidle⟩ ?_ (fun _ _ h=>h.elim)
  ·rintro k S H1 ⟨j,pre,dk,g3,g4,g5,g6,g7,g20,g21,g22,h3l,hH1,hH2,hj,rfl,hdj,hpj,hdk,hid⟩
   rcases Nat.eq_or_lt_of_le hj with hj |hj
   ·rw [hj,List.drop_length] at hid hdk
    have hid:idle=pre:=by rw [hid];exact List.append_nil _
    have hdk:darkN w gl=dk:=hdk
    simp only [VV,g3,g4,g5,g6,g7,g20,g21,g22,Zcg,blt_f (Nat.le_of_eq hj.symm)]
    exact .fin (.inr (.inl ⟨rfl,rfl,rfl,rfl,by rw [hdk],by rw [hdk,← hj],h3l,hH1,by rw [hid];exact hH2⟩))
   ·obtain ⟨c,hc⟩:∃ c,c=gl[j]:=⟨_,rfl⟩
    have hc16:c < 16:=by rw [hc];exact hglt _ (List.getElem_mem hj)
    have hel:(gl.map tN)[j]? = some (tN c):=by rw [List.getElem?_map,List.getElem?_eq_getElem hj,hc];rfl
    have hro:Zcr 3 1 (gl.map tN)=.row .opn (.own 3) 1 (gl.map tN):=by
     cases hx:gl.map tN with
     |nil=>rw [hx] at hel;cases hel
     |cons=>rfl
    rw [List.drop_eq_getElem_cons hj,← hc] at hid hdk
    have hid:idle=pre++cond (hasF (fun x=>!hasF (touchB c) x) al) (c::idleA al (gl.drop (j+1))) (idleA al (gl.drop (j+1))):=hid
    have hdk:darkN w gl=dk+cond (darkB w c) (darkN w (gl.drop (j+1))+1) (darkN w (gl.drop (j+1))):=hdk
    obtain ⟨H2,hH2d⟩:∃ H2,H2=Zaq H1 (.cells [tN c]):=⟨_,rfl⟩
    have k1:H2[1]? = some (.cells [tN w,tN h,rS 1 (sp.map tN)]):=by rw [hH2d];exact Zbi hH1
    have k2:H2[2]? = some (.cells [Zcr 3 1 (pre.map tN)]):=by rw [hH2d];exact Zbi hH2
    have kc:H2[Zag H1]? = some (.cells [tN c]):=by rw [hH2d];exact Zbh
    have n2:Zag H2=Zag H1+1:=by rw [hH2d];exact Zbp
    have st1:Zas 0 0 1 (Zaq H1 (.cells [tN 0])) (.ptr (Zag H1) 0) (tN c)=some H2:=by rw [hH2d];exact store_new (Nat.zero_le _) rfl (.inl rfl) rfl
    have lc:∀ {β:Type} (md:Ld) (k:TV→TH→Option β),Zbg md 0 0 false 1 H2 (.ptr (Zag H1) 0) k=k (tN c) H2:=fun md k=>Zbf kc rfl rfl rfl
    have lw:∀ {β:Type} (md:Ld) (k:TV→TH→Option β),Zbg md 0 0 false 1 H2 (.ptr 1 (0+0)) k=k (tN w) H2:=fun md k=>Zbf k1 rfl rfl rfl
    have w1:=ok.w1
    have y1:c % w≤c:=Nat.mod_le ..
    have y2:c / w≤c:=Nat.div_le_self ..
    have z1:evRem (.int .i64 (.ofNat c)) (.int .i64 (.ofNat w))=some (.int .i64 (.ofNat (c % w))):=rem_n w1
    have z2:evQuo (.int .i64 (.ofNat c)) (.int .i64 (.ofNat w))=some (.int .i64 (.ofNat (c / w))):=quo_n w1 (by omega)
    have z3:Zbe (.int .i64 (.ofNat (c % w))) (.int .i64 (.ofNat (c / w)))=some (.int .i64 (.ofNat (c % w+c / w))):=add_n (by omega)
    have z4:evRem (.int .i64 (.ofNat (c % w+c / w))) (.int .i64 (.ofNat 2))=some (.int .i64 (.ofNat ((c % w+c / w) % 2))):=rem_n (by decide)
    have z5:Zca (.ofNat ((c % w+c / w) % 2)) (.ofNat 0)=darkB w c:=rfl
    have z6:Zbe (.int .i64 (.ofNat dk)) (.int .i64 (.ofNat 1))=some (.int .i64 (.ofNat (dk+1))):=add_n (by omega)
    have z7:Zbe (.int .i64 (.ofNat (j - dk))) (.int .i64 (.ofNat 1))=some (.int .i64 (.ofNat (j - dk+1))):=add_n (by omega)
    have a3:Zbe (.int .i64 (.ofNat j)) (.int .i64 (.ofNat 1))=some (.int .i64 (.ofNat (j+1))):=add_n (by omega)
    have hcl:∀ {β:Type} (k:TV→TH→Option β),Zbr (tc 40) 0 57 [rS 1 (al.map rQ),.fn (.func 58) [] [.ptr (Zag H1) 0]] H2 k=k (tB (hasF (fun x=>!hasF (touchB c) x) al)) H2:=fun k=>
     Zcy rfl (containsFL_run 38 0 al (fun x=>!hasF (touchB c) x) (fun hne=>szO_eq (fun e=>hne (List.map_eq_nil_iff.1 e))) hall90 rfl fun z hz=>idle1_run 34 0 kc (hlen z hz))
    have hel1:Zcx 1 [0] [tN c] (repG [tN 0] 1)=some [tN c]:=rfl
    have happ:∀ {β:Type} {H:TH} (k:TV→TH→Option β),Zcm 0 H 3 1 8 (Zcr 3 1 (pre.map tN)) (.row .full (.own 3) 1 [tN c]) k=k (Zcr 3 1 ((pre++[c]).map tN)) H:=fun k=>app_I (by omega) k
    obtain ⟨o,htk⟩:=take_own (tlo:=0) (base:=0) k2 (Nat.zero_le _)
    have lc2:∀ {β:Type} (md:Ld) (k:TV→TH→Option β),Zbg md 0 0 false 1 (H2.set 2 (.cells [o])) (.ptr (Zag H1) 0) k=k (tN c) (H2.set 2 (.cells [o])):=fun md k=>Zbf ((set_old (by omega)).trans kc) rfl rfl rfl
    have st2:Zas 0 0 1 (H2.set 2 (.cells [o])) (.ptr 2 0) (Zcr 3 1 ((pre++[c]).map tN))=some (H2.set 2 (.cells [Zcr 3 1 ((pre++[c]).map tN)])):=by
     rw [Zcf (n:=1) (off:=0) (x:=Zcr 3 1 ((pre++[c]).map tN)) (set_get k2) (Nat.zero_le _) stor_O (.inr (Nat.zero_le _)) (by rw [cellsT_O];rfl) (by simp),cellsT_O,over_all (cs:=[o]) (xs:=[Zcr 3 1 ((pre++[c]).map tN)]) rfl,List.set_set]
    have m1:(H2.set 2 (.cells [Zcr 3 1 ((pre++[c]).map tN)]))[1]? = some (.cells [tN w,tN h,rS 1 (sp.map tN)]):=(set_old (by omega)).trans k1
    have m2:(H2.set 2 (.cells [Zcr 3 1 ((pre++[c]).map tN)]))[2]? = some (.cells [Zcr 3 1 ((pre++[c]).map tN)]):=set_get k2
    have m3:Zag (H2.set 2 (.cells [Zcr 3 1 ((pre++[c]).map tN)]))=Zag H1+1:=by rw [lenG_set,n2]
    cases hbd:darkB w c <;> cases hbi:hasF (fun x=>!hasF (touchB c) x) al
    all_goals rw [hbd] at hdk
    all_goals rw [hbi] at hid hcl
    all_goals simp only [VV,g3,g4,g5,g6,g7,g20,g21,g22,Zcg,blt_t hj,hro,Zbv hel,load_el (cs:=Zav (tN c)) (off:=0) rfl,st1,lc,lw,z1,z2,z3,z4,z5,hbd,z6,z7,hcl,htk,lc2,hel1,happ,st2,a3]
    ·exact .fin (.inl ⟨rfl,gl.length - (j+1),by omega,j+1,pre,dk,rfl,rfl,rfl,rfl,by rw [show j+1 - dk=j - dk+1 by omega],rfl,rfl,rfl,by omega,k1,k2,hj,rfl,by omega,by omega,hdk,hid⟩)
    ·exact .fin (.inl ⟨rfl,gl.length - (j+1),by omega,j+1,pre++[c],dk,rfl,rfl,rfl,rfl,by rw [show j+1 - dk=j - dk+1 by omega],rfl,rfl,rfl,by omega,m1,m2,hj,rfl,by omega,by rw [List.length_append];show pre.length+1≤j+1;omega,hdk,by rw [hid,List.append_assoc];rfl⟩)
    ·exact .fin (.inl ⟨rfl,gl.length - (j+1),by omega,j+1,pre,dk+1,rfl,rfl,rfl,rfl,by rw [show j+1 - (dk+1)=j - dk by omega],rfl,rfl,rfl,by omega,k1,k2,hj,rfl,by omega,by omega,by rw [hdk];show dk+(_+1)=_;omega,hid⟩)
    ·exact .fin (.inl ⟨rfl,gl.length - (j+1),by omega,j+1,pre++[c],dk+1,rfl,rfl,rfl,rfl,by rw [show j+1 - (dk+1)=j - dk by omega],rfl,rfl,rfl,by omega,m1,m2,hj,rfl,by omega,by rw [List.length_append];show pre.length+1≤j+1;omega,by rw [hdk];show dk+(_+1)=_;omega,by rw [hid,List.append_assoc];rfl⟩)
  ·rintro S H1 ⟨g3,g4,g5,g6,g7,h3l,hH1,hH2⟩
   have ix:Zbn 1 (rS 1 (al.map rQ)) (tN 0)=some (.el .set [rQ a0] 0):=by rw [hal];rfl
   have ie:∀ {β:Type} (md:Ld) (k:TV→TH→Option β),Zbg md 0 0 false 1 H1 (.el .set [rQ a0] 0) k=k (rQ a0) H1:=fun md k=>load_el rfl
   have ha90:a0.length < 90000:=hlen a0 (by rw [hal];exact List.mem_cons_self)
   simp only [VV,g3,g4,g5,g6,g7,ix,ie,la0]
   refine EndsT.rng (k:=a0.length) (fun k S H2=>∃ j pre,S.2.2.2.1=.ptr 1 0∧S.2.2.2.2.1=rS 1 (al.map rQ)∧S.2.2.2.2.2.1=.ptr 2 0∧S.2.2.2.2.2.2.1=tN (darkN w gl)∧S.2.2.2.2.2.2.2.1=tN (gl.length - darkN w gl)∧S.2.2.2.2.2.2.2.2.2.1=Zcr 71 2 ((pre:List (Nat×Nat)).map tQ)∧S.2.2.2.2.2.2.2.2.2.2.2.2.2.2.2.2.2.2.2.2.2.2.2.2.2.2.1=rQ a0∧S.2.2.2.2.2.2.2.2.2.2.2.2.2.2.2.2.2.2.2.2.2.2.2.2.2.2.2.1=tN a0.length∧S.2.2.2.2.2.2.2.2.2.2.2.2.2.2.2.2.2.2.2.2.2.2.2.2.2.2.2.2.1=tN j ∧
     3≤Zag H2∧H2[1]? = some (.cells [tN w,tN h,rS 1 (sp.map tN)])∧H2[2]? = some (.cells [Zcr 3 1 (idle.map tN)])∧j≤a0.length∧k=a0.length - j∧pre.length≤j∧sure=pre++sureA al (a0.drop j))
    (fun S H2=>S.2.2.2.1=.ptr 1 0∧S.2.2.2.2.2.1=.ptr 2 0∧S.2.2.2.2.2.2.1=tN (darkN w gl)∧S.2.2.2.2.2.2.2.1=tN (gl.length - darkN w gl)∧S.2.2.2.2.2.2.2.2.2.1=Zcr 71 2 (sure.map tQ)∧3≤Zag H2∧H2[1]? = some (.cells [tN w,tN h,rS 1 (sp.map tN)])∧H2[2]? = some (.cells [Zcr 3 1 (idle.map tN)])) (fun _ _=>False) ?_ (by rw [Zdl];omega)
    ⟨0,[],rfl,rfl,rfl,rfl,rfl,rfl,rfl,rfl,rfl,h3l,hH1,hH2,Nat.zero_le _,rfl,Nat.le_refl _,hsure⟩ ?_ (fun _ _ h=>h.elim)
   ·rintro k S H2 ⟨j,pre,g3,g4,g5,g6,g7,g9,g26,g27,g28,h3l,hH1,hH2,hj,rfl,hpj,hsu⟩
    rcases Nat.eq_or_lt_of_le hj with hj |hj
    ·rw [hj,List.drop_length] at hsu
     have hsu:sure=pre:=by rw [hsu];exact List.append_nil _
     simp only [VV,g3,g4,g5,g6,g7,g9,g26,g27,g28,Zcg,blt_f (Nat.le_of_eq hj.symm)]
     exact .fin (.inr (.inl ⟨rfl,rfl,rfl,rfl,rfl,by rw [hsu],h3l,hH1,hH2⟩))
    ·obtain ⟨q,hq⟩:∃ q,q=a0[j]:=⟨_,rfl⟩
     have hel:(a0.map tQ)[j]? = some (tQ q):=by rw [List.getElem?_map,List.getElem?_eq_getElem hj,hq];rfl
     have hsz:szO 2 (a0.map tQ)=2:=szO_eq (by intro h;rw [List.map_eq_nil_iff] at h;rw [h] at hj;simp at hj)
     have hrg:TV.row (cpO (a0.map tQ)) .set 2 (a0.map tQ)=rQ a0:=by show _=TV.row _ _ (szO 2 (a0.map tQ)) _;rw [hsz]
     rw [List.drop_eq_getElem_cons hj,← hq] at hsu
     have hsu:sure=pre++cond (hasF (fun x=>!hasF (beqQ q) x) al) (sureA al (a0.drop (j+1))) (q::sureA al (a0.drop (j+1))):=hsu
     obtain ⟨H3,hH3⟩:∃ H3,H3=Zaq H2 (.cells [tN q.1,tN q.2]):=⟨_,rfl⟩
     have k1:H3[1]? = some (.cells [tN w,tN h,rS 1 (sp.map tN)]):=by rw [hH3];exact Zbi hH1
     have k2:H3[2]? = some (.cells [Zcr 3 1 (idle.map tN)]):=by rw [hH3];exact Zbi hH2
     have kc:H3[Zag H2]? = some (.cells [tN q.1,tN q.2]):=by rw [hH3];exact Zbh
     have n2:Zag H3=Zag H2+1:=by rw [hH3];exact Zbp
     have st1:Zas 0 0 2 (Zaq H2 (.cells zc71)) (.ptr (Zag H2) 0) (tQ q)=some H3:=by
      rw [Zcf (off:=0) (n:=2) (x:=tQ q) Zbh (Nat.zero_le _) rfl (.inl rfl) rfl (by decide),Zdr,over_all (cs:=zc71) (xs:=[tN q.1,tN q.2]) rfl,push_set,hH3]
     have lq:∀ {β:Type} (md:Ld) (k:TV→TH→Option β),Zbg md 0 0 true 2 H3 (.ptr (Zag H2) 0) k=k (tQ q) H3:=fun md k=>Zcw kc (by simp) rfl
     have a3:Zbe (.int .i64 (.ofNat j)) (.int .i64 (.ofNat 1))=some (.int .i64 (.ofNat (j+1))):=add_n (by omega)
     have hcl:∀ {β:Type} (k:TV→TH→Option β),Zbr (tc 40) 0 57 [rS 1 (al.map rQ),.fn (.func 61) [] [.ptr (Zag H2) 0]] H3 k=k (tB (hasF (fun x=>!hasF (beqQ q) x) al)) H3:=fun k=>
      Zcy rfl (containsFL_run 38 0 al (fun x=>!hasF (beqQ q) x) (fun hne=>szO_eq (fun e=>hne (List.map_eq_nil_iff.1 e))) hall90 rfl fun z hz=>idle2_run 35 0 kc (hlen z hz))
     have hel1:Zcx 2 [0] [tQ q] (repG [.agg zc71] 1)=some [tQ q]:=rfl
     have happ:∀ {β:Type} {H:TH} (k:TV→TH→Option β),Zcm 0 H 71 2 16 (Zcr 71 2 (pre.map tQ)) (.row .full (.own 71) 2 [tQ q]) k=k (Zcr 71 2 ((pre++[q]).map tQ)) H:=fun k=>app_Q (by omega) k
     cases hbi:hasF (fun x=>!hasF (beqQ q) x) al
     all_goals rw [hbi] at hsu hcl
     all_goals simp only [VV,g3,g4,g5,g6,g7,g9,g26,g27,g28,Zcg,blt_t hj,hsz,Zbv hel,st1,lq,hcl,Bool.not_true,Bool.not_false,hel1,happ,a3]
     ·exact .fin (.inl ⟨rfl,a0.length - (j+1),by omega,j+1,pre++[q],rfl,rfl,rfl,rfl,rfl,rfl,hrg,rfl,rfl,by omega,k1,k2,hj,rfl,by rw [List.length_append];show pre.length+1≤j+1;omega,by rw [hsu,List.append_assoc];rfl⟩)
     ·exact .fin (.inl ⟨rfl,a0.length - (j+1),by omega,j+1,pre,rfl,rfl,rfl,rfl,rfl,rfl,hrg,rfl,rfl,by omega,k1,k2,hj,rfl,by omega,hsu⟩)
   ·rintro S H2 ⟨g3,g5,g6,g7,g9,h3l,hH1,hH2⟩
    have n2:Zag (idle.map tN)=idle.length:=by rw [Zat,List.length_map]
    have hidl:idle.length≤16:=by rw [hidle];exact Nat.le_trans (idleA_len al gl) hgl16
    have hdl:=darkN_le w gl
    have sz1:∀ l:List Nat,l≠[]→szO 1 (l.map tN)=1:=fun l hne=>szO_eq (fun e=>hne (List.map_eq_nil_iff.1 e))
    have sz2:∀ l:List (Nat×Nat),l≠[]→szO 2 (l.map tQ)=2:=fun l hne=>szO_eq (fun e=>hne (List.map_eq_nil_iff.1 e))
    have hsl:sure.length < 90000:=by
     have:=sureA_len al a0
     have:=hlen a0 (by rw [hal];exact List.mem_cons_self)
     rw [hsure];omega
    have r1:∀ (q q':Lf),Zah (tc 40) 27 [.row ci q ni (idle.map tN),.row (cpO (idle.map tN)) q' (szO 1 (idle.map tN)) (idle.map tN)] H2=some (tB true):=fun q q'=>by
     rw [← eqL_refl idle];exact same_tree 39 hni (sz1 idle) (by omega)
    have r2:∀ (q q':Lf),Zah (tc 40) 20 [.row cs q ns (sure.map tQ),.row (cpO (sure.map tQ)) q' (szO 2 (sure.map tQ)) (sure.map tQ)] H2=some (tB true):=fun q q'=>by
     rw [← eqL_reflQ sure];exact alike_tree 39 hns (sz2 sure) hsl
    have lo:∀ {β:Type} (k:TV→TH→Option β),Zbg .lend 0 0 false 1 H2 (.ptr 2 0) k=k (.row (cpO (idle.map tN)) (lfB (idle.map tN)) (szO 1 (idle.map tN)) (idle.map tN)) H2:=fun k=>load_own hH2
    have t1:evGtr (.int .i64 (.ofNat m)) (.int .i64 (.ofNat (minN (darkN w gl) (gl.length - darkN w gl))))=some (.bool false):=by rw [gtr_n,e3]
    have t2:evMul (.int .i64 (.ofNat 2)) (.int .i64 (.ofNat m))=some (.int .i64 (.ofNat (2 * m))):=mul_n (by omega)
    have t3:Zbe (.int .i64 (.ofNat (darkN w gl))) (.int .i64 (.ofNat (gl.length - darkN w gl)))=some (.int .i64 (.ofNat gl.length)):=by rw [add_n (by omega),show darkN w gl+(gl.length - darkN w gl)=gl.length by omega]
    obtain ⟨z,hz⟩:∃ z,z=Nat.beq idle.length 0:=⟨_,rfl⟩
    have t4:Zca (.ofNat idle.length) (.ofNat 0)=z:=hz.symm
    have t5:Zca (.ofNat (2 * m)) (.ofNat gl.length)=z:=by rw [hz,e4];rfl
    have t6:∀ (c:Cp) (n:Nat) (l:List TV),setT (.row c .set n l)=.row c .set n l:=fun _ _ _=>rfl
    have pt:=pairs_tree 36 (c:=cpO (sp.map tN)) (H:=H2) ok.w1 (by have:=ok.w8;omega) (by have:=ok.h8;omega) hspn (by have:=asc_len ok.asc (fun x hx=>Nat.lt_of_lt_of_le (ok.lt x hx) ok.n16);omega) (asc_noAdj _ (pairs_asc ok)) (by have:=pairs_len ok;omega)
    rw [← hprs] at pt
    have lpr:Zag (prs.map tQ)=prs.length:=by rw [Zat,List.length_map]
    simp only [VV,g3,g5,g6,g7,g9,lS hH1,c8,c9,c6,c3,t6,q0,Bool.not_true,Bool.not_false,lo,r1,r2,lesser_min,isV_v,t1,n2,t2,t3,t4,t5,eqT_bb,pt,lpr]
    refine EndsT.rng (k:=prs.length) (fun k S H3=>∃ j,S.2.2.2.2.2.1=.ptr 2 0∧S.2.2.2.2.2.2.2.2.2.2.2.2.2.2.2.1=rS 1 (bar.map tN)∧S.2.2.2.2.2.2.2.2.2.2.2.2.2.2.2.2.2.2.2.2.2.2.2.2.2.2.2.2.2.2.2.2.1=rS 2 (prs.map tQ)∧S.2.2.2.2.2.2.2.2.2.2.2.2.2.2.2.2.2.2.2.2.2.2.2.2.2.2.2.2.2.2.2.2.2.1=tN prs.length∧S.2.2.2.2.2.2.2.2.2.2.2.2.2.2.2.2.2.2.2.2.2.2.2.2.2.2.2.2.2.2.2.2.2.2.1=tN j∧H3[2]? = some (.cells [Zcr 3 1 (idle.map tN)])∧j≤prs.length∧k=prs.length - j∧hasF (bothB idle) (prs.drop j)=false)
     (fun S H3=>S.2.2.2.2.2.1=.ptr 2 0∧S.2.2.2.2.2.2.2.2.2.2.2.2.2.2.2.1=rS 1 (bar.map tN)∧H3[2]? = some (.cells [Zcr 3 1 (idle.map tN)])) (fun _ _=>False) ?_ (by rw [Zdl];omega)
     ⟨0,rfl,rfl,rfl,rfl,rfl,hH2,Nat.zero_le _,rfl,e5⟩ ?_ (fun _ _ h=>h.elim)
    ·rintro k S H3 ⟨j,g5,g15,g32,g33,g34,hH2,hj,rfl,hno⟩
     rcases Nat.eq_or_lt_of_le hj with hj |hj
     ·simp only [VV,g5,g15,g32,g33,g34,Zcg,blt_f (Nat.le_of_eq hj.symm)]
      exact .fin (.inr (.inl ⟨rfl,rfl,rfl,hH2⟩))
     ·obtain ⟨q,hq⟩:∃ q,q=prs[j]:=⟨_,rfl⟩
      have hel:(prs.map tQ)[j]? = some (tQ q):=by rw [List.getElem?_map,List.getElem?_eq_getElem hj,hq];rfl
      have hsz:szO 2 (prs.map tQ)=2:=szO_eq (by intro h;rw [List.map_eq_nil_iff] at h;rw [h] at hj;simp at hj)
      have hrg:TV.row (cpO (prs.map tQ)) .set 2 (prs.map tQ)=rS 2 (prs.map tQ):=by show _=TV.row _ _ (szO 2 (prs.map tQ)) _;rw [hsz]
      rw [List.drop_eq_getElem_cons hj,← hq] at hno
      have hno:cond (bothB idle q) true (hasF (bothB idle) (prs.drop (j+1)))=false:=hno
      obtain ⟨H4,hH4⟩:∃ H4,H4=Zaq H3 (.cells [tN q.1,tN q.2]):=⟨_,rfl⟩
      have k2:H4[2]? = some (.cells [Zcr 3 1 (idle.map tN)]):=by rw [hH4];exact Zbi hH2
      have kc:H4[Zag H3]? = some (.cells [tN q.1,tN q.2]):=by rw [hH4];exact Zbh
      have st1:Zas 0 0 2 (Zaq H3 (.cells zc71)) (.ptr (Zag H3) 0) (tQ q)=some H4:=by
       rw [Zcf (off:=0) (n:=2) (x:=tQ q) Zbh (Nat.zero_le _) rfl (.inl rfl) rfl (by decide),Zdr,over_all (cs:=zc71) (xs:=[tN q.1,tN q.2]) rfl,push_set,hH4]
      have lo:∀ {β:Type} (k:TV→TH→Option β),Zbg .lend 0 0 false 1 H4 (.ptr 2 0) k=k (.row (cpO (idle.map tN)) (lfB (idle.map tN)) (szO 1 (idle.map tN)) (idle.map tN)) H4:=fun k=>load_own k2
      have l1:∀ {β:Type} (k:TV→TH→Option β),Zbg .lend 0 0 false 1 H4 (.ptr (Zag H3) (0+0 * 1)) k=k (tN q.1) H4:=fun k=>Zbf kc rfl rfl rfl
      have l2:∀ {β:Type} (k:TV→TH→Option β),Zbg .lend 0 0 false 1 H4 (.ptr (Zag H3) (0+1 * 1)) k=k (tN q.2) H4:=fun k=>Zbf kc rfl rfl rfl
      have i0:Zbj 2 1 (.ptr (Zag H3) 0) (tN 0)=some (.ptr (Zag H3) (0+0 * 1)):=rfl
      have i1:Zbj 2 1 (.ptr (Zag H3) 0) (tN 1)=some (.ptr (Zag H3) (0+1 * 1)):=rfl
      have hcn:∀ (q:Lf) (x:Nat),Zah (tc 40) 64 [.row (cpO (idle.map tN)) q (szO 1 (idle.map tN)) (idle.map tN),tN x] H4=some (tB (hasN x idle)):=fun q x=>
       Zdo (ws:=[.row (cpO (idle.map tN)) .set (szO 1 (idle.map tN)) (idle.map tN),tN x]) (H':=[]) rfl rfl (containsN_run 38 0 (sz1 idle) (by omega)) rfl
      have a3:Zbe (.int .i64 (.ofNat j)) (.int .i64 (.ofNat 1))=some (.int .i64 (.ofNat (j+1))):=add_n (by omega)
      have hbt:bothB idle q=false:=by
       cases hb:bothB idle q with
       |true=>rw [hb] at hno;cases hno
       |false=>rfl
      rw [hbt] at hno
      have hno:hasF (bothB idle) (prs.drop (j+1))=false:=hno
      have hbt:cond (hasN q.1 idle) (hasN q.2 idle) false=false:=hbt
      cases h1:hasN q.1 idle with
      |false=>
       simp only [VV,g5,g15,g32,g33,g34,Zcg,blt_t hj,hsz,Zbv hel,st1,lo,i0,i1,l1,l2,hcn,h1,Bool.not_true,Bool.not_false,a3]
       exact .fin (.inl ⟨rfl,prs.length - (j+1),by omega,j+1,rfl,rfl,hrg,rfl,rfl,k2,hj,rfl,hno⟩)
      |true=>
       rw [h1] at hbt
       have hbt:hasN q.2 idle=false:=hbt
       simp only [VV,g5,g15,g32,g33,g34,Zcg,blt_t hj,hsz,Zbv hel,st1,lo,i0,i1,l1,l2,hcn,h1,hbt,Bool.not_true,Bool.not_false,a3]
       exact .fin (.inl ⟨rfl,prs.length - (j+1),by omega,j+1,rfl,rfl,hrg,rfl,rfl,k2,hj,rfl,hno⟩)
    ·rintro S H3 ⟨g5,g15,hH2⟩
     have hcl:∀ {β:Type} (k:TV→TH→Option β),Zbr (tc 40) 0 65 [rS 1 (bar.map tN),.fn (.func 66) [] [.ptr 2 0]] H3 k=k (tB false) H3:=fun k=>
      Zcy rfl (by rw [← e6];exact containsFN_run 38 0 bar (sz1 bar) (fun c=>hasN c idle) (by omega) rfl fun z _=>idle3_run 35 0 hH2 (by omega))
     have f7:=hworks H3
     simp only [VV,g5,g15,hcl,Bool.not_false,Bool.not_true,f7]
     exact .fin ⟨rfl,rfl⟩
 obtain ⟨e,S,H1,h1',rfl,h2'⟩:=key
 show ∃ H',Zaa (C8 (tc 40) 0 0 (.agg [tK .u8 a,tK .u8 b,tK .u8 th,tK .u16 dd],Zao,Zao,Zao,Zao,Zao,Zao,Zao,Zao,Zao,Zao,Zao,Zao,Zao,Zao,Zao,Zao,Zao,Zao,Zao,Zao,Zao,Zao,Zao,Zao,Zao,Zao,Zao,Zao,Zao,Zao,Zao,Zao,Zao,Zao,Zao,Zao,()) []) _=some (tB true,H')
 rw [h1']
 simp only [bz_some,resE_r,h2',fin_one resOk_v Zdq]
 exact ⟨_,rfl⟩
end
end Go.Proofs.YtgemobbfikjmoaaGreatDoor
