/- A second evaluator that holds rows by value, and that the first answers what it answers, part two.
   Conditions: none beyond the given statement's own. -/
import Derived.Test.YtgemobbfikjmoaaGreatDoorPaC
set_option linter.unusedVariables false
set_option linter.unusedSimpArgs false
set_option linter.defProp false
namespace Go.Ev
section
variable {H:AH} {S:Nat→Prop} {r:List Nat}
theorem lenT_run {x v:TV} (h:lenT x=some v) {y:Value} {o:List Nat} (hx:VR H S r x y o):∃ u,evLenS y=some u∧v=.v u∧scal u=true:=by
 unfold lenT at h
 split at h
 ·cases h
  rw [Zat]
  rcases row_inv hx with ⟨_,_,_,rfl,rfl,_⟩ |⟨_,i,off,cap,_,_,_,rfl,_⟩ <;> exact ⟨_,rfl,rfl,rfl⟩
 ·cases h
  obtain ⟨i,_,rfl,_⟩:=vec_inv hx
  exact ⟨_,rfl,rfl,rfl⟩
 ·cases h
theorem capT_run {x v:TV} (h:capT x=some v) {y:Value} {o:List Nat} (hx:VR H S r x y o):∃ u,evCapS y=some u∧v=.v u∧scal u=true:=by
 have small:∀ {a:Option Addr} {len n:Nat},n < UNK→evCapS (.slice a len n)=some (.int .i64 (.ofNat n)):=fun {a len n} h=>by
  show cond (Nat.ble UNK n) none _=_
  cases hb:Nat.ble UNK n with
  |false=>rfl
  |true=>have:=Zaw hb;omega
 have u0:0 < UNK:=by unfold UNK;decide
 unfold capT at h
 split at h
 ·cases h
  rcases row_inv hx with ⟨_,_,_,_,rfl,_⟩ |⟨h,_⟩
  ·exact ⟨_,small u0,rfl,rfl⟩
  ·exact absurd rfl h
 ·cases h
  rw [Zat]
  rcases row_inv hx with ⟨h,_⟩ |⟨_,i,off,cap,_,_,_,rfl,h1,_⟩
  ·cases h
  ·obtain ⟨e1,e2⟩:cap=_∧_ < UNK:=h1
   subst e1
   exact ⟨_,small e2,rfl,rfl⟩
 ·rename_i b off len cap n ag
  obtain ⟨i,_,rfl,_⟩:=vec_inv hx
  have h:cond (Nat.ble UNK cap) none (some (TV.v (.int .i64 (.ofNat cap))))=some v:=h
  cases hb:Nat.ble UNK cap with
  |true=>rw [hb] at h;cases h
  |false=>
   rw [hb] at h
   cases h
   exact ⟨_,small (lt_of_ble' hb),rfl,rfl⟩
 ·cases h
theorem minMaxT_run {mx:Bool}:∀ {vs:List TV} {v:TV} {β:Type} {k:TV→Option β} {ρ:β},minMaxT mx v vs k=some ρ →
  ∃ u,k u=some ρ∧∀ {H:AH} {S:Nat→Prop} {r:List Nat} {v':Value} {vs':List Value} {o:List Nat},VR H S r v v' o→All2 (fun x y=>∃ o,VR H S r x y o) vs vs' →
   ∃ w,(∀ {γ:Type} (k':Value→Option γ),opMinMax mx v' vs' k'=k' w)∧u=.v w∧flat w=true∧notSl w=true
 |[],v,β,k,ρ,h=>by
  obtain ⟨h1,h2⟩:=Zan (show Zap (isV v) (k v)=some ρ from h)
  refine ⟨v,h2,fun {H S r v' vs' o} hv hr=>?_⟩
  cases hr
  cases v with
  |v a=>
   obtain ⟨rfl,q1,q2,_⟩:=v_inv hv
   exact ⟨_,fun _=>rfl,rfl,q1,q2⟩
  |_=>cases h1
 |w::vs,v,β,k,ρ,h=>by
  obtain ⟨z,h1,h2⟩:=Zau (show Zaa (b2 (Zdv mx) v w) (fun v=>minMaxT mx v vs k)=some ρ from h)
  obtain ⟨a0,b0,u0,rfl,rfl,h3,rfl⟩:=b2_inv h1
  obtain ⟨u,h4,h5⟩:=minMaxT_run h2
  refine ⟨u,h4,fun {H S r v' vs' o} hv hr=>?_⟩
  obtain ⟨rfl,_⟩:=v_inv hv
  cases hr with
  |cons hw ht=>
   obtain ⟨o,hw⟩:=hw
   obtain ⟨rfl,_⟩:=v_inv hw
   have hsu:scal u0=true:=by
    unfold Zdv at h3
    split at h3
    ·split at h3
     ·cases h3;rfl
     ·cases h3
    ·cases h3
   obtain ⟨z,q1,q2,q3⟩:=h5 (H:=H) (S:=S) (r:=r) (o:=[]) (.k (.v (scal_flat hsu).1 (scal_flat hsu).2)) ht
   refine ⟨z,fun k'=>?_,q2,q3⟩
   show Zaa (Zdv mx _ _) _=_
   rw [h3];exact q1 k'
theorem krl_single:∀ {xs:List TV} {ys:List Value},KRL H S xs ys→(∀ c∈xs,Zbw c=true)→ys.all single=true
 |_,_,.nil,_=>rfl
 |x::xs,_,.cons h t,hc=>by
  have h1:=hc x (List.mem_cons_self ..)
  rw [List.all_cons,krl_single t fun c h=>hc c (List.mem_cons_of_mem _ h),Bool.and_true]
  cases h with
  |v h2 h3=>
   rename_i y _
   revert h2
   cases y <;> intro h2 <;> first |rfl |cases h2
  |nil=>rfl
  |row=>rfl
  |agg=>cases h1
  |iface=>rfl
  |fn0=>cases h1
theorem rowOf_row {c:Cp} {n:Nat} {es:List TV} {y:Value} (h:RowV H S c n es y):∃ l,rowOf H n y=some l∧KRL H S (Zbl es) l∧Each n es:=by
 obtain ⟨i,off,cap,s,cs,e,rfl,h1,h2,h3,h4,h5,h6,h7⟩:=h
 refine ⟨(cs.drop off).take (es.length * n),?_,h7,h6⟩
 show cond (Nat.beq es.length 0) (some []) (Zdm H i fun s cs _=>Zap (Nat.ble (off+es.length * n) s) (some (seg cs off (es.length * n))))=_
 by_cases hz:es.length=0
 ·rw [beqt hz,hz];simp
 ·rw [beqf hz]
  show (match H.get i with |some (.cells s cs e)=>_ |_=>none)=_
  rw [h3]
  show Zap (Nat.ble (off+es.length * n) s) _=_
  rw [Nat.ble_eq_true_of_le h5,seg_eq];rfl
end
section
variable {C:TC} {F:Nat→Prop} {lo tlo base:Nat} {ends:Bool} {H:AH} {r:List Nat} {T:TH} {Oh os:List Nat}
theorem rowsT_run {b off len n:Nat} {ag:Bool} {es:List TV} (h:rowsT T b off len n ag=some es) (hG:Good C F lo tlo H r T Oh os):∃ i s ds e,r[b]? = some i∧H.get i=some (.cells s ds e)∧ds.length=s∧off+len * n≤s ∧
  Each n es∧es.length=len∧KRL H (Sof F r Oh os) (Zbl es) ((ds.drop off).take (len * n)):=by
 obtain ⟨cs,hb,hA⟩:=withBox_inv h
 obtain ⟨h1,hB⟩:=Zan hA
 obtain ⟨h2,h3⟩:=Zan hB
 have h1:=Zaw h1
 rw [Zat] at h1
 have h1:off+len * n≤cs.length:=h1
 have h2:Zbu Zbw (segG cs off (len * n))=true:=h2
 rw [segG_eq,Zds,List.all_eq_true] at h2
 rw [dropG_eq] at h3
 obtain ⟨g1,g2,g3,g4⟩:=grpT_run h3 h2
 obtain ⟨i,s,ds,e,a,w,c,k1,k2,hg,hs,nb,hce,hw,hcl⟩:=hG.cellsAt hb
 obtain ⟨a1,ox,c1,k3,k4,_⟩:=hw.seg off (len * n) h1
 refine ⟨i,s,ds,e,k1,hg,hs,by omega,g4,g2,?_⟩
 rw [g3]
 exact (closed_krl h2 k4).1
theorem rowOf_box {b i off len n s cap:Nat} {ds:List Value} {e:TypeId} {es:List TV} (hg:H.get i=some (.cells s ds e)) (hf:off+len * n≤s) (hl:es.length=len) (he:Each n es) {S:Nat→Prop} (hk:KRL H S (Zbl es) ((ds.drop off).take (len * n))) :
  rowOf H n (.slice (some ⟨i,off,none⟩) len cap)=some ((ds.drop off).take (len * n)):=by
 show cond (Nat.beq len 0) (some []) (Zdm H i fun s cs _=>Zap (Nat.ble (off+len * n) s) (some (seg cs off (len * n))))=_
 by_cases hz:len=0
 ·rw [beqt hz,hz];simp
 ·rw [beqf hz]
  show (match H.get i with |some (.cells s cs e)=>_ |_=>none)=_
  rw [hg]
  show Zap (Nat.ble (off+len * n) s) _=_
  rw [Nat.ble_eq_true_of_le hf,seg_eq];rfl
theorem moreT_run {size:Nat} {x:TV} {new:List TV} (h:moreT size T x=some new) (hG:Good C F lo tlo H r T Oh os) {y:Value} {o:List Nat} (hx:VR H (Sof F r Oh os) r x y o) :
  ∃ a cap l,y=.slice a new.length cap∧rowOf H size y=some l∧KRL H (Sof F r Oh os) (Zbl new) l∧Each size new:=by
 unfold moreT at h
 split at h
 ·rename_i c q n es
  obtain ⟨h1,h2⟩:=Zan h
  cases h2
  rcases row_inv hx with ⟨rfl,_,_,rfl,rfl,_⟩ |⟨hc,hr⟩
  ·exact ⟨none,0,[],rfl,rfl,.nil,fun x hx=>by cases hx⟩
  ·have hn:n=size:=by
    cases c with
    |nil=>exact absurd rfl hc
    |_=>exact Zay h1
   subst hn
   obtain ⟨l,k1,k2,k3⟩:=rowOf_row hr
   obtain ⟨i,off,cap,_,_,_,rfl,_⟩:=hr
   exact ⟨_,_,l,rfl,k1,k2,k3⟩
 ·rename_i b off len cap n ag
  obtain ⟨h1,h2⟩:=Zan h
  have h1:=Zay h1
  subst h1
  obtain ⟨i,s,ds,e,hr,hg,hs,hf,he,hl,hk⟩:=rowsT_run h2 hG
  obtain ⟨i',hr',rfl,_⟩:=vec_inv hx
  rw [hr] at hr';cases hr'
  exact ⟨_,_,_,by rw [hl],rowOf_box (b:=b) hg hf hl he hk,hk,he⟩
 ·cases h
theorem UNK_le (n:Nat):Nat.ble UNK (UNK+n)=true:=Nat.ble_eq_true_of_le (Nat.le_add_right _ _)
theorem unk_no {n:Nat} (h:n < UNK):Nat.ble UNK n=false:=by
 cases hb:Nat.ble UNK n with
 |false=>rfl
 |true=>have:=Zaw hb;omega
theorem room_lt {bytes n:Nat} (h:Zcc bytes n=true):n < UNK:=by
 have h1:=(roomFor_eq h).2
 have h2:UNK=18446744073709551616:=by unfold UNK;rfl
 omega
theorem Res.moved {i:Nat} {ob:AObj} {v:TV} {v':Value} (hG:Good C F lo tlo H r T Oh os) (hi:i∈os) (he:ends=true)
  (hv:∀ S r',Stay H (Sof F r Oh os) ((H.kill i).push ob) S→VR ((H.kill i).push ob) S r' v v' [H.next]) (hn:OV v):Res C F lo tlo base ends H r T Oh os v T v' ((H.kill i).push ob):=by
 have hx:=hG.mem_x hi
 have get:∀ j,j < H.next→j≠i→((H.kill i).push ob).get j=H.get j:=fun j hj hne=>by rw [AH.get_push,if_neg (by simp;omega),AH.get_kill,if_neg hne]
 have fr:∀ j,j≠H.next→[H.next].count j=0:=fun j hj=>List.count_eq_zero.2 (by simpa using hj)
 have m:Mv H r Oh os ((H.kill i).push ob) r Oh [H.next]:=by
  refine ⟨by simp,fun j hj ha=>get j hj fun e=>?_,fun j hj=>?_,fun _ _ h=>h⟩
  ·subst e
   have:=Zax.2 hi
   unfold act at ha;omega
  ·have:=fr j (by omega)
   unfold act
   omega
 have st:=m.stay (F:=F)
 refine ⟨r,Oh,[H.next],hG.next m (fun j hj=>?_) hG.rlo (fun j hj=>by rw [List.mem_singleton] at hj;have:=hG.lon;omega)
  (hG.heap.mono st (fun _ _ h=>h) (fun j hj=>get j (hG.mem_r hj).1 fun e=>?_) fun j hj=>get j (hG.mem_o hj).1 fun e=>?_),hv _ _ st,hn,m,fun h=>(by rw [he] at h;cases h),.refl _ _⟩
 ·have h1:=hG.act_fresh hj
  unfold act at h1 ⊢
  by_cases he:j=H.next
  ·subst he
   have h4:[H.next].count H.next=1:=by simp
   exact ⟨by omega,fun _=>by simp⟩
  ·have h4:=fr j he
   exact ⟨by omega,fun h=>by omega⟩
 ·subst e
  have:=Zax.2 hj
  have:=hx.2.2.1
  omega
 ·subst e
  have:=Zax.2 hj
  have:=hx.2.2.2.1
  omega
theorem appendC_run {e:TypeId} {size bytes:Nat} {s x:TV} {β:Type} {k:TV→TH→Option β} {ρ:β} (h:appendC tlo T e size bytes s x k=some ρ) :
  ∃ v T',k v T'=some ρ∧∀ {C:TC} {F:Nat→Prop} {lo:Nat} {H:AH} {r Oh os:List Nat} {s' x':Value} {o o':List Nat},Good C F lo tlo H r T Oh os→VR H (Sof F r Oh os) r s s' o→VR H (Sof F r Oh os) r x x' o'→OV s→(∀ j,o.count j≤os.count j)→base≤T.length →
   ∃ v' H',evAppend lo H e size bytes s' x'=some (v',H')∧Res C F lo tlo base true H r T Oh os v T' v' H':=by
 obtain ⟨new,hnew,hA⟩:=Zac h
 have more:∀ {C:TC} {F:Nat→Prop} {lo:Nat} {H:AH} {r Oh os:List Nat} {x':Value} {o':List Nat},Good C F lo tlo H r T Oh os→VR H (Sof F r Oh os) r x x' o' →
   ∃ l,KRL H (Sof F r Oh os) (Zbl new) l∧Each size new∧l.length=new.length * size∧l.all single=true∧∀ s',evAppend lo H e size bytes s' x'=evAppendTo lo H e size bytes s' new.length l:=by
  intro C F lo H r Oh os x' o' hG hx
  obtain ⟨a,cap,l,rfl,k1,k2,k3⟩:=moreT_run hnew hG hx
  have hs:=krl_single k2 k3.closed
  refine ⟨l,k2,k3,by rw [← k2.length,flatL_length k3],hs,fun s'=>?_⟩
  show Zaf (rowOf H size (.slice a new.length cap)) (fun n=>Zap (n.all single) (evAppendTo lo H e size bytes s' new.length n))=_
  rw [k1,Zai,hs];rfl
 rw [Zat] at hA
 have fresh:∀ {C:TC} {F:Nat→Prop} {lo:Nat} {H:AH} {r Oh os:List Nat} {es:List TV} {l:List Value} {m:Nat},Good C F lo tlo H r T Oh os→KRL H (Sof F r Oh os) (Zbl es) l→Each size es→es.length=m→Zcc bytes m=true →
   Res C F lo tlo base true H r T Oh os (.row .opn (.own e) size es) T (Zck H m (Nat.add UNK size)) (pushRow H e size m l):=by
  intro C F lo H r Oh os es l m hG hk he hm hr
  subst hm
  refine Res.row hG (fun S r' st=>?_) (.inl (.mk_row (by intro h;cases h)))
  exact VR.own (c:=.opn) (n:=size) (i:=H.next) (cs:=l) (by intro h;cases h) (room_lt hr) (by simp) (by
   show (H.push _).get H.next=_
   rw [AH.get_push,if_pos rfl];rfl) he (hk.mono st)
 split at hA
 ·rename_i c q n es
  obtain ⟨h1,hB⟩:=Zan hA
  have h1:c≠.nil→n=size:=fun hc=>by
   cases c with
   |nil=>exact absurd rfl hc
   |_=>exact Zay h1
  cases hz:Nat.beq new.length 0 with
  |true=>
   rw [hz] at hB
   refine ⟨_,T,hB,fun {C F lo H r Oh os s' x' o o'} hG hs hx hv ho hb=>?_⟩
   obtain ⟨l,m1,m2,m3,m4,m5⟩:=more hG hx
   refine ⟨s',H,?_,.keep hG hs hv ho⟩
   rw [m5]
   rcases row_inv hs with ⟨_,_,_,_,rfl,_⟩ |⟨hc,i,off,cap,s2,cs,e2,rfl,k1,_⟩
   ·show cond (Nat.beq new.length 0) _ _=_
    rw [hz];rfl
   ·show cond (Nat.beq new.length 0) (Zap (Nat.ble es.length cap) _) _=_
    rw [hz]
    have:es.length≤cap:=by
     cases c with
     |nil=>exact k1.elim
     |full=>obtain ⟨e1,_⟩:cap=es.length∧_:=k1;omega
     |opn=>
      rcases (show (es.length≤cap∧cap < UNK)∨(cap=UNK+n∧es.length < UNK) from k1) with ⟨e1,_⟩ |⟨e1,e2⟩ <;> omega
    show Zap (Nat.ble es.length cap) _=_
    rw [Nat.ble_eq_true_of_le this];rfl
  |false=>
   rw [hz] at hB
   obtain ⟨h2,hC⟩:=Zan (show Zap (Zcc bytes (Nat.add (Zag es) new.length)) (appRow e size T c q es new k)=some ρ from hB)
   rw [Zat] at h2
   have hnz:=ne_of_beq' hz
   unfold appRow at hC
   cases c with
   |nil=>
    have hC:k (.row .opn (.own e) size (es++new)) T=some ρ:=hC
    refine ⟨_,T,hC,fun {C F lo H r Oh os s' x' o o'} hG hs hx hv ho hb=>?_⟩
    obtain ⟨l,m1,m2,m3,m4,m5⟩:=more hG hx
    rcases row_inv hs with ⟨_,_,_,rfl,rfl,_⟩ |⟨hc,_⟩
    ·have h2:Zcc bytes new.length=true:=by
      have:Nat.add ([]:List TV).length new.length=new.length:=Nat.zero_add _
      rwa [this] at h2
     refine ⟨Zck H new.length (Nat.add UNK size),pushRow H e size new.length l,?_,fresh hG m1 m2 rfl h2⟩
     rw [m5]
     show cond (Nat.beq new.length 0) _ (Zap (Zcc bytes new.length) _)=_
     rw [hz,h2];rfl
    ·exact absurd rfl hc
   |full=>
    have hC:k (.row .opn (.own e) size (es++new)) T=some ρ:=hC
    have hn:=h1 (by intro h;cases h)
    subst hn
    refine ⟨_,T,hC,fun {C F lo H r Oh os s' x' o o'} hG hs hx hv ho hb=>?_⟩
    obtain ⟨l,m1,m2,m3,m4,m5⟩:=more hG hx
    rcases row_inv hs with ⟨h,_⟩ |⟨hc,hr⟩
    ·cases h
    ·obtain ⟨old,k1,k2,k3⟩:=rowOf_row hr
     obtain ⟨i,off,cap,s2,cs,e2,rfl,q1,_⟩:=hr
     obtain ⟨e1,e3⟩:cap=es.length∧es.length < UNK:=q1
     subst e1
     refine ⟨Zck H (es.length+new.length) (Nat.add UNK n),pushRow H e n (es.length+new.length) (old++l),?_,fresh hG (by rw [flatL_append];exact k2.append m1) (k3.append m2) (List.length_append) h2⟩
     rw [m5]
     show cond (Nat.beq new.length 0) _ (Zap (Zcc bytes (es.length+new.length)) (cond (Nat.ble UNK es.length) _ (cond (Nat.ble (es.length+new.length) es.length) _ (Zaf (rowOf H n _) fun old=>some (Zck H (es.length+new.length) (Nat.add UNK n),pushRow H e n (es.length+new.length) (List.append old l))))))=_
     rw [hz,show Zcc bytes (es.length+new.length)=true from h2,unk_no e3,show Nat.ble (es.length+new.length) es.length=false from bleF (by omega),k1];rfl
   |opn=>
    cases q with
    |set=>cases hC
    |bor=>cases hC
    |own e'=>
     obtain ⟨h3,h4⟩:=Zan (show Zap (Nat.beq e e') (k (.row .opn (.own e) size (es++new)) T)=some ρ from hC)
     have h3:=Zay h3
     subst h3
     have hn:=h1 (by intro h;cases h)
     subst hn
     refine ⟨_,T,h4,fun {C F lo H r Oh os s' x' o o'} hG hs hx hv ho hb=>?_⟩
     obtain ⟨l,m1,m2,m3,m4,m5⟩:=more hG hx
     cases hs with
     |k h=>cases h
     | @own _ _ _ i cs _ hc hu hl hg he hk=>
      have h8:[i].count i=1:=by simp
      have h9:=ho i
      have hio:i∈os:=Zax.1 (by omega)
      have hlo:=hG.xlo i hio
      have hkl:=hk.length
      rw [flatL_length he] at hkl
      refine ⟨Zck H (es.length+new.length) (Nat.add UNK n),pushRow (H.kill i) e n (es.length+new.length) (cs++l),?_,?_⟩
      ·rw [m5]
       show cond (Nat.beq new.length 0) _ (Zap (Zcc bytes (es.length+new.length)) (cond (Nat.ble UNK (UNK+n)) (Zap (Nat.beq (UNK+n) (Nat.add UNK n)) (evMoved lo H e n i 0 es.length new.length l)) _))=_
       rw [hz,show Zcc bytes (es.length+new.length)=true from h2,UNK_le,show Nat.beq (UNK+n) (Nat.add UNK n)=true from beqt rfl]
       show evMoved lo H e n i 0 es.length new.length l=_
       unfold evMoved Zdm
       rw [hg]
       show Zap (Nat.ble lo i) (Zap (Nat.beq e e) (Zap (Nat.ble (0+es.length * n) (es.length * n)) (some (Zck H (es.length+new.length) (Nat.add UNK n),pushRow (H.kill i) e n (es.length+new.length) (List.append (seg cs 0 (es.length * n)) l)))))=_
       rw [Nat.ble_eq_true_of_le hlo,beqt rfl,Nat.ble_eq_true_of_le (by omega),seg_eq,List.drop_zero,List.take_of_length_le (by omega)];rfl
      ·refine Res.moved hG hio rfl (fun S r' st=>?_) (.inl (.mk_row (by intro h;cases h)))
       have hlen:(es++new).length=es.length+new.length:=List.length_append
       have:=VR.own (H:=pushRow (H.kill i) e n (es.length+new.length) (cs++l)) (S:=S) (r:=r') (c:=.opn) (n:=n) (es:=es++new) (i:=H.next) (cs:=cs++l) (e:=e) (by intro h;cases h) (by rw [hlen];exact room_lt h2) (by show H.next < H.next+1;omega) (by
        show ((H.kill i).push _).get H.next=_
        rw [AH.get_push,if_pos (show H.next=(H.kill i).next from rfl),hlen];rfl) (he.append m2) (by rw [flatL_append];exact (hk.append m1).mono st)
       rw [hlen] at this
       exact this
 ·rename_i b off len cap n ag
  obtain ⟨h1,hB⟩:=Zan hA
  have h1:=Zay h1
  subst h1
  cases hz:Nat.beq new.length 0 with
  |true=>
   rw [hz] at hB
   obtain ⟨h2,hC⟩:=Zan (show Zap (Nat.ble len cap) (k (.vec b off len cap n ag) T)=some ρ from hB)
   refine ⟨_,T,hC,fun {C F lo H r Oh os s' x' o o'} hG hs hx hv ho hb=>?_⟩
   obtain ⟨l,m1,m2,m3,m4,m5⟩:=more hG hx
   refine ⟨s',H,?_,.keep hG hs hv ho⟩
   rw [m5]
   obtain ⟨i,hr,rfl,_⟩:=vec_inv hs
   show cond (Nat.beq new.length 0) (Zap (Nat.ble len cap) _) _=_
   rw [hz,h2];rfl
  |false=>
   rw [hz] at hB
   obtain ⟨h2,hC⟩:=Zan (show Zap (Zcc bytes (Nat.add len new.length)) _=some ρ from hB)
   have hnz:=ne_of_beq' hz
   cases hU:Nat.ble UNK cap with
   |true=>rw [hU] at hC;cases hC
   |false=>
    rw [hU] at hC
    cases hle:Nat.ble (Nat.add len new.length) cap with
    |true=>
     rw [hle] at hC
     obtain ⟨h3,hD⟩:=Zan (show Zap (Nat.ble tlo b) _=some ρ from hC)
     obtain ⟨cs,hb,hE⟩:=withBox_inv hD
     obtain ⟨h4,h5⟩:=Zan hE
     have h3:=Zaw h3
     have h4:=Zaw h4
     rw [Zat] at h4
     have h4:off+(len+new.length) * n≤cs.length:=h4
     rw [Nat.add_mul] at h4
     rw [setBox_eq hb] at h5
     refine ⟨_,_,h5,fun {C F lo H r Oh os s' x' o o'} hG hs hx hv ho hbase=>?_⟩
     obtain ⟨l,m1,m2,m3,m4,m5⟩:=more hG hx
     obtain ⟨i,hr,rfl,_⟩:=vec_inv hs
     obtain ⟨i',s,ds,e',a,w,c,k1,k2,hg,hss,nb,hcc,hw,hcl⟩:=hG.cellsAt hb
     rw [hr] at k1;cases k1
     have hlo:=hG.rlo b i h3 hr
     refine ⟨.slice (some ⟨i,off,none⟩) (len+new.length) cap,H.set i (.cells s (over ds (off+len * n) l) e'),?_,?_⟩
     ·rw [m5]
      show cond (Nat.beq new.length 0) _ (Zap (Zcc bytes (len+new.length)) (cond (Nat.ble UNK cap) _ (cond (Nat.ble (len+new.length) cap) (evInPlace lo H n i off len cap new.length l) _)))=_
      rw [hz,show Zcc bytes (len+new.length)=true from h2,hU,show Nat.ble (len+new.length) cap=true from hle]
      show evInPlace lo H n i off len cap new.length l=_
      unfold evInPlace Zdm
      rw [hg]
      show Zap (Nat.ble lo i) (Zap (Nat.ble (off+(len+new.length) * n) s) _)=_
      rw [Nat.ble_eq_true_of_le hlo,Nat.ble_eq_true_of_le (by rw [Nat.add_mul];omega)];rfl
     ·have hfl:=flatL_length m2
      exact Res.wrote (o:=[]) hG hb hr hg h3 (by show off+len * n+_≤_;omega) m1.vrl (fun j=>by simp) (NBL.of fun c hc=>(Zcq (m2.closed c hc)).1) (fun c hc=>(Zcq (m2.closed c hc)).2) (fun m _ _=>BelL.of fun c hc=>closedC_bel (m2.closed c hc)) (fun _ _=>.vec hr) (.inl (.vec _ _ _ _ _ _))
    |false=>
     rw [hle] at hC
     obtain ⟨es,h3,h4⟩:=Zac (show Zaf (rowsT T b off len n ag) _=some ρ from hC)
     refine ⟨_,T,h4,fun {C F lo H r Oh os s' x' o o'} hG hs hx hv ho hbase=>?_⟩
     obtain ⟨l,m1,m2,m3,m4,m5⟩:=more hG hx
     obtain ⟨i,s,ds,e',hr,hg,hss,hf,he,hl,hk⟩:=rowsT_run h3 hG
     obtain ⟨i',hr',rfl,_⟩:=vec_inv hs
     rw [hr] at hr';cases hr'
     have hro:=rowOf_box (b:=b) (cap:=cap) hg hf hl he hk
     refine ⟨Zck H (len+new.length) (Nat.add UNK n),pushRow H e n (len+new.length) ((ds.drop off).take (len * n)++l),?_,fresh hG (by rw [show List.append es new=es++new from rfl,flatL_append];exact hk.append m1) (he.append m2) (by rw [show List.append es new=es++new from rfl,List.length_append,hl]) h2⟩
     rw [m5]
     show cond (Nat.beq new.length 0) _ (Zap (Zcc bytes (len+new.length)) (cond (Nat.ble UNK cap) _ (cond (Nat.ble (len+new.length) cap) _ (Zaf (rowOf H n _) fun old=>some (Zck H (len+new.length) (Nat.add UNK n),pushRow H e n (len+new.length) (List.append old l))))))=_
     rw [hz,show Zcc bytes (len+new.length)=true from h2,hU,show Nat.ble (len+new.length) cap=false from hle,hro];rfl
 ·cases hA
theorem appendT_run {e:TypeId} {size bytes:Nat} {s x:TV} {β:Type} {k:TV→TH→Option β} {ρ:β} (h:Zcm tlo T e size bytes s x k=some ρ) :
  ∃ v T',k v T'=some ρ∧∀ {C:TC} {F:Nat→Prop} {lo:Nat} {H:AH} {r Oh os:List Nat} {s' x':Value} {o o':List Nat},Good C F lo tlo H r T Oh os→VR H (Sof F r Oh os) r s s' o→VR H (Sof F r Oh os) r x x' o'→OV s→(∀ j,o.count j≤os.count j)→base≤T.length →
   ∃ v' H',evAppend lo H e size bytes s' x'=some (v',H')∧Res C F lo tlo base true H r T Oh os v T' v' H':=by
 obtain ⟨p,h1,h2⟩:=bindT_eq h
 obtain ⟨v,T',h3,h4⟩:=appendC_run h1
 cases h3
 exact ⟨v,T',h2,h4⟩
theorem appendZT_run {e:TypeId} {size bytes:Nat} {z:Value} {s x:TV} {β:Type} {k:TV→TH→Option β} {ρ:β} (h:appendZT e size bytes (ofV z) T s x k=some ρ) (hp:plain z=true) (ht:∀ l,z≠.tuple l) (hsz:(cellsOf z).length=size) (hs0:Nat.blt 0 size=true) :
  ∃ v,k v T=some ρ∧∀ {C:TC} {F:Nat→Prop} {lo:Nat} {H:AH} {r Oh os:List Nat} {s' x':Value} {o o':List Nat},Good C F lo tlo H r T Oh os→VR H (Sof F r Oh os) r s s' o→VR H (Sof F r Oh os) r x x' o' →
   ∃ v' H',evAppendZ H e size bytes (cellsOf z) s' x'=some (v',H')∧Res C F lo tlo base true H r T Oh os v T v' H':=by
 obtain ⟨n,hn,hA⟩:=Zac h
 obtain ⟨h1,hB⟩:=Zan hA
 split at hB
 ·rename_i c q m es
  obtain ⟨h2,hC⟩:=Zan hB
  obtain ⟨h3,hD⟩:=Zan hC
  obtain ⟨h4,h5⟩:=Zan hD
  rw [Zat] at h3
  obtain ⟨a,rfl,ha⟩:=asNatT_inv hn
  refine ⟨_,h5,fun {C F lo H r Oh os s' x' o o'} hG hs hx=>?_⟩
  obtain ⟨rfl,_⟩:=v_inv hx
  obtain ⟨z1,z2⟩:=zeros_rel (H:=H) (S:=Sof F r Oh os) hp ht n
  have ze:=zeros_each hp ht hsz n
  have old:∃ a l,s'=.slice a es.length es.length∧es.length < UNK∧rowOf H size s'=some l∧KRL H (Sof F r Oh os) (Zbl es) l∧Each size es:=by
   rcases row_inv hs with ⟨_,_,_,rfl,rfl,_⟩ |⟨hc,hr⟩
   ·exact ⟨none,[],rfl,by unfold UNK;decide,rfl,.nil,fun x hx=>by cases hx⟩
   ·have hcf:c=.full∧m=size:=by
     cases c with
     |nil=>exact absurd rfl hc
     |full=>exact ⟨rfl,Zay h2⟩
     |opn=>cases h2
    obtain ⟨rfl,rfl⟩:=hcf
    obtain ⟨l,k1,k2,k3⟩:=rowOf_row hr
    obtain ⟨i,off,cap,s2,cs,e2,rfl,q1,_⟩:=hr
    obtain ⟨e1,e3⟩:cap=es.length∧es.length < UNK:=q1
    subst e1
    exact ⟨_,l,rfl,e3,k1,k2,k3⟩
  obtain ⟨a,l,rfl,hu,k1,k2,k3⟩:=old
  rw [Nat.blt_eq] at h1
  have hlen:(es++repG [ofV z] n).length=es.length+n:=by rw [List.length_append,repG_length];simp
  refine ⟨Zck H (es.length+n) (Nat.add UNK size),pushRow H e size (es.length+n) (l++zeros (cellsOf z) n),?_,Res.row hG (fun S r' st=>?_) (.inl (.mk_row (by intro h;cases h)))⟩
  ·show Zaf (asNat _) (fun n=>Zap (Nat.blt 0 n) (Zap (Nat.blt 0 size) (Zap (Nat.blt es.length UNK) (Zap (Nat.blt es.length (es.length+n)) (Zap (Zcc bytes (es.length+n)) (Zaf (rowOf H size _) _))))))=_
   rw [ha,Zai,blt_t' h1,Zcv,hs0,Zcv,blt_t' hu,Zcv,blt_t' (by omega),Zcv,show Zcc bytes (es.length+n)=true from h3,Zcv,k1];rfl
  ·have:=VR.own (H:=pushRow H e size (es.length+n) (l++zeros (cellsOf z) n)) (S:=S) (r:=r') (c:=.opn) (n:=size) (es:=es++repG [ofV z] n) (i:=H.next) (cs:=l++zeros (cellsOf z) n) (e:=e) (by intro h;cases h) (by rw [hlen];exact room_lt h3) (by show H.next < H.next+1;omega) (by
    show (H.push _).get H.next=_
    rw [AH.get_push,if_pos rfl,hlen];rfl) (k3.append ze) (by rw [flatL_append,z2];exact (k2.append z1).mono st)
   rw [hlen] at this
   exact this
 ·cases hB
theorem clearT_run {z:Value} {x:TV} {n:Nat} {T':TH} (h:clearT tlo T (Zav (ofV z)) x=some T') (hn:vecIs x n=true) (hp:plain z=true) (ht:∀ l,z≠.tuple l) (hsz:(cellsOf z).length=n) (hG:Good C F lo tlo H r T Oh os) {x':Value} {o:List Nat} (hx:VR H (Sof F r Oh os) r x x' o) :
  ∃ H',evClear lo H n (cellsOf z) x'=some H'∧Res C F lo tlo base ends H r T Oh os Zao T' (.tuple #[]) H':=by
 have und:OV Zao:=.inl (.tup .nil fun c hc=>by cases hc)
 unfold clearT at h
 split at h
 ·cases h
  rcases row_inv hx with ⟨_,_,_,_,rfl,_⟩ |⟨hc,_⟩
  ·exact ⟨H,rfl,.keep hG (o:=[]) .und und fun i=>by simp⟩
  ·exact absurd rfl hc
 ·rename_i b off len cap m ag
  have h:cond (Nat.beq len 0) (some T) (Zap (Nat.ble tlo b) (Zco T b fun cs=>Zap (Nat.ble (off+len * m) (Zag cs)) (some (setBox T b (.cells (overG cs off (repG (Zav (ofV z)) len)))))))=some T':=h
  have hn:=Zay (show Nat.beq m n=true from hn)
  subst hn
  obtain ⟨i,hr,rfl,_⟩:=vec_inv hx
  cases hz:Nat.beq len 0 with
  |true=>
   rw [hz] at h
   cases h
   exact ⟨H,by show cond (Nat.beq len 0) _ _=_;rw [hz];rfl,.keep hG (o:=[]) .und und fun i=>by simp⟩
  |false=>
   rw [hz] at h
   obtain ⟨h1,hA⟩:=Zan (show Zap (Nat.ble tlo b) _=some T' from h)
   obtain ⟨cs,hb,hB⟩:=withBox_inv hA
   obtain ⟨h2,h3⟩:=Zan hB
   have h1:=Zaw h1
   have h2:=Zaw h2
   rw [Zat] at h2
   have h2:off+len * m≤cs.length:=h2
   rw [setBox_eq hb] at h3
   cases h3
   obtain ⟨i',s,ds,e',a,w,c,k1,k2,hg,hss,nb,hcc,hw,hcl⟩:=hG.cellsAt hb
   rw [hr] at k1;cases k1
   have hlo:=hG.rlo b i h1 hr
   obtain ⟨z1,_⟩:=zeros_rel (H:=H) (S:=Sof F r Oh os) hp ht len
   obtain ⟨z3,z4⟩:=zero_cells (H:=H) (S:=Sof F r Oh os) hp ht
   have hzl:(repG (Zav (ofV z)) len).length=len * m:=by rw [repG_length,z3.length,hsz]
   refine ⟨H.set i (.cells s (over ds off (zeros (cellsOf z) len)) e'),?_,Res.wrote (o:=[]) hG hb hr hg h1 (by rw [hzl];exact h2) z1.vrl (fun j=>by simp) (NBL.of fun c hc=>(Zcq (z4 c (mem_repG hc))).1) (fun c hc=>(Zcq (z4 c (mem_repG hc))).2) (fun m _ _=>BelL.of fun c hc=>closedC_bel (z4 c (mem_repG hc))) (fun _ _=>.und) und⟩
   show cond (Nat.beq len 0) _ (Zdm H i fun s cs e'=>Zap (Nat.ble lo i) (Zap (Nat.ble (off+len * m) s) (some (H.set i (.cells s (over cs off (zeros (cellsOf z) len)) e')))))=_
   rw [hz]
   show (match H.get i with |some (.cells s cs e)=>_ |_=>none)=_
   rw [hg]
   show Zap (Nat.ble lo i) (Zap (Nat.ble (off+len * m) s) _)=_
   rw [Nat.ble_eq_true_of_le hlo,Nat.ble_eq_true_of_le (by omega)];rfl
 ·cases h
end
end Go.Ev
namespace Go.Ev
structure CallSim (C:TC) (tc:Zbc) (ec:CallF):Prop where
 run:∀ {tlo:Nat} {f:FuncId} {args:List TV} {T:TH} {v:TV} {T':TH},tc tlo f args T=some (v,T')→∀ {F:Nat→Prop} {lo:Nat} {H:AH} {r Oh:List Nat} {vs':List Value},Good C F lo tlo H r T Oh []→VRL H (Sof F r Oh []) r args vs' []→NBL args →
  ∃ v' H',ec lo f vs' H=some (v',H')∧NB v∧Res C F lo tlo T.length true H r T Oh [] v T' v' H'
section
variable {H:AH} {S:Nat→Prop} {r:List Nat}
theorem pass_rel {x:TV} {y:Value} {o:List Nat} (hp:pass x=true) (h:VR H S r x y o) (hv:OV x):o=[]∧NB x:=by
 have hn:NB x:=by
  rcases hv with h1 |h1
  ·exact h1
  ·unfold lent at h1
   split at h1
   ·cases hp
   ·cases hp
   ·exact h1.elim
 cases x with
 |agg cs=>
  have hp:Zbu Zbw cs=true:=hp
  rw [Zds,List.all_eq_true] at hp
  obtain ⟨ds,rfl,h1⟩:=agg_inv h
  exact ⟨(closed_krl hp h1).2,hn⟩
 |row c q n es=>cases q with
  |own e=>cases hp
  |set=>exact ⟨owns_nil h rfl trivial,hn⟩
  |bor=>cases hp
 |tup=>cases hp
 |el q cs off=>exact ⟨owns_nil h rfl trivial,hn⟩
 |_=>exact ⟨owns_nil h rfl trivial,hn⟩
def plainMd (m:Md):Prop:=match m with |.comp _=>False |_=>True
theorem VM.pass {w:Bool}:∀ {ms:List Md} {xs:List TV} {ys:List Value} {os:List Nat},VM w H S r ms xs ys os→(∀ m∈ms,plainMd m)→(∀ x∈xs,Ev.pass x=true)→VRL H S r xs ys []∧NBL xs
 |_,_,_,_,.nil,_,_=>⟨.nil,.nil⟩
 |m::ms,x::xs,y::ys,_,.cons h hv t,hm,hp=>by
  obtain ⟨h1,h2⟩:=VM.pass t (fun m h=>hm m (List.mem_cons_of_mem _ h)) fun x h=>hp x (List.mem_cons_of_mem _ h)
  have hpx:=hp x (List.mem_cons_self ..)
  have hmm:=hm m (List.mem_cons_self ..)
  have:∃ o,VR H S r (wv w x) y o:=by
   cases m with
   |raw=>obtain ⟨_,o,h,_⟩:=h;exact ⟨o,h⟩
   |comp=>exact hmm.elim
   |thaw=>exact ⟨_,by rw [h.2.wv];exact h.1⟩
   |settle=>exact ⟨_,h.2⟩
   |lend=>exact ⟨_,h.2⟩
   |_=>exact ⟨_,h⟩
  obtain ⟨o,hx⟩:=this
  have hn:NB x:=by
   rcases hv with h1 |h1
   ·exact h1
   ·unfold lent at h1
    split at h1
    ·cases hpx
    ·cases hpx
    ·exact h1.elim
  rw [hn.wv] at hx
  obtain ⟨rfl,_⟩:=pass_rel hpx hx hv
  exact ⟨(VRL.cons hx h1:VRL H S r (x::xs) (y::ys) ([]++[])),.cons hn h2⟩
theorem krl_flat {H':AH} {S':Nat→Prop}:∀ {xs:List TV} {ys:List Value},KRL H S xs ys→(∀ c∈xs,isV c=true)→KRL H' S' xs ys
 |_,_,.nil,_=>.nil
 |x::xs,_,.cons h t,hc=>by
  refine .cons ?_ (krl_flat t fun c h=>hc c (List.mem_cons_of_mem _ h))
  have h1:=hc x (List.mem_cons_self ..)
  cases h with
  |v h2 h3=>exact .v h2 h3
  |_=>cases h1
theorem flatE_cells {es:List TV} (h:Zbu flatE es=true):∀ c∈Zbl es,isV c=true:=by
 rw [Zds,List.all_eq_true] at h
 induction es with
 |nil=>intro c hc;rw [flatL_nil] at hc;cases hc
 |cons x es ih=>
  intro c hc
  rw [flatL_cons] at hc
  rcases List.mem_append.1 hc with hc |hc
  ·have hx:=h x (List.mem_cons_self ..)
   cases x with
   |agg cs=>
    have hx:Zbu isV cs=true:=hx
    rw [Zds,List.all_eq_true] at hx
    exact hx c hc
   |v a=>rw [show Zav (TV.v a)=[.v a] from rfl,List.mem_singleton] at hc;subst hc;rfl
   |_=>cases hx
  ·exact ih (fun y hy=>h y (List.mem_cons_of_mem _ hy)) c hc
theorem capV_ok {len cap n:Nat} (h:capV len cap n=true):capOk (cond (Nat.beq len cap) .full .opn) cap len n:=by
 unfold capV at h
 cases hU:Nat.ble UNK cap with
 |true=>
  rw [hU] at h
  cases hb:Nat.beq cap (Nat.add UNK n) with
  |false=>rw [hb] at h;cases h
  |true=>
   rw [hb] at h
   have h:Nat.blt len UNK=true:=h
   rw [Nat.blt_eq] at h
   have:=Zay hb
   have:=Zaw hU
   rw [beqf (by omega)]
   exact .inr ⟨by assumption,h⟩
 |false=>
  rw [hU] at h
  have h:=Zaw (show Nat.ble len cap=true from h)
  have:=lt_of_ble' hU
  cases hb:Nat.beq len cap with
  |true=>have:=Zay hb;exact ⟨by omega,by omega⟩
  |false=>exact .inl ⟨h,by omega⟩
end
section
variable {C:TC} {F:Nat→Prop} {lo tlo base:Nat} {ends:Bool} {H:AH} {r:List Nat} {T:TH} {Oh os:List Nat}
theorem callIn_run {tc:Zbc} {ec:CallF} (hs:CallSim C tc ec) {f:FuncId} {vs:List TV} {β:Type} {k:TV→TH→Option β} {ρ:β} (h:Zbr tc tlo f vs T k=some ρ) :
  ∃ v T',k v T'=some ρ∧(∀ x∈vs,pass x=true)∧∀ {F:Nat→Prop} {lo:Nat} {H:AH} {r Oh os:List Nat} {vs':List Value},Good C F lo tlo H r T Oh os→VRL H (Sof F r Oh os) r vs vs' []→NBL vs→base≤T.length →
   ∃ v' H',ec lo f vs' H=some (v',H')∧Res C F lo tlo base true H r T Oh os v T' v' H':=by
 obtain ⟨h1,hA⟩:=Zan h
 rw [Zds,List.all_eq_true] at h1
 cases hr:tc tlo f vs T with
 |none=>rw [hr] at hA;cases hA
 |some p=>
  rw [hr] at hA
  refine ⟨p.1,p.2,hA,h1,fun {F lo H r Oh os vs'} hG hv hn hb=>?_⟩
  have hG0:Good C F lo tlo H r T Oh []:=hG.less fun i=>by simp
  have hle:∀ i,act r Oh [] i≤act r Oh os i:=fun i=>by unfold act;simp
  obtain ⟨v',H',k1,k2,r',Oh',o,q1,q2,q3,q4,q5,q6⟩:=hs.run hr hG0 (hv.stay (stay_act hle)) hn
  refine ⟨v',H',k1,r',Oh',o,q1,q2,q3,⟨q4.next,fun i hi ha=>q4.same i hi (by have:=hle i;omega),fun i hi=>Nat.le_trans (q4.less i hi) (hle i),q4.pre⟩,fun h=>(by cases h),q6.less hb⟩
theorem inC_run {S':Nat→Prop} {x a:TV} {y:Value} {o:List Nat} {w:Bool} (h:inC T x=some a) (hG:Good C F lo tlo H r T Oh os) (hx:VR H (Sof F r Oh os) r (wv w x) y o) (hw:w=false) (hS:∀ i,Sof F r Oh os i→S' i) (ha:actC x=true→∀ i,S' i):KR H S' a y∧(Zbw a=true∨∃ f,a=.fn f [] []):=by
 subst hw
 have hx:VR H (Sof F r Oh os) r x y o:=hx
 have st:Stay H (Sof F r Oh os) H S':=⟨Nat.le_refl _,fun i _ hs=>⟨hS i hs,rfl⟩⟩
 cases x with
 |v a=>
  cases h
  obtain ⟨rfl,h1,h2,_⟩:=v_inv hx
  exact ⟨.v h1 h2,.inl rfl⟩
 |row c q n es=>
  cases h
  refine ⟨?_,.inl rfl⟩
  rcases row_inv hx with ⟨rfl,_,rfl,rfl,rfl,_⟩ |⟨hc,i,off,cap,s,cs,e,rfl,k1,k2,k3,k4,k5,k6,k7⟩
  ·exact .nil
  ·refine .row k1 ?_ k2 k3 k4 k5 k6 (k7.mono st)
   cases hact:actC (.row c q n es) with
   |true=>exact ha hact i
   |false=>
    have:q=.set:=by
     cases c with
     |nil=>exact absurd rfl hc
     |_=>cases q <;> first |rfl |cases hact
    subst this
    cases hx with
    |k h=>cases h with
     |row _ hi=>exact hS _ hi
 |iface t z=>
  cases h
  obtain ⟨z,rfl,h1,_⟩:=iface_inv hx
  exact ⟨.iface (h1.mono st),.inl rfl⟩
 |vec b off len cap n ag=>
  obtain ⟨es,h1,hA⟩:=Zac (show Zaf (rowsT T b off len n ag) _=some a from h)
  obtain ⟨h2,h3⟩:=Zan hA
  cases h3
  obtain ⟨i,s,ds,e,hr,hg,hs,hf,he,hl,hk⟩:=rowsT_run h1 hG
  obtain ⟨i',hr',rfl,_⟩:=vec_inv hx
  rw [hr] at hr';cases hr'
  subst hl
  exact ⟨.row (capV_ok h2) (ha rfl i) (hG.mem_r (getr_mem hr)).1 hg hs hf he (hk.mono st),.inl rfl⟩
 |fn f first cap=>
  cases first with
  |cons=>cases h
  |nil=>cases cap with
   |cons=>cases h
   |nil=>
    cases h
    refine ⟨?_,.inr ⟨_,rfl⟩⟩
    cases hx with
    |k h=>exact h.mono st
    | @fn f _ _ f' c' h h'=>
     have e1:f'=#[]:=by
      have:=h.length
      exact Array.toList_eq_nil_iff.1 (List.length_eq_zero_iff.1 this.symm)
     have e2:c'=#[]:=by
      have:=h'.length
      exact Array.toList_eq_nil_iff.1 (List.length_eq_zero_iff.1 this.symm)
     subst e1 e2
     exact .fn0
 |_=>cases h
theorem insC_run {S':Nat→Prop}:∀ {xs as:List TV} {ys:List Value} {o:List Nat},insC T xs=some as→Good C F lo tlo H r T Oh os→VRL H (Sof F r Oh os) r xs ys o→(∀ i,Sof F r Oh os i→S' i)→(anyG actC xs=true→∀ i,S' i)→KRL H S' as ys∧∀ a∈as,Zbw a=true∨∃ f,a=.fn f [] []
 |[],as,ys,o,h,hG,hx,hS,ha=>by cases h;cases hx;exact ⟨.nil,fun a h=>by cases h⟩
 |x::xs,as,ys,o,h,hG,hx,hS,ha=>by
  obtain ⟨a,h1,hA⟩:=Zac (show Zaf (inC T x) (fun y=>Zaf (insC T xs) fun l=>some (y::l))=some as from h)
  obtain ⟨l,h2,h3⟩:=Zac hA
  cases h3
  cases hx with
  |cons hx ht=>
   have e:anyG actC (x::xs)=cond (actC x) true (anyG actC xs):=rfl
   obtain ⟨k1,k2⟩:=inC_run (w:=false) h1 hG hx rfl hS fun hh=>ha (by rw [e,hh];rfl)
   obtain ⟨k3,k4⟩:=insC_run h2 hG ht hS fun hh=>ha (by rw [e,hh];cases actC x <;> rfl)
   refine ⟨.cons k1 k3,fun b hb=>?_⟩
   rcases List.mem_cons.1 hb with rfl |hb
   ·exact k2
   ·exact k4 b hb
theorem fn0_nb {a:TV} (h:Zbw a=true∨∃ f,a=.fn f [] []):NB a∧Zcp a:=by
 rcases h with h |⟨f,rfl⟩
 ·exact Zcq h
 ·exact ⟨.fn .nil .nil,trivial⟩
theorem inT_cases (T:TH) (x:TV):(∃ cs,x=.agg cs)∨(inT T x=inC T x∧actT x=actC x):=by cases x <;> first |exact .inl ⟨_,rfl⟩ |exact .inr ⟨rfl,rfl⟩
theorem outT_cases (b:Bool) (T:TH) (x:TV):(∃ cs,x=.agg cs)∨outT b T x=outC b T x:=by cases x <;> first |exact .inl ⟨_,rfl⟩ |exact .inr rfl
theorem outR_cases (b:Bool) (T:TH) (x:TV):(∃ cs,x=.tup cs)∨outR b T x=outT b T x:=by cases x <;> first |exact .inl ⟨_,rfl⟩ |exact .inr rfl
theorem inT_run {S':Nat→Prop} {x a:TV} {y:Value} {o:List Nat} (h:inT T x=some a) (hG:Good C F lo tlo H r T Oh os) (hx:VR H (Sof F r Oh os) r x y o) (hS:∀ i,Sof F r Oh os i→S' i) (ha:actT x=true→∀ i,S' i):VR H S' [] a y []∧NB a:=by
 have cell:∀ {x a:TV},inC T x=some a→VR H (Sof F r Oh os) r x y o→(actC x=true→∀ i,S' i)→VR H S' [] a y []∧NB a:=fun h hx ha=>by
  obtain ⟨k1,k2⟩:=inC_run (w:=false) h hG hx rfl hS ha
  exact ⟨.k k1,(fn0_nb k2).1⟩
 rcases inT_cases T x with ⟨cs,rfl⟩ |⟨e1,e2⟩
 ·obtain ⟨ds,h1,h2⟩:=Zac (show Zaf (insC T cs) (fun ds=>some (TV.agg ds))=some a from h)
  cases h2
  obtain ⟨es,rfl,h3⟩:=agg_inv hx
  obtain ⟨k1,k2⟩:=insC_run h1 hG h3 hS ha
  exact ⟨.agg k1.vrl,.agg (NBL.of fun c hc=>(fn0_nb (k2 c hc)).1) fun c hc=>(fn0_nb (k2 c hc)).2⟩
 ·exact cell (e1 ▸ h) hx (fun hh=>ha (e2.trans hh))
theorem insT_run {S':Nat→Prop}:∀ {ms:List Md} {xs as:List TV} {ys:List Value} {o:List Nat},insT T xs=some as→Good C F lo tlo H r T Oh os→VM false H (Sof F r Oh os) r ms xs ys o→(∀ m∈ms,plainMd m)→(∀ i,Sof F r Oh os i→S' i)→(anyG actT xs=true→∀ i,S' i)→VRL H S' [] as ys []∧NBL as
 |ms,[],as,ys,o,h,hG,hv,hm,hS,ha=>by cases h;cases hv;exact ⟨.nil,.nil⟩
 |ms,x::xs,as,ys,o,h,hG,hv,hm,hS,ha=>by
  cases hv with
  | @cons m _ y _ ms _ ys _ hx hv ht=>
  obtain ⟨a,h1,hA⟩:=Zac (show Zaf (inT T x) (fun y=>Zaf (insT T xs) fun l=>some (y::l))=some as from h)
  obtain ⟨l,h2,h3⟩:=Zac hA
  cases h3
  have e:anyG actT (x::xs)=cond (actT x) true (anyG actT xs):=rfl
  have hmm:=hm m (List.mem_cons_self ..)
  have:∃ o,VR H (Sof F r Oh os) r x y o:=by
   cases m with
   |raw=>obtain ⟨_,o,h,_⟩:=hx;exact ⟨o,h⟩
   |comp=>exact hmm.elim
   |thaw=>exact ⟨_,hx.1⟩
   |settle=>exact ⟨_,hx.2⟩
   |lend=>exact ⟨_,hx.2⟩
   |_=>exact ⟨_,hx⟩
  obtain ⟨o,hx⟩:=this
  obtain ⟨k1,k2⟩:=inT_run h1 hG hx hS fun hh=>ha (by rw [e,hh];rfl)
  obtain ⟨k3,k4⟩:=insT_run h2 hG ht (fun m h=>hm m (List.mem_cons_of_mem _ h)) hS fun hh=>ha (by rw [e,hh];cases actT x <;> rfl)
  exact ⟨(VRL.cons k1 k3:VRL H S' [] (a::l) (y::ys) ([]++[])),.cons k2 k4⟩
theorem outC_run {F':Nat→Prop} {lo' tlo':Nat} {r1 Oh1 o1:List Nat} {T1:TH} {S2:Nat→Prop} {r2:List Nat} {act:Bool} {x a:TV} {y:Value} {o:List Nat} (h:outC act T1 x=some a) (hG:Good C F' lo' tlo' H r1 T1 Oh1 o1) (hx:VR H (Sof F' r1 Oh1 o1) r1 x y o)
  (hS:act=false→∀ i,Sof F' r1 Oh1 o1 i→S2 i) (hr:∀ i∈r1,S2 i):∃ o',VR H S2 r2 a y o'∧(∀ i,o'.count i≤o.count i)∧NB a∧Zcp a:=by
 have st:act=false→Stay H (Sof F' r1 Oh1 o1) H S2:=fun h=>⟨Nat.le_refl _,fun i _ hs=>⟨hS h i hs,rfl⟩⟩
 unfold outC at h
 split at h
 ·cases h
  obtain ⟨rfl,h1,h2,rfl⟩:=v_inv hx
  exact ⟨[],.k (.v h1 h2),fun i=>Nat.le_refl _,.v _,trivial⟩
 ·rename_i c q n es
  cases q with
  |own e=>
   obtain ⟨h1,h2⟩:=Zan h
   cases h2
   cases hx with
   |k h=>cases h
   |own a1 a2 a3 a4 a5 a6=>
    refine ⟨_,.own a1 a2 a3 a4 a5 ?_,fun i=>Nat.le_refl _,.mk_row (by intro h;cases h),trivial⟩
    cases act with
    |true=>exact krl_flat a6 (flatE_cells h1)
    |false=>exact a6.mono (st rfl)
  |set=>
   obtain ⟨h1,h2⟩:=Zan h
   cases h2
   cases hx with
   |k hk=>
    refine ⟨[],.k ?_,fun i=>Nat.le_refl _,.mk_row (by intro h;cases h),trivial⟩
    cases act with
    |false=>exact hk.mono (st rfl)
    |true=>
     have hc:c=.nil:=by cases c <;> first |rfl |cases h1
     subst hc
     cases hk with
     |nil=>exact .nil
     |row hc=>exact hc.elim
  |bor=>cases h
 ·rename_i b off len cap n ag
  obtain ⟨es,h1,hA⟩:=Zac h
  obtain ⟨h2,hB⟩:=Zan hA
  obtain ⟨h3,h4⟩:=Zan hB
  cases h4
  obtain ⟨i,s,ds,e,hri,hg,hs,hf,he,hl,hk⟩:=rowsT_run h1 hG
  obtain ⟨i',hr',rfl,rfl⟩:=vec_inv hx
  rw [hri] at hr';cases hr'
  subst hl
  refine ⟨[],.k (.row (capV_ok h2) (hr i (getr_mem hri)) (hG.mem_r (getr_mem hri)).1 hg hs hf he ?_),fun i=>Nat.le_refl _,.mk_row (by intro h;cases h),trivial⟩
  cases act with
  |true=>exact krl_flat hk (flatE_cells h3)
  |false=>exact hk.mono (st rfl)
 ·obtain ⟨h1,h2⟩:=Zan h
  cases h2
  obtain ⟨z,rfl,h3,rfl⟩:=iface_inv hx
  have:act=false:=by cases act <;> first |rfl |cases h1
  exact ⟨[],.k (.iface (h3.mono (st this))),fun i=>Nat.le_refl _,.iface _ _,trivial⟩
 ·cases h
theorem outsC_run {F':Nat→Prop} {lo' tlo':Nat} {r1 Oh1 o1:List Nat} {T1:TH} {S2:Nat→Prop} {r2:List Nat} {act:Bool} (hG:Good C F' lo' tlo' H r1 T1 Oh1 o1) (hS:act=false→∀ i,Sof F' r1 Oh1 o1 i→S2 i) (hr:∀ i∈r1,S2 i) :
  ∀ {xs as:List TV} {ys:List Value} {o:List Nat},outsC act T1 xs=some as→VRL H (Sof F' r1 Oh1 o1) r1 xs ys o→∃ o',VRL H S2 r2 as ys o'∧(∀ i,o'.count i≤o.count i)∧NBL as∧∀ a∈as,Zcp a
 |[],as,ys,o,h,hx=>by cases h;cases hx;exact ⟨[],.nil,fun i=>Nat.le_refl _,.nil,fun a h=>by cases h⟩
 |x::xs,as,ys,o,h,hx=>by
  obtain ⟨a,h1,hA⟩:=Zac (show Zaf (outC act T1 x) (fun y=>Zaf (outsC act T1 xs) fun l=>some (y::l))=some as from h)
  obtain ⟨l,h2,h3⟩:=Zac hA
  cases h3
  cases hx with
  |cons hx ht=>
   obtain ⟨oa,k1,k2,k3,k4⟩:=outC_run (r2:=r2) h1 hG hx hS hr
   obtain ⟨ol,k5,k6,k7,k8⟩:=outsC_run hG hS hr h2 ht
   refine ⟨_,.cons k1 k5,fun i=>by rw [List.count_append,List.count_append];have:=k2 i;have:=k6 i;omega,.cons k3 k7,fun b hb=>?_⟩
   rcases List.mem_cons.1 hb with rfl |hb
   ·exact k4
   ·exact k8 b hb
theorem cell_comp {x:TV} (h:Zcp x):compish x:=by
 cases x with
 |tup cs=>cases cs <;> first |trivial |exact h
 |_=>trivial
theorem outT_run {F':Nat→Prop} {lo' tlo':Nat} {r1 Oh1 o1:List Nat} {T1:TH} {S2:Nat→Prop} {r2:List Nat} {act:Bool} (hG:Good C F' lo' tlo' H r1 T1 Oh1 o1) (hS:act=false→∀ i,Sof F' r1 Oh1 o1 i→S2 i) (hr:∀ i∈r1,S2 i)
  {x a:TV} {y:Value} {o:List Nat} (h:outT act T1 x=some a) (hx:VR H (Sof F' r1 Oh1 o1) r1 x y o):∃ o',VR H S2 r2 a y o'∧(∀ i,o'.count i≤o.count i)∧NB a∧compish a:=by
 have cell:∀ {x:TV},outC act T1 x=some a→VR H (Sof F' r1 Oh1 o1) r1 x y o→∃ o',VR H S2 r2 a y o'∧(∀ i,o'.count i≤o.count i)∧NB a∧compish a:=fun h hx=>by
  obtain ⟨o',k1,k2,k3,k4⟩:=outC_run (r2:=r2) h hG hx hS hr
  exact ⟨o',k1,k2,k3,cell_comp k4⟩
 rcases outT_cases act T1 x with ⟨cs,rfl⟩ |e1
 ·obtain ⟨ds,h1,h2⟩:=Zac (show Zaf (outsC act T1 cs) (fun ds=>some (TV.agg ds))=some a from h)
  cases h2
  obtain ⟨es,rfl,h3⟩:=agg_inv hx
  obtain ⟨o',k1,k2,k3,k4⟩:=outsC_run (r2:=r2) hG hS hr h1 h3
  exact ⟨o',.agg k1,k2,.agg k3 k4,trivial⟩
 ·exact cell (e1 ▸ h) hx
theorem outsT_run {F':Nat→Prop} {lo' tlo':Nat} {r1 Oh1 o1:List Nat} {T1:TH} {S2:Nat→Prop} {r2:List Nat} {act:Bool} (hG:Good C F' lo' tlo' H r1 T1 Oh1 o1) (hS:act=false→∀ i,Sof F' r1 Oh1 o1 i→S2 i) (hr:∀ i∈r1,S2 i) :
  ∀ {xs as:List TV} {ys:List Value} {o:List Nat},outsT act T1 xs=some as→VRL H (Sof F' r1 Oh1 o1) r1 xs ys o→∃ o',VRL H S2 r2 as ys o'∧(∀ i,o'.count i≤o.count i)∧NBL as∧∀ a∈as,compish a
 |[],as,ys,o,h,hx=>by cases h;cases hx;exact ⟨[],.nil,fun i=>Nat.le_refl _,.nil,fun a h=>by cases h⟩
 |x::xs,as,ys,o,h,hx=>by
  obtain ⟨a,h1,hA⟩:=Zac (show Zaf (outT act T1 x) (fun y=>Zaf (outsT act T1 xs) fun l=>some (y::l))=some as from h)
  obtain ⟨l,h2,h3⟩:=Zac hA
  cases h3
  cases hx with
  |cons hx ht=>
   obtain ⟨oa,k1,k2,k3,k4⟩:=outT_run (r2:=r2) hG hS hr h1 hx
   obtain ⟨ol,k5,k6,k7,k8⟩:=outsT_run hG hS hr h2 ht
   refine ⟨_,.cons k1 k5,fun i=>by rw [List.count_append,List.count_append];have:=k2 i;have:=k6 i;omega,.cons k3 k7,fun b hb=>?_⟩
   rcases List.mem_cons.1 hb with rfl |hb
   ·exact k4
   ·exact k8 b hb
theorem outR_run {F':Nat→Prop} {lo' tlo':Nat} {r1 Oh1 o1:List Nat} {T1:TH} {S2:Nat→Prop} {r2:List Nat} {act:Bool} (hG:Good C F' lo' tlo' H r1 T1 Oh1 o1) (hS:act=false→∀ i,Sof F' r1 Oh1 o1 i→S2 i) (hr:∀ i∈r1,S2 i)
  {x a:TV} {y:Value} {o:List Nat} (h:outR act T1 x=some a) (hx:VR H (Sof F' r1 Oh1 o1) r1 x y o):∃ o',VR H S2 r2 a y o'∧(∀ i,o'.count i≤o.count i)∧NB a:=by
 have comp:∀ {x:TV},outT act T1 x=some a→VR H (Sof F' r1 Oh1 o1) r1 x y o→∃ o',VR H S2 r2 a y o'∧(∀ i,o'.count i≤o.count i)∧NB a:=fun h hx=>by
  obtain ⟨o',k1,k2,k3,k4⟩:=outT_run (r2:=r2) hG hS hr h hx
  exact ⟨o',k1,k2,k3⟩
 rcases outR_cases act T1 x with ⟨cs,rfl⟩ |e1
 rotate_left
 ·exact comp (e1 ▸ h) hx
 ·obtain ⟨ds,h1,h2⟩:=Zac (show Zaf (outsT act T1 cs) (fun ds=>some (TV.tup ds))=some a from h)
  cases h2
  cases cs with
  |nil=>
   cases h1
   exact ⟨[],.und,fun i=>by simp,.tup .nil fun c h=>by cases h⟩
  |cons c cs=>
   obtain ⟨es,rfl,h3⟩:=tup_inv hx
   obtain ⟨o',k1,k2,k3,k4⟩:=outsT_run (r2:=r2) hG hS hr h1 h3
   exact ⟨o',.tup k1,k2,.tup k3 k4⟩
theorem callTree_run {tc:Zbc} {ec:CallF} (hs:CallSim C tc ec) {f:FuncId} {vs:List TV} {v:TV} (h:Zah tc f vs T=some v) {ms:List Md} {ys:List Value} {o:List Nat} (hG:Good C F lo tlo H r T Oh os) (hv:VM false H (Sof F r Oh os) r ms vs ys o) (hm:∀ m∈ms,plainMd m) {lo2:Nat} (hl1:lo≤lo2) (hl2:lo2≤H.next) :
  ∃ v' H',ec lo2 f ys H=some (v',H')∧Res C F lo tlo base ends H r T Oh os v T v' H':=by
 obtain ⟨as,h1,hA⟩:=Zac h
 obtain ⟨ac,hac⟩:∃ ac,ac=anyG actT vs:=⟨_,rfl⟩
 rw [← hac] at hA
 unfold treeT at hA
 cases hr:tc 0 f as [] with
 |none=>rw [hr] at hA;cases hA
 |some p=>
  rw [hr] at hA
  obtain ⟨v1,T1⟩:=p
  have hA:outR ac T1 v1=some v:=hA
  obtain ⟨F',hF'⟩:∃ F':Nat→Prop,F'=fun i=>ac=false∧(F i∨0 < act r Oh os i):=⟨_,rfl⟩
  have hS1:∀ i,Sof F r Oh os i→Sof F' [] [] [] i:=fun i hi=>by
   rw [hF']
   exact ⟨fun h=>h.2.elim hi.1 fun h=>by have:=hi.2;omega,rfl⟩
  have hS2:ac=true→∀ i,Sof F' [] [] [] i:=fun e i=>by
   rw [hF']
   exact ⟨fun h=>by rw [e] at h;exact absurd h.1 (by decide),rfl⟩
  have st1:Stay H (Sof F r Oh os) H (Sof F' [] [] []):=⟨Nat.le_refl _,fun i _ h=>⟨hS1 i h,rfl⟩⟩
  have hG1:Good C F' lo2 0 H [] [] [] []:=by
   refine ⟨fun i=>by unfold act;simp,fun i hi=>by unfold act at hi;simp at hi,fun i hi=>?_,hl2,(fun b i _ h=>by simp at h),(fun i hi=>by cases hi),.nil,fun g cs hg=>?_⟩
   ·rw [hF'] at hi
    exact hi.2.elim (hG.fl i) fun h=>(hG.lt i h).1
   ·obtain ⟨a1,a2,s,ds,e,a3,a4,a5,a6,a7⟩:=hG.tabs g cs hg
    exact ⟨hS1 g a1,a2,s,ds,e,a3,a4,a5,a6,a7.mono st1⟩
  obtain ⟨k1,k2⟩:=insT_run h1 hG hv hm hS1 fun h=>hS2 (hac.trans h)
  obtain ⟨v',H',q0,_,r1,Oh1,o1,q1,q2,q3,q4,_,_⟩:=hs.run hr hG1 k1 k2
  have new:∀ i,0 < act r1 Oh1 o1 i→H.next≤i:=fun i hi=>by
   rcases Nat.lt_or_ge i H.next with h |h
   ·have:=q4.less i h
    have:act [] [] [] i=0:=rfl
    omega
   ·exact h
  have old:∀ i,i < H.next→H'.get i=H.get i:=fun i hi=>q4.same i hi rfl
  have hfresh:∀ i,H.next≤i→act r Oh os i=0∧¬ F i:=fun i hi=>⟨hG.act_fresh hi,fun h=>by have:=hG.fl i h;omega⟩
  have hgen:∀ o2:List Nat,(∀ i,o2.count i≤o1.count i)→(ac=false→∀ i,Sof F' r1 Oh1 o1 i→Sof F r Oh o2 i)∧∀ i∈r1,Sof F r Oh o2 i:=by
   intro o2 ho2
   constructor
   ·intro e i hi
    have h1:¬ F i∧act r Oh os i=0:=by
     have:=hi.1
     rw [hF'] at this
     refine ⟨fun h=>this ⟨e,.inl h⟩,?_⟩
     rcases Nat.eq_zero_or_pos (act r Oh os i) with h |h
     ·exact h
     ·exact absurd ⟨e,.inr h⟩ this
    refine ⟨h1.1,?_⟩
    have h2:=hi.2
    have h3:=ho2 i
    unfold act at *
    omega
   ·intro i hi
    have h2:=q1.mem_r hi
    have h3:=new i (by unfold act;have:=h2.2.2.1;omega)
    have h4:=hfresh i h3
    refine ⟨h4.2,?_⟩
    have h5:=ho2 i
    unfold act at *
    omega
  obtain ⟨o2,u1,u2,u3⟩:∃ o2,VR H' (Sof F r Oh o2) r v v' o2∧(∀ i,o2.count i≤o1.count i)∧NB v:=by
   obtain ⟨o2,w1,w2,w3⟩:=outR_run (r2:=r) (S2:=fun i=>¬ F i∧r.count i+Oh.count i=0∧o1.count i=0) (act:=ac) q1 (fun e i hi=>by
    have h1:=(hgen o1 fun _=>Nat.le_refl _).1 e i hi
    have h2:=h1.2
    unfold act at h2
    exact ⟨h1.1,by omega,by omega⟩) (fun i hi=>by
    have h1:=(hgen o1 fun _=>Nat.le_refl _).2 i hi
    have h2:=h1.2
    unfold act at h2
    exact ⟨h1.1,by omega,by omega⟩) hA q2
   refine ⟨o2,stay_same ⟨Nat.le_refl _,fun i _ hi=>⟨⟨hi.1,?_⟩,rfl⟩⟩ w1,w2,w3⟩
   have:=w2 i
   have:=hi.2
   unfold act
   omega
  have cnt:∀ i,i < H.next→o2.count i=0:=fun i hi=>by
   rcases Nat.eq_zero_or_pos (o2.count i) with h |h
   ·exact h
   ·have:=u2 i
    have:=new i (by unfold act;omega)
    omega
  have m:Mv H r Oh os H' r Oh o2:=⟨q4.next,fun i hi _=>old i hi,fun i hi=>by have:=cnt i hi;unfold act;omega,fun _ _ h=>h⟩
  have st:=m.stay (F:=F)
  refine ⟨v',H',q0,r,Oh,o2,hG.next m (fun i hi=>?_) hG.rlo (fun i hi=>Nat.le_trans hl1 (q1.xlo i (Zax.1 (by have:=u2 i;have:=Zax.2 hi;omega)))) (hG.heap.mono st (fun _ _ h=>h) (fun j hj=>old j (hG.mem_r hj).1) fun j hj=>old j (hG.mem_o hj).1),u1,.inl u3,m,fun _ i hi hr=>⟨hr,old i hi⟩,.refl _ _⟩
  have h1:=hG.act_fresh hi
  have h2:=u2 i
  have h3:=q1.nd i
  have h4:=q1.lt i
  unfold act at *
  exact ⟨by omega,fun h=>(h4 (by omega)).1⟩
end
end Go.Ev
namespace Go.Ev
def OpSim (P:Program) (C:TC) (tc:Zbc) (ec:CallF) (keep res:List Tmp) (ops:List Oper) (tlo base:Nat) (T:TH) (o:Oper):Prop:=
 ∀ {vs:List TV} {β:Type} {k:TV→TH→Option β} {ρ:β},operT P C tc keep res ops tlo base o.dst T o.op vs k=some ρ→vs.length=(Zbs P C keep res ops o).length →
  ∃ v T',k v T'=some ρ∧∀ {F:Nat→Prop} {lo:Nat} {H:AH} {r Oh os:List Nat} {Ev:Env} {ys:List Value},Good C F lo tlo H r T Oh os →
   VM (anyG (fun p:Md×Operand=>Zby p.1) (Zbs P C keep res ops o)) H (Sof F r Oh os) r ((Zbs P C keep res ops o).map (·.1)) vs ys os→evxs P Ev ((Zbs P C keep res ops o).map (·.2))=some ys→base≤T.length →
   ∃ v' H',(∀ {γ:Type} (k':Value→AH→Option γ),evOper P ec lo Ev H o.op k'=k' v' H')∧Res C F lo tlo base (endsT P C keep res ops o) H r T Oh os v T' v' H'
section
variable {P:Program} {C:TC} {tc:Zbc} {ec:CallF} {keep res:List Tmp} {ops:List Oper} {tlo base:Nat} {T:TH}
theorem evxs_cons {E:Env} {x:Operand} {xs:List Operand} {ys:List Value} (h:evxs P E (x::xs)=some ys):∃ y l,ys=y::l∧evx P E x=some y∧evxs P E xs=some l:=by
 obtain ⟨y,h1,hA⟩:=Zac (show Zaf (evx P E x) (fun v=>Zaf (evxs P E xs) fun vs=>some (v::vs))=some ys from h)
 obtain ⟨l,h2,h3⟩:=Zac hA
 cases h3
 exact ⟨y,l,rfl,h1,h2⟩
theorem evxs_nil {E:Env} {ys:List Value} (h:evxs P E []=some ys):ys=[]:=by cases h;rfl
theorem evxs_mk {E:Env} {x:Operand} {xs:List Operand} {y:Value} {l:List Value} (h:evx P E x=some y) (t:evxs P E xs=some l):evxs P E (x::xs)=some (y::l):=by
 show Zaf (evx P E x) _=_
 rw [h,Zai,t];rfl
theorem VM.cons_inv {w:Bool} {H:AH} {S:Nat→Prop} {r:List Nat} {m:Md} {ms:List Md} {xs:List TV} {ys:List Value} {os:List Nat} (h:VM w H S r (m::ms) xs ys os):∃ x xs' y ys' ox os',xs=x::xs'∧ys=y::ys'∧os=ox++os'∧RdR w m H S r x y ox∧OV x∧VM w H S r ms xs' ys' os':=by
 cases h with
 |cons h hv t=>exact ⟨_,_,_,_,_,_,rfl,rfl,rfl,h,hv,t⟩
theorem VM.nil_inv {w:Bool} {H:AH} {S:Nat→Prop} {r:List Nat} {xs:List TV} {ys:List Value} {os:List Nat} (h:VM w H S r [] xs ys os):xs=[]∧ys=[]∧os=[]:=by
 cases h;exact ⟨rfl,rfl,rfl⟩
theorem cnt_left (a b:List Nat):∀ j,a.count j≤(a++b).count j:=fun j=>by rw [List.count_append];omega
theorem VM.takes {H:AH} {S:Nat→Prop} {r:List Nat} {α:Type}:∀ {l:List α} {xs:List TV} {ys:List Value} {os:List Nat},VM false H S r (l.map fun _=>Md.take) xs ys os→VRL H S r xs ys os∧∀ x∈xs,OV x
 |[],xs,ys,os,h=>by obtain ⟨rfl,rfl,rfl⟩:=h.nil_inv;exact ⟨.nil,fun x h=>by cases h⟩
 |a::l,xs,ys,os,h=>by
  obtain ⟨x,xs',y,ys',ox,os',rfl,rfl,rfl,h1,h2,h3⟩:=VM.cons_inv h
  obtain ⟨k1,k2⟩:=VM.takes h3
  refine ⟨.cons h1 k1,fun z hz=>?_⟩
  rcases List.mem_cons.1 hz with rfl |hz
  ·exact h2
  ·exact k2 z hz
theorem VM.settles {H:AH} {S:Nat→Prop} {r:List Nat} {α:Type}:∀ {l:List α} {xs:List TV} {ys:List Value} {os:List Nat},VM false H S r (l.map fun _=>Md.settle) xs ys os→VRL H S r xs ys []∧∀ x∈xs,OV x
 |[],xs,ys,os,h=>by obtain ⟨rfl,rfl,rfl⟩:=h.nil_inv;exact ⟨.nil,fun x h=>by cases h⟩
 |a::l,xs,ys,os,h=>by
  obtain ⟨x,xs',y,ys',ox,os',rfl,rfl,rfl,h1,h2,h3⟩:=VM.cons_inv h
  obtain ⟨k1,k2⟩:=VM.settles h3
  refine ⟨(VRL.cons h1.2 k1:VRL H S r (x::xs') (y::ys') ([]++[])),fun z hz=>?_⟩
  rcases List.mem_cons.1 hz with rfl |hz
  ·exact h2
  ·exact k2 z hz
theorem length_two {α:Type} {l:List α} (h:l.length=2):∃ a b,l=[a,b]:=by
 cases l with
 |nil=>cases h
 |cons a l=>cases l with
  |nil=>cases h
  |cons b l=>cases l with
   |nil=>exact ⟨a,b,rfl⟩
   |cons=>cases h
theorem VM.raws {H:AH} {S:Nat→Prop} {r:List Nat} {α:Type}:∀ {l:List α} {xs:List TV} {ys:List Value} {os:List Nat},VM false H S r (l.map fun _=>Md.raw) xs ys os→All2 (fun x y=>∃ o,VR H S r x y o) xs ys∧os=[]
 |[],xs,ys,os,h=>by obtain ⟨rfl,rfl,rfl⟩:=h.nil_inv;exact ⟨.nil,rfl⟩
 |a::l,xs,ys,os,h=>by
  obtain ⟨x,xs',y,ys',ox,os',rfl,rfl,rfl,h1,h2,h3⟩:=VM.cons_inv h
  obtain ⟨k1,rfl⟩:=VM.raws h3
  obtain ⟨rfl,o,h4,_⟩:=h1
  exact ⟨.cons ⟨o,h4⟩ k1,rfl⟩
theorem map_fst {α:Type} (m:Md) (f:α→Operand) (l:List α):(l.map fun x=>(m,f x)).map (·.1)=l.map fun _=>m:=by rw [List.map_map];rfl
theorem map_snd {α:Type} (m:Md) (f:α→Operand) (l:List α):(l.map fun x=>(m,f x)).map (·.2)=l.map f:=by rw [List.map_map];rfl
theorem any_thaw {α:Type} {m:Md} (hm:Zby m=false) (f:α→Operand):∀ l:List α,anyG (fun p:Md×Operand=>Zby p.1) (l.map fun x=>(m,f x))=false
 |[]=>rfl
 |x::l=>by
  show cond (Zby m) true (anyG _ (l.map fun x=>(m,f x)))=false
  rw [hm,any_thaw hm f l];rfl
variable {dst:Option Tmp} {ty:TypeId} {pos:String} {after:Array Edge} {guard:Option (Nat×Bool)}
theorem mvMd_cases (P:Program) (C:TC) (keep res:List Tmp) (ops:List Oper) (dst:Option Tmp) (x:Operand):mvMd P C keep res ops dst x=.take∨mvMd P C keep res ops dst x=.settle∨mvMd P C keep res ops dst x=.lend∨∃ n ag,mvMd P C keep res ops dst x=.thaw n ag:=by
 unfold mvMd
 split
 ·split
  ·split
   ·exact .inr (.inr (.inr ⟨_,_,rfl⟩))
   ·rename_i t _ d _ _
    cases keep.contains d with
    |true=>
     show cond (res.contains d || !keep.contains t) Md.take Md.settle=_∨_
     cases (res.contains d || !keep.contains t) with
     |true=>exact .inl rfl
     |false=>exact .inr (.inl rfl)
    |false=>
     show useMd _=_∨_
     unfold useMd
     split
     ·exact .inr (.inr (.inl rfl))
     ·exact .inr (.inl rfl)
     ·exact .inl rfl
  ·exact .inl rfl
 ·exact .inl rfl
theorem VM.moved {m:Md} (hm:m=.take∨m=.settle∨m=.lend∨∃ n ag,m=.thaw n ag) {x:Operand} {H:AH} {S:Nat→Prop} {r:List Nat} {a:TV} {ys:List Value} {os:List Nat} (h:VM (anyG (fun p:Md×Operand=>Zby p.1) [(m,x)]) H S r [m] [a] ys os):∃ y,ys=[y]∧VR H S r a y os∧OV a:=by
 rcases hm with rfl |rfl |rfl |⟨n,ag,rfl⟩
 ·obtain ⟨_,_,y,_,ox,_,e1,rfl,rfl,h1,h2,h3⟩:=VM.cons_inv (w:=false) (m:=.take) (ms:=[]) h
  obtain ⟨rfl,rfl,rfl⟩:=h3.nil_inv
  cases e1
  exact ⟨y,rfl,by rw [List.append_nil];exact h1,h2⟩
 ·obtain ⟨_,_,y,_,ox,_,e1,rfl,rfl,h1,h2,h3⟩:=VM.cons_inv (w:=false) (m:=.settle) (ms:=[]) h
  obtain ⟨rfl,rfl,rfl⟩:=h3.nil_inv
  cases e1
  obtain ⟨rfl,h1⟩:=h1
  exact ⟨y,rfl,h1,h2⟩
 ·obtain ⟨_,_,y,_,ox,_,e1,rfl,rfl,h1,h2,h3⟩:=VM.cons_inv (w:=false) (m:=.lend) (ms:=[]) h
  obtain ⟨rfl,rfl,rfl⟩:=h3.nil_inv
  cases e1
  obtain ⟨rfl,h1⟩:=h1
  exact ⟨y,rfl,h1,h2⟩
 ·obtain ⟨_,_,y,_,ox,_,e1,rfl,rfl,h1,h2,h3⟩:=VM.cons_inv (w:=true) (m:=.thaw n ag) (ms:=[]) h
  obtain ⟨rfl,rfl,rfl⟩:=h3.nil_inv
  cases e1
  exact ⟨y,rfl,by rw [List.append_nil];exact h1.1,h2⟩
theorem sim_move (x:Operand):OpSim P C tc ec keep res ops tlo base T ⟨dst,.move x,ty,pos,after,guard⟩:=by
 intro vs β k ρ h hl
 obtain ⟨a,rfl⟩:∃ a,vs=[a]:=List.length_eq_one_iff.1 hl
 refine ⟨a,T,h,fun {F lo H r Oh os Ev ys} hG hV he hb=>?_⟩
 obtain ⟨y,rfl,h1,h2⟩:=VM.moved (mvMd_cases P C keep res ops dst x) hV
 obtain ⟨_,_,e2,h4,_⟩:=evxs_cons (x:=x) (xs:=[]) he
 cases e2
 refine ⟨y,H,fun k'=>?_,.keep hG h1 h2 fun _=>Nat.le_refl _⟩
 show Zaf (evx P Ev x) _=_
 rw [h4];rfl
theorem sim_assign (x:Operand):OpSim P C tc ec keep res ops tlo base T ⟨dst,.assign x,ty,pos,after,guard⟩:=by
 intro vs β k ρ h hl
 obtain ⟨a,rfl⟩:∃ a,vs=[a]:=List.length_eq_one_iff.1 hl
 refine ⟨a,T,h,fun {F lo H r Oh os Ev ys} hG hV he hb=>?_⟩
 obtain ⟨y,rfl,h1,h2⟩:=VM.moved (mvMd_cases P C keep res ops dst x) hV
 obtain ⟨_,_,e2,h4,_⟩:=evxs_cons (x:=x) (xs:=[]) he
 cases e2
 refine ⟨y,H,fun k'=>?_,.keep hG h1 h2 fun _=>Nat.le_refl _⟩
 show Zaf (evx P Ev x) _=_
 rw [h4];rfl
theorem sim_pick (c a b:Operand):OpSim P C tc ec keep res ops tlo base T ⟨dst,.pick c a b,ty,pos,after,guard⟩:=by
 intro vs β k ρ h hl
 have h:(match (generalizing:=false) vs with |[c,a,b]=>Zaa (Zch c a b) fun v=>k v T |_=>none)=some ρ:=h
 split at h
 ·rename_i tc' ta tb
  obtain ⟨v,h1,h2⟩:=Zau h
  unfold Zch at h1
  split at h1
  ·rename_i t
   cases h1
   refine ⟨_,T,h2,fun {F lo H r Oh os Ev ys} hG hV he hb=>?_⟩
   obtain ⟨_,_,y1,_,o1,_,e1,rfl,rfl,q1,_,hV⟩:=VM.cons_inv (w:=false) (m:=.raw) (ms:=[.settle,.settle]) hV
   cases e1
   obtain ⟨_,_,y2,_,o2,_,e1,rfl,rfl,q2,p2,hV⟩:=VM.cons_inv hV
   cases e1
   obtain ⟨_,_,y3,_,o3,_,e1,rfl,rfl,q3,p3,hV⟩:=VM.cons_inv hV
   obtain ⟨rfl,rfl,rfl⟩:=hV.nil_inv
   cases e1
   obtain ⟨rfl,o,q1,_⟩:=q1
   obtain ⟨rfl,_⟩:=v_inv (show VR H _ r (.v (.bool t)) y1 o from q1)
   obtain ⟨_,_,e2,k1,he⟩:=evxs_cons (x:=c) (xs:=[a,b]) he
   cases e2
   obtain ⟨_,_,e2,k2,he⟩:=evxs_cons he
   cases e2
   obtain ⟨_,_,e2,k3,he⟩:=evxs_cons he
   cases e2
   refine ⟨cond t y2 y3,H,fun k'=>?_,?_⟩
   ·show Zaf (evx P Ev c) _=_
    rw [k1,Zai,k2,Zai,k3];rfl
   ·cases t with
    |true=>exact .keep hG q2.2 p2 fun j=>by simp
    |false=>exact .keep hG q3.2 p3 fun j=>by simp
  ·cases h1
 ·cases h
theorem sim_alloc (e:TypeId):OpSim P C tc ec keep res ops tlo base T ⟨dst,.alloc e,ty,pos,after,guard⟩:=by
 intro vs β k ρ h hl
 obtain ⟨i,h1,hA⟩:=Zac (show Zaf (tyI P e) (fun i=>Zaf (zeroT i) fun z=>k (.ptr (Zag T) 0) (Zaq T (.cells (Zav (ofV z)))))=some ρ from h)
 obtain ⟨z,h2,h3⟩:=Zac hA
 obtain ⟨z1,z2,z3⟩:=zeroT_eq h2
 refine ⟨_,_,h3,fun {F lo H r Oh os Ev ys} hG hV he hb=>⟨newPtr H,pushBox H e z,fun k'=>?_,alloc_run z2 z3 hG hb⟩⟩
 show Zaf (tyI P e) _=_
 rw [h1,Zai,z1];rfl
theorem sim_box (e:TypeId) (x:Operand):OpSim P C tc ec keep res ops tlo base T ⟨dst,.box e x,ty,pos,after,guard⟩:=by
 intro vs β k ρ h hl
 obtain ⟨a,rfl⟩:∃ a,vs=[a]:=List.length_eq_one_iff.1 hl
 obtain ⟨h0,h⟩:=Zan (show Zap (stor a) (k (.ptr (Zag T) 0) (Zaq T (.cells (Zav a))))=some ρ from h)
 refine ⟨_,_,h,fun {F lo H r Oh os Ev ys} hG hV he hb=>?_⟩
 obtain ⟨_,_,y,_,ox,_,e1,rfl,rfl,h1,h2,h3⟩:=VM.cons_inv (w:=false) (m:=.take) (ms:=[]) hV
 obtain ⟨rfl,rfl,rfl⟩:=h3.nil_inv
 cases e1
 obtain ⟨_,_,e2,h4,_⟩:=evxs_cons (x:=x) (xs:=[]) he
 cases e2
 refine ⟨newPtr H,pushBox H e y,fun k'=>?_,box_run h0 h2 h1 (cnt_left _ _) hG hb⟩
 show Zaf (evx P Ev x) _=_
 rw [h4];rfl
theorem sim_build (t:TypeId) (parts:Array (Nat×Operand)):OpSim P C tc ec keep res ops tlo base T ⟨dst,.build t parts,ty,pos,after,guard⟩:=by
 intro vs β k ρ h hl
 have hl:vs.length=parts.toList.length:=by simpa [Zbs] using hl
 obtain ⟨v,h1,h2⟩:=buildT_run (show buildT P t (parts.toList.map (·.1)) vs (fun v=>k v T)=some ρ from h) hl
 refine ⟨v,T,h1,fun {F lo H r Oh os Ev ys} hG hV he hb=>?_⟩
 have e1:Zbs P C keep res ops ⟨dst,.build t parts,ty,pos,after,guard⟩=parts.toList.map fun p=>(.take,p.2):=rfl
 rw [e1,map_fst,any_thaw rfl] at hV
 rw [e1,map_snd] at he
 obtain ⟨q1,q2⟩:=VM.takes hV
 obtain ⟨v',o',q3,q4,q5,q6⟩:=h2 q1 q2 he
 exact ⟨v',H,fun k'=>q3 _,.keep hG q4 q6 q5⟩
theorem sim_buildSlice (t:TypeId) (len:Nat) (parts:Array (Nat×Operand)):OpSim P C tc ec keep res ops tlo base T ⟨dst,.buildSlice t len parts,ty,pos,after,guard⟩:=by
 intro vs β k ρ h hl
 have hl:vs.length=parts.toList.length:=by simpa [Zbs] using hl
 obtain ⟨v,h1,h2⟩:=litT_run (tlo:=tlo) (base:=base) (show litT P t len (parts.toList.map (·.1)) vs (fun v=>k v T)=some ρ from h) hl
 refine ⟨v,T,h1,fun {F lo H r Oh os Ev ys} hG hV he hb=>?_⟩
 have e1:Zbs P C keep res ops ⟨dst,.buildSlice t len parts,ty,pos,after,guard⟩=parts.toList.map fun p=>(.settle,p.2):=rfl
 rw [e1,map_fst,any_thaw rfl] at hV
 rw [e1,map_snd] at he
 obtain ⟨q1,q2⟩:=VM.settles hV
 obtain ⟨v',H',q3,q4⟩:=h2 hG q1 he
 exact ⟨v',H',fun k'=>q3 k',q4⟩
theorem VM.raw1 {H:AH} {S:Nat→Prop} {r:List Nat} {E:Env} {x:Operand} {ms:List Md} {xs:List Operand} {a:TV} {vs:List TV} {ys:List Value} {os:List Nat} (h:VM false H S r (.raw::ms) (a::vs) ys os) (he:evxs P E (x::xs)=some ys) :
  ∃ y ys' o,ys=y::ys'∧evx P E x=some y∧VR H S r a y o∧(∀ j∈o,j ∉ r)∧OV a∧VM false H S r ms vs ys' os∧evxs P E xs=some ys':=by
 obtain ⟨_,_,y,ys',ox,_,e1,rfl,rfl,h1,h2,h3⟩:=VM.cons_inv h
 cases e1
 obtain ⟨rfl,o,h4,h5⟩:=h1
 obtain ⟨_,_,e2,k1,k2⟩:=evxs_cons he
 cases e2
 exact ⟨y,ys',o,rfl,k1,h4,h5 rfl,h2,h3,k2⟩
theorem sim_load (t:TypeId) (a:Operand):OpSim P C tc ec keep res ops tlo base T ⟨dst,.load t a,ty,pos,after,guard⟩:=by
 intro vs β k ρ h hl
 obtain ⟨x,rfl⟩:∃ a,vs=[a]:=List.length_eq_one_iff.1 hl
 obtain ⟨i,h1,hA⟩:=Zac (show Zaf (tyI P t) (fun i=>Zbg (ldMode P C keep res ops t dst) tlo base i.agg i.size T x k)=some ρ from h)
 obtain ⟨v,T',h2,h3⟩:=loadT_run hA
 refine ⟨v,T',h2,fun {F lo H r Oh os Ev ys} hG hV he hb=>?_⟩
 obtain ⟨y,_,o,rfl,k1,k2,_,_,k3,_⟩:=VM.raw1 hV he
 obtain ⟨v',q1,q2⟩:=h3 (ends:=endsT P C keep res ops ⟨dst,.load t a,ty,pos,after,guard⟩) hG k2 (fun h=>h) hb
 refine ⟨v',H,fun k'=>?_,q2⟩
 show Zaf (evx P Ev a) _=_
 rw [k1,Zai,h1,Zai,q1];rfl
theorem sim_store (t:TypeId) (a x:Operand):OpSim P C tc ec keep res ops tlo base T ⟨dst,.store t a x,ty,pos,after,guard⟩:=by
 intro vs β k ρ h hl
 obtain ⟨va,vx,rfl⟩:∃ a b,vs=[a,b]:=length_two hl
 obtain ⟨i,h1,hA⟩:=Zac (show Zaf (tyI P t) (fun i=>Zaa (Zas tlo base i.size T va vx) fun H=>k Zao H)=some ρ from h)
 obtain ⟨T',h2,h3⟩:=Zau hA
 refine ⟨Zao,T',h3,fun {F lo H r Oh os Ev ys} hG hV he hb=>?_⟩
 obtain ⟨y,_,o,rfl,k1,k2,_,_,k3,he⟩:=VM.raw1 hV he
 obtain ⟨_,_,y2,_,ox,_,e1,rfl,rfl,q1,q2,q3⟩:=VM.cons_inv k3
 obtain ⟨rfl,rfl,rfl⟩:=q3.nil_inv
 cases e1
 obtain ⟨_,_,e2,k4,_⟩:=evxs_cons he
 cases e2
 obtain ⟨H',q4,q5⟩:=storeT_run (ends:=endsT P C keep res ops ⟨dst,.store t a x,ty,pos,after,guard⟩) (base:=base) h2 hG k2 q1 q2 (cnt_left _ _)
 refine ⟨undef,H',fun k'=>?_,q5⟩
 show Zaf (evx P Ev a) _=_
 rw [k1,Zai,k4,Zai,h1,Zai,q4];rfl
theorem sim_nilCheck (x:Operand):OpSim P C tc ec keep res ops tlo base T ⟨dst,.nilCheck x,ty,pos,after,guard⟩:=by
 intro vs β k ρ h hl
 obtain ⟨a,rfl⟩:∃ a,vs=[a]:=List.length_eq_one_iff.1 hl
 obtain ⟨v,h1,h2⟩:=Zau (show Zaa (nilCkT a) (fun v=>k v T)=some ρ from h)
 refine ⟨v,T,h2,fun {F lo H r Oh os Ev ys} hG hV he hb=>?_⟩
 obtain ⟨y,_,o,rfl,k1,k2,_,k5,k3,_⟩:=VM.raw1 hV he
 have hv:v=a∧evNil y=some y∧o=[]:=by
  unfold nilCkT at h1
  split at h1
  ·cases h1
   obtain ⟨i,_,rfl,e⟩:=ptr_inv k2
   exact ⟨rfl,rfl,e⟩
  ·cases h1
   cases k2 with
   |k h=>cases h
   |elS=>exact ⟨rfl,rfl,rfl⟩
   |elB=>exact ⟨rfl,rfl,rfl⟩
  ·cases h1
 obtain ⟨rfl,hn,rfl⟩:=hv
 refine ⟨y,H,fun k'=>?_,.keep hG k2 k5 fun j=>by simp⟩
 show Zaf (evx P Ev x) _=_
 rw [k1,Zai,hn];rfl
theorem sim_binOp (op:BinOp) (t:TypeId) (x y:Operand) (t2:TypeId):OpSim P C tc ec keep res ops tlo base T ⟨dst,.binOp op t x y t2,ty,pos,after,guard⟩:=by
 intro vs β k ρ h hl
 obtain ⟨va,vx,rfl⟩:∃ a b,vs=[a,b]:=length_two hl
 obtain ⟨u,h1,h2,h3⟩:=binT_run (show binT P op t va vx (fun v=>k v T)=some ρ from h)
 refine ⟨.v u,T,h1,fun {F lo H r Oh os Ev ys} hG hV he hb=>?_⟩
 obtain ⟨y1,_,o,rfl,k1,k2,_,_,k3,he⟩:=VM.raw1 hV he
 obtain ⟨y2,_,o2,rfl,k4,k5,_,_,k6,he⟩:=VM.raw1 k3 he
 refine ⟨u,H,fun k'=>?_,.flat hG (scal_flat h2).1 (scal_flat h2).2⟩
 show Zaf (evx P Ev x) _=_
 rw [k1,Zai,k4,Zai]
 exact h3 k2 k5 _
theorem sim_unOp (op:UnOp) (t:TypeId) (x:Operand):OpSim P C tc ec keep res ops tlo base T ⟨dst,.unOp op t x,ty,pos,after,guard⟩:=by
 intro vs β k ρ h hl
 obtain ⟨a,rfl⟩:∃ a,vs=[a]:=List.length_eq_one_iff.1 hl
 obtain ⟨u,h1,h2,h3⟩:=unT_run (show unT op a (fun v=>k v T)=some ρ from h)
 refine ⟨.v u,T,h1,fun {F lo H r Oh os Ev ys} hG hV he hb=>?_⟩
 obtain ⟨y1,_,o,rfl,k1,k2,_,_,k3,he⟩:=VM.raw1 hV he
 refine ⟨u,H,fun k'=>?_,.flat hG (scal_flat h2).1 (scal_flat h2).2⟩
 show Zaf (evx P Ev x) _=_
 rw [k1,Zai]
 exact h3 k2 _
theorem sim_convert (s d:TypeId) (x:Operand):OpSim P C tc ec keep res ops tlo base T ⟨dst,.convert s d x,ty,pos,after,guard⟩:=by
 intro vs β k ρ h hl
 obtain ⟨a,rfl⟩:∃ a,vs=[a]:=List.length_eq_one_iff.1 hl
 obtain ⟨i1,h1,hA⟩:=Zac (show Zaf (tyI P s) (fun _=>Zaf (tyI P d) fun i=>Zaf (intOf i.desc) fun q=>Zaa (b1 (evConv q) a) fun v=>k v T)=some ρ from h)
 obtain ⟨i2,h2,hB⟩:=Zac hA
 obtain ⟨q,h3,hC⟩:=Zac hB
 obtain ⟨v,h4,h5⟩:=Zau hC
 obtain ⟨a',u,rfl,h6,rfl⟩:=b1_inv h4
 refine ⟨.v u,T,h5,fun {F lo H r Oh os Ev ys} hG hV he hb=>?_⟩
 obtain ⟨y1,_,o,rfl,k1,k2,_,_,k3,he⟩:=VM.raw1 hV he
 obtain ⟨rfl,_⟩:=v_inv k2
 have hs:scal u=true:=by
  unfold evConv at h6
  split at h6 <;> cases h6
  rfl
 refine ⟨u,H,fun k'=>?_,.flat hG (scal_flat hs).1 (scal_flat hs).2⟩
 show Zaf (evx P Ev x) _=_
 rw [k1,Zai,h1,Zai,h2,Zai,h3,Zai,h6];rfl
theorem evxs_append {E:Env}:∀ {xs zs:List Operand} {ys:List Value},evxs P E (xs++zs)=some ys→∃ a b,ys=a++b∧evxs P E xs=some a∧evxs P E zs=some b∧a.length=xs.length
 |[],zs,ys,h=>⟨[],ys,rfl,rfl,h,rfl⟩
 |x::xs,zs,ys,h=>by
  obtain ⟨y,l,rfl,h1,h2⟩:=evxs_cons (xs:=xs++zs) h
  obtain ⟨a,b,rfl,h3,h4,h5⟩:=evxs_append h2
  exact ⟨y::a,b,rfl,evxs_mk h1 h3,h4,by simp [h5]⟩
theorem sim_makeFunc (fn:Fn) (first captured:Array Operand):OpSim P C tc ec keep res ops tlo base T ⟨dst,.makeFunc fn first captured,ty,pos,after,guard⟩:=by
 intro vs β k ρ h hl
 obtain ⟨h0,h⟩:=Zan (show Zap (Zbu pass vs) (k (.fn fn (Zdg vs first.size) (dropG vs first.size)) T)=some ρ from h)
 rw [Zds,List.all_eq_true] at h0
 rw [Zct,dropG_eq] at h
 refine ⟨_,T,h,fun {F lo H r Oh os Ev ys} hG hV he hb=>?_⟩
 have e1:Zbs P C keep res ops ⟨dst,.makeFunc fn first captured,ty,pos,after,guard⟩=(first.toList++captured.toList).map fun x=>(.settle,x):=rfl
 rw [e1,map_fst,any_thaw rfl] at hV
 rw [e1,map_snd,List.map_id'] at he
 obtain ⟨q1,q2⟩:=VM.pass hV (fun m hm=>by obtain ⟨_,_,rfl⟩:=List.mem_map.1 hm;trivial) h0
 obtain ⟨a,b,rfl,k1,k2,k3⟩:=evxs_append he
 have hlen:=q1.length
 have hfs:first.size≤vs.length:=by rw [hlen,List.length_append,k3];simp
 rw [← List.take_append_drop first.size vs] at q1
 obtain ⟨a',b',o1,o2,e2,e3,q3,q4⟩:=q1.split
 have hoo:o1=[]∧o2=[]:=by
  have:=congrArg List.length e3
  simp at this
  exact ⟨List.length_eq_zero_iff.1 (by omega),List.length_eq_zero_iff.1 (by omega)⟩
 obtain ⟨rfl,rfl⟩:=hoo
 have hl1:a'.length=first.size:=by rw [← q3.length,List.length_take];omega
 have hl2:a.length=first.size:=by simpa using k3
 have hab:a=a'∧b=b':=List.append_inj e2 (by omega)
 obtain ⟨rfl,rfl⟩:=hab
 refine ⟨.func fn ⟨a⟩ ⟨b⟩,H,fun k'=>?_,.keep (o:=[]) hG (.fn q3 q4) (.inl (.fn (NBL.of fun x hx=>q2.mem x (List.mem_of_mem_take hx)) (NBL.of fun x hx=>q2.mem x (List.mem_of_mem_drop hx)))) fun j=>by simp⟩
 show Zaf (evxs P Ev first.toList) _=_
 rw [k1,Zai,k2];rfl
theorem sim_makeMap (t:TypeId) (x:Option Operand):OpSim P C tc ec keep res ops tlo base T ⟨dst,.makeMap t x,ty,pos,after,guard⟩:=by
 intro vs β k ρ h hl
 have hres:∀ {F:Nat→Prop} {lo:Nat} {H:AH} {r Oh os:List Nat},Good C F lo tlo H r T Oh os→base≤T.length→Res C F lo tlo base (endsT P C keep res ops ⟨dst,.makeMap t x,ty,pos,after,guard⟩) H r T Oh os (.map (Zag T)) (Zaq T (.map [])) (.map (some H.next)) (H.push (.map [] 0)):=by
  intro F lo H r Oh os hG hb
  rw [Zat]
  exact Res.box (w:=[]) hG hb (fun i=>by simp) (fun S r' st _=>.map (by rw [AH.get_push,if_pos rfl]) .nil) (fun S r' hr=>.map hr) (.inl (.map _))
 cases x with
 |none=>
  refine ⟨_,_,(show k (.map (Zag T)) (Zaq T (.map []))=some ρ from h),fun {F lo H r Oh os Ev ys} hG hV he hb=>⟨.map (some H.next),H.push (.map [] 0),fun k'=>rfl,hres hG hb⟩⟩
 |some x=>
  obtain ⟨a,rfl⟩:∃ a,vs=[a]:=List.length_eq_one_iff.1 hl
  obtain ⟨i1,h1,hA⟩:=Zac (show Zaf (tyI P t) (fun i=>Zaf (mapOf i.desc) fun _=>Zaf (toV a) fun a=>Zaa (asInt? a) fun _=>k (.map (Zag T)) (Zaq T (.map [])))=some ρ from h)
  obtain ⟨i2,h2,hB⟩:=Zac hA
  obtain ⟨a',h3,hC⟩:=Zac hB
  obtain ⟨p,h4,h5⟩:=Zau hC
  refine ⟨_,_,h5,fun {F lo H r Oh os Ev ys} hG hV he hb=>⟨.map (some H.next),H.push (.map [] 0),fun k'=>?_,hres hG hb⟩⟩
  obtain ⟨y1,_,o,rfl,k1,k2,_,_,k3,he⟩:=VM.raw1 hV he
  have:=toV_eq h3 k2
  subst this
  show Zaf (evx P Ev x) _=_
  rw [k1,Zai,h1,Zai,h2,Zai,h4];rfl
theorem sim_makeSlice (t:TypeId) (l c:Operand):OpSim P C tc ec keep res ops tlo base T ⟨dst,.makeSlice t l c,ty,pos,after,guard⟩:=by
 intro vs β k ρ h hl
 obtain ⟨va,vx,rfl⟩:∃ a b,vs=[a,b]:=length_two hl
 obtain ⟨v,T',h1,h2⟩:=makeT_run (tlo:=tlo) (base:=base) (show makeT P T t va vx k=some ρ from h)
 refine ⟨v,T',h1,fun {F lo H r Oh os Ev ys} hG hV he hb=>?_⟩
 obtain ⟨y1,_,o,rfl,k1,k2,_,_,k3,he⟩:=VM.raw1 hV he
 obtain ⟨y2,_,o2,rfl,k4,k5,_,_,k6,he⟩:=VM.raw1 k3 he
 obtain ⟨v',H',q1,q2⟩:=h2 hG k2 k5 hb
 refine ⟨v',H',fun k'=>?_,q2⟩
 show Zaf (evx P Ev l) _=_
 rw [k1,Zai,k4,Zai];exact q1 k'
theorem VM.opt {H:AH} {S:Nat→Prop} {r:List Nat} {E:Env} {b:Option Operand} {l:List (Md×Operand)} {vs:List TV} {p:Option TV×List TV} {ys:List Value} {os:List Nat} (h:VM false H S r ((optMd b++l).map (·.1)) vs ys os) (he:evxs P E ((optMd b++l).map (·.2))=some ys) (hp:optVs b vs=some p) :
  ∃ b' ys',boundX P E b=some b'∧BR H S r p.1 b'∧VM false H S r (l.map (·.1)) p.2 ys' os∧evxs P E (l.map (·.2))=some ys':=by
 cases b with
 |none=>cases hp;exact ⟨none,ys,rfl,.absent,h,he⟩
 |some o=>
  cases vs with
  |nil=>cases hp
  |cons v vs=>
   cases hp
   obtain ⟨y,ys',o',rfl,k1,k2,_,_,k3,k4⟩:=VM.raw1 (ms:=l.map (·.1)) (xs:=l.map (·.2)) h he
   refine ⟨some y,ys',?_,.given k2,k3,k4⟩
   show Zaf (evx P E o) _=_
   rw [k1];rfl
theorem optMd_thaw (b:Option Operand) (l:List (Md×Operand)):anyG (fun p:Md×Operand=>Zby p.1) (optMd b++l)=anyG (fun p:Md×Operand=>Zby p.1) l:=by cases b <;> rfl
theorem sim_slice (t:TypeId) (x:Operand) (lo0 hi0 mx0:Option Operand):OpSim P C tc ec keep res ops tlo base T ⟨dst,.slice t x lo0 hi0 mx0,ty,pos,after,guard⟩:=by
 intro vs β k ρ h hl
 obtain ⟨md,hmd⟩:∃ md:Md,md=(match (generalizing:=false) dst with |some d=>cond (keep.contains d) .settle .raw |none=>.raw):=⟨_,rfl⟩
 have hmd2:md=.settle∨md=.raw:=by
  rw [hmd]
  clear hmd
  cases dst with
  |none=>exact .inr rfl
  |some d=>
   show cond (keep.contains d) Md.settle .raw=.settle∨cond (keep.contains d) Md.settle .raw=.raw
   cases keep.contains d with
   |true=>exact .inl rfl
   |false=>exact .inr rfl
 have e1:Zbs P C keep res ops ⟨dst,.slice t x lo0 hi0 mx0,ty,pos,after,guard⟩=(md,x)::(optMd lo0++(optMd hi0++(optMd mx0++[]))):=by rw [hmd,List.append_nil];rfl
 cases vs with
 |nil=>rw [e1] at hl;cases hl
 |cons a vs=>
  obtain ⟨p,h1,hA⟩:=Zac (show Zaf (optVs lo0 vs) (fun p=>Zaf (optVs hi0 p.2) fun q=>Zaf (optVs mx0 q.2) fun r=>sliceT P t a p.1 q.1 r.1 fun v=>k v T)=some ρ from h)
  obtain ⟨q,h2,hB⟩:=Zac hA
  obtain ⟨s,h3,hC⟩:=Zac hB
  obtain ⟨i,h4,hD⟩:=Zac (show Zaf (tyI P t) _=some ρ from hC)
  have reads:∀ {F:Nat→Prop} {lo:Nat} {H:AH} {r Oh os:List Nat} {Ev:Env} {ys:List Value},Good C F lo tlo H r T Oh os →
    VM (anyG (fun p:Md×Operand=>Zby p.1) (Zbs P C keep res ops ⟨dst,.slice t x lo0 hi0 mx0,ty,pos,after,guard⟩)) H (Sof F r Oh os) r ((Zbs P C keep res ops ⟨dst,.slice t x lo0 hi0 mx0,ty,pos,after,guard⟩).map (·.1)) (a::vs) ys os →
    evxs P Ev ((Zbs P C keep res ops ⟨dst,.slice t x lo0 hi0 mx0,ty,pos,after,guard⟩).map (·.2))=some ys →
    ∃ y o lo' hi' mx',evx P Ev x=some y∧VR H (Sof F r Oh os) r a y o∧(∀ j∈o,j ∉ r)∧boundX P Ev lo0=some lo'∧boundX P Ev hi0=some hi'∧boundX P Ev mx0=some mx'∧BR H (Sof F r Oh os) r p.1 lo'∧BR H (Sof F r Oh os) r q.1 hi'∧BR H (Sof F r Oh os) r s.1 mx':=by
   intro F lo H r Oh os Ev ys hG hV he
   have e2:anyG (fun p:Md×Operand=>Zby p.1) ((md,x)::(optMd lo0++(optMd hi0++(optMd mx0++[]))))=false:=by
    show cond (Zby md) true (anyG (fun p:Md×Operand=>Zby p.1) (optMd lo0++(optMd hi0++(optMd mx0++[]))))=false
    rw [optMd_thaw,optMd_thaw,optMd_thaw]
    rcases hmd2 with rfl |rfl <;> rfl
   rw [e1] at hV he
   rw [e2] at hV
   obtain ⟨_,_,y,ys',ox,os',q0,rfl,rfl,q1,q2,q3⟩:=VM.cons_inv (ms:=(optMd lo0++(optMd hi0++(optMd mx0++[]))).map fun (p:Md×Operand)=>p.1) hV
   cases q0
   obtain ⟨_,_,e3,k1,he⟩:=evxs_cons (xs:=(optMd lo0++(optMd hi0++(optMd mx0++[]))).map fun (p:Md×Operand)=>p.2) he
   cases e3
   obtain ⟨lo',ys1,r1,r2,r3,r4⟩:=VM.opt q3 he h1
   obtain ⟨hi',ys2,r5,r6,r7,r8⟩:=VM.opt r3 r4 h2
   obtain ⟨mx',ys3,r9,r10,_,_⟩:=VM.opt r7 r8 h3
   have hx:∃ o,VR H (Sof F r Oh (ox++os')) r a y o∧∀ j∈o,j ∉ r:=by
    rcases hmd2 with e |e
    ·rw [e] at q1
     exact ⟨[],q1.2,fun j hj=>by cases hj⟩
    ·rw [e] at q1
     obtain ⟨_,o,q4,q5⟩:=q1
     exact ⟨o,q4,q5 rfl⟩
   obtain ⟨o,q4,q5⟩:=hx
   exact ⟨y,o,lo',hi',mx',k1,q4,q5,r1,r5,r9,r2,r6,r10⟩
  have fin:∀ {v:TV} {ev:Value→Option Value→Option Value→Option Value→Option Value},k v T=some ρ→(∀ {H:AH} {S:Nat→Prop} {r:List Nat} {y:Value} {o:List Nat} {lo' hi' mx':Option Value},VR H S r a y o→(∀ j∈o,j ∉ r)→BR H S r p.1 lo'→BR H S r q.1 hi'→BR H S r s.1 mx'→∃ y',ev y lo' hi' mx'=some y'∧VR H S r v y' []∧OV v) →
    (∀ (E:Env) (y:Value) (lo' hi' mx':Option Value),boundX P E lo0=some lo'→boundX P E hi0=some hi'→boundX P E mx0=some mx'→∀ {γ:Type} (k':Value→Option γ),opSlice P E t y lo0 hi0 mx0 k'=Zaa (ev y lo' hi' mx') k') →
    ∃ v T',k v T'=some ρ∧∀ {F:Nat→Prop} {lo:Nat} {H:AH} {r Oh os:List Nat} {Ev:Env} {ys:List Value},Good C F lo tlo H r T Oh os →
     VM (anyG (fun p:Md×Operand=>Zby p.1) (Zbs P C keep res ops ⟨dst,.slice t x lo0 hi0 mx0,ty,pos,after,guard⟩)) H (Sof F r Oh os) r ((Zbs P C keep res ops ⟨dst,.slice t x lo0 hi0 mx0,ty,pos,after,guard⟩).map (·.1)) (a::vs) ys os →
     evxs P Ev ((Zbs P C keep res ops ⟨dst,.slice t x lo0 hi0 mx0,ty,pos,after,guard⟩).map (·.2))=some ys→base≤T.length →
     ∃ v' H',(∀ {γ:Type} (k':Value→AH→Option γ),evOper P ec lo Ev H (.slice t x lo0 hi0 mx0) k'=k' v' H')∧Res C F lo tlo base (endsT P C keep res ops ⟨dst,.slice t x lo0 hi0 mx0,ty,pos,after,guard⟩) H r T Oh os v T' v' H':=by
   intro v ev hk hcut hop
   refine ⟨v,T,hk,fun {F lo H r Oh os Ev ys} hG hV he hb=>?_⟩
   obtain ⟨y,o,lo',hi',mx',q1,q2,q3,q4,q5,q6,q7,q8,q9⟩:=reads hG hV he
   obtain ⟨y',u1,u2,u3⟩:=hcut q2 q3 q7 q8 q9
   refine ⟨y',H,fun k'=>?_,.keep hG u2 u3 fun j=>by simp⟩
   show Zaf (evx P Ev x) _=_
   rw [q1,Zai,hop Ev y lo' hi' mx' q4 q5 q6,u1];rfl
  split at hD
  ·rename_i len e hd
   obtain ⟨j,h5,hE⟩:=Zac hD
   obtain ⟨v,h6,h7⟩:=Zau hE
   refine fin (ev:=fun y lo hi mx=>evCutArr j.size len y lo hi mx) h7 (fun hx _ hl hh hm=>cutArrT_run h6 hx hl hh hm) fun E y lo' hi' mx' b1 b2 b3 γ k'=>?_
   show Zaf (boundX P E lo0) _=_
   rw [b1,Zai,b2,Zai,b3,Zai,h4,Zai,hd]
   show Zaf (tyI P e) _=_
   rw [h5];rfl
  ·rename_i e hd
   obtain ⟨j,h5,hE⟩:=Zac hD
   obtain ⟨v,h6,h7⟩:=Zau hE
   refine fin (ev:=fun y lo hi mx=>evCut j.size y lo hi mx) h7 (fun hx ho hl hh hm=>cutT_run h6 hx ho hl hh hm) fun E y lo' hi' mx' b1 b2 b3 γ k'=>?_
   show Zaf (boundX P E lo0) _=_
   rw [b1,Zai,b2,Zai,b3,Zai,h4,Zai,hd]
   show Zaf (tyI P e) _=_
   rw [h5];rfl
  ·cases hD
theorem sim_fieldAddr (t:TypeId) (x:Operand) (f:Nat):OpSim P C tc ec keep res ops tlo base T ⟨dst,.fieldAddr t x f,ty,pos,after,guard⟩:=by
 intro vs β k ρ h hl
 obtain ⟨a,rfl⟩:∃ a,vs=[a]:=List.length_eq_one_iff.1 hl
 obtain ⟨i,h1,hA⟩:=Zac (show Zaf (tyI P t) (fun i=>Zaf (structOf i.desc) fun fs=>Zaf (fieldPlaces P fs f) fun p=>cond (Nat.beq p.2 0) none (Zaa (Zar a p.1) fun v=>k v T))=some ρ from h)
 obtain ⟨fs,h2,hB⟩:=Zac hA
 obtain ⟨p,h3,hC⟩:=Zac hB
 cases hz:Nat.beq p.2 0 with
 |true=>rw [hz] at hC;cases hC
 |false=>
  rw [hz] at hC
  obtain ⟨v,h4,h5⟩:=Zau (show Zaa (Zar a p.1) (fun v=>k v T)=some ρ from hC)
  refine ⟨v,T,h5,fun {F lo H r Oh os Ev ys} hG hV he hb=>?_⟩
  obtain ⟨y,_,o,rfl,k1,k2,_,_,k3,_⟩:=VM.raw1 hV he
  obtain ⟨y',q1,q2,q3,_⟩:=shiftT_run h4 k2
  refine ⟨y',H,fun k'=>?_,.keep hG q2 q3 fun j=>by simp⟩
  show Zaf (evx P Ev x) _=_
  rw [k1,Zai]
  show Zaf (tyI P t) _=_
  rw [h1,Zai,h2,Zai,h3,Zai,hz,q1];rfl
theorem sim_field (t:TypeId) (x:Operand) (f:Nat):OpSim P C tc ec keep res ops tlo base T ⟨dst,.field t x f,ty,pos,after,guard⟩:=by
 intro vs β k ρ h hl
 obtain ⟨a,rfl⟩:∃ a,vs=[a]:=List.length_eq_one_iff.1 hl
 obtain ⟨i,h1,hA⟩:=Zac (show Zaf (tyI P t) (fun i=>Zaf (structOf i.desc) fun fs=>Zaf (nth fs f) fun fd=>Zaf (tyI P fd.type) fun j=>Zaa (partT j.agg j.size a fd.offset) fun v=>k v T)=some ρ from h)
 obtain ⟨fs,h2,hB⟩:=Zac hA
 obtain ⟨fd,h3,hC⟩:=Zac hB
 obtain ⟨j,h4,hD⟩:=Zac hC
 obtain ⟨v,h5,h6⟩:=Zau hD
 refine ⟨v,T,h6,fun {F lo H r Oh os Ev ys} hG hV he hb=>?_⟩
 obtain ⟨_,_,y,_,ox,_,e1,rfl,rfl,q1,q2,q3⟩:=VM.cons_inv (w:=false) (m:=.settle) (ms:=[]) hV
 obtain ⟨rfl,rfl,rfl⟩:=q3.nil_inv
 cases e1
 obtain ⟨_,_,e2,k1,_⟩:=evxs_cons (x:=x) (xs:=[]) he
 cases e2
 have hox:VR H (Sof F r Oh (ox++[])) r a y []:=q1.2
 obtain ⟨y',u1,u2,u3⟩:=partT_run h5 hox q2
 refine ⟨y',H,fun k'=>?_,.keep hG u2 u3 fun j=>by simp⟩
 show Zaf (evx P Ev x) _=_
 rw [k1,Zai]
 show Zaf (tyI P t) _=_
 rw [h1,Zai,h2,Zai,h3,Zai,h4,Zai,u1];rfl
end
end Go.Ev
namespace Go.Ev
section
variable {P:Program} {C:TC} {tc:Zbc} {ec:CallF} {keep res:List Tmp} {ops:List Oper} {tlo base:Nat} {T:TH}
variable {dst:Option Tmp} {ty:TypeId} {pos:String} {after:Array Edge} {guard:Option (Nat×Bool)}
theorem VM.settle1 {H:AH} {S:Nat→Prop} {r:List Nat} {E:Env} {x:Operand} {ms:List Md} {xs:List Operand} {a:TV} {vs:List TV} {ys:List Value} {os:List Nat} (h:VM false H S r (.settle::ms) (a::vs) ys os) (he:evxs P E (x::xs)=some ys) :
  ∃ y ys',ys=y::ys'∧evx P E x=some y∧VR H S r a y []∧OV a∧VM false H S r ms vs ys' os∧evxs P E xs=some ys':=by
 obtain ⟨_,_,y,ys',ox,_,e1,rfl,rfl,h1,h2,h3⟩:=VM.cons_inv h
 cases e1
 obtain ⟨rfl,h4⟩:=h1
 obtain ⟨_,_,e2,k1,k2⟩:=evxs_cons he
 cases e2
 exact ⟨y,ys',rfl,k1,h4,h2,h3,k2⟩
theorem sim_indexAddr (t:TypeId) (x ix:Operand):OpSim P C tc ec keep res ops tlo base T ⟨dst,.indexAddr t x ix,ty,pos,after,guard⟩:=by
 intro vs β k ρ h hl
 obtain ⟨va,vx,rfl⟩:=length_two hl
 obtain ⟨md,hmd⟩:∃ md:Md,md=cond (match (generalizing:=false) dst with |some d=>feedsStore ops 4 d |none=>false) (.thaw (Zcn P t).1 (Zcn P t).2) .raw:=⟨_,rfl⟩
 have hmd2:md=.thaw (Zcn P t).1 (Zcn P t).2∨md=.raw:=by
  rw [hmd]
  cases (match (generalizing:=false) dst with |some d=>feedsStore ops 4 d |none=>false) with
  |true=>exact .inl rfl
  |false=>exact .inr rfl
 have e1:Zbs P C keep res ops ⟨dst,.indexAddr t x ix,ty,pos,after,guard⟩=[(md,x),(.raw,ix)]:=by rw [hmd];rfl
 obtain ⟨i,h4,hD⟩:=Zac (show Zaf (tyI P t) (fun i=>match i.desc with |.array len e=>Zaf (tyI P e) fun j=>Zaa (Zbj len j.size va vx) fun v=>k v T |.slice e=>Zaf (tyI P e) fun j=>Zaa (Zbn j.size va vx) fun v=>k v T |_=>none)=some ρ from h)
 have reads:∀ {F:Nat→Prop} {lo:Nat} {H:AH} {r Oh os:List Nat} {Ev:Env} {ys:List Value},Good C F lo tlo H r T Oh os →
   VM (anyG (fun p:Md×Operand=>Zby p.1) (Zbs P C keep res ops ⟨dst,.indexAddr t x ix,ty,pos,after,guard⟩)) H (Sof F r Oh os) r ((Zbs P C keep res ops ⟨dst,.indexAddr t x ix,ty,pos,after,guard⟩).map (·.1)) [va,vx] ys os →
   evxs P Ev ((Zbs P C keep res ops ⟨dst,.indexAddr t x ix,ty,pos,after,guard⟩).map (·.2))=some ys →
   ∃ y iy o o',evx P Ev x=some y∧evx P Ev ix=some iy∧VR H (Sof F r Oh os) r va y o∧(∀ j∈o,j ∉ r)∧VR H (Sof F r Oh os) r vx iy o':=by
  intro F lo H r Oh os Ev ys hG hV he
  rw [e1] at hV he
  obtain ⟨_,_,y,ys',ox,os',q0,rfl,rfl,q1,q2,q3⟩:=VM.cons_inv (ms:=[.raw]) hV
  cases q0
  obtain ⟨_,_,e3,k1,he⟩:=evxs_cons (x:=x) (xs:=[ix]) he
  cases e3
  obtain ⟨_,_,iy,_,oy,_,q0,rfl,rfl,q4,q5,q6⟩:=VM.cons_inv q3
  obtain ⟨rfl,rfl,rfl⟩:=q6.nil_inv
  cases q0
  obtain ⟨_,_,e3,k2,he⟩:=evxs_cons he
  cases e3
  obtain ⟨rfl,o',q7,_⟩:=q4
  have num:∃ a,vx=.v a:=by
   split at hD
   ·obtain ⟨j,h5,hE⟩:=Zac hD
    obtain ⟨v,h6,h7⟩:=Zau hE
    obtain ⟨n,h8,_⟩:=Zac h6
    obtain ⟨a,rfl,_⟩:=asNatT_inv h8
    exact ⟨a,rfl⟩
   ·obtain ⟨j,h5,hE⟩:=Zac hD
    obtain ⟨v,h6,h7⟩:=Zau hE
    obtain ⟨n,h8,_⟩:=Zac h6
    obtain ⟨a,rfl,_⟩:=asNatT_inv h8
    exact ⟨a,rfl⟩
   ·cases hD
  obtain ⟨a,rfl⟩:=num
  rw [wv_v] at q7
  rcases hmd2 with e |e
  ·rw [e] at q1
   obtain ⟨q8,q9⟩:=q1
   refine ⟨y,iy,ox,o',k1,k2,q8,fun j hj hr=>?_,q7⟩
   have:=(hG.mem_r hr).2.2.2.2
   rw [List.count_append] at this
   have:=Zax.2 hj
   omega
  ·rw [e] at q1
   obtain ⟨_,o,q8,q9⟩:=q1
   exact ⟨y,iy,o,o',k1,k2,q8,q9 rfl,q7⟩
 split at hD
 ·rename_i len e hd
  obtain ⟨j,h5,hE⟩:=Zac hD
  obtain ⟨v,h6,h7⟩:=Zau hE
  refine ⟨v,T,h7,fun {F lo H r Oh os Ev ys} hG hV he hb=>?_⟩
  obtain ⟨y,iy,o,o',q1,q2,q3,q4,q5⟩:=reads hG hV he
  obtain ⟨y',u1,u2,u3⟩:=idxArrT_run h6 q3 q5
  refine ⟨y',H,fun k'=>?_,.keep hG u2 u3 fun j=>by simp⟩
  show Zaf (evx P Ev x) _=_
  rw [q1,Zai,q2,Zai]
  show Zaf (tyI P t) _=_
  rw [h4,Zai,hd]
  show Zaf (tyI P e) _=_
  rw [h5,Zai,u1];rfl
 ·rename_i e hd
  obtain ⟨j,h5,hE⟩:=Zac hD
  obtain ⟨v,h6,h7⟩:=Zau hE
  refine ⟨v,T,h7,fun {F lo H r Oh os Ev ys} hG hV he hb=>?_⟩
  obtain ⟨y,iy,o,o',q1,q2,q3,q4,q5⟩:=reads hG hV he
  obtain ⟨y',u1,u2,u3⟩:=idxSlT_run h6 q3 q4 q5
  refine ⟨y',H,fun k'=>?_,.keep hG u2 u3 fun j=>by simp⟩
  show Zaf (evx P Ev x) _=_
  rw [q1,Zai,q2,Zai]
  show Zaf (tyI P t) _=_
  rw [h4,Zai,hd]
  show Zaf (tyI P e) _=_
  rw [h5,Zai,u1];rfl
 ·cases hD
theorem sim_index (t:TypeId) (x ix:Operand):OpSim P C tc ec keep res ops tlo base T ⟨dst,.index t x ix,ty,pos,after,guard⟩:=by
 intro vs β k ρ h hl
 obtain ⟨va,vx,rfl⟩:=length_two hl
 obtain ⟨i,h4,hD⟩:=Zac (show Zaf (tyI P t) (fun i=>match i.desc with |.array len e=>Zaf (tyI P e) fun j=>Zaa (idxValT j.agg len j.size va vx) fun v=>k v T |.string=>Zaa (idxStrT va vx) fun v=>k v T |_=>none)=some ρ from h)
 split at hD
 ·rename_i len e hd
  obtain ⟨j,h5,hE⟩:=Zac hD
  obtain ⟨v,h6,h7⟩:=Zau hE
  obtain ⟨n,h8,hF⟩:=Zac h6
  obtain ⟨h9,h10⟩:=Zan hF
  obtain ⟨a,rfl,ha⟩:=asNatT_inv h8
  refine ⟨v,T,h7,fun {F lo H r Oh os Ev ys} hG hV he hb=>?_⟩
  obtain ⟨y,_,rfl,k1,k2,k3,hV,he⟩:=VM.settle1 hV he
  obtain ⟨iy,_,o,rfl,k4,k5,_,_,_,_⟩:=VM.raw1 hV he
  obtain ⟨rfl,_⟩:=v_inv k5
  obtain ⟨y',u1,u2,u3⟩:=partT_run h10 k2 k3
  refine ⟨y',H,fun k'=>?_,.keep hG u2 u3 fun j=>by simp⟩
  show Zaf (evx P Ev x) _=_
  rw [k1,Zai,k4,Zai]
  show Zaf (tyI P t) _=_
  rw [h4,Zai,hd]
  show Zaf (tyI P e) _=_
  rw [h5,Zai]
  show Zaa (Zaf (asNat _) _) _=_
  rw [ha]
  show Zaa (Zap (Nat.blt n len) _) _=_
  rw [h9]
  show Zaa (evPart j.agg j.size y (n * j.size)) _=_
  rw [show evPart j.agg j.size y (n * j.size)=some y' from u1];rfl
 ·rename_i hd
  obtain ⟨v,h6,h7⟩:=Zau hD
  obtain ⟨a,b,u,rfl,rfl,h8,rfl⟩:=b2_inv h6
  refine ⟨.v u,T,h7,fun {F lo H r Oh os Ev ys} hG hV he hb=>?_⟩
  obtain ⟨y,_,rfl,k1,k2,k3,hV,he⟩:=VM.settle1 hV he
  obtain ⟨iy,_,o,rfl,k4,k5,_,_,_,_⟩:=VM.raw1 hV he
  obtain ⟨rfl,_⟩:=v_inv k2
  obtain ⟨rfl,_⟩:=v_inv k5
  have hs:scal u=true:=by
   obtain ⟨n,_,hF⟩:=Zac (show Zaf (asNat _) _=some u from h8)
   split at hF
   ·obtain ⟨b,_,h⟩:=Zac hF
    cases h;rfl
   ·cases hF
  refine ⟨u,H,fun k'=>?_,.flat hG (scal_flat hs).1 (scal_flat hs).2⟩
  show Zaf (evx P Ev x) _=_
  rw [k1,Zai,k4,Zai]
  show Zaf (tyI P t) _=_
  rw [h4,Zai,hd]
  show Zaa (evIdxStr _ _) _=_
  rw [h8];rfl
 ·cases hD
theorem sim_lookup (t:TypeId) (x key:Operand) (ok:Bool):OpSim P C tc ec keep res ops tlo base T ⟨dst,.lookup t x key ok,ty,pos,after,guard⟩:=by
 intro vs β k ρ h hl
 obtain ⟨va,vx,rfl⟩:=length_two hl
 obtain ⟨i,h1,hA⟩:=Zac (show opLookupT P T t va vx ok (fun v=>k v T)=some ρ from h)
 obtain ⟨p,h2,hB⟩:=Zac hA
 obtain ⟨q,h3,hC⟩:=Zac hB
 obtain ⟨j,h4,hD⟩:=Zac hC
 obtain ⟨z,h5,hE⟩:=Zac hD
 obtain ⟨v,h6,h7⟩:=Zau hE
 obtain ⟨z1,z2,z3⟩:=zeroT_eq h5
 refine ⟨v,T,h7,fun {F lo H r Oh os Ev ys} hG hV he hb=>?_⟩
 obtain ⟨y1,_,o,rfl,k1,k2,_,_,k3,he⟩:=VM.raw1 hV he
 obtain ⟨y2,_,o2,rfl,k4,k5,_,_,k6,he⟩:=VM.raw1 k3 he
 obtain ⟨v',u1,u2,u3⟩:=lookupT_run h6 z2 z3 hG k2 k5
 refine ⟨v',H,fun k'=>?_,.keep hG u2 u3 fun j=>by simp⟩
 show Zaf (evx P Ev x) _=_
 rw [k1,Zai,k4,Zai]
 show Zaf (tyI P t) _=_
 rw [h1,Zai,h2,Zai,h3,Zai,h4,Zai,z1,Zai,u1];rfl
theorem sim_mapUpdate (t:TypeId) (m key x:Operand):OpSim P C tc ec keep res ops tlo base T ⟨dst,.mapUpdate t m key x,ty,pos,after,guard⟩:=by
 intro vs β k ρ h hl
 have h:(match (generalizing:=false) vs with |[m,key,x]=>opUpdateT P tlo T t m key x fun H=>k Zao H |_=>none)=some ρ:=h
 split at h
 ·rename_i vm vk vx
  obtain ⟨i,h1,hA⟩:=Zac h
  obtain ⟨p,h2,hB⟩:=Zac hA
  obtain ⟨q,h3,hC⟩:=Zac hB
  obtain ⟨T',h4,h5⟩:=Zau hC
  refine ⟨Zao,T',h5,fun {F lo H r Oh os Ev ys} hG hV he hb=>?_⟩
  obtain ⟨y1,_,o,rfl,k1,k2,_,_,k3,he⟩:=VM.raw1 hV he
  obtain ⟨y2,_,o2,rfl,k4,k5,_,_,k6,he⟩:=VM.raw1 k3 he
  obtain ⟨y3,_,rfl,k7,k8,k9,_,_⟩:=VM.settle1 k6 he
  obtain ⟨H',u1,u2⟩:=updateT_run (base:=base) (ends:=endsT P C keep res ops ⟨dst,.mapUpdate t m key x,ty,pos,after,guard⟩) h4 hG k2 k5 k8
  refine ⟨undef,H',fun k'=>?_,u2⟩
  show Zaf (evx P Ev m) _=_
  rw [k1,Zai,k4,Zai,k7,Zai]
  show Zaf (tyI P t) _=_
  rw [h1,Zai,h2,Zai,h3,Zai,u1];rfl
 ·cases h
theorem sim_extract (x:Operand) (i:Nat):OpSim P C tc ec keep res ops tlo base T ⟨dst,.extract x i,ty,pos,after,guard⟩:=by
 intro vs β k ρ h hl
 obtain ⟨a,rfl⟩:∃ a,vs=[a]:=List.length_eq_one_iff.1 hl
 refine ⟨a,T,h,fun {F lo H r Oh os Ev ys} hG hV he hb=>?_⟩
 obtain ⟨_,_,y,_,ox,_,e1,rfl,rfl,q1,q2,q3⟩:=VM.cons_inv (w:=false) (m:=.comp i) (ms:=[]) hV
 obtain ⟨rfl,rfl,rfl⟩:=q3.nil_inv
 cases e1
 obtain ⟨_,_,e2,k1,_⟩:=evxs_cons (x:=x) (xs:=[]) he
 cases e2
 obtain ⟨ds,yz,rfl,q4,q5⟩:=q1
 refine ⟨yz,H,fun k'=>?_,.keep hG q5 q2 (cnt_left _ _)⟩
 show Zaf (evx P Ev x) _=_
 rw [k1,Zai]
 show Zaa (nth ds.toList i) _=_
 rw [Zcb,q4];rfl
theorem sim_makeInterface (t:TypeId) (x:Operand):OpSim P C tc ec keep res ops tlo base T ⟨dst,.makeInterface t x,ty,pos,after,guard⟩:=by
 intro vs β k ρ h hl
 obtain ⟨a,rfl⟩:∃ a,vs=[a]:=List.length_eq_one_iff.1 hl
 obtain ⟨i,h1,hA⟩:=Zac (show Zaf (tyI P t) (fun i=>Zap (notIface i.desc) (Zap (closed a) (k (.iface t a) T)))=some ρ from h)
 obtain ⟨h2,hB⟩:=Zan hA
 obtain ⟨h3,h4⟩:=Zan hB
 refine ⟨_,T,h4,fun {F lo H r Oh os Ev ys} hG hV he hb=>?_⟩
 obtain ⟨y,_,rfl,k1,k2,k3,_,_⟩:=VM.settle1 (x:=x) (xs:=[]) hV he
 obtain ⟨q1,_⟩:=closed_kr h3 k2
 refine ⟨.iface t y,H,fun k'=>?_,.keep (o:=[]) hG (.k (.iface q1)) (.inl (.iface _ _)) fun j=>by simp⟩
 show Zaf (evx P Ev x) _=_
 rw [k1,Zai,h1,Zai,h2];rfl
theorem sim_typeAssert (x:Operand) (t a:TypeId) (ok:Bool):OpSim P C tc ec keep res ops tlo base T ⟨dst,.typeAssert x t a ok,ty,pos,after,guard⟩:=by
 intro vs β k ρ h hl
 obtain ⟨b,rfl⟩:∃ a,vs=[a]:=List.length_eq_one_iff.1 hl
 obtain ⟨i,h1,hA⟩:=Zac (show Zaf (tyI P a) (fun i=>Zap (notIface i.desc) (Zaf (zeroT i) fun z=>Zaa (assertT a (ofV z) b ok) fun v=>k v T))=some ρ from h)
 obtain ⟨h2,hB⟩:=Zan hA
 obtain ⟨z,h3,hC⟩:=Zac hB
 obtain ⟨v,h4,h5⟩:=Zau hC
 obtain ⟨z1,z2,z3⟩:=zeroT_eq h3
 refine ⟨v,T,h5,fun {F lo H r Oh os Ev ys} hG hV he hb=>?_⟩
 obtain ⟨y,_,o,rfl,k1,k2,_,_,_,_⟩:=VM.raw1 hV he
 have key:∃ v',evAssert a z y ok=some v'∧VR H (Sof F r Oh os) r v v' []∧OV v:=by
  obtain ⟨zk,_⟩:=ofV_kr (H:=H) (S:=Sof F r Oh os) z2 z3
  have zn:=kr_nb zk
  have zero:VR H (Sof F r Oh os) r (.tup [ofV z,.v (.bool false)]) (.tuple #[z,.bool false]) []∧OV (.tup [ofV z,.v (.bool false)]):=by
   have:=okT_rel (r:=r) (ok:=true) (is:=false) zk zn.1 zn.2
   exact this
  cases b with
  |v c=>
   obtain ⟨rfl,_⟩:=v_inv k2
   cases y with
   |nilIface=>
    cases ok with
    |true=>cases h4;exact ⟨_,rfl,zero⟩
    |false=>cases h4
   |_=>cases h4
  |iface t' z'=>
   have h4:cond (Nat.beq t' a) (some (okT ok z' true)) (cond ok (some (.tup [ofV z,.v (.bool false)])) none)=some v:=h4
   obtain ⟨w,rfl,q1,_⟩:=iface_inv k2
   have qn:=kr_nb q1
   cases hb2:Nat.beq t' a with
   |true=>
    rw [hb2] at h4
    cases h4
    refine ⟨_,?_,okT_rel q1 qn.1 qn.2⟩
    show cond (Nat.beq t' a) _ _=_
    rw [hb2];rfl
   |false=>
    rw [hb2] at h4
    cases ok with
    |true=>
     cases h4
     refine ⟨_,?_,zero⟩
     show cond (Nat.beq t' a) _ _=_
     rw [hb2];rfl
    |false=>cases h4
  |_=>cases h4
 obtain ⟨v',u1,u2,u3⟩:=key
 refine ⟨v',H,fun k'=>?_,.keep hG u2 u3 fun j=>by simp⟩
 show Zaf (evx P Ev x) _=_
 rw [k1,Zai,h1,Zai,h2,Zcv,z1,Zai,u1];rfl
theorem sim_append (args:Array Operand) (ts:Array TypeId):OpSim P C tc ec keep res ops tlo base T ⟨dst,.call ⟨.builtin .append,args,ts⟩,ty,pos,after,guard⟩:=by
 intro vs β k ρ h hl
 have hsh:∃ st xt s x,ts.toList=[st,xt]∧vs=[s,x]∧opAppendT P tlo T st xt s x k=some ρ:=by
  have h:builtinT P tlo T .append ts.toList vs k=some ρ:=h
  cases h1:ts.toList with
  |nil=>rw [h1] at h;cases h
  |cons st l=>cases l with
   |nil=>rw [h1] at h;cases h
   |cons xt l=>cases l with
    |cons=>rw [h1] at h;cases h
    |nil=>
     rw [h1] at h
     cases vs with
     |nil=>cases h
     |cons s l=>cases l with
      |nil=>cases h
      |cons x l=>cases l with
       |cons=>cases h
       |nil=>exact ⟨st,xt,s,x,rfl,rfl,h⟩
 obtain ⟨st,xt,s,x,hts,rfl,hq⟩:=hsh
 have e1:Zbs P C keep res ops ⟨dst,.call ⟨.builtin .append,args,ts⟩,ty,pos,after,guard⟩=(match (generalizing:=false) args.toList with |s::xs=>(.take,s)::xs.map fun x=>(.raw,x) |[]=>[]):=rfl
 obtain ⟨e,h1,hA⟩:=Zac hq
 obtain ⟨i,h2,hB⟩:=Zac hA
 obtain ⟨z,h3,hC⟩:=Zac hB
 obtain ⟨j,h4,hD⟩:=Zac hC
 obtain ⟨h5,hE⟩:=Zan hD
 obtain ⟨z1,z2,z3⟩:=zeroT_eq h3
 have hargs:∃ a b,args.toList=[a,b]:=by
  rw [e1] at hl
  cases ha:args.toList with
  |nil=>rw [ha] at hl;cases hl
  |cons a l=>
   rw [ha] at hl
   cases l with
   |nil=>cases hl
   |cons b l=>cases l with
    |nil=>exact ⟨a,b,rfl⟩
    |cons=>cases hl
 obtain ⟨a,b,hab⟩:=hargs
 rw [hab] at e1
 have hends:endsT P C keep res ops ⟨dst,.call ⟨.builtin .append,args,ts⟩,ty,pos,after,guard⟩=true:=by
  unfold endsT
  rw [e1];rfl
 have reads:∀ {F:Nat→Prop} {lo:Nat} {H:AH} {r Oh os:List Nat} {Ev:Env} {ys:List Value},Good C F lo tlo H r T Oh os →
   VM (anyG (fun p:Md×Operand=>Zby p.1) (Zbs P C keep res ops ⟨dst,.call ⟨.builtin .append,args,ts⟩,ty,pos,after,guard⟩)) H (Sof F r Oh os) r ((Zbs P C keep res ops ⟨dst,.call ⟨.builtin .append,args,ts⟩,ty,pos,after,guard⟩).map (·.1)) [s,x] ys os →
   evxs P Ev ((Zbs P C keep res ops ⟨dst,.call ⟨.builtin .append,args,ts⟩,ty,pos,after,guard⟩).map (·.2))=some ys →
   ∃ s' x' o o',ys=[s',x']∧evxs P Ev args.toList=some [s',x']∧VR H (Sof F r Oh os) r s s' o∧OV s∧(∀ j,o.count j≤os.count j)∧VR H (Sof F r Oh os) r x x' o':=by
  intro F lo H r Oh os Ev ys hG hV he
  rw [e1] at hV he
  obtain ⟨_,_,y,ys',ox,os',q0,rfl,rfl,q1,q2,q3⟩:=VM.cons_inv (w:=false) (m:=.take) (ms:=[.raw]) hV
  cases q0
  have he0:=he
  obtain ⟨_,_,e3,k1,he⟩:=evxs_cons (x:=a) (xs:=[b]) he
  cases e3
  obtain ⟨y2,_,o2,rfl,k4,k5,_,_,k6,he⟩:=VM.raw1 q3 he
  obtain ⟨_,rfl,_⟩:=k6.nil_inv
  exact ⟨y,y2,ox,o2,rfl,by rw [hab];exact he0,q1,q2,cnt_left _ _,k5⟩
 rw [lenN_eq] at h5
 have h5':=Zay h5
 have fin:∀ {v:TV} {T':TH} {ev:Nat→AH→Value→Value→Option (Value×AH)},k v T'=some ρ→(∀ {F:Nat→Prop} {lo:Nat} {H:AH} {r Oh os:List Nat} {s' x':Value} {o o':List Nat},Good C F lo tlo H r T Oh os→VR H (Sof F r Oh os) r s s' o→VR H (Sof F r Oh os) r x x' o'→OV s→(∀ j,o.count j≤os.count j)→base≤T.length →
   ∃ v' H',ev lo H s' x'=some (v',H')∧Res C F lo tlo base true H r T Oh os v T' v' H') →
   (∀ (lo:Nat) (H:AH) (s' x':Value) {γ:Type} (k':Value→AH→Option γ),opAppend P lo H st xt s' x' k'=bindVH (ev lo H s' x') k') →
   ∃ v T',k v T'=some ρ∧∀ {F:Nat→Prop} {lo:Nat} {H:AH} {r Oh os:List Nat} {Ev:Env} {ys:List Value},Good C F lo tlo H r T Oh os →
    VM (anyG (fun p:Md×Operand=>Zby p.1) (Zbs P C keep res ops ⟨dst,.call ⟨.builtin .append,args,ts⟩,ty,pos,after,guard⟩)) H (Sof F r Oh os) r ((Zbs P C keep res ops ⟨dst,.call ⟨.builtin .append,args,ts⟩,ty,pos,after,guard⟩).map (·.1)) [s,x] ys os →
    evxs P Ev ((Zbs P C keep res ops ⟨dst,.call ⟨.builtin .append,args,ts⟩,ty,pos,after,guard⟩).map (·.2))=some ys→base≤T.length →
    ∃ v' H',(∀ {γ:Type} (k':Value→AH→Option γ),evOper P ec lo Ev H (.call ⟨.builtin .append,args,ts⟩) k'=k' v' H')∧Res C F lo tlo base (endsT P C keep res ops ⟨dst,.call ⟨.builtin .append,args,ts⟩,ty,pos,after,guard⟩) H r T Oh os v T' v' H':=by
  intro v T' ev hk hrun hop
  refine ⟨v,T',hk,fun {F lo H r Oh os Ev ys} hG hV he hb=>?_⟩
  obtain ⟨s',x',o,o',rfl,q1,q2,q3,q4,q5⟩:=reads hG hV he
  obtain ⟨v',H',u1,u2⟩:=hrun hG q2 q5 q3 q4 hb
  refine ⟨v',H',fun k'=>?_,by rw [hends];exact u2⟩
  show Zaf (evxs P Ev args.toList) _=_
  rw [q1,Zai]
  show (match ts.toList,[s',x'] with |[st,xt],[s,x]=>opAppend P lo H st xt s x k' |_,_=>none)=_
  rw [hts]
  show opAppend P lo H st xt s' x' k'=_
  rw [hop,u1];rfl
 have hopen:∀ (lo:Nat) (H:AH) (s' x':Value) {γ:Type} (k':Value→AH→Option γ),opAppend P lo H st xt s' x' k'=(match j.desc with |.slice _=>bindVH (evAppend lo H e i.size i.bytes s' x') k' |.int _=>bindVH (evAppendZ H e i.size i.bytes (cellsOf z) s' x') k' |_=>none):=by
  intro lo H s' x' γ k'
  show Zaf (tyElem P st) _=_
  rw [h1,Zai,h2,Zai,z1,Zai,h4,Zai,lenN_eq,h5];rfl
 split at hE
 ·rename_i e' hd
  obtain ⟨v,T',q1,q2⟩:=appendT_run (base:=base) hE
  refine fin (ev:=fun lo H s' x'=>evAppend lo H e i.size i.bytes s' x') q1 (fun hG hs hx hv ho hb=>q2 hG hs hx hv ho hb) fun lo H s' x' γ k'=>?_
  rw [hopen,hd]
 ·rename_i kn hd
  obtain ⟨h6,h7⟩:=Zan hE
  obtain ⟨v,q1,q2⟩:=appendZT_run (base:=base) h7 z2 z3 h5' h6
  refine fin (ev:=fun lo H s' x'=>evAppendZ H e i.size i.bytes (cellsOf z) s' x') q1 (fun hG hs hx hv ho hb=>q2 hG hs hx) fun lo H s' x' γ k'=>?_
  rw [hopen,hd]
 ·cases hE
theorem All2.one {α β:Type} {R:α→β→Prop} {a:α} {ys:List β} (h:All2 R [a] ys):∃ y,ys=[y]∧R a y:=by
 cases h with
 |cons h t=>cases t with
  |nil=>exact ⟨_,rfl,h⟩
theorem sim_reads (b:Builtin) (args:Array Operand) (ts:Array TypeId) (hb:b≠.append) (hc:b≠.clear):OpSim P C tc ec keep res ops tlo base T ⟨dst,.call ⟨.builtin b,args,ts⟩,ty,pos,after,guard⟩:=by
 intro vs β k ρ h hl
 have e1:Zbs P C keep res ops ⟨dst,.call ⟨.builtin b,args,ts⟩,ty,pos,after,guard⟩=args.toList.map fun x=>(.raw,x):=by cases b <;> first |rfl |exact absurd rfl hb |exact absurd rfl hc
 have reads:∀ {H:AH} {S:Nat→Prop} {r os:List Nat} {Ev:Env} {ys:List Value},
   VM (anyG (fun p:Md×Operand=>Zby p.1) (Zbs P C keep res ops ⟨dst,.call ⟨.builtin b,args,ts⟩,ty,pos,after,guard⟩)) H S r ((Zbs P C keep res ops ⟨dst,.call ⟨.builtin b,args,ts⟩,ty,pos,after,guard⟩).map (·.1)) vs ys os →
   evxs P Ev ((Zbs P C keep res ops ⟨dst,.call ⟨.builtin b,args,ts⟩,ty,pos,after,guard⟩).map (·.2))=some ys→evxs P Ev args.toList=some ys∧All2 (fun x y=>∃ o,VR H S r x y o) vs ys:=by
  intro H S r os Ev ys hV he
  rw [e1,map_fst,any_thaw rfl] at hV
  rw [e1,map_snd,List.map_id'] at he
  exact ⟨he,(VM.raws hV).1⟩
 have h:builtinT P tlo T b ts.toList vs k=some ρ:=h
 have fin:∀ {u:TV},k u T=some ρ→(∀ {F:Nat→Prop} {lo:Nat} {H:AH} {r Oh os:List Nat} {ys:List Value},Good C F lo tlo H r T Oh os→All2 (fun x y=>∃ o,VR H (Sof F r Oh os) r x y o) vs ys→∃ w,u=.v w∧scal w=true∧∀ {γ:Type} (k':Value→AH→Option γ),opBuiltin P lo H b ts.toList ys k'=k' w H) →
   ∃ v T',k v T'=some ρ∧∀ {F:Nat→Prop} {lo:Nat} {H:AH} {r Oh os:List Nat} {Ev:Env} {ys:List Value},Good C F lo tlo H r T Oh os →
    VM (anyG (fun p:Md×Operand=>Zby p.1) (Zbs P C keep res ops ⟨dst,.call ⟨.builtin b,args,ts⟩,ty,pos,after,guard⟩)) H (Sof F r Oh os) r ((Zbs P C keep res ops ⟨dst,.call ⟨.builtin b,args,ts⟩,ty,pos,after,guard⟩).map (·.1)) vs ys os →
    evxs P Ev ((Zbs P C keep res ops ⟨dst,.call ⟨.builtin b,args,ts⟩,ty,pos,after,guard⟩).map (·.2))=some ys→base≤T.length →
    ∃ v' H',(∀ {γ:Type} (k':Value→AH→Option γ),evOper P ec lo Ev H (.call ⟨.builtin b,args,ts⟩) k'=k' v' H')∧Res C F lo tlo base (endsT P C keep res ops ⟨dst,.call ⟨.builtin b,args,ts⟩,ty,pos,after,guard⟩) H r T Oh os v T' v' H':=by
  intro u hk hrun
  refine ⟨u,T,hk,fun {F lo H r Oh os Ev ys} hG hV he hbase=>?_⟩
  obtain ⟨q1,q2⟩:=reads hV he
  obtain ⟨w,rfl,q3,q4⟩:=hrun (lo:=lo) hG q2
  refine ⟨w,H,fun k'=>?_,.flat hG (scal_flat q3).1 (scal_flat q3).2⟩
  show Zaf (evxs P Ev args.toList) (fun vs=>opBuiltin P lo H b ts.toList vs k')=_
  rw [q1,Zai];exact q4 k'
 have fin2:∀ {u:TV},k u T=some ρ→(∀ {F:Nat→Prop} {lo:Nat} {H:AH} {r Oh os:List Nat} {ys:List Value},Good C F lo tlo H r T Oh os→All2 (fun x y=>∃ o,VR H (Sof F r Oh os) r x y o) vs ys→∃ w,u=.v w∧flat w=true∧notSl w=true∧∀ {γ:Type} (k':Value→AH→Option γ),opBuiltin P lo H b ts.toList ys k'=k' w H) →
   ∃ v T',k v T'=some ρ∧∀ {F:Nat→Prop} {lo:Nat} {H:AH} {r Oh os:List Nat} {Ev:Env} {ys:List Value},Good C F lo tlo H r T Oh os →
    VM (anyG (fun p:Md×Operand=>Zby p.1) (Zbs P C keep res ops ⟨dst,.call ⟨.builtin b,args,ts⟩,ty,pos,after,guard⟩)) H (Sof F r Oh os) r ((Zbs P C keep res ops ⟨dst,.call ⟨.builtin b,args,ts⟩,ty,pos,after,guard⟩).map (·.1)) vs ys os →
    evxs P Ev ((Zbs P C keep res ops ⟨dst,.call ⟨.builtin b,args,ts⟩,ty,pos,after,guard⟩).map (·.2))=some ys→base≤T.length →
    ∃ v' H',(∀ {γ:Type} (k':Value→AH→Option γ),evOper P ec lo Ev H (.call ⟨.builtin b,args,ts⟩) k'=k' v' H')∧Res C F lo tlo base (endsT P C keep res ops ⟨dst,.call ⟨.builtin b,args,ts⟩,ty,pos,after,guard⟩) H r T Oh os v T' v' H':=by
  intro u hk hrun
  refine ⟨u,T,hk,fun {F lo H r Oh os Ev ys} hG hV he hbase=>?_⟩
  obtain ⟨q1,q2⟩:=reads hV he
  obtain ⟨w,rfl,q3,q5,q4⟩:=hrun (lo:=lo) hG q2
  refine ⟨w,H,fun k'=>?_,.flat hG q3 q5⟩
  show Zaf (evxs P Ev args.toList) (fun vs=>opBuiltin P lo H b ts.toList vs k')=_
  rw [q1,Zai];exact q4 k'
 cases b with
 |append=>exact absurd rfl hb
 |clear=>exact absurd rfl hc
 |len=>
  have hsh:∃ t x,ts.toList=[t]∧vs=[x]∧opLenT P T t x (fun v=>k v T)=some ρ:=by
   cases h1:ts.toList with
   |nil=>rw [h1] at h;cases h
   |cons t l=>cases l with
    |cons=>rw [h1] at h;cases h
    |nil=>
     rw [h1] at h
     cases vs with
     |nil=>cases h
     |cons x l=>cases l with
      |cons=>cases h
      |nil=>exact ⟨t,x,rfl,rfl,h⟩
  obtain ⟨t,x,hts,rfl,hq⟩:=hsh
  ·obtain ⟨i,h1,hA⟩:=Zac hq
   have hopen:∀ (lo:Nat) (H:AH) (y:Value) {γ:Type} (k':Value→AH→Option γ),opBuiltin P lo H .len ts.toList [y] k'=opLen P H t y fun v=>k' v H:=by
    intro lo H y γ k'
    rw [hts];rfl
   split at hA
   ·rename_i e hd
    obtain ⟨v,h2,h3⟩:=Zau hA
    refine fin h3 fun {F lo H r Oh os ys} hG hr=>?_
    obtain ⟨y,rfl,o,hx⟩:=hr.one
    obtain ⟨u,q1,rfl,q3⟩:=lenT_run h2 hx
    refine ⟨u,rfl,q3,fun k'=>?_⟩
    rw [hopen]
    show Zaf (tyI P t) _=_
    rw [h1,Zai,hd]
    show Zaa (evLenS y) _=_
    rw [q1];rfl
   ·rename_i n e hd
    refine fin hA fun {F lo H r Oh os ys} hG hr=>?_
    obtain ⟨y,rfl,o,hx⟩:=hr.one
    refine ⟨_,rfl,rfl,fun k'=>?_⟩
    rw [hopen]
    show Zaf (tyI P t) _=_
    rw [h1,Zai,hd]
   ·rename_i a b hd
    obtain ⟨v,h2,h3⟩:=Zau hA
    refine fin h3 fun {F lo H r Oh os ys} hG hr=>?_
    obtain ⟨y,rfl,o,hx⟩:=hr.one
    have key:∃ u,evLenM H y=some u∧v=.v u∧scal u=true:=by
     unfold lenMT at h2
     split at h2
     ·cases h2
      obtain ⟨rfl,_⟩:=v_inv hx
      exact ⟨_,rfl,rfl,rfl⟩
     ·obtain ⟨es,hb2,h4⟩:=withMapT_inv h2
      cases h4
      obtain ⟨i2,c,fs,hr2,hg,hm⟩:=hG.mapAt hb2
      obtain ⟨i3,hr3,rfl,_⟩:=map_inv hx
      rw [hr2] at hr3;cases hr3
      refine ⟨.int .i64 (.ofNat fs.length),?_,by rw [Zat,hm.length],rfl⟩
      show (match H.get i2 with |some (.map es c)=>some (Value.int .i64 (.ofNat es.length)) |_=>none)=_
      rw [hg]
     ·cases h2
    obtain ⟨u,q1,rfl,q3⟩:=key
    refine ⟨u,rfl,q3,fun k'=>?_⟩
    rw [hopen]
    show Zaf (tyI P t) _=_
    rw [h1,Zai,hd]
    show Zaa (evLenM H y) _=_
    rw [q1];rfl
   ·cases hA
 |cap=>
  have hsh:∃ t x,ts.toList=[t]∧vs=[x]∧opCapT P t x (fun v=>k v T)=some ρ:=by
   cases h1:ts.toList with
   |nil=>rw [h1] at h;cases h
   |cons t l=>cases l with
    |cons=>rw [h1] at h;cases h
    |nil=>
     rw [h1] at h
     cases vs with
     |nil=>cases h
     |cons x l=>cases l with
      |cons=>cases h
      |nil=>exact ⟨t,x,rfl,rfl,h⟩
  obtain ⟨t,x,hts,rfl,hq⟩:=hsh
  ·obtain ⟨i,h1,hA⟩:=Zac hq
   have hopen:∀ (lo:Nat) (H:AH) (y:Value) {γ:Type} (k':Value→AH→Option γ),opBuiltin P lo H .cap ts.toList [y] k'=opCap P t y fun v=>k' v H:=by
    intro lo H y γ k'
    rw [hts];rfl
   split at hA
   ·rename_i e hd
    obtain ⟨v,h2,h3⟩:=Zau hA
    refine fin h3 fun {F lo H r Oh os ys} hG hr=>?_
    obtain ⟨y,rfl,o,hx⟩:=hr.one
    obtain ⟨u,q1,rfl,q3⟩:=capT_run h2 hx
    refine ⟨u,rfl,q3,fun k'=>?_⟩
    rw [hopen]
    show Zaf (tyI P t) _=_
    rw [h1,Zai,hd]
    show Zaa (evCapS y) _=_
    rw [q1];rfl
   ·rename_i n e hd
    refine fin hA fun {F lo H r Oh os ys} hG hr=>?_
    obtain ⟨y,rfl,o,hx⟩:=hr.one
    refine ⟨_,rfl,rfl,fun k'=>?_⟩
    rw [hopen]
    show Zaf (tyI P t) _=_
    rw [h1,Zai,hd]
   ·cases hA
 |min=>
  cases vs with
  |nil=>cases h
  |cons v vs=>
   obtain ⟨u,h1,h2⟩:=minMaxT_run (show minMaxT false v vs (fun v=>k v T)=some ρ from h)
   refine fin2 h1 fun {F lo H r Oh os ys} hG hr=>?_
   cases hr with
   | @cons _ y _ ys hv ht=>
    obtain ⟨o,hv⟩:=hv
    obtain ⟨w,q1,q2,q3,q4⟩:=h2 hv ht
    exact ⟨w,q2,q3,q4,fun k'=>q1 _⟩
 |max=>
  cases vs with
  |nil=>cases h
  |cons v vs=>
   obtain ⟨u,h1,h2⟩:=minMaxT_run (show minMaxT true v vs (fun v=>k v T)=some ρ from h)
   refine fin2 h1 fun {F lo H r Oh os ys} hG hr=>?_
   cases hr with
   | @cons _ y _ ys hv ht=>
    obtain ⟨o,hv⟩:=hv
    obtain ⟨w,q1,q2,q3,q4⟩:=h2 hv ht
    exact ⟨w,q2,q3,q4,fun k'=>q1 _⟩
 |_=>cases h
end
end Go.Ev
namespace Go.Ev
section
variable {P:Program} {C:TC} {tc:Zbc} {ec:CallF} {keep res:List Tmp} {ops:List Oper} {tlo base:Nat} {T:TH}
variable {dst:Option Tmp} {ty:TypeId} {pos:String} {after:Array Edge} {guard:Option (Nat×Bool)}
theorem thawMds_snd:∀ (os:List Operand) (ts:List TypeId),(thawMds P os ts).map (fun p:Md×Operand=>p.2)=os
 |[],_=>rfl
 |o::os,[]=>by show o::_=_;rw [thawMds_snd os []]
 |o::os,t::ts=>by show o::_=_;rw [thawMds_snd os ts]
theorem thawMds_plain:∀ (os:List Operand) (ts:List TypeId),∀ m∈(thawMds P os ts).map (fun p:Md×Operand=>p.1),plainMd m
 |[],_,m,h=>by cases h
 |o::os,[],m,h=>by
  rcases List.mem_cons.1 (show m∈Md.settle::(thawMds P os []).map (fun p:Md×Operand=>p.1) from h) with rfl |h
  ·trivial
  ·exact thawMds_plain os [] m h
 |o::os,t::ts,m,h=>by
  rcases List.mem_cons.1 (show m∈(match tyI P t with |some ⟨.slice _,_,_,_,_⟩=>Md.thaw (Zcn P t).1 (Zcn P t).2 |_=>.settle)::(thawMds P os ts).map (fun p:Md×Operand=>p.1) from h) with rfl |h
  ·split <;> trivial
  ·exact thawMds_plain os ts m h
theorem plain_map {α:Type} {m:Md} (hm:plainMd m) (f:α→Operand) (l:List α):∀ x∈(l.map fun x=>(m,f x)).map (fun p:Md×Operand=>p.1),plainMd x:=fun x hx=>by
 rw [List.map_map] at hx
 obtain ⟨a,_,rfl⟩:=List.mem_map.1 hx
 exact hm
theorem sim_clear (args:Array Operand) (ts:Array TypeId):OpSim P C tc ec keep res ops tlo base T ⟨dst,.call ⟨.builtin .clear,args,ts⟩,ty,pos,after,guard⟩:=by
 intro vs β k ρ h hl
 have hsh:∃ t x,ts.toList=[t]∧vs=[x]∧opClearT P tlo T t x (fun H=>k Zao H)=some ρ:=by
  have h:builtinT P tlo T .clear ts.toList vs k=some ρ:=h
  cases h1:ts.toList with
  |nil=>rw [h1] at h;cases h
  |cons t l=>cases l with
   |cons=>rw [h1] at h;cases h
   |nil=>
    rw [h1] at h
    cases vs with
    |nil=>cases h
    |cons x l=>cases l with
     |cons=>cases h
     |nil=>exact ⟨t,x,rfl,rfl,h⟩
 obtain ⟨t,x,hts,rfl,hq⟩:=hsh
 obtain ⟨e,h1,hA⟩:=Zac hq
 obtain ⟨i,h2,hB⟩:=Zac hA
 obtain ⟨z,h3,hC⟩:=Zac hB
 obtain ⟨h5,hE⟩:=Zan hC
 obtain ⟨h6,hF⟩:=Zan hE
 obtain ⟨h7,hG0⟩:=Zan hF
 obtain ⟨T',h8,h9⟩:=Zau hG0
 obtain ⟨z1,z2,z3⟩:=zeroT_eq h3
 have e1:Zbs P C keep res ops ⟨dst,.call ⟨.builtin .clear,args,ts⟩,ty,pos,after,guard⟩=thawMds P args.toList ts.toList:=rfl
 refine ⟨Zao,T',h9,fun {F lo H r Oh os Ev ys} hG hV he hb=>?_⟩
 rw [e1] at hV he
 have he:evxs P Ev ((thawMds P args.toList ts.toList).map fun p:Md×Operand=>p.2)=some ys:=he
 rw [thawMds_snd] at he
 have hl2:∃ a,args.toList=[a]:=by
  rw [e1] at hl
  have:=congrArg List.length (thawMds_snd (P:=P) args.toList ts.toList)
  rw [List.length_map,← hl] at this
  exact List.length_eq_one_iff.1 this.symm
 obtain ⟨a,ha⟩:=hl2
 rw [ha] at he
 obtain ⟨y,_,rfl,k1,he2⟩:=evxs_cons he
 have:=evxs_nil he2
 subst this
 have hx:∃ o,VR H (Sof F r Oh os) r x y o:=by
  rw [ha,hts] at hV
  obtain ⟨_,_,y2,_,ox,_,q0,q00,rfl,q1,q2,q3⟩:=VM.cons_inv (ms:=[]) hV
  cases q0;cases q00
  have hm:(match tyI P t with |some ⟨.slice _,_,_,_,_⟩=>Md.thaw (Zcn P t).1 (Zcn P t).2 |_=>.settle)=.thaw (Zcn P t).1 (Zcn P t).2∨(match tyI P t with |some ⟨.slice _,_,_,_,_⟩=>Md.thaw (Zcn P t).1 (Zcn P t).2 |_=>.settle)=.settle:=by
   split
   ·exact .inl rfl
   ·exact .inr rfl
  rcases hm with hm |hm
  ·have q1:RdR _ (match tyI P t with |some ⟨.slice _,_,_,_,_⟩=>Md.thaw (Zcn P t).1 (Zcn P t).2 |_=>.settle) H _ r x y ox:=q1
   rw [hm] at q1
   exact ⟨_,q1.1⟩
  ·have q1:RdR (cond (Zby (match tyI P t with |some ⟨.slice _,_,_,_,_⟩=>Md.thaw (Zcn P t).1 (Zcn P t).2 |_=>.settle)) true false) (match tyI P t with |some ⟨.slice _,_,_,_,_⟩=>Md.thaw (Zcn P t).1 (Zcn P t).2 |_=>.settle) H _ r x y ox:=q1
   rw [hm] at q1
   exact ⟨_,q1.2⟩
 obtain ⟨o,hx⟩:=hx
 rw [lenN_eq] at h5
 obtain ⟨H',u1,u2⟩:=clearT_run (base:=base) (ends:=endsT P C keep res ops ⟨dst,.call ⟨.builtin .clear,args,ts⟩,ty,pos,after,guard⟩) h8 h7 z2 z3 (Zay h5) hG hx
 refine ⟨.tuple #[],H',fun k'=>?_,u2⟩
 show Zaf (evxs P Ev args.toList) _=_
 rw [ha,he,Zai]
 show (match ts.toList,[y] with |[t],[x]=>opClear P lo H t x fun H=>k' (.tuple #[]) H |_,_=>none)=_
 rw [hts]
 show opClear P lo H t y _=_
 show Zaf (tyElem P t) _=_
 rw [h1,Zai,h2,Zai,z1,Zai,lenN_eq,h5,Zcv,h6,Zcv,u1];rfl
theorem argMd_plain {dp:Bool} (l:List Operand):(∀ m∈(l.map fun x=>(argMd dp keep x,x)).map (fun p:Md×Operand=>p.1),plainMd m)∧anyG (fun p:Md×Operand=>Zby p.1) (l.map fun x=>(argMd dp keep x,x))=false:=by
 have one:∀ x:Operand,argMd dp keep x=.raw∨argMd dp keep x=.settle:=by
  intro x
  unfold argMd
  split
  ·rename_i t
   cases keep.contains t with
   |true=>cases dp with
    |true=>exact .inr rfl
    |false=>exact .inl rfl
   |false=>cases dp <;> exact .inr rfl
  ·exact .inl rfl
 constructor
 ·intro m hm
  rw [List.map_map] at hm
  obtain ⟨x,_,rfl⟩:=List.mem_map.1 hm
  show plainMd (argMd dp keep x)
  rcases one x with h |h <;> rw [h] <;> trivial
 ·induction l with
  |nil=>rfl
  |cons x l ih=>
   show cond (Zby (argMd dp keep x)) true (anyG (fun p:Md×Operand=>Zby p.1) (l.map fun x=>(argMd dp keep x,x)))=false
   rw [ih]
   rcases one x with h |h <;> rw [h] <;> rfl
theorem callVal_plain {β:Type} {call:CallF} {lo:Nat} {f:FuncId} {vs:List Value} {H:AH} {k:Value→AH→Option β}:callVal call lo (.func (.func f) #[] #[]) vs H k=bindVH (call lo f vs H) k:=by
 show bindVH (call lo f (List.append [] (List.append vs [])) H) k=_
 rw [show List.append [] (List.append vs [])=vs from by show []++(vs++[])=vs;simp]
theorem sim_func (hs:CallSim C tc ec) (f:FuncId) (args:Array Operand) (ts:Array TypeId):OpSim P C tc ec keep res ops tlo base T ⟨dst,.call ⟨.value (.func f),args,ts⟩,ty,pos,after,guard⟩:=by
 intro vs β k ρ h hl
 have h:cond (C.tree f) (Zaa (Zah tc f vs T) fun v=>k v T) (Zbr tc tlo f vs T k)=some ρ:=h
 have e1:Zbs P C keep res ops ⟨dst,.call ⟨.value (.func f),args,ts⟩,ty,pos,after,guard⟩=cond (C.tree f) (args.toList.map fun x=>(argMd (C.deep f) keep x,x)) (cond (C.thaws f) (thawMds P args.toList (paramsOf P f)) (args.toList.map fun x=>(.settle,x))):=rfl
 cases ht:C.tree f with
 |true=>
  rw [ht] at h e1
  have e1:Zbs P C keep res ops ⟨dst,.call ⟨.value (.func f),args,ts⟩,ty,pos,after,guard⟩=args.toList.map fun x=>(argMd (C.deep f) keep x,x):=e1
  obtain ⟨v,h1,h2⟩:=Zau (show Zaa (Zah tc f vs T) (fun v=>k v T)=some ρ from h)
  refine ⟨v,T,h2,fun {F lo H r Oh os Ev ys} hG hV he hb=>?_⟩
  rw [e1,(argMd_plain args.toList).2] at hV
  rw [e1] at he
  have he:evxs P Ev ((args.toList.map fun x=>(argMd (C.deep f) keep x,x)).map fun p:Md×Operand=>p.2)=some ys:=he
  rw [List.map_map,show ((fun p:Md×Operand=>p.2) ∘ fun x=>(argMd (C.deep f) keep x,x))=id from rfl,List.map_id] at he
  obtain ⟨v',H',q1,q2⟩:=callTree_run (base:=base) (ends:=endsT P C keep res ops ⟨dst,.call ⟨.value (.func f),args,ts⟩,ty,pos,after,guard⟩) hs h1 hG hV (argMd_plain args.toList).1 (Nat.le_refl lo) hG.lon
  refine ⟨v',H',fun k'=>?_,q2⟩
  show Zaf (evxs P Ev args.toList) _=_
  rw [he,Zai]
  show Zaf (some (Value.func (.func f) #[] #[])) (fun f=>callVal ec lo f ys H k')=_
  rw [Zai,callVal_plain,q1];rfl
 |false=>
  rw [ht] at h e1
  have h:Zbr tc tlo f vs T k=some ρ:=h
  have e1:Zbs P C keep res ops ⟨dst,.call ⟨.value (.func f),args,ts⟩,ty,pos,after,guard⟩=cond (C.thaws f) (thawMds P args.toList (paramsOf P f)) (args.toList.map fun x=>(.settle,x)):=e1
  obtain ⟨v,T',h1,h2,h3⟩:=callIn_run (base:=base) hs h
  have hends:endsT P C keep res ops ⟨dst,.call ⟨.value (.func f),args,ts⟩,ty,pos,after,guard⟩=true:=by
   show cond (anyG _ _) true (!C.tree f)=true
   rw [ht]
   cases anyG (fun p:Md×Operand=>Zby p.1) (Zbs P C keep res ops ⟨dst,.call ⟨.value (.func f),args,ts⟩,ty,pos,after,guard⟩) <;> rfl
  refine ⟨v,T',h1,fun {F lo H r Oh os Ev ys} hG hV he hb=>?_⟩
  have hp:∀ m∈(Zbs P C keep res ops ⟨dst,.call ⟨.value (.func f),args,ts⟩,ty,pos,after,guard⟩).map (fun p:Md×Operand=>p.1),plainMd m:=by
   rw [e1]
   cases C.thaws f with
   |true=>exact thawMds_plain _ _
   |false=>exact plain_map (m:=.settle) (f:=fun x=>x) trivial args.toList
  have hsnd:(Zbs P C keep res ops ⟨dst,.call ⟨.value (.func f),args,ts⟩,ty,pos,after,guard⟩).map (fun p:Md×Operand=>p.2)=args.toList:=by
   rw [e1]
   cases C.thaws f with
   |true=>exact thawMds_snd _ _
   |false=>show (args.toList.map fun x=>(Md.settle,x)).map _=_;rw [List.map_map];exact List.map_id _
  have he:evxs P Ev ((Zbs P C keep res ops ⟨dst,.call ⟨.value (.func f),args,ts⟩,ty,pos,after,guard⟩).map fun p:Md×Operand=>p.2)=some ys:=he
  rw [hsnd] at he
  obtain ⟨q1,q2⟩:=VM.pass hV hp h2
  obtain ⟨v',H',q3,q4⟩:=h3 hG q1 q2 hb
  refine ⟨v',H',fun k'=>?_,by rw [hends];exact q4⟩
  show Zaf (evxs P Ev args.toList) _=_
  rw [he,Zai]
  show Zaf (some (Value.func (.func f) #[] #[])) (fun f=>callVal ec lo f ys H k')=_
  rw [Zai,callVal_plain,q3];rfl
theorem sim_quiet (hs:CallSim C tc ec) (o:Oper) (ht:isTreeOp C o.op=true) {vs:List TV} {β:Type} {k:TV→TH→Option β} {ρ:β} (h:operT P C tc keep res ops tlo base o.dst T o.op vs k=some ρ) :
  ∃ v T',k v T'=some ρ∧∀ {F:Nat→Prop} {lo lo2:Nat} {H:AH} {r Oh os:List Nat} {Ev:Env} {ys:List Value},lo≤lo2→lo2≤H.next→Good C F lo tlo H r T Oh os →
   VM (anyG (fun p:Md×Operand=>Zby p.1) (Zbs P C keep res ops o)) H (Sof F r Oh os) r ((Zbs P C keep res ops o).map (·.1)) vs ys os→evxs P Ev ((Zbs P C keep res ops o).map (·.2))=some ys→base≤T.length →
   ∃ v' H',(∀ {γ:Type} (k':Value→AH→Option γ),evOper P ec lo2 Ev H o.op k'=k' v' H')∧Res C F lo tlo base (endsT P C keep res ops o) H r T Oh os v T' v' H':=by
 obtain ⟨dst,op,ty,pos,after,guard⟩:=o
 have hsh:∃ f args ts,op=.call ⟨.value (.func f),args,ts⟩∧C.tree f=true:=by
  have ht:isTreeOp C op=true:=ht
  unfold isTreeOp at ht
  split at ht
  ·exact ⟨_,_,_,rfl,ht⟩
  ·cases ht
 clear ht
 obtain ⟨f,args,ts,rfl,ht⟩:=hsh
 have h:cond (C.tree f) (Zaa (Zah tc f vs T) fun v=>k v T) (Zbr tc tlo f vs T k)=some ρ:=h
 have e1:Zbs P C keep res ops ⟨dst,.call ⟨.value (.func f),args,ts⟩,ty,pos,after,guard⟩=cond (C.tree f) (args.toList.map fun x=>(argMd (C.deep f) keep x,x)) (cond (C.thaws f) (thawMds P args.toList (paramsOf P f)) (args.toList.map fun x=>(.settle,x))):=rfl
 rw [ht] at h e1
 have e1:Zbs P C keep res ops ⟨dst,.call ⟨.value (.func f),args,ts⟩,ty,pos,after,guard⟩=args.toList.map fun x=>(argMd (C.deep f) keep x,x):=e1
 obtain ⟨v,h1,h2⟩:=Zau (show Zaa (Zah tc f vs T) (fun v=>k v T)=some ρ from h)
 refine ⟨v,T,h2,fun {F lo lo2 H r Oh os Ev ys} hl1 hl2 hG hV he hb=>?_⟩
 rw [e1,(argMd_plain args.toList).2] at hV
 rw [e1] at he
 have he:evxs P Ev ((args.toList.map fun x=>(argMd (C.deep f) keep x,x)).map fun p:Md×Operand=>p.2)=some ys:=he
 rw [List.map_map,show ((fun p:Md×Operand=>p.2) ∘ fun x=>(argMd (C.deep f) keep x,x))=id from rfl,List.map_id] at he
 obtain ⟨v',H',q1,q2⟩:=callTree_run (base:=base) (ends:=endsT P C keep res ops ⟨dst,.call ⟨.value (.func f),args,ts⟩,ty,pos,after,guard⟩) hs h1 hG hV (argMd_plain args.toList).1 hl1 hl2
 refine ⟨v',H',fun k'=>?_,q2⟩
 show Zaf (evxs P Ev args.toList) _=_
 rw [he,Zai]
 show Zaf (some (Value.func (.func f) #[] #[])) (fun f=>callVal ec lo2 f ys H k')=_
 rw [Zai,callVal_plain,q1];rfl
theorem sim_value (hs:CallSim C tc ec) (f:Operand) (hf:∀ g,f≠.func g) (args:Array Operand) (ts:Array TypeId):OpSim P C tc ec keep res ops tlo base T ⟨dst,.call ⟨.value f,args,ts⟩,ty,pos,after,guard⟩:=by
 intro vs β k ρ h hl
 have h:(match (generalizing:=false) vs with |f::vs=>Zdc C tc tlo f vs T k |_=>none)=some ρ:=by
  cases f with
  |func g=>exact absurd rfl (hf g)
  |_=>exact h
 have e1:Zbs P C keep res ops ⟨dst,.call ⟨.value f,args,ts⟩,ty,pos,after,guard⟩=(.raw,f)::args.toList.map fun x=>(.settle,x):=by
  cases f with
  |func g=>exact absurd rfl (hf g)
  |_=>rfl
 have hends:endsT P C keep res ops ⟨dst,.call ⟨.value f,args,ts⟩,ty,pos,after,guard⟩=true:=by
  unfold endsT
  cases anyG (fun p:Md×Operand=>Zby p.1) (Zbs P C keep res ops ⟨dst,.call ⟨.value f,args,ts⟩,ty,pos,after,guard⟩) with
  |true=>rfl
  |false=>cases f with
   |func g=>exact absurd rfl (hf g)
   |_=>rfl
 cases vs with
 |nil=>cases h
 |cons fv vs=>
  have h:Zdc C tc tlo fv vs T k=some ρ:=h
  cases fv with
  |fn fo first cap=>cases fo with
   |func g=>
   have h:Zbr tc tlo g (first++(vs++cap)) T k=some ρ:=h
   obtain ⟨v,T',h1,h2,h3⟩:=callIn_run (base:=base) hs h
   refine ⟨v,T',h1,fun {F lo H r Oh os Ev ys} hG hV he hb=>?_⟩
   rw [e1] at hV he
   have hV:VM (anyG (fun p:Md×Operand=>Zby p.1) (args.toList.map fun x=>(.settle,x))) H (Sof F r Oh os) r (.raw::(args.toList.map fun x=>(Md.settle,x)).map fun p:Md×Operand=>p.1) (.fn (.func g) first cap::vs) ys os:=hV
   rw [any_thaw rfl (fun x=>x)] at hV
   obtain ⟨y,ys',o,rfl,k1,k2,_,k3,hV2,he2⟩:=VM.raw1 (xs:=(args.toList.map fun x=>(Md.settle,x)).map fun p:Md×Operand=>p.2) hV he
   rw [List.map_map,show ((fun p:Md×Operand=>p.2) ∘ fun x=>(Md.settle,x))=id from rfl,List.map_id] at he2
   obtain ⟨q1,q2⟩:=VM.pass hV2 (plain_map (m:=.settle) (f:=fun x=>x) trivial args.toList) fun x hx=>h2 x (List.mem_append_right _ (List.mem_append_left _ hx))
   have hn:NB (.fn (.func g) first cap):=k3.elim id fun h=>h.elim
   have key:∃ f' c',y=.func (.func g) f' c'∧VRL H (Sof F r Oh os) r first f'.toList []∧VRL H (Sof F r Oh os) r cap c'.toList []∧NBL first∧NBL cap:=by
    cases k2 with
    |k h=>cases h;exact ⟨_,_,rfl,.nil,.nil,.nil,.nil⟩
    |fn h h'=>
     cases hn with
     |fn a b=>exact ⟨_,_,rfl,h,h',a,b⟩
   obtain ⟨f',c',rfl,q3,q4,q5,q6⟩:=key
   have hvs:VRL H (Sof F r Oh os) r (first++(vs++cap)) (f'.toList++(ys'++c'.toList)) ([]++([]++[])):=q3.append (q1.append q4)
   obtain ⟨v',H',q7,q8⟩:=h3 hG hvs (NBL.of fun x hx=>(List.mem_append.1 hx).elim (q5.mem x) fun hx=>(List.mem_append.1 hx).elim (q2.mem x) (q6.mem x)) hb
   refine ⟨v',H',fun k'=>?_,by rw [hends];exact q8⟩
   show Zaf (evxs P Ev args.toList) _=_
   rw [he2,Zai]
   show Zaf (evx P Ev f) (fun f=>callVal ec lo f ys' H k')=_
   rw [k1,Zai]
   show bindVH (ec lo g (f'.toList++(ys'++c'.toList)) H) k'=_
   rw [q7];rfl
   |_=>cases h
  |_=>cases h
theorem sim_invoke (hs:CallSim C tc ec) (rc:Operand) (name:String) (args:Array Operand) (ts:Array TypeId):OpSim P C tc ec keep res ops tlo base T ⟨dst,.call ⟨.invoke rc name,args,ts⟩,ty,pos,after,guard⟩:=by
 intro vs β k ρ h hl
 have h:(match (generalizing:=false) vs with |r::vs=>callMethT P tc tlo r name vs T k |_=>none)=some ρ:=h
 have e1:Zbs P C keep res ops ⟨dst,.call ⟨.invoke rc name,args,ts⟩,ty,pos,after,guard⟩=(.raw,rc)::args.toList.map fun x=>(.settle,x):=rfl
 have hends:endsT P C keep res ops ⟨dst,.call ⟨.invoke rc name,args,ts⟩,ty,pos,after,guard⟩=true:=by
  unfold endsT
  cases anyG (fun p:Md×Operand=>Zby p.1) (Zbs P C keep res ops ⟨dst,.call ⟨.invoke rc name,args,ts⟩,ty,pos,after,guard⟩) <;> rfl
 cases vs with
 |nil=>cases h
 |cons fv vs=>
  have h:callMethT P tc tlo fv name vs T k=some ρ:=h
  cases fv with
  |iface t x=>
   have h:Zaf (evMethod P t name) (fun g=>Zbr tc tlo g (x::vs) T k)=some ρ:=h
   obtain ⟨g,h0,hA⟩:=Zac h
   obtain ⟨v,T',h1,h2,h3⟩:=callIn_run (base:=base) hs hA
   refine ⟨v,T',h1,fun {F lo H r Oh os Ev ys} hG hV he hb=>?_⟩
   rw [e1] at hV he
   have hV:VM (anyG (fun p:Md×Operand=>Zby p.1) (args.toList.map fun x=>(.settle,x))) H (Sof F r Oh os) r (.raw::(args.toList.map fun x=>(Md.settle,x)).map fun p:Md×Operand=>p.1) (.iface t x::vs) ys os:=hV
   rw [any_thaw rfl (fun x=>x)] at hV
   obtain ⟨y,ys',o,rfl,k1,k2,_,k3,hV2,he2⟩:=VM.raw1 (xs:=(args.toList.map fun x=>(Md.settle,x)).map fun p:Md×Operand=>p.2) hV he
   rw [List.map_map,show ((fun p:Md×Operand=>p.2) ∘ fun x=>(Md.settle,x))=id from rfl,List.map_id] at he2
   obtain ⟨q1,q2⟩:=VM.pass hV2 (plain_map (m:=.settle) (f:=fun x=>x) trivial args.toList) fun x hx=>h2 x (List.mem_cons_of_mem _ hx)
   obtain ⟨z,rfl,q3,_⟩:=iface_inv k2
   have hvs:VRL H (Sof F r Oh os) r (x::vs) (z::ys') ([]++[]):=.cons (.k q3) q1
   obtain ⟨v',H',q7,q8⟩:=h3 hG hvs (.cons (kr_nb q3).1 q2) hb
   refine ⟨v',H',fun k'=>?_,by rw [hends];exact q8⟩
   show Zaf (evxs P Ev args.toList) _=_
   rw [he2,Zai]
   show Zaf (evx P Ev rc) (fun r=>callMeth P ec lo r name ys' H k')=_
   rw [k1,Zai]
   show Zaf (evMethod P t name) _=_
   rw [h0,Zai,q7];rfl
  |_=>cases h
theorem op_sim (hs:CallSim C tc ec) (o:Oper):OpSim P C tc ec keep res ops tlo base T o:=by
 obtain ⟨dst,op,ty,pos,after,guard⟩:=o
 cases op with
 |move x=>exact sim_move x
 |assign x=>exact sim_assign x
 |pick c a b=>exact sim_pick c a b
 |alloc e=>exact sim_alloc e
 |box e x=>exact sim_box e x
 |build t parts=>exact sim_build t parts
 |buildSlice t len parts=>exact sim_buildSlice t len parts
 |load t a=>exact sim_load t a
 |store t a x=>exact sim_store t a x
 |nilCheck x=>exact sim_nilCheck x
 |binOp op t x y t2=>exact sim_binOp op t x y t2
 |unOp op t x=>exact sim_unOp op t x
 |convert s d x=>exact sim_convert s d x
 |makeFunc fn a b=>exact sim_makeFunc fn a b
 |makeMap t x=>exact sim_makeMap t x
 |makeSlice t l c=>exact sim_makeSlice t l c
 |slice t x a b c=>exact sim_slice t x a b c
 |fieldAddr t x f=>exact sim_fieldAddr t x f
 |field t x f=>exact sim_field t x f
 |indexAddr t x i=>exact sim_indexAddr t x i
 |index t x i=>exact sim_index t x i
 |lookup t x k ok=>exact sim_lookup t x k ok
 |mapUpdate t m k x=>exact sim_mapUpdate t m k x
 |extract x i=>exact sim_extract x i
 |makeInterface t x=>exact sim_makeInterface t x
 |typeAssert x t a ok=>exact sim_typeAssert x t a ok
 |call c=>
  obtain ⟨callee,args,ts⟩:=c
  cases callee with
  |builtin b=>
   cases b with
   |append=>exact sim_append args ts
   |clear=>exact sim_clear args ts
   |_=>exact sim_reads _ args ts (by intro h;cases h) (by intro h;cases h)
  |value f=>
   cases f with
   |func f=>exact sim_func hs f args ts
   |_=>exact sim_value hs _ (by intro g h;cases h) args ts
  |invoke r name=>exact sim_invoke hs r name args ts
 |_=>intro vs β k ρ h;cases h
end
end Go.Ev
namespace Go.Ev
section
variable {P:Program} {C:TC} {tc:Zbc} {ec:CallF} {keep res:List Tmp} {ops:List Oper} {tlo base:Nat}
def InvT (C:TC) (F:Nat→Prop) (lo tlo ep:Nat) (Ev:Env) (E:TE) (H:AH) (r:List Nat) (T:TH) (Oh Xe:List Nat):Prop:=
 Good C F lo tlo H r T Oh Xe∧EnvR false H (Sof F r Oh Xe) r ep Ev E Xe
theorem nextEp_true {o:Oper} {ep:Nat} (h:endsT P C keep res ops o=true):nextEp P C keep res ops o ep=ep+1:=by unfold nextEp;rw [h];rfl
theorem nextEp_false {o:Oper} {ep:Nat} (h:endsT P C keep res ops o=false):nextEp P C keep res ops o ep=ep:=by unfold nextEp;rw [h];rfl
theorem ends_thaw {o:Oper} (h:endsT P C keep res ops o=false):anyG (fun p:Md×Operand=>Zby p.1) (Zbs P C keep res ops o)=false:=by
 unfold endsT at h
 cases hx:anyG (fun p:Md×Operand=>Zby p.1) (Zbs P C keep res ops o) with
 |true=>rw [hx] at h;cases h
 |false=>rfl
theorem env_after {F:Nat→Prop} {lo ep:Nat} {o:Oper} {w:Bool} (hw:w=anyG (fun p:Md×Operand=>Zby p.1) (Zbs P C keep res ops o)) {H H':AH} {r1 r' Oh Oh' Xe1 os ov:List Nat} {Ev:Env} {E':TE} {T1:TH}
  (hG:Good C F lo tlo H r1 T1 Oh (Xe1++os)) (hE:EnvR w H (Sof F r1 Oh (Xe1++os)) r1 ep Ev E' Xe1) (m:Mv H r1 Oh (Xe1++os) H' r' Oh' (Xe1++ov)) (hs:∀ i∈Xe1,H'.get i=H.get i)
  (hq:endsT P C keep res ops o=false→∀ i,i < H.next→i ∉ r1→i ∉ r'∧H'.get i=H.get i):EnvR false H' (Sof F r' Oh' (Xe1++ov)) r' (nextEp P C keep res ops o ep) Ev E' Xe1:=by
 have st:=m.stay (F:=F)
 cases he:endsT P C keep res ops o with
 |true=>rw [nextEp_true he];exact hE.succ st m.pre hs
 |false=>
  have h1:=ends_thaw he
  rw [h1] at hw
  subst hw
  rw [nextEp_false he]
  exact hE.mono st m.pre (fun _=>hq he) hs
theorem mv_apart {H H':AH} {r Oh os r' Oh' ov Y:List Nat} (m:Mv H r Oh os H' r' Oh' ov):Mv H r Oh (Y++os) H' r' Oh' (Y++ov):=
 ⟨m.next,fun i hi ha=>m.same i hi (by unfold act at *;rw [List.count_append] at ha;omega),fun i hi=>by have:=m.less i hi;unfold act at *;rw [List.count_append,List.count_append];omega,m.pre⟩
theorem HL.top {H:AH} {S:Nat→Prop} {r:List Nat} {lo tlo lo' n:Nat}:∀ {b:Nat} {T:List TObj} {rs O:List Nat},HL H S r lo tlo b T rs O→b+T.length≤n→HL H S r lo' n b T rs O
 |_,_,_,_,.nil,_=>.nil
 |_,_,_,_,.cons h _ t,hb=>.cons h (fun hn=>by rw [List.length_cons] at hb;omega) (HL.top t (by rw [List.length_cons] at hb;omega))
theorem HL.all {H:AH} {S:Nat→Prop} {r:List Nat} {lo tlo lo' tlo':Nat}:∀ {b:Nat} {T:List TObj} {rs O:List Nat},HL H S r lo tlo b T rs O→(∀ j∈O,lo'≤j)→HL H S r lo' tlo' b T rs O
 |_,_,_,_,.nil,_=>.nil
 |_,_,_,_,.cons h _ t,hb=>.cons h (fun _ j hj=>hb j (List.mem_append_left _ hj)) (HL.all t fun j hj=>hb j (List.mem_append_right _ hj))
theorem HL.no_own {H:AH} {S:Nat→Prop} {r:List Nat} {lo tlo:Nat}:∀ {b:Nat} {T:List TObj} {rs O:List Nat},HL H S r lo tlo b T rs O→(∀ o∈T,noOwnO o=true)→O=[]
 |_,_,_,_,.nil,_=>rfl
 |_,_,_,_,.cons h _ t,hb=>by
  have h1:=HL.no_own t fun o ho=>hb o (List.mem_cons_of_mem _ ho)
  have h2:=hb _ (List.mem_cons_self ..)
  subst h1
  rw [List.append_nil]
  cases h with
  | @cells cs i s ds e o hg hs nb hc h=>
   have h2:Zbu (fun x=>!isOwn x) cs=true:=h2
   rw [Zds,List.all_eq_true] at h2
   exact owns_none h hc (by
    rw [List.any_eq_false]
    intro x hx hy
    have:=h2 x hx
    rw [hy] at this;cases this)
  |map=>rfl
  |dead=>rfl
theorem good_raise {F:Nat→Prop} {lo:Nat} {H:AH} {r Oh:List Nat} {T:TH} (h:Good C F lo tlo H r T Oh []):Good C F H.next T.length H r T Oh []:=
 ⟨h.nd,h.lt,h.fl,Nat.le_refl _,fun b i hb hi=>(by rw [List.getElem?_eq_none (by rw [h.len];exact hb)] at hi;cases hi),fun i hi=>(by cases hi),h.heap.top (by omega),h.tabs⟩
theorem good_lower {F:Nat→Prop} {lo n:Nat} {H H':AH} {r r' Oh' o:List Nat} {T T':TH} (h:Good C F lo tlo H r T [] []) (m:Mv H r [] [] H' r' Oh' o) (hn:n=T.length) (k:Good C F H.next n H' r' T' Oh' o):Good C F lo tlo H' r' T' Oh' o:=
 ⟨k.nd,k.lt,k.fl,Nat.le_trans h.lon m.next,fun b i hb hi=>by
  rcases Nat.lt_or_ge b r.length with hl |hl
  ·have h1:r[b]? = some r[b]:=List.getElem?_eq_getElem hl
   have h2:=m.pre b _ h1
   rw [hi] at h2
   cases h2
   exact h.rlo b _ hb h1
  ·have h1:=k.rlo b i (by rw [hn,← h.len];exact hl) hi
   have:=h.lon
   omega,fun i hi=>Nat.le_trans h.lon (k.xlo i hi),k.heap.all fun j hj=>by
  rcases Nat.lt_or_ge j H.next with hl |hl
  ·have h1:=m.less j hl
   have h2:=k.mem_o hj
   have h3:=Zax.2 hj
   unfold act at h1
   simp only [List.count_nil] at h1
   have h4:j∈r:=Zax.1 (by omega)
   obtain ⟨b,hb⟩:=List.mem_iff_getElem?.1 h4
   have h5:=Zax.2 (getr_mem (m.pre b j hb))
   omega
  ·have:=h.lon;omega,k.tabs⟩
theorem res_lower {F:Nat→Prop} {lo n:Nat} {ends:Bool} {H H':AH} {r:List Nat} {T T':TH} {v:TV} {v':Value} (h:Good C F lo tlo H r T [] []) (hn:n=T.length) (k:Res C F H.next n base ends H r T [] [] v T' v' H'):Res C F lo tlo base ends H r T [] [] v T' v' H':=by
 obtain ⟨r',Oh',o,k1,k2,k3,k4,k5,k6⟩:=k
 exact ⟨r',Oh',o,good_lower h k4 hn k1,k2,k3,k4,k5,k6⟩
theorem VM.plain_os {w:Bool} {H:AH} {S:Nat→Prop} {r:List Nat}:∀ {ms:List Md} {xs:List TV} {ys:List Value} {os:List Nat},VM w H S r ms xs ys os→(∀ m∈ms,plainMdB m=true)→os=[]
 |_,_,_,_,.nil,_=>rfl
 |m::ms,_,_,_,.cons h hv t,hm=>by
  have h1:=VM.plain_os t fun m h=>hm m (List.mem_cons_of_mem _ h)
  have h2:=hm m (List.mem_cons_self ..)
  subst h1
  cases m with
  |raw=>rw [h.1];rfl
  |settle=>rw [h.1];rfl
  |_=>cases h2
theorem plain_thaw {o:Oper} (h:plainOp P C keep res ops o=true):anyG (fun p:Md×Operand=>Zby p.1) (Zbs P C keep res ops o)=false:=by
 unfold plainOp at h
 rw [Zds,List.all_eq_true] at h
 rw [anyG_eq,List.any_eq_false]
 intro p hp hq
 have:=h p hp
 obtain ⟨m,x⟩:=p
 cases m with
 |thaw=>cases this
 |_=>cases hq
def LoOk (P:Program) (C:TC) (keep res:List Tmp) (ops:List Oper) (T:TH) (o:Oper) (tlo tlo2 lo lo2:Nat) (H:AH):Prop:=
 (tlo2=tlo∧lo2=lo)∨(tlo2=tlo∧isTreeOp C o.op=true∧lo≤lo2∧lo2≤H.next)∨(tlo2=T.length∧lo2=H.next∧plainOp P C keep res ops o=true∧Zbu noOwnO T=true∧isTreeOp C o.op=false)
theorem oneT_run (hs:CallSim C tc ec) (o:Oper) {ep:Nat} {E:TE} {T:TH} {β:Type} {k:TV→TE→TH→Option β} {ρ:β} {tlo2:Nat} (h:oneT P C tc keep res ops tlo2 base ep E T o k=some ρ) :
  ∃ v E' T',k v E' T'=some ρ∧∀ {F:Nat→Prop} {lo lo2:Nat} {H:AH} {r Oh Xe:List Nat} {Ev:Env},LoOk P C keep res ops T o tlo tlo2 lo lo2 H→InvT C F lo tlo ep Ev E H r T Oh Xe→base≤T.length →
   ∃ v' H' r' Oh' Xe' ov,(∀ {γ:Type} (k':Value→AH→Option γ),evGuarded P ec lo2 ops Ev H o k'=k' v' H')∧InvT C F lo tlo (nextEp P C keep res ops o ep) Ev E' H' r' T' Oh' Xe'∧Good C F lo tlo H' r' T' Oh' (Xe'++ov) ∧
    EnvR false H' (Sof F r' Oh' (Xe'++ov)) r' (nextEp P C keep res ops o ep) Ev E' Xe'∧VR H' (Sof F r' Oh' (Xe'++ov)) r' v v' ov∧OV v∧Mv H r Oh Xe H' r' Oh' (Xe'++ov)∧LowS base T T':=by
 have step:∀ {E1:TE} {q:TH} {xs:List TV} {γ:Type} {k1:TV→TH→Option γ} {ρ1:γ},xs.length=(Zbs P C keep res ops o).length→operT P C tc keep res ops tlo2 base o.dst (T++q) o.op xs k1=some ρ1 →
   ∃ v T',k1 v T'=some ρ1∧∀ {F:Nat→Prop} {lo lo2:Nat} {H:AH} {r r1 Oh Xe Xe1 os:List Nat} {ys:List Value} {Ev:Env},LoOk P C keep res ops T o tlo tlo2 lo lo2 H→base≤T.length →
    evxs P Ev ((Zbs P C keep res ops o).map (·.2))=some ys→Good C F lo tlo H r1 (T++q) Oh (Xe1++os)→EnvR (anyG (fun p:Md×Operand=>Zby p.1) (Zbs P C keep res ops o)) H (Sof F r1 Oh (Xe1++os)) r1 ep Ev E1 Xe1 →
    VM (anyG (fun p:Md×Operand=>Zby p.1) (Zbs P C keep res ops o)) H (Sof F r1 Oh (Xe1++os)) r1 ((Zbs P C keep res ops o).map (·.1)) xs ys os→(∀ (b i:Nat),r[b]? = some i→r1[b]? = some i)→(∀ i,act r1 Oh (Xe1++os) i≤act r Oh Xe i)→(anyG (fun p:Md×Operand=>Zby p.1) (Zbs P C keep res ops o)=false→r1=r)→(r.length=T.length) →
    ∃ v' H' r' Oh' ov,(∀ {γ:Type} (k':Value→AH→Option γ),evOper P ec lo2 Ev H o.op k'=k' v' H')∧Good C F lo tlo H' r' T' Oh' (Xe1++ov) ∧
     EnvR false H' (Sof F r' Oh' (Xe1++ov)) r' (nextEp P C keep res ops o ep) Ev E1 Xe1∧VR H' (Sof F r' Oh' (Xe1++ov)) r' v v' ov∧OV v∧Mv H r Oh Xe H' r' Oh' (Xe1++ov)∧LowS base T T':=by
  intro E1 q xs γ k1 ρ1 hl hk
  have fin:∀ {v:TV} {T':TH} {F:Nat→Prop} {lo lo2:Nat} {H:AH} {r r1 Oh Xe Xe1 os:List Nat} {Ev:Env},base≤T.length→Good C F lo tlo H r1 (T++q) Oh (Xe1++os)→EnvR (anyG (fun p:Md×Operand=>Zby p.1) (Zbs P C keep res ops o)) H (Sof F r1 Oh (Xe1++os)) r1 ep Ev E1 Xe1 →
    (∀ (b i:Nat),r[b]? = some i→r1[b]? = some i)→(∀ i,act r1 Oh (Xe1++os) i≤act r Oh Xe i) →
    (∃ v' H',(∀ {γ:Type} (k':Value→AH→Option γ),evOper P ec lo2 Ev H o.op k'=k' v' H')∧Res C (fun i=>F i∨i∈Xe1) lo tlo base (endsT P C keep res ops o) H r1 (T++q) Oh os v T' v' H') →
    ∃ v' H' r' Oh' ov,(∀ {γ:Type} (k':Value→AH→Option γ),evOper P ec lo2 Ev H o.op k'=k' v' H')∧Good C F lo tlo H' r' T' Oh' (Xe1++ov) ∧
     EnvR false H' (Sof F r' Oh' (Xe1++ov)) r' (nextEp P C keep res ops o ep) Ev E1 Xe1∧VR H' (Sof F r' Oh' (Xe1++ov)) r' v v' ov∧OV v∧Mv H r Oh Xe H' r' Oh' (Xe1++ov)∧LowS base T T':=by
   intro v T' F lo lo2 H r r1 Oh Xe Xe1 os Ev hb hG hE pre hc hR
   obtain ⟨v',H',e,r',Oh',ov,g1,g2,g3,g4,g5,g6⟩:=hR
   have cx:∀ i∈Xe1,r1.count i=0∧Oh.count i=0∧os.count i=0∧Xe1.count i=1∧i < H.next:=fun i hi=>by
    have h1:=hG.nd i
    have h2:=Zax.2 hi
    have h3:=hG.lt i (by unfold act;rw [List.count_append];omega)
    unfold act at h1
    rw [List.count_append] at h1
    exact ⟨by omega,by omega,by omega,by omega,h3.1⟩
   have hs:∀ i∈Xe1,H'.get i=H.get i:=fun i hi=>by
    obtain ⟨a1,a2,a3,a4,a5⟩:=cx i hi
    exact g4.same i a5 (by unfold act;omega)
   have hj:=g1.join (fun i=>by
    rcases Nat.eq_zero_or_pos (Xe1.count i) with h1 |h1
    ·omega
    ·have:=(cx i (Zax.1 h1)).2.2.2.1;omega) (fun i hi=>(hG.lt i (by unfold act;rw [List.count_append];have:=Zax.2 hi;omega)).2) fun i hi=>hG.xlo i (List.mem_append_left _ hi)
   have m:=mv_apart (Y:=Xe1) g4
   have m0:Mv H r Oh Xe H r1 Oh (Xe1++os):=⟨Nat.le_refl _,fun _ _ _=>rfl,fun i _=>hc i,pre⟩
   refine ⟨v',H',r',Oh',ov,e,hj,env_after rfl hG hE m hs g5,by rw [← Sof_apart];exact g2,g3,m0.trans m,(LowS.append hb).trans g6⟩
  cases ht:isTreeOp C o.op with
  |true=>
   obtain ⟨v,T',a1,a2⟩:=sim_quiet (base:=base) hs o ht hk
   refine ⟨v,T',a1,fun {F lo lo2 H r r1 Oh Xe Xe1 os ys Ev} hlo hb he hG hE hV pre hc hth hrl=>fin hb hG hE pre hc ?_⟩
   have hA:=hG.apart
   rw [← Sof_apart] at hV
   have hl:tlo2=tlo∧lo≤lo2∧lo2≤H.next:=by
    rcases hlo with ⟨h1,h2⟩ |⟨h1,_,h2⟩ |⟨_,_,_,_,h1⟩
    ·exact ⟨h1,by omega,by have:=hG.lon;omega⟩
    ·exact ⟨h1,h2⟩
    ·rw [ht] at h1;cases h1
   obtain ⟨rfl,hl⟩:=hl
   exact a2 hl.1 hl.2 hA hV he (by rw [List.length_append];omega)
  |false=>
   obtain ⟨v,T',a1,a2⟩:=op_sim (P:=P) (keep:=keep) (res:=res) (ops:=ops) (tlo:=tlo2) (base:=base) hs o hk hl
   refine ⟨v,T',a1,fun {F lo lo2 H r r1 Oh Xe Xe1 os ys Ev} hlo hb he hG hE hV pre hc hth hrl=>fin hb hG hE pre hc ?_⟩
   have hA:=hG.apart
   rw [← Sof_apart] at hV
   rcases hlo with ⟨h1,h2⟩ |⟨_,h1,_⟩ |⟨h1,h2,h3,h4,_⟩
   ·subst h1
    subst h2
    exact a2 hA hV he (by rw [List.length_append];omega)
   ·rw [ht] at h1;cases h1
   ·have hos:os=[]:=hV.plain_os fun m hm=>by
     obtain ⟨p,hp,rfl⟩:=List.mem_map.1 hm
     unfold plainOp at h3
     rw [Zds,List.all_eq_true] at h3
     exact h3 p hp
    have hq:q=[]:=by
     have h5:=hG.len
     have h6:r1.length≤r.length:=by
      rcases Nat.lt_or_ge r.length r1.length with h |h
      ·exact absurd (hth (plain_thaw h3)) (by intro e;rw [e] at h;omega)
      ·exact h
     have h7:=hrl
     rw [List.length_append] at h5
     exact List.length_eq_zero_iff.1 (by omega)
    subst hos
    subst hq
    rw [List.append_nil] at hA a2 ⊢
    have hOh:Oh=[]:=hA.heap.no_own (by rw [Zds,List.all_eq_true] at h4;exact h4)
    subst hOh
    have hR:=good_raise hA
    rw [← h2,← h1] at hR
    obtain ⟨v',H',k1,k2⟩:=a2 hR hV he hb
    exact ⟨v',H',k1,res_lower hA h1 (by rw [← h2];exact k2)⟩
 unfold oneT at h
 split at h
 ·rename_i hg
  obtain ⟨xs,E1,q,h1,h2,a⟩:=rdOps_run h
  obtain ⟨v,T',b1,b2⟩:=step (E1:=E1) h1 h2
  refine ⟨v,E1,T',b1,fun {F lo lo2 H r Oh Xe Ev} hlo hI hb=>?_⟩
  obtain ⟨ys,r1,Xe1,os,c1,c2,c3,c4,c5,c6,c7⟩:=a (w:=anyG (fun p:Md×Operand=>Zby p.1) (Zbs P C keep res ops o)) (Xv:=[]) (Ev:=Ev) id (by rw [List.append_nil];exact hI.1) (by rw [List.append_nil];exact hI.2.weak)
  rw [List.append_nil os] at c2 c3 c4 c7
  rw [List.append_nil Xe] at c7
  obtain ⟨v',H',r',Oh',ov,d1,d2,d3,d4,d5,d6,d7⟩:=b2 hlo hb c1 c2 c3 c4 c5 c7 c6 hI.1.len
  have hc:∀ i,act r' Oh' Xe1 i≤act r' Oh' (Xe1++ov) i:=fun i=>by unfold act;rw [List.count_append];omega
  refine ⟨v',H',r',Oh',Xe1,ov,fun k'=>?_,⟨d2.less fun i=>by rw [List.count_append];omega,d3.mono (stay_act hc) (fun _ _ h=>h) (fun _ i _ hi=>⟨hi,rfl⟩) fun _ _=>rfl⟩,d2,d3,d4,d5,d6,d7⟩
  unfold evGuarded
  rw [hg]
  exact d1 k'
 ·rename_i g hg
  obtain ⟨p,p1,h⟩:=Zac h
  obtain ⟨d,p2,h⟩:=Zac h
  obtain ⟨e,p3,h⟩:=Zac h
  obtain ⟨xs,E1,q,h1,h2,a⟩:=rdOps_run h
  obtain ⟨h3,h2⟩:=Zan h2
  obtain ⟨z,hz,hw⟩:∃ z:Value,(∀ {H:AH} {S:Nat→Prop} {r:List Nat} {y:Value} {o:List Nat},VR H S r (nowT ep e) y o→y=z)∧isBT e.2 g.2=isB z g.2:=by
   unfold isBoolT at h3
   split at h3
   ·rename_i b hb
    have e2:nowT ep e=.v (.bool b):=by
     unfold nowT
     rw [hb]
     cases Nat.beq e.1 ep <;> rfl
    refine ⟨.bool b,fun {H S r y o} h=>?_,by rw [hb];rfl⟩
    rw [e2] at h
    exact (v_inv h).1
   ·rename_i hb
    have e2:nowT ep e=.gone:=by
     unfold nowT
     rw [hb]
     cases Nat.beq e.1 ep <;> rfl
    refine ⟨undef,fun {H S r y o} h=>?_,by rw [hb];rfl⟩
    rw [e2] at h
    cases h with
    |k h=>cases h
    |gone=>rfl
   ·cases h3
  have read:∀ {F:Nat→Prop} {lo:Nat} {H:AH} {r Oh Xe:List Nat} {Ev:Env},InvT C F lo tlo ep Ev E H r T Oh Xe→Zcs Ev d=some z:=by
   intro F lo H r Oh Xe Ev hI
   obtain ⟨y,o1,O2,_,_,l1,l2,_⟩:=hI.2.look p3
   rw [← hz (show VR H _ r (nowT ep e) y o1 from l2)]
   exact l1
  rw [hw] at h2
  obtain ⟨w,hwv⟩:∃ w,w=isB z g.2:=⟨_,rfl⟩
  rw [← hwv] at h2
  cases w with
  |true=>
   obtain ⟨vT,h4,h5⟩:=bindT_eq h2
   obtain ⟨v,T',b1,b2⟩:=step (E1:=E1) h1 h4
   cases b1
   refine ⟨v,E1,T',h5,fun {F lo lo2 H r Oh Xe Ev} hlo hI hb=>?_⟩
   obtain ⟨ys,r1,Xe1,os,c1,c2,c3,c4,c5,c6,c7⟩:=a (w:=anyG (fun p:Md×Operand=>Zby p.1) (Zbs P C keep res ops o)) (Xv:=[]) (Ev:=Ev) id (by rw [List.append_nil];exact hI.1) (by rw [List.append_nil];exact hI.2.weak)
   rw [List.append_nil os] at c2 c3 c4 c7
   rw [List.append_nil Xe] at c7
   obtain ⟨v',H',r',Oh',ov,d1,d2,d3,d4,d5,d6,d7⟩:=b2 hlo hb c1 c2 c3 c4 c5 c7 c6 hI.1.len
   have hc:∀ i,act r' Oh' Xe1 i≤act r' Oh' (Xe1++ov) i:=fun i=>by unfold act;rw [List.count_append];omega
   refine ⟨v',H',r',Oh',Xe1,ov,fun k'=>?_,⟨d2.less fun i=>by rw [List.count_append];omega,d3.mono (stay_act hc) (fun _ _ h=>h) (fun _ i _ hi=>⟨hi,rfl⟩) fun _ _=>rfl⟩,d2,d3,d4,d5,d6,d7⟩
   unfold evGuarded
   rw [hg]
   show Zaf (nth ops g.1) _=_
   rw [p1,Zai,p2,Zai,read hI,Zai]
   unfold guarded
   rw [← hwv,d1]
   rfl
  |false=>
   refine ⟨.gone,E1,T++q,h2,fun {F lo lo2 H r Oh Xe Ev} hlo hI hb=>?_⟩
   obtain ⟨ys,r1,Xe1,os,c1,c2,c3,c4,c5,c6,c7⟩:=a (w:=anyG (fun p:Md×Operand=>Zby p.1) (Zbs P C keep res ops o)) (Xv:=[]) (Ev:=Ev) id (by rw [List.append_nil];exact hI.1) (by rw [List.append_nil];exact hI.2.weak)
   rw [List.append_nil os] at c2 c3 c4 c7
   rw [List.append_nil Xe] at c7
   have hc:∀ i,act r1 Oh (Xe1++[]) i≤act r1 Oh (Xe1++os) i:=fun i=>by unfold act;rw [List.count_append,List.count_append];simp
   have m:Mv H r1 Oh (Xe1++os) H r1 Oh (Xe1++[]):=⟨Nat.le_refl _,fun _ _ _=>rfl,fun i _=>hc i,fun _ _ h=>h⟩
   have e1:=env_after (res:=res) (ov:=[]) rfl c2 c3 m (fun _ _=>rfl) (fun _ i _ hi=>⟨hi,rfl⟩)
   have g1:Good C F lo tlo H r1 (T++q) Oh (Xe1++[]):=c2.less fun i=>by rw [List.count_append,List.count_append];simp
   have m0:Mv H r Oh Xe H r1 Oh (Xe1++os):=⟨Nat.le_refl _,fun _ _ _=>rfl,fun i _=>c7 i,c5⟩
   refine ⟨undef,H,r1,Oh,Xe1,[],fun k'=>?_,⟨by rw [List.append_nil] at g1;exact g1,by rw [List.append_nil] at e1;exact e1⟩,g1,e1,.gone,.inl .gone,m0.trans m,.append hb⟩
   unfold evGuarded
   rw [hg]
   show Zaf (nth ops g.1) _=_
   rw [p1,Zai,p2,Zai,read hI,Zai]
   unfold guarded
   rw [← hwv]
   rfl
theorem inv_put {F:Nat→Prop} {lo ep:Nat} {Ev:Env} {E:TE} {H:AH} {r Oh Xe ov:List Nat} {T:TH} {v:TV} {v':Value} (hG:Good C F lo tlo H r T Oh (Xe++ov)) (hE:EnvR false H (Sof F r Oh (Xe++ov)) r ep Ev E Xe) (hv:VR H (Sof F r Oh (Xe++ov)) r v v' ov) (hn:OV v) (d:Option Tmp) :
  ∃ Xe',InvT C F lo tlo ep (putE Ev d v') (putD E d ep v) H r T Oh Xe'∧∀ i,Xe'.count i≤(Xe++ov).count i:=by
 obtain ⟨O2,h1,h2⟩:=hE.put d hn hv
 have hc:∀ i,O2.count i≤(Xe++ov).count i:=fun i=>by rw [List.count_append];exact h2 i
 have ha:∀ i,act r Oh O2 i≤act r Oh (Xe++ov) i:=fun i=>by unfold act;have:=hc i;omega
 exact ⟨O2,⟨hG.less hc,h1.mono (stay_act ha) (fun _ _ h=>h) (fun _ i _ hi=>⟨hi,rfl⟩) fun _ _=>rfl⟩,hc⟩
def Left (C:TC) (F:Nat→Prop) (lo tlo base ep:Nat) (E:TE) (H:AH) (r:List Nat) (T:TH) (Oh Xe:List Nat) (T0:TH) (Ev':Env) (H':AH):Prop:=
 ∃ r' Oh' Xe',InvT C F lo tlo ep Ev' E H' r' T Oh' Xe'∧Mv H r Oh Xe H' r' Oh' Xe'∧LowS base T0 T
theorem Left.of {F:Nat→Prop} {lo ep:Nat} {Ev':Env} {E:TE} {H H1 H':AH} {r Oh Xe r1 Oh1 Xe1:List Nat} {T T0 T1:TH} (h:Left C F lo tlo base ep E H1 r1 T Oh1 Xe1 T1 Ev' H') (m:Mv H r Oh Xe H1 r1 Oh1 Xe1) (l:LowS base T0 T1):Left C F lo tlo base ep E H r T Oh Xe T0 Ev' H':=by
 obtain ⟨r',Oh',Xe',h1,h2,h3⟩:=h
 exact ⟨r',Oh',Xe',h1,m.trans h2,l.trans h3⟩
theorem mv_less {H H':AH} {r Oh X r' Oh' X' X2:List Nat} (m:Mv H r Oh X H' r' Oh' X') (hc:∀ i,X2.count i≤X'.count i):Mv H r Oh X H' r' Oh' X2:=
 ⟨m.next,m.same,fun i hi=>by have:=m.less i hi;have:=hc i;unfold act at *;omega,m.pre⟩
theorem opsT_run (hs:CallSim C tc ec) {nt:Nat} {β:Type}:∀ {l:List Oper} {ep:Nat} {E:TE} {T:TH} {k:TE→TH→Option β} {ρ:β},opsT P C tc keep res tlo base nt ops l ep E T k=some ρ →
  ∃ ep' E' T',k E' T'=some ρ∧∀ {F:Nat→Prop} {lo:Nat} {H:AH} {r Oh Xe:List Nat} {Ev:Env},InvT C F lo tlo ep Ev E H r T Oh Xe→base≤T.length →
   ∃ Ev' H',(∀ {γ:Type} (k':Env→AH→Option γ),evOps P ec lo nt ops l Ev H k'=k' Ev' H')∧Left C F lo tlo base ep' E' H r T' Oh Xe T Ev' H'
 |[],ep,E,T,k,ρ,h=>⟨ep,E,T,h,fun {F lo H r Oh Xe Ev} hI _=>⟨Ev,H,fun _=>rfl,r,Oh,Xe,hI,.refl ..,.refl ..⟩⟩
 |o::l,ep,E,T,k,ρ,h=>by
  have h:cond (bound nt o.dst) (oneT P C tc keep res ops tlo base ep E T o fun v E H=>opsT P C tc keep res tlo base nt ops l (nextEp P C keep res ops o ep) (putD E o.dst (nextEp P C keep res ops o ep) v) H k) none=some ρ:=h
  cases hb:bound nt o.dst with
  |false=>rw [hb] at h;cases h
  |true=>
   rw [hb] at h
   obtain ⟨v,E1,T1,h1,a⟩:=oneT_run hs o (show oneT P C tc keep res ops tlo base ep E T o _=some ρ from h)
   obtain ⟨ep',E',T',h2,b⟩:=opsT_run hs h1
   refine ⟨ep',E',T',h2,fun {F lo H r Oh Xe Ev} hI hl=>?_⟩
   obtain ⟨v',H1,r1,Oh1,Xe1,ov,a1,_,a3,a4,a5,a6,a7,a8⟩:=a (lo2:=lo) (.inl ⟨rfl,rfl⟩) hI hl
   obtain ⟨Xe2,c1,c2⟩:=inv_put a3 a4 a5 a6 o.dst
   obtain ⟨Ev',H',b1,b2⟩:=b c1 (Nat.le_trans hl a8.1)
   refine ⟨Ev',H',fun k'=>?_,b2.of (mv_less a7 c2) a8⟩
   show cond (bound nt o.dst) (evGuarded P ec lo ops Ev H o fun v H=>evOps P ec lo nt ops l (putE Ev o.dst v) H k') none=_
   rw [hb]
   show evGuarded P ec lo ops Ev H o _=_
   rw [a1]
   exact b1 k'
def HdR (H:AH) (S:Nat→Prop) (r X:List Nat) (d:Hd) (y:Value):Prop:=
 match d with
 |.none=>Zcd y=[]
 |.box b=>∃ i,r[b]? = some i∧Zcd y=[i]
 |.own=>∃ i,i∈X∧Zcd y=[i]
 |.set=>∃ i,S i∧Zcd y=[i]
 |.any=>True
 |.row n=>∃ i,i ∉ r.take n∧n≤r.length∧Zcd y=[i]
theorem flat_ids {a:Value} (h:flat a=true) (hn:notSl a=true):Zcd a=[]:=by
 cases a with
 |pointer a=>cases a with
  |none=>rfl
  |some=>cases h
 |map m=>cases m with
  |none=>rfl
  |some=>cases h
 |slice a _ _=>cases hn
 |_=>rfl
theorem hd_rel {H:AH} {S:Nat→Prop} {r X:List Nat} {x:TV} {y:Value} {o:List Nat} (h:VR H S r x y o) (ho:∀ i∈o,i∈X):HdR H S r X (hdT x) y:=by
 cases h with
 |k h=>cases h with
  |v h1 h2=>exact flat_ids h1 h2
  |nil=>rfl
  | @row c n es i off cap s cs e hc hi=>cases c with
   |nil=>exact hc.elim
   |full=>exact ⟨i,hi,rfl⟩
   |opn=>exact ⟨i,hi,rfl⟩
  |agg=>rfl
  |iface=>rfl
  |fn0=>rfl
 | @bor c n es i off cap s cs e hc=>cases c with
  |nil=>exact hc.elim
  |full=>trivial
  |opn=>trivial
 | @own c n es i cs e hc=>cases c with
  |nil=>exact absurd rfl hc
  |full=>exact ⟨i,ho i (List.mem_singleton.2 rfl),rfl⟩
  |opn=>exact ⟨i,ho i (List.mem_singleton.2 rfl),rfl⟩
 |ptr h=>exact ⟨_,h,rfl⟩
 |elS hi=>exact ⟨_,hi,rfl⟩
 |elB=>trivial
 |vec h=>exact ⟨_,h,rfl⟩
 |map h=>exact ⟨_,h,rfl⟩
 |fn=>rfl
 |agg=>rfl
 |tup=>trivial
 |und=>trivial
 |gone=>trivial
theorem rawT_run {ep:Nat} {E:TE} {o:Operand} {x:TV} (h:rawT P C ep E o=some x) {F:Nat→Prop} {lo:Nat} {H:AH} {r Oh Xe:List Nat} {T:TH} {Ev:Env} (hI:InvT C F lo tlo ep Ev E H r T Oh Xe) :
  ∃ y ox,evx P Ev o=some y∧VR H (Sof F r Oh Xe) r x y ox∧∀ i∈ox,i∈Xe:=by
 cases o with
 |tmp t=>
  obtain ⟨p,h1,h2⟩:=Zac h
  cases h2
  obtain ⟨y,o1,O2,_,_,l1,l2,_,l4⟩:=hI.2.look h1
  exact ⟨y,o1,l1,l2,fun i hi=>Zax.1 (by have:=l4 i;have:=Zax.2 hi;omega)⟩
 |const v=>
  obtain ⟨h1,h2⟩:=Zan h
  cases h2
  refine ⟨v,[],?_,(ofV_rel h1).1,fun i hi=>by cases hi⟩
  show Zap (plain v) (some v)=_
  rw [h1];rfl
 |global g=>
  obtain ⟨cs,h1,h2⟩:=Zac h
  obtain ⟨h3,h4⟩:=Zan h2
  cases h4
  obtain ⟨a1,a2,s,ds,e,a3,a4,a5,a7,a6⟩:=hI.1.tabs g cs h1
  refine ⟨.pointer (some ⟨g,0,none⟩),[],?_,.elS (o:=0) (off:=0) a1 a2 a3 a4 (by omega) a7 (by rw [List.drop_zero];exact a6),fun i hi=>by cases hi⟩
  show Zap (Nat.blt g P.globals.size) _=_
  rw [h3];rfl
 |func f=>
  cases h
  exact ⟨_,[],rfl,.k .fn0,fun i hi=>by cases hi⟩
def HdS (H:AH) (S:Nat→Prop) (r:List Nat) (d:Hd) (y:Value):Prop:=match d with |.own=>False |.set=>∃ i,S i∧i < H.next∧Zcd y=[i] |h=>HdR H S r [] h y
def HER (H:AH) (S:Nat→Prop) (r:List Nat) (Ev:Env) (hs:HE):Prop:=∀ t h,lookH hs t=h→∀ y,Zcs Ev t=some y→HdS H S r h y
theorem hdP_rel {H:AH} {S:Nat→Prop} {r:List Nat} {T:TH} {x:TV} {y:Value} {o:List Nat} (hl:r.length=T.length) (ho:∀ i∈o,i ∉ r) (h:VR H S r x y o):HdS H S r (hdP T x) y:=by
 have nr:∀ {i:Nat},i ∉ r→i ∉ r.take (Zag T):=fun hi h=>hi (List.mem_of_mem_take h)
 have nl:Zag T≤r.length:=by rw [Zat,hl];exact Nat.le_refl _
 cases h with
 |k h=>cases h with
  |v h1 h2=>exact flat_ids h1 h2
  |nil=>rfl
  | @row c n es i off cap s cs e hc hi hl=>cases c with
   |nil=>exact hc.elim
   |full=>exact ⟨i,hi,hl,rfl⟩
   |opn=>exact ⟨i,hi,hl,rfl⟩
  |agg=>rfl
  |iface=>rfl
  |fn0=>rfl
 | @bor c n es i off cap s cs e hc hi=>cases c with
  |nil=>exact hc.elim
  |full=>exact ⟨i,nr hi,nl,rfl⟩
  |opn=>exact ⟨i,nr hi,nl,rfl⟩
 | @own c n es i cs e hc=>cases c with
  |nil=>exact absurd rfl hc
  |full=>exact ⟨i,nr (ho i (List.mem_singleton.2 rfl)),nl,rfl⟩
  |opn=>exact ⟨i,nr (ho i (List.mem_singleton.2 rfl)),nl,rfl⟩
 |ptr h=>exact ⟨_,h,rfl⟩
 |elS hi hl=>exact ⟨_,hi,hl,rfl⟩
 |elB hi=>exact ⟨_,nr hi,nl,rfl⟩
 |vec h=>exact ⟨_,h,rfl⟩
 |map h=>exact ⟨_,h,rfl⟩
 |fn=>rfl
 |agg=>rfl
 |tup=>trivial
 |und=>trivial
 |gone=>trivial
theorem take_pre {r r':List Nat} {n:Nat} (g:∀ (b i:Nat),r[b]? = some i→r'[b]? = some i) (hn:n≤r.length):r'.take n=r.take n∧n≤r'.length:=by
 have h1:n≤r'.length:=by
  rcases Nat.eq_zero_or_pos n with h |h
  ·omega
  ·have h2:r[n - 1]? = some (r[n - 1]'(by omega)):=List.getElem?_eq_getElem (by omega)
   have h3:=g _ _ h2
   rcases Nat.lt_or_ge (n - 1) r'.length with h4 |h4
   ·omega
   ·rw [List.getElem?_eq_none h4] at h3;cases h3
 refine ⟨List.ext_getElem? fun i=>?_,h1⟩
 rw [List.getElem?_take,List.getElem?_take]
 split
 ·rename_i hi
  have h2:r[i]? = some (r[i]'(by omega)):=List.getElem?_eq_getElem (by omega)
  rw [h2,g _ _ h2]
 ·rfl
theorem HdR.stay {H H':AH} {S S':Nat→Prop} {r r':List Nat} {d:Hd} {y:Value} (st:Stay H S H' S') (g:∀ (b i:Nat),r[b]? = some i→r'[b]? = some i) (hd:HdS H S r d y):HdS H' S' r' d y:=by
 cases d with
 |none=>exact hd
 |box b=>obtain ⟨i,h1,h2⟩:=hd;exact ⟨i,g _ _ h1,h2⟩
 |own=>exact hd
 |set=>obtain ⟨i,h1,h2,h3⟩:=hd;exact ⟨i,(st.2 i h2 h1).1,Nat.lt_of_lt_of_le h2 st.1,h3⟩
 |any=>trivial
 |row n=>
  obtain ⟨i,h1,h2,h3⟩:=hd
  obtain ⟨h4,h5⟩:=take_pre g h2
  exact ⟨i,by rw [h4];exact h1,h5,h3⟩
theorem HER.put {H H':AH} {S S':Nat→Prop} {r r':List Nat} {Ev:Env} {hs:HE} (h:HER H S r Ev hs) (st:Stay H S H' S') (g:∀ (b i:Nat),r[b]? = some i→r'[b]? = some i) {d:Option Tmp} {v':Value} {e:Hd} (he:HdS H' S' r' e v'):HER H' S' r' (putE Ev d v') (putH hs d e):=by
 cases d with
 |none=>exact fun t k hk y hy=>HdR.stay st g (h t k hk y hy)
 |some d=>
  intro t k hk y hy
  have hk:cond (Nat.beq d t) e (lookH hs t)=k:=hk
  have hy:cond (Nat.beq d t) (some v') (Zcs Ev t)=some y:=hy
  cases hb:Nat.beq d t with
  |true=>rw [hb] at hk hy;cases hk;cases hy;exact he
  |false=>rw [hb] at hk hy;exact HdR.stay st g (h t k hk y hy)
theorem HER.start {F:Nat→Prop} {lo:Nat} {H:AH} {r Oh Xe:List Nat} {T:TH} {Ev:Env} (hG:Good C F lo tlo H r T Oh Xe):∀ {E:TE} {O:List Nat},EnvR false H (Sof F r Oh Xe) r 0 Ev E O→(∀ i∈O,i∈Xe)→HER H (Sof F r Oh Xe) r Ev (startH T E)
 |_,_,.nil,_=>fun t h hk y hy=>by cases hk;trivial
 |_,_,.cons (t:=s) (p:=p) (o:=o) (y:=z) he hv ht h k,ho=>by
  intro t e hk y hy
  have hk:cond (Nat.beq s t) (hdP T p.2) (lookH (startH T _) t)=e:=hk
  cases hb:Nat.beq s t with
  |true=>
   rw [hb] at hk
   have:=Zay hb
   subst this
   rw [ht] at hy
   cases hy
   have en:nowT 0 p=p.2:=by unfold nowT;rw [beqt (by omega)];rfl
   rw [en] at h
   have:=hdP_rel (T:=T) hG.len (fun i hi hr=>by
    have h1:=(hG.mem_r hr).2.2.2.2
    have h2:=Zax.2 (ho i (List.mem_append_left _ hi))
    omega) (show VR H _ r p.2 z o from h)
   have hk:hdP T p.2=e:=hk
   rw [hk] at this
   exact this
  |false=>rw [hb] at hk;exact HER.start hG k (fun i hi=>ho i (List.mem_append_right _ hi)) t e hk y hy
theorem hdX_rel {H:AH} {S:Nat→Prop} {r X:List Nat} {x:TV} {y:Value} {e:Hd} (h:HdR H S r X (hdT x) y) (he:HdS H S r e y):HdR H S r X (hdX x e) y:=by
 have e1:HdR H S r X e y:=by
  cases e with
  |own=>exact he.elim
  |none=>exact he
  |box=>exact he
  |set=>obtain ⟨i,h1,h2,h3⟩:=he;exact ⟨i,h1,h3⟩
  |any=>exact he
  |row=>exact he
 unfold hdX
 split
 ·exact e1
 ·exact h
theorem hdsT_run {ep:Nat} {E:TE} {F:Nat→Prop} {lo:Nat} {H:AH} {r Oh Xe:List Nat} {T:TH} {Ev:Env} {hs:HE} (hI:InvT C F lo tlo ep Ev E H r T Oh Xe) (hh:HER H (Sof F r Oh Xe) r Ev hs):∀ {l:List Operand} {xs:List Hd},hdsT P C ep E hs l=some xs →
  ∃ ys,idsAll P Ev l=some (ys.map Zcd)∧All2 (fun x y=>HdR H (Sof F r Oh Xe) r Xe x y) xs ys
 |[],xs,h=>by cases h;exact ⟨[],rfl,.nil⟩
 |o::l,xs,h=>by
  obtain ⟨d,h1,h2⟩:=Zac (show Zaf (hdO P C ep E hs o) (fun v=>Zaf (hdsT P C ep E hs l) fun l=>some (v::l))=some xs from h)
  obtain ⟨xs2,h3,h4⟩:=Zac h2
  cases h4
  obtain ⟨x,h5,h6⟩:=Zac h1
  cases h6
  obtain ⟨y,ox,a1,a2,a3⟩:=rawT_run h5 hI
  obtain ⟨ys,b1,b2⟩:=hdsT_run hI hh h3
  refine ⟨y::ys,?_,.cons (hdX_rel (hd_rel a2 a3) ?_) b2⟩
  ·show Zaf (evx P Ev o) (fun v=>Zaf (idsAll P Ev l) fun l=>some (Zcd v::l))=_
   rw [a1,Zai,b1];rfl
  ·cases o with
   |tmp t=>exact hh t _ rfl y a1
   |const=>trivial
   |global=>trivial
   |func=>trivial
theorem apartH_rel {F:Nat→Prop} {lo:Nat} {H:AH} {r Oh Xe:List Nat} {T:TH} (hG:Good C F lo tlo H r T Oh Xe) {d e:Hd} {y z:Value} (hd:HdR H (Sof F r Oh Xe) r Xe d y) (he:HdR H (Sof F r Oh Xe) r Xe e z) (ha:apartH d e=true) :
  ∀ i∈Zcd y,∀ j∈Zcd z,i≠j:=by
 have none:Zcd y=[]∨Zcd z=[]→∀ i∈Zcd y,∀ j∈Zcd z,i≠j:=by
  rintro (h |h) i hi j hj
  ·rw [h] at hi;cases hi
  ·rw [h] at hj;cases hj
 have two:∀ {i j:Nat},Zcd y=[i]→Zcd z=[j]→i≠j→∀ i∈Zcd y,∀ j∈Zcd z,i≠j:=by
  intro i j h1 h2 h3 a ha b hb
  rw [h1,List.mem_singleton] at ha
  rw [h2,List.mem_singleton] at hb
  rw [ha,hb];exact h3
 have ra:∀ {i:Nat},i∈r→¬ Sof F r Oh Xe i:=fun {i} h1 h2=>by have:=Zax.2 h1;have:=h2.2;unfold act at this;omega
 have xa:∀ {i:Nat},i∈Xe→¬ Sof F r Oh Xe i:=fun {i} h1 h2=>by have:=Zax.2 h1;have:=h2.2;unfold act at this;omega
 have rx:∀ {i:Nat},i∈r→¬ i∈Xe:=fun {i} h1 h2=>by have:=(hG.mem_r h1).2.2.2.2;have:=Zax.2 h2;omega
 cases d with
 |none=>exact none (.inl hd)
 |box b=>
  obtain ⟨i,hi,hyi⟩:=hd
  cases e with
  |none=>exact none (.inr he)
  |box c=>
   obtain ⟨j,hj,hzj⟩:=he
   have hne:b≠c:=fun e=>by
    have ha:(!(Nat.beq b c))=true:=ha
    rw [beqt e] at ha;cases ha
   exact two hyi hzj fun e=>hne (hG.inj hi (e ▸ hj))
  |own=>obtain ⟨j,hj,hzj⟩:=he;exact two hyi hzj fun e=>rx (getr_mem hi) (e ▸ hj)
  |set=>obtain ⟨j,hj,hzj⟩:=he;exact two hyi hzj fun e=>ra (getr_mem hi) (e ▸ hj)
  |any=>cases ha
  |row n=>
   obtain ⟨j,hj,hn,hzj⟩:=he
   have ha:Nat.blt b n=true:=ha
   exact two hyi hzj fun e=>hj (List.mem_iff_getElem?.2 ⟨b,by rw [List.getElem?_take,if_pos (by simpa [Nat.blt_eq] using ha),hi,e]⟩)
 |own=>
  obtain ⟨i,hi,hyi⟩:=hd
  cases e with
  |none=>exact none (.inr he)
  |box c=>obtain ⟨j,hj,hzj⟩:=he;exact two hyi hzj fun e=>rx (getr_mem hj) (e ▸ hi)
  |set=>obtain ⟨j,hj,hzj⟩:=he;exact two hyi hzj fun e=>xa hi (e ▸ hj)
  |own=>cases ha
  |any=>cases ha
  |row=>cases ha
 |set=>
  obtain ⟨i,hi,hyi⟩:=hd
  cases e with
  |none=>exact none (.inr he)
  |box c=>obtain ⟨j,hj,hzj⟩:=he;exact two hyi hzj fun e=>ra (getr_mem hj) (e ▸ hi)
  |own=>obtain ⟨j,hj,hzj⟩:=he;exact two hyi hzj fun e=>xa hj (e ▸ hi)
  |set=>cases ha
  |any=>cases ha
  |row=>cases ha
 |row n=>
  obtain ⟨i,hi,hn,hyi⟩:=hd
  cases e with
  |none=>exact none (.inr he)
  |box c=>
   obtain ⟨j,hj,hzj⟩:=he
   have ha:Nat.blt c n=true:=ha
   exact two hyi hzj fun e=>hi (List.mem_iff_getElem?.2 ⟨c,by rw [List.getElem?_take,if_pos (by simpa [Nat.blt_eq] using ha),hj,e]⟩)
  |own=>cases ha
  |set=>cases ha
  |any=>cases ha
  |row=>cases ha
 |any=>cases e with
  |none=>exact none (.inr he)
  |_=>cases ha
theorem all2_mem {α β:Type} {R:α→β→Prop}:∀ {xs:List α} {ys:List β},All2 R xs ys→∀ y∈ys,∃ x∈xs,R x y
 |_,_,.nil,y,hy=>by cases hy
 |_,_,.cons h t,y,hy=>by
  rcases List.mem_cons.1 hy with rfl |hy
  ·exact ⟨_,List.mem_cons_self ..,h⟩
  ·obtain ⟨x,hx,hr⟩:=all2_mem t y hy
   exact ⟨x,List.mem_cons_of_mem _ hx,hr⟩
theorem apartT_rel {F:Nat→Prop} {lo:Nat} {H:AH} {r Oh Xe:List Nat} {T:TH} (hG:Good C F lo tlo H r T Oh Xe) {a b:List Hd} {ya yb:List Value} (ha:All2 (fun x y=>HdR H (Sof F r Oh Xe) r Xe x y) a ya) (hb:All2 (fun x y=>HdR H (Sof F r Oh Xe) r Xe x y) b yb) (h:apartT a b=true) :
  disjoint (ya.map Zcd) (yb.map Zcd)=true:=by
 unfold apartT at h
 rw [Zds,List.all_eq_true] at h
 unfold disjoint
 rw [List.all_eq_true]
 intro u hu
 rw [List.all_eq_true]
 intro v hv
 obtain ⟨y,hy,rfl⟩:=List.mem_map.1 hu
 obtain ⟨z,hz,rfl⟩:=List.mem_map.1 hv
 obtain ⟨x,hx,hx2⟩:=all2_mem ha y hy
 obtain ⟨w,hw,hw2⟩:=all2_mem hb z hz
 have h1:=h x hx
 rw [Zds,List.all_eq_true] at h1
 have h2:=apartH_rel hG hx2 hw2 (h1 w hw)
 rw [List.all_eq_true]
 intro i hi
 rw [List.all_eq_true]
 intro j hj
 have h3:=h2 i hi j hj
 cases hbq:Nat.beq i j with
 |false=>rfl
 |true=>exact absurd (Nat.eq_of_beq_eq_true hbq) h3
theorem opsDT_run (hs:CallSim C tc ec) {nt:Nat} {β:Type}:∀ {l:List Oper} {rows:List Row} {ep:Nat} {hs:HE} {E:TE} {T:TH} {k:TE→TH→Option β} {ρ:β},opsDT P C tc keep res tlo base nt ops l rows ep hs E T k=some ρ →
  ∃ ep' E' T',k E' T'=some ρ∧∀ {F:Nat→Prop} {lo:Nat} {H:AH} {r Oh Xe:List Nat} {Ev:Env},InvT C F lo tlo ep Ev E H r T Oh Xe→HER H (Sof F r Oh Xe) r Ev hs→base≤T.length →
   ∃ Ev' H',(∀ {γ:Type} (k':Env→AH→Option γ),evOpsD P ec lo nt ops l rows Ev H k'=k' Ev' H')∧Left C F lo tlo base ep' E' H r T' Oh Xe T Ev' H'
 |[],rows,ep,hs,E,T,k,ρ,h=>⟨ep,E,T,h,fun {F lo H r Oh Xe Ev} hI _ _=>⟨Ev,H,fun _=>rfl,r,Oh,Xe,hI,.refl ..,.refl ..⟩⟩
 |o::l,[],ep,hs,E,T,k,ρ,h=>by cases h
 |o::l,w::rows,ep,hd,E,T,k,ρ,h=>by
  have h:cond (bound nt o.dst)
    (Zaf (hdsT P C ep E hd w.apart) fun a=>Zaf (hdsT P C ep E hd w.own) fun b=>Zap (apartT a b)
     (Zap (cond w.quiet (quietOk P C keep res ops T o) true)<| oneT P C tc keep res ops (cond w.quiet (quietLo C tlo T o) tlo) base ep E T o fun v E H=>opsDT P C tc keep res tlo base nt ops l rows (nextEp P C keep res ops o ep) (putH hd o.dst (hdP H v)) (putD E o.dst (nextEp P C keep res ops o ep) v) H k)) none=some ρ:=h
  cases hb:bound nt o.dst with
  |false=>rw [hb] at h;cases h
  |true=>
   rw [hb] at h
   obtain ⟨a,ha,h⟩:=Zac (show Zaf (hdsT P C ep E hd w.apart) _=some ρ from h)
   obtain ⟨b,hbb,h⟩:=Zac h
   obtain ⟨hap,h⟩:=Zan h
   obtain ⟨hq,h⟩:=Zan h
   obtain ⟨v,E1,T1,h1,a⟩:=oneT_run hs o h
   obtain ⟨ep',E',T',h2,b⟩:=opsDT_run hs h1
   refine ⟨ep',E',T',h2,fun {F lo H r Oh Xe Ev} hI hh hl=>?_⟩
   obtain ⟨ya,y1,y2⟩:=hdsT_run hI hh ha
   obtain ⟨yb,z1,z2⟩:=hdsT_run hI hh hbb
   have hdis:=apartT_rel hI.1 y2 z2 hap
   have hlo:LoOk P C keep res ops T o tlo (cond w.quiet (quietLo C tlo T o) tlo) lo (cond w.quiet H.next lo) H:=by
    cases hw:w.quiet with
    |false=>exact .inl ⟨rfl,rfl⟩
    |true=>
     rw [hw] at hq
     have hq:cond (isTreeOp C o.op) true (cond (plainOp P C keep res ops o) (Zbu noOwnO T) false)=true:=hq
     show LoOk P C keep res ops T o tlo (cond (isTreeOp C o.op) tlo (Zag T)) lo H.next H
     cases ht:isTreeOp C o.op with
     |true=>exact .inr (.inl ⟨rfl,ht,hI.1.lon,Nat.le_refl _⟩)
     |false=>
      rw [ht] at hq
      cases hp:plainOp P C keep res ops o with
      |false=>rw [hp] at hq;cases hq
      |true=>rw [hp] at hq;exact .inr (.inr ⟨Zat T,rfl,hp,hq,ht⟩)
   have hlq:cond w.quiet (Nat.ble lo H.next) true=true:=by
    cases w.quiet with
    |false=>rfl
    |true=>show Nat.ble lo H.next=true;rw [Nat.ble_eq];exact hI.1.lon
   obtain ⟨v',H1,r1,Oh1,Xe1,ov,a1,_,a3,a4,a5,a6,a7,a8⟩:=a hlo hI hl
   obtain ⟨Xe2,c1,c2⟩:=inv_put a3 a4 a5 a6 o.dst
   have mm:=mv_less a7 c2
   have hov:∀ i∈ov,i ∉ r1:=fun i hi hr=>by
    have h1:=(a3.mem_r hr).2.2.2.2
    have h2:=Zax.2 hi
    rw [List.count_append] at h1
    omega
   have ha2:∀ i,act r1 Oh1 Xe2 i≤act r1 Oh1 (Xe1++ov) i:=fun i=>by unfold act;have:=c2 i;omega
   have hp:=hdP_rel (T:=T1) a3.len hov a5
   obtain ⟨Ev',H',b1,b2⟩:=b c1 (hh.put (d:=o.dst) mm.stay mm.pre (HdR.stay (stay_act ha2) (fun _ _ h=>h) hp)) (Nat.le_trans hl a8.1)
   refine ⟨Ev',H',fun k'=>?_,b2.of (mv_less a7 c2) a8⟩
   show cond (bound nt o.dst) (Zaf (idsAll P Ev w.apart) fun a=>Zaf (idsAll P Ev w.own) fun b=>Zap (disjoint a b) (Zap (cond w.quiet (Nat.ble lo H.next) true)
     (evGuarded P ec (cond w.quiet H.next lo) ops Ev H o fun v H=>evOpsD P ec lo nt ops l rows (putE Ev o.dst v) H k'))) none=_
   rw [hb]
   show Zaf (idsAll P Ev w.apart) _=_
   rw [y1,Zai,z1,Zai,hdis]
   show Zap (cond w.quiet (Nat.ble lo H.next) true) _=_
   rw [hlq]
   show evGuarded P ec _ ops Ev H o _=_
   rw [a1]
   exact b1 k'
theorem regionT_run (hs:CallSim C tc ec) {nt:Nat} {β:Type} {draw:Bool} {E:TE} {T:TH} {k:TE→TH→Option β} {ρ:β} (h:regionT P C tc keep res tlo base nt ops draw E T k=some ρ) :
  ∃ ep' E' T',k E' T'=some ρ∧∀ {F:Nat→Prop} {lo:Nat} {H:AH} {r Oh Xe:List Nat} {Ev:Env},InvT C F lo tlo 0 Ev E H r T Oh Xe→base≤T.length →
   ∃ Ev' H',(∀ {γ:Type} (k':Env→AH→Option γ),evRegion P ec lo nt ops draw Ev H k'=k' Ev' H')∧Left C F lo tlo base ep' E' H r T' Oh Xe T Ev' H':=by
 cases draw with
 |false=>exact opsT_run hs h
 |true=>
  have h:cond (planOf ops (Zcu ops [])).ok (opsDT P C tc keep res tlo base nt ops ops (planOf ops (Zcu ops [])).rows 0 (startH T E) E T k) none=some ρ:=h
  cases hp:(planOf ops (Zcu ops [])).ok with
  |false=>rw [hp] at h;cases h
  |true=>
   rw [hp] at h
   obtain ⟨ep',E',T',h2,b⟩:=opsDT_run hs (show opsDT P C tc keep res tlo base nt ops ops (planOf ops (Zcu ops [])).rows 0 (startH T E) E T k=some ρ from h)
   refine ⟨ep',E',T',h2,fun {F lo H r Oh Xe Ev} hI hl=>?_⟩
   obtain ⟨Ev',H',b1,b2⟩:=b hI (HER.start hI.1 hI.2 fun _ h=>h) hl
   refine ⟨Ev',H',fun k'=>?_,b2⟩
   show cond (planOf ops (Zcu ops [])).ok (evOpsD P ec lo nt ops ops (planOf ops (Zcu ops [])).rows Ev H k') none=_
   rw [hp]
   exact b1 k'
end
end Go.Ev
namespace Go.Ev
section
variable {P:Program} {C:TC} {tc:Zbc} {ec:CallF} {keep res:List Tmp} {tlo base:Nat}
theorem lookT_mem {E:TE} {t:Tmp} {p:Nat×TV} (h:lookT E t=some p):(t,p)∈E:=by
 induction E with
 |nil=>cases h
 |cons x E ih=>
  obtain ⟨s,q⟩:=x
  have h:cond (Nat.beq s t) (some q) (lookT E t)=some p:=h
  cases hb:Nat.beq s t with
  |true=>rw [hb] at h;cases h;have:=Zay hb;subst this;exact List.mem_cons_self ..
  |false=>rw [hb] at h;exact List.mem_cons_of_mem _ (ih h)
theorem lessT_sub {E:TE} {t:Tmp} {x:Tmp×Nat×TV} (h:x∈lessT E t):x∈E:=by
 induction E with
 |nil=>cases h
 |cons y E ih=>
  obtain ⟨s,q⟩:=y
  have h:x∈cond (Nat.beq s t) (lessT E t) ((s,q)::lessT E t):=h
  cases hb:Nat.beq s t with
  |true=>rw [hb] at h;exact List.mem_cons_of_mem _ (ih h)
  |false=>
   rw [hb] at h
   rcases List.mem_cons.1 h with h |h
   ·rw [h];exact List.mem_cons_self ..
   ·exact List.mem_cons_of_mem _ (ih h)
theorem stale_now (ep:Nat) (p:Nat×TV):stale (nowT ep p)=stale p.2:=by
 unfold nowT
 cases Nat.beq p.1 ep with
 |true=>rfl
 |false=>exact stale_stale _
theorem und_nb:OV Zao:=.inl (.tup .nil fun c hc=>by cases hc)
theorem mk_run {H:AH} {S:Nat→Prop} {r:List Nat} {ep:Nat} {Ev Ev2:Env}:∀ (keep:List Tmp) {E:TE} {O:List Nat},EnvR false H S r ep Ev E O→(∀ t∈keep,Zcs Ev2 t=some ((Zcs Ev t).getD undef)) →
  ∃ O2,EnvR false H S r 0 Ev2 (zipT keep (mkT E keep)) O2∧∀ i,O2.count i≤O.count i
 |[],E,O,_,_=>⟨[],.nil,fun i=>by simp⟩
 |t::ts,E,O,h,he=>by
  show ∃ O2,EnvR false H S r 0 Ev2 ((t,0,stale ((lookT E t).getD (0,Zao)).2)::zipT ts (mkT (lessT E t) ts)) O2∧_
  cases hl:lookT E t with
  |none=>
   obtain ⟨O2,h1,h2⟩:=h.less t
   obtain ⟨O3,h3,h4⟩:=mk_run ts h1 fun s hs=>he s (List.mem_cons_of_mem _ hs)
   refine ⟨[]++O3,.cons (y:=(Zcs Ev t).getD undef) (Nat.le_refl _) (by rw [nowT_same];exact und_nb) (he t (List.mem_cons_self ..)) ?_ h3,fun i=>by rw [List.nil_append];exact Nat.le_trans (h4 i) (h2 i)⟩
   rw [nowT_same]
   exact .und
  |some p=>
   obtain ⟨y,o,O2,_,a1,a2,a3,a4,a5⟩:=h.look hl
   obtain ⟨O3,h3,h4⟩:=mk_run ts a4 fun s hs=>he s (List.mem_cons_of_mem _ hs)
   have a3:VR H S r (nowT ep p) y o:=a3
   have e:stale ((some p:Option (Nat×TV)).getD (0,Zao)).2=stale (nowT ep p):=(stale_now ep p).symm
   rw [e]
   refine ⟨o++O3,.cons (y:=y) (Nat.le_refl _) (by rw [nowT_same];exact .inl (stale_nb a1)) ((he t (List.mem_cons_self ..)).trans (by rw [a2];rfl)) ?_ h3,fun i=>by rw [List.count_append];have:=h4 i;have:=a5 i;omega⟩
   rw [nowT_same]
   exact stale_rel a3
theorem zip_mk (Ev:Env):∀ (keep:List Tmp) (t:Tmp),t∈keep→Zcs (zipE keep (mkV Ev keep)) t=some ((Zcs Ev t).getD undef)
 |s::ts,t,h=>by
  show cond (Nat.beq s t) (some ((Zcs Ev s).getD undef)) (Zcs (zipE ts (mkV Ev ts)) t)=_
  cases hb:Nat.beq s t with
  |true=>have:=Zay hb;subst this;rfl
  |false=>
   rcases List.mem_cons.1 h with h |h
   ·exact absurd h.symm (ne_of_beq' hb)
   ·exact zip_mk Ev ts t h
def PieceSim (C:TC) (tlo base:Nat) (keep:List Tmp) (f:Zaz (VT keep)) (g:Nat→Piece (V keep)):Prop:=
 ∀ {ST:VT keep} {T:TH} {e:Ex} {ST':VT keep} {T':TH},f ST T=some (e,ST',T')→∀ {F:Nat→Prop} {lo:Nat} {H:AH} {r Oh Xe:List Nat} {SV:V keep},InvT C F lo tlo 0 (zipE keep SV) (zipT keep ST) H r T Oh Xe→base≤T.length →
  ∃ SV' H',g lo SV H=some (e,SV',H')∧Left C F lo tlo base 0 (zipT keep ST') H r T' Oh Xe T (zipE keep SV') H'
theorem done_sim (e:Ex):PieceSim C tlo base keep (Zam e) (fun _=>doneE e):=by
 intro ST T e2 ST' T' h F lo H r Oh Xe SV hI _
 cases h
 exact ⟨SV,H,rfl,r,Oh,Xe,hI,.refl ..,.refl ..⟩
theorem left_len {F:Nat→Prop} {lo ep:Nat} {E:TE} {H H':AH} {r Oh Xe:List Nat} {T T0:TH} {Ev':Env} (h:Left C F lo tlo base ep E H r T Oh Xe T0 Ev' H'):T0.length≤T.length:=by
 obtain ⟨_,_,_,_,_,h⟩:=h;exact h.1
theorem left_more {F:Nat→Prop} {lo:Nat} {H H1:AH} {r Oh Xe:List Nat} {T0 T1 T':TH} {ST1 ST':VT keep} {SV1:V keep} {g:Nat→Piece (V keep)} {e:Ex} (h:Left C F lo tlo base 0 (zipT keep ST1) H r T1 Oh Xe T0 (zipE keep SV1) H1)
  (k:∀ {r Oh Xe:List Nat},InvT C F lo tlo 0 (zipE keep SV1) (zipT keep ST1) H1 r T1 Oh Xe→base≤T1.length→∃ SV' H',g lo SV1 H1=some (e,SV',H')∧Left C F lo tlo base 0 (zipT keep ST') H1 r T' Oh Xe T1 (zipE keep SV') H') (hb:base≤T0.length) :
  ∃ SV' H',g lo SV1 H1=some (e,SV',H')∧Left C F lo tlo base 0 (zipT keep ST') H r T' Oh Xe T0 (zipE keep SV') H':=by
 have hl:=left_len h
 obtain ⟨r1,Oh1,Xe1,a1,a2,a3⟩:=h
 obtain ⟨SV',H',b1,b2⟩:=k a1 (Nat.le_trans hb hl)
 exact ⟨SV',H',b1,b2.of a2 a3⟩
theorem seq_sim {f f':Zaz (VT keep)} {g g':Nat→Piece (V keep)} (h:PieceSim C tlo base keep f g) (h':PieceSim C tlo base keep f' g'):PieceSim C tlo base keep (Zaj f f') (fun lo=>seqE (g lo) (g' lo)):=by
 intro ST T e ST' T' hf F lo H r Oh Xe SV hI hb
 unfold Zaj at hf
 unfold seqE
 show ∃ SV' H',Option.rec (motive:=fun _=>Ret (V keep)) none (fun p=>Ex.casesOn (motive:=fun _=>Ret (V keep)) p.1 (g' lo p.2.1 p.2.2) (fun _=>some p) (some p)) (g lo SV H)=_∧_
 cases hp:f ST T with
 |none=>rw [hp] at hf;cases hf
 |some p=>
  obtain ⟨e1,ST1,T1⟩:=p
  rw [hp] at hf
  obtain ⟨SV1,H1,a1,a2⟩:=h hp hI hb
  rw [a1]
  cases e1 with
  |normal=>
   have hf:f' ST1 T1=some (e,ST',T'):=hf
   exact left_more a2 (g:=g') (fun h1 h2=>h' hf h1 h2) hb
  |exit id=>cases hf;exact ⟨SV1,H1,rfl,a2⟩
  |ret=>cases hf;exact ⟨SV1,H1,rfl,a2⟩
theorem block_sim {f:Zaz (VT keep)} {g:Nat→Piece (V keep)} (id:Nat) (h:PieceSim C tlo base keep f g):PieceSim C tlo base keep (Zbd id f) (fun lo=>blockE id (g lo)):=by
 intro ST T e ST' T' hf F lo H r Oh Xe SV hI hb
 unfold Zbd at hf
 unfold blockE
 show ∃ SV' H',Option.rec (motive:=fun _=>Ret (V keep)) none (fun p=>Ex.casesOn (motive:=fun _=>Ret (V keep)) p.1 (some p) (fun id'=>cond (Nat.beq id' id) (some (.normal,p.2)) (some p)) (some p)) (g lo SV H)=_∧_
 cases hp:f ST T with
 |none=>rw [hp] at hf;cases hf
 |some p=>
  obtain ⟨e1,ST1,T1⟩:=p
  rw [hp] at hf
  obtain ⟨SV1,H1,a1,a2⟩:=h hp hI hb
  rw [a1]
  cases e1 with
  |normal=>cases hf;exact ⟨SV1,H1,rfl,a2⟩
  |ret=>cases hf;exact ⟨SV1,H1,rfl,a2⟩
  |exit id'=>
   have hf:cond (Nat.beq id' id) (some (Ex.normal,ST1,T1)) (some (Ex.exit id',ST1,T1))=some (e,ST',T'):=hf
   show ∃ SV' H',cond (Nat.beq id' id) (some (Ex.normal,SV1,H1)) (some (Ex.exit id',SV1,H1))=_∧_
   cases hx:Nat.beq id' id with
   |true=>rw [hx] at hf;cases hf;exact ⟨SV1,H1,rfl,a2⟩
   |false=>rw [hx] at hf;cases hf;exact ⟨SV1,H1,rfl,a2⟩
theorem loop_sim {f:Zaz (VT keep)} {g:Nat→Piece (V keep)} (h:PieceSim C tlo base keep f g) (fuel:Nat):PieceSim C tlo base keep (Zdn f fuel) (fun lo=>loopE (g lo) fuel):=by
 induction fuel with
 |zero=>intro ST T e ST' T' hf;cases hf
 |succ n ih=>
  intro ST T e ST' T' hf F lo H r Oh Xe SV hI hb
  have hf:Option.rec (motive:=fun _=>RetT (VT keep)) none (fun p=>Ex.casesOn (motive:=fun _=>RetT (VT keep)) p.1 (Zdn f n p.2.1 p.2.2) (fun _=>some p) (some p)) (f ST T)=some (e,ST',T'):=hf
  show ∃ SV' H',Option.rec (motive:=fun _=>Ret (V keep)) none (fun p=>Ex.casesOn (motive:=fun _=>Ret (V keep)) p.1 (loopE (g lo) n p.2.1 p.2.2) (fun _=>some p) (some p)) (g lo SV H)=_∧_
  cases hp:f ST T with
  |none=>rw [hp] at hf;cases hf
  |some p=>
   obtain ⟨e1,ST1,T1⟩:=p
   rw [hp] at hf
   obtain ⟨SV1,H1,a1,a2⟩:=h hp hI hb
   rw [a1]
   cases e1 with
   |normal=>
    have hf:Zdn f n ST1 T1=some (e,ST',T'):=hf
    exact left_more a2 (g:=fun lo=>loopE (g lo) n) (fun h1 h2=>ih hf h1 h2) hb
   |exit id=>cases hf;exact ⟨SV1,H1,rfl,a2⟩
   |ret=>cases hf;exact ⟨SV1,H1,rfl,a2⟩
theorem cond_sim {c:Operand} {f f':Zaz (VT keep)} {g g':Nat→Piece (V keep)} (h:PieceSim C tlo base keep f g) (h':PieceSim C tlo base keep f' g') :
  PieceSim C tlo base keep (Zbb (fun S=>rawT P C 0 (zipT keep S) c) f f') (fun lo=>condE (fun S=>evx P (zipE keep S) c) (g lo) (g' lo)):=by
 intro ST T e ST' T' hf F lo H r Oh Xe SV hI hb
 obtain ⟨v,h1,h2⟩:=Zau (show Zaa (rawT P C 0 (zipT keep ST) c) (fun v=>match v with |.v (.bool t)=>cond t (f ST T) (f' ST T) |_=>none)=some (e,ST',T') from hf)
 obtain ⟨y,ox,a1,a2,_⟩:=rawT_run h1 hI
 split at h2
 ·rename_i t
  obtain ⟨rfl,_⟩:=v_inv a2
  show ∃ SV' H',Zaa (evx P (zipE keep SV) c) _=_∧_
  rw [a1]
  show ∃ SV' H',cond t (g lo SV H) (g' lo SV H)=_∧_
  cases t with
  |true=>exact h h2 hI hb
  |false=>exact h' h2 hI hb
 ·cases h2
theorem region_sim (hs:CallSim C tc ec) {nt:Nat} {ops:List Oper} {draw:Bool} :
  PieceSim C tlo base keep (Zad fun S H k=>regionT P C tc keep res tlo base nt ops draw (zipT keep S) H fun E H=>k (mkT E keep) H) (fun lo=>leafE fun S H k=>evRegion P ec lo nt ops draw (zipE keep S) H fun E H=>k (mkV E keep) H):=by
 intro ST T e ST' T' hf F lo H r Oh Xe SV hI hb
 obtain ⟨ep',E',T1,h1,a⟩:=regionT_run hs (show regionT P C tc keep res tlo base nt ops draw (zipT keep ST) T (fun E H=>some (Ex.normal,mkT E keep,H))=some (e,ST',T') from hf)
 cases h1
 obtain ⟨Ev',H',b1,r',Oh',Xe',b2,b3,b4⟩:=a hI hb
 obtain ⟨O2,c1,c2⟩:=mk_run keep b2.2 (zip_mk Ev' keep)
 have hc:∀ i,act r' Oh' O2 i≤act r' Oh' Xe' i:=fun i=>by unfold act;have:=c2 i;omega
 exact ⟨mkV Ev' keep,H',b1 _,r',Oh',O2,⟨b2.1.less c2,c1.mono (stay_act hc) (fun _ _ h=>h) (fun _ i _ hi=>⟨hi,rfl⟩) fun _ _=>rfl⟩,mv_less b3 c2,b4⟩
theorem code_sim (hs:CallSim C tc ec) (nt:Nat):∀ c:Code,PieceSim C tlo base keep (codeT P C tc tlo base nt keep res c) (fun lo=>evCode P ec C.fuel lo nt keep c)
 |.skip=>done_sim _
 |.label _=>done_sim _
 |.ret=>done_sim _
 |.exit _=>done_sim _
 |.region _ _ _=>region_sim hs
 |.seq a b=>seq_sim (code_sim hs nt a) (code_sim hs nt b)
 |.cond _ a b=>cond_sim (code_sim hs nt a) (code_sim hs nt b)
 |.block id c=>block_sim id (code_sim hs nt c)
 |.loop c=>loop_sim (code_sim hs nt c) _
 |.scope c=>code_sim hs nt c
 |.rangeFunc _ _ _ _=>by intro h;cases h
 |.goto _=>by intro h;cases h
 |.refuse _=>by intro h;cases h
end
end Go.Ev
namespace Go.Ev
section
variable {P:Program} {C:TC} {tc:Zbc} {ec:CallF} {tlo:Nat}
theorem bel_of_nat {n:Nat} {b i:Nat} {r:List Nat} (h:r[b]? = some i) (hr:r.length≤n):b < n:=by
 rcases Nat.lt_or_ge b r.length with h1 |h1
 ·omega
 ·rw [List.getElem?_eq_none h1] at h;cases h
mutual
theorem KR.bel {H:AH} {S:Nat→Prop} {n:Nat}:∀ {x:TV} {y:Value},KR H S x y→Bel n x
 |_,_,.v _ _=>.v _
 |_,_,.nil=>.row ..
 |_,_,.row ..=>.row ..
 |_,_,.agg _ h=>.agg (KRL.bel h)
 |_,_,.iface _=>.iface ..
 |_,_,.fn0=>.fn .nil .nil
theorem KRL.bel {H:AH} {S:Nat→Prop} {n:Nat}:∀ {x:List TV} {y:List Value},KRL H S x y→BelL n x
 |_,_,.nil=>.nil
 |_,_,.cons h t=>.cons (KR.bel h) (KRL.bel t)
end
mutual
theorem VR.bel {H:AH} {S:Nat→Prop} {r:List Nat} {n:Nat} (hr:r.length≤n):∀ {x:TV} {y:Value} {o:List Nat},VR H S r x y o→Bel n x
 |_,_,_,.k h=>h.bel
 |_,_,_,.bor ..=>.row ..
 |_,_,_,.own ..=>.row ..
 |_,_,_,.ptr h=>.ptr (bel_of_nat h hr)
 |_,_,_,.elS ..=>.el ..
 |_,_,_,.elB ..=>.el ..
 |_,_,_,.vec h=>.vec (bel_of_nat h hr)
 |_,_,_,.map h=>.map (bel_of_nat h hr)
 |_,_,_,.fn h h'=>.fn (VRL.bel hr h) (VRL.bel hr h')
 |_,_,_,.agg h=>.agg (VRL.bel hr h)
 |_,_,_,.tup h=>.tup (VRL.bel hr h)
 |_,_,_,.und=>.tup .nil
 |_,_,_,.gone=>.gone
theorem VRL.bel {H:AH} {S:Nat→Prop} {r:List Nat} {n:Nat} (hr:r.length≤n):∀ {x:List TV} {y:List Value} {o:List Nat},VRL H S r x y o→BelL n x
 |_,_,_,.nil=>.nil
 |_,_,_,.cons h t=>.cons (VR.bel hr h) (VRL.bel hr t)
end
theorem HL.low {H:AH} {S:Nat→Prop} {r:List Nat} {lo tlo n:Nat} (hr:r.length≤n):∀ {b:Nat} {T:List TObj} {rs O:List Nat},HL H S r lo tlo b T rs O→∀ o∈T,BelO n o
 |_,_,_,_,.nil,o,h=>by cases h
 |_,_,_,_,.cons h _ t,o,ho=>by
  rcases List.mem_cons.1 ho with rfl |ho
  ·cases h with
   |cells _ _ _ _ h=>exact VRL.bel hr h
   |map=>trivial
   |dead=>trivial
  ·exact HL.low hr t o ho
theorem Good.low {F:Nat→Prop} {lo:Nat} {H:AH} {r Oh X:List Nat} {T:TH} (h:Good C F lo tlo H r T Oh X):Low T.length T:=fun b o _ ho=>h.heap.low (by rw [h.len];exact Nat.le_refl _) o (List.mem_of_getElem? ho)
mutual
theorem VR.cut {H:AH} {S S':Nat→Prop} {r r':List Nat} {n:Nat} (st:Stay H S H S') (g:∀ (b i:Nat),b < n→r[b]? = some i→r'[b]? = some i) (q:∀ i,i∈r'→i∈r):∀ {x:TV} {y:Value} {o:List Nat},VR H S r x y o→Bel n x→VR H S' r' x y o
 |_,_,_,.k h,_=>.k (h.mono st)
 |_,_,_,.bor hc hi hl hg hs hb he h,_=>.bor hc (fun h=>hi (q _ h)) hl hg hs hb he (h.mono st)
 |_,_,_,.own hc hu hl hg he h,_=>.own hc hu hl hg he (h.mono st)
 |_,_,_,.ptr h,.ptr hb=>.ptr (g _ _ hb h)
 |_,_,_,.elS hi hl hg hs hb hc h,_=>.elS (st.2 _ hl hi).1 hl hg hs hb hc (h.mono st)
 |_,_,_,.elB hi hl hg hs hb hc h,_=>.elB (fun h=>hi (q _ h)) hl hg hs hb hc (h.mono st)
 |_,_,_,.vec h,.vec hb=>.vec (g _ _ hb h)
 |_,_,_,.map h,.map hb=>.map (g _ _ hb h)
 |_,_,_,.fn h h',.fn b b'=>.fn (VRL.cut st g q h b) (VRL.cut st g q h' b')
 |_,_,_,.agg h,.agg b=>.agg (VRL.cut st g q h b)
 |_,_,_,.tup h,.tup b=>.tup (VRL.cut st g q h b)
 |_,_,_,.und,_=>.und
 |_,_,_,.gone,_=>.gone
theorem VRL.cut {H:AH} {S S':Nat→Prop} {r r':List Nat} {n:Nat} (st:Stay H S H S') (g:∀ (b i:Nat),b < n→r[b]? = some i→r'[b]? = some i) (q:∀ i,i∈r'→i∈r):∀ {x:List TV} {y:List Value} {o:List Nat},VRL H S r x y o→BelL n x→VRL H S' r' x y o
 |_,_,_,.nil,_=>.nil
 |_,_,_,.cons h t,.cons b b'=>.cons (VR.cut st g q h b) (VRL.cut st g q t b')
end
theorem HL.split {H:AH} {S:Nat→Prop} {r:List Nat} {lo tlo:Nat}:∀ {T1 T2:List TObj} {b:Nat} {rs O:List Nat},HL H S r lo tlo b (T1++T2) rs O →
  ∃ rs1 rs2 O1 O2,rs=rs1++rs2∧O=O1++O2∧rs1.length=T1.length∧HL H S r lo tlo b T1 rs1 O1
 |[],T2,b,rs,O,h=>⟨[],rs,[],O,rfl,rfl,rfl,.nil⟩
 |o::T1,T2,b,rs,O,h=>by
  cases h with
  |cons h hlo t=>
   obtain ⟨rs1,rs2,O1,O2,rfl,rfl,h3,h4⟩:=HL.split t
   exact ⟨_::rs1,rs2,_++O1,O2,rfl,by rw [List.append_assoc],by simp [h3],.cons h hlo h4⟩
theorem HL.cut {H:AH} {S S':Nat→Prop} {r r':List Nat} {lo tlo n:Nat} (st:Stay H S H S') (g:∀ (b i:Nat),b < n→r[b]? = some i→r'[b]? = some i) (q:∀ i,i∈r'→i∈r) :
  ∀ {b:Nat} {T:List TObj} {rs O:List Nat},HL H S r lo tlo b T rs O→(∀ o∈T,BelO n o)→HL H S' r' lo tlo b T rs O
 |_,_,_,_,.nil,_=>.nil
 |_,_,_,_,.cons h hlo t,hb=>.cons (by
   have h1:=hb _ (List.mem_cons_self ..)
   cases h with
   |cells hg hs nb hc h=>exact .cells hg hs nb hc (h.cut st g q h1)
   |map hg h=>exact .map hg (h.mono st)
   |dead=>exact .dead) hlo (HL.cut st g q t fun o ho=>hb o (List.mem_cons_of_mem _ ho))
theorem res_cut {F:Nat→Prop} {lo:Nat} {H H':AH} {r Oh:List Nat} {T T':TH} {v:TV} {v':Value} (hG:Good C F lo tlo H r T Oh []) (h:Res C F lo tlo T.length true H r T Oh [] v T' v' H') (hl:loose v=true):Res C F lo tlo T.length true H r T Oh [] v (T'.take T.length) v' H':=by
 obtain ⟨r',Oh',o,g1,g2,g3,g4,_,g6⟩:=h
 have hlow:Low T.length T':=g6.2 _ (Nat.le_refl _) hG.low
 have hsp:T'=T'.take T.length++T'.drop T.length:=(List.take_append_drop _ _).symm
 have hh:=g1.heap
 rw [hsp] at hh
 obtain ⟨r1,r2,O1,O2,e1,e2,e3,e4⟩:=hh.split
 have hlen:(T'.take T.length).length=T.length:=by rw [List.length_take];have:=g6.1;omega
 rw [hlen] at e3
 have er:r1=r:=by
  apply List.ext_getElem?
  intro b
  rcases Nat.lt_or_ge b r.length with hb |hb
  ·have h1:r[b]? = some r[b]:=List.getElem?_eq_getElem hb
   have h2:=g4.pre b _ h1
   rw [e1,List.getElem?_append_left (by rw [e3,← hG.len];exact hb)] at h2
   rw [h2,h1]
  ·rw [List.getElem?_eq_none hb,List.getElem?_eq_none (by rw [e3,← hG.len];exact hb)]
 subst er
 subst e1
 subst e2
 have ha:∀ i,act r1 O1 o i≤act (r1++r2) (O1++O2) o i:=fun i=>by unfold act;rw [List.count_append,List.count_append];omega
 have st:=stay_act (F:=F) (H:=H') ha
 have g:∀ (b i:Nat),b < T.length→(r1++r2)[b]? = some i→r1[b]? = some i:=fun b i hb h=>by rwa [List.getElem?_append_left (by omega)] at h
 have q:∀ i,i∈r1→i∈r1++r2:=fun i hi=>List.mem_append_left _ hi
 have pre:∀ (b i:Nat),r1[b]? = some i→(r1++r2)[b]? = some i:=fun b i hb=>by
  rw [List.getElem?_append_left (by
   rcases Nat.lt_or_ge b r1.length with h |h
   ·exact h
   ·rw [List.getElem?_eq_none h] at hb;cases hb)];exact hb
 have low1:∀ b o,(T'.take T.length)[b]? = some o→BelO T.length o:=fun b o ho=>by
  have hb:b < T.length:=by
   rcases Nat.lt_or_ge b (T'.take T.length).length with h |h
   ·omega
   ·rw [List.getElem?_eq_none h] at ho;cases ho
  rw [List.getElem?_take] at ho
  rw [if_pos hb] at ho
  exact hlow b o hb ho
 refine ⟨r1,O1,o,⟨fun i=>Nat.le_trans (ha i) (g1.nd i),fun i hi=>g1.lt i (Nat.lt_of_lt_of_le hi (ha i)),g1.fl,g1.lon,fun b i hb hi=>g1.rlo b i hb (pre b i hi),g1.xlo,?_,fun gg cs hg=>?_⟩,g2.cut st g q (loose_bel hl),g3,⟨g4.next,g4.same,fun i hi=>Nat.le_trans (ha i) (g4.less i hi),fun _ _ h=>h⟩,fun h=>by (cases h),?_⟩
 ·exact e4.cut st g q fun o ho=>by
   obtain ⟨b,hb⟩:=List.mem_iff_getElem?.1 ho
   exact low1 b o hb
 ·obtain ⟨h1,h2,s,ds,e,h3,h4,h5,h6,h8⟩:=g1.tabs gg cs hg
  exact ⟨(st.2 gg h2 h1).1,h2,s,ds,e,h3,h4,h5,h6,h8.mono st⟩
 ·refine ⟨by omega,fun n hn hl b o hb ho=>?_⟩
  have hbT:b < T.length:=by omega
  rw [List.getElem?_take,if_pos hbT] at ho
  exact g6.2 n hn hl b o hb ho
theorem lookT_put {E:TE} {t:Tmp} {ep:Nat} {x:TV} {q:Tmp×Nat×TV} (h:q∈putT E t ep x):q=(t,ep,x)∨q∈E:=by
 rcases List.mem_cons.1 h with h |h
 ·exact .inl h
 ·exact .inr (lessT_sub h)
theorem results_run {β:Type}:∀ {rs:List ResultVar} {E:TE} {T:TH} {k:List TV→TH→Option β} {ρ:β},resultsT P tlo rs E T k=some ρ→(∀ q∈E,q.2.1=0) →
  ∃ vs T',k vs T'=some ρ∧∀ {F:Nat→Prop} {lo base:Nat} {H:AH} {r Oh Xe Xv:List Nat} {Ev:Env},Good C F lo tlo H r T Oh (Xe++Xv)→EnvR false H (Sof F r Oh (Xe++Xv)) r 0 Ev E Xe→base≤T.length →
   ∃ vs' r' Oh' ov,(∀ {γ:Type} (k':List Value→Option γ),evResults P Ev H rs k'=k' vs')∧Good C F lo tlo H r' T' Oh' (ov++Xv)∧VRL H (Sof F r' Oh' (ov++Xv)) r' vs vs' ov∧(∀ v∈vs,OV v)∧Mv H r Oh (Xe++Xv) H r' Oh' (ov++Xv)∧(∀ i,i < H.next→i ∉ r→i ∉ r')∧LowS base T T'
 |[],E,T,k,ρ,h,_=>⟨[],T,h,fun {F lo base H r Oh Xe Xv Ev} hG hE _=>by
   have hc:∀ i,act r Oh ([]++Xv) i≤act r Oh (Xe++Xv) i:=fun i=>by unfold act;rw [List.count_append,List.count_append];simp
   exact ⟨[],r,Oh,[],fun _=>rfl,hG.less fun i=>by rw [List.count_append,List.count_append];simp,.nil,fun v hv=>(by cases hv),⟨Nat.le_refl _,fun _ _ _=>rfl,fun i _=>hc i,fun _ _ h=>h⟩,fun _ _ h=>h,.refl ..⟩⟩
 |.tmp t::rs,E,T,k,ρ,h,hz=>by
  obtain ⟨p,h1,h2⟩:=Zac h
  have hp:p.1=0:=hz _ (lookT_mem h1)
  have en:nowT 0 p=p.2:=by unfold nowT;rw [beqt hp];rfl
  obtain ⟨x,E1,q,h3,a⟩:=rdOp_run (P:=P) (C:=C) (m:=.take) (ep:=0) (E:=E) (T:=T) (o:=.tmp t) (k:=fun x E1 T1=>Zap (Zbu (fun q:Tmp×Nat×TV=>Nat.beq q.2.1 0) E1) (resultsT P tlo rs E1 T1 fun vs H=>k (x::vs) H)) (ρ:=ρ) (by
   show Zaf (lookT E t) _=_
   rw [h1,Zai]
   show Zap (Zbu (fun q:Tmp×Nat×TV=>Nat.beq q.2.1 0) (putT E t 0 (hush (nowT 0 p)))) (resultsT P tlo rs (putT E t 0 (hush (nowT 0 p))) T fun vs H=>k (nowT 0 p::vs) H)=_
   rw [en]
   have e1:Zbu (fun q:Tmp×Nat×TV=>Nat.beq q.2.1 0) (putT E t 0 (hush p.2))=true:=by
    rw [Zds,List.all_eq_true]
    intro q hq
    rcases lookT_put hq with rfl |hq
    ·exact beqt rfl
    ·exact beqt (hz q hq)
   rw [e1]
   exact h2)
  obtain ⟨h4,h3⟩:=Zan h3
  rw [Zds,List.all_eq_true] at h4
  obtain ⟨vs,T',h5,b⟩:=results_run h3 fun q hq=>Zay (h4 q hq)
  refine ⟨x::vs,T',h5,fun {F lo base H r Oh Xe Xv Ev} hG hE hb=>?_⟩
  obtain ⟨y,r1,Xe1,ox,a1,a2,a3,a4,a5,a6,a7,a8⟩:=a (w:=false) (fun h=>by cases h) hG hE
  have:=a7 rfl
  subst this
  obtain ⟨vs',r',Oh',ov,b1,b2,b3,b4,b5,b6,b7⟩:=b (base:=base) a2 a3 (by rw [List.length_append];omega)
  have e:∀ i,act r' Oh' (ov++(ox++Xv)) i=act r' Oh' ((ox++ov)++Xv) i:=fun i=>by unfold act;simp only [List.count_append];omega
  have hx:VR H (Sof F r1 Oh (Xe1++(ox++Xv))) r1 x y ox:=a4
  refine ⟨y::vs',r',Oh',ox++ov,fun k'=>?_,b2.less fun i=>by simp only [List.count_append];omega,?_,fun v hv=>?_,⟨b5.next,fun _ _ _=>rfl,fun i hi=>?_,b5.pre⟩,b6,(LowS.append hb).trans b7⟩
  ·show Zaf (Zcs Ev t) _=_
   rw [show Zcs Ev t=some y from a1,Zai,b1]
  ·rw [← Sof_congr e]
   exact .cons (hx.mono b5.stay b5.pre (fun i hi hr=>⟨b6 i hi hr,rfl⟩) fun _ _=>rfl) b3
  ·rcases List.mem_cons.1 hv with rfl |hv
   ·exact a5
   ·exact b4 v hv
  ·rw [← e];exact Nat.le_trans (b5.less i hi) (a8 i)
 |.cell ca t::rs,E,T,k,ρ,h,hz=>by
  obtain ⟨p,h1,h2⟩:=Zac h
  obtain ⟨i,h3,h4⟩:=Zac h2
  obtain ⟨v,T1,h5,a⟩:=loadT_run h4
  obtain ⟨vs,T',h6,b⟩:=results_run h5 hz
  have hp:p.1=0:=hz _ (lookT_mem h1)
  have en:nowT 0 p=p.2:=by unfold nowT;rw [beqt hp];rfl
  refine ⟨v::vs,T',h6,fun {F lo base H r Oh Xe Xv Ev} hG hE hb=>?_⟩
  obtain ⟨y,o1,O2,_,l1,l2,l3,_,_⟩:=hE.look h1
  rw [en] at l3
  have l3:VR H (Sof F r Oh (Xe++Xv)) r p.2 y o1:=l3
  have hA:=(show Good C F lo tlo H r T Oh ((Xe++Xv)++[]) by rw [List.append_nil];exact hG).apart
  have eS:Sof (fun i=>F i∨i∈Xe++Xv) r Oh []=Sof F r Oh (Xe++Xv):=by rw [Sof_apart,List.append_nil]
  obtain ⟨v',c1,r1,Oh1,ov,c2,c3,c4,c5,c6,c7⟩:=a (ends:=false) hA (by rw [eS];exact l3) (fun h=>by cases h) (Nat.le_of_eq (Zat T))
  have hJ:Good C F lo tlo H r1 T1 Oh1 ((Xe++Xv)++ov):=c2.join (fun i=>by have:=hG.nd i;unfold act at this;omega) (fun i hi=>(hG.lt i (by unfold act;have:=Zax.2 hi;omega)).2) hG.xlo
  have m:=mv_apart (Y:=Xe++Xv) c5
  rw [List.append_nil] at m
  have e:∀ i,act r1 Oh1 ((Xe++Xv)++ov) i=act r1 Oh1 (Xe++(ov++Xv)) i:=fun i=>by unfold act;simp only [List.count_append];omega
  have hJ2:Good C F lo tlo H r1 T1 Oh1 (Xe++(ov++Xv)):=hJ.less fun i=>by simp only [List.count_append];omega
  have hE2:EnvR false H (Sof F r1 Oh1 (Xe++(ov++Xv))) r1 0 Ev E Xe:=by
   rw [← Sof_congr e]
   exact hE.mono m.stay m.pre (fun _=>c6 rfl) fun _ _=>rfl
  have hl:base≤Zag T:=by rw [Zat];exact hb
  obtain ⟨vs',r',Oh',ow,b1,b2,b3,b4,b5,b6,b7⟩:=b (base:=base) hJ2 hE2 (Nat.le_trans hb c7.1)
  have e2:∀ i,act r' Oh' (ow++(ov++Xv)) i=act r' Oh' ((ov++ow)++Xv) i:=fun i=>by unfold act;simp only [List.count_append];omega
  rw [Sof_apart,Sof_congr e] at c3
  refine ⟨v'::vs',r',Oh',ov++ow,fun k'=>?_,b2.less fun i=>by simp only [List.count_append];omega,?_,fun w hw=>?_,⟨b5.next,fun _ _ _=>rfl,fun i hi=>?_,fun b i h=>b5.pre b i (m.pre b i h)⟩,fun i hi hr=>b6 i hi (c6 rfl i hi hr).1,(c7.less hl).trans b7⟩
  ·show Zaf (Zcs Ev ca) _=_
   rw [l2,Zai,h3,Zai,c1]
   exact b1 _
  ·rw [← Sof_congr e2]
   exact .cons (c3.mono b5.stay b5.pre (fun i hi hr=>⟨b6 i hi hr,rfl⟩) fun _ _=>rfl) b3
  ·rcases List.mem_cons.1 hw with rfl |hw
   ·exact c4
   ·exact b4 w hw
  ·have h1:=b5.less i hi
   have h2:=m.less i hi
   rw [e] at h2
   rw [← e2];omega
theorem resOk_nb {v:TV} (h:OV v) (hr:Zbo v=true):NB v∧compish v:=by
 have hn:NB v:=by
  rcases h with h |h
  ·exact h
  ·unfold lent at h
   split at h
   ·cases hr
   ·cases hr
   ·exact h.elim
 refine ⟨hn,?_⟩
 cases v with
 |tup cs=>cases cs with
  |nil=>trivial
  |cons=>cases hr
 |_=>trivial
theorem oneOfT_rel {H:AH} {S:Nat→Prop} {r:List Nat} {vs:List TV} {vs':List Value} {o:List Nat} (h:VRL H S r vs vs' o) (ho:∀ v∈vs,OV v) (hr:Zbu Zbo vs=true):VR H S r (oneOfT vs) (oneOf vs') o∧NB (oneOfT vs):=by
 rw [Zds,List.all_eq_true] at hr
 have hn:∀ v∈vs,NB v∧compish v:=fun v hv=>resOk_nb (ho v hv) (hr v hv)
 have many:∀ {vs:List TV} {vs':List Value},VRL H S r vs vs' o→(∀ v∈vs,NB v∧compish v)→VR H S r (.tup vs) (.tuple ⟨vs'⟩) o∧NB (.tup vs):=fun h hn=>⟨.tup h,.tup (NBL.of fun v hv=>(hn v hv).1) fun v hv=>(hn v hv).2⟩
 cases h with
 |nil=>exact many .nil hn
 | @cons x y ox xs ys oxs h t=>
  cases t with
  |nil=>rw [List.append_nil];exact ⟨h,(hn x (List.mem_cons_self ..)).1⟩
  |cons h2 t2=>exact many (.cons h (.cons h2 t2)) hn
theorem init_run {F:Nat→Prop} {H:AH} {r Oh:List Nat} {args:List TV} {vs':List Value} {Ev2:Env} (hv:VRL H (Sof F r Oh []) r args vs' []) (hn:NBL args):∀ (keep:List Tmp),(∀ t∈keep,Zcs Ev2 t=some (argAt vs' t)) →
  EnvR false H (Sof F r Oh []) r 0 Ev2 (zipT keep (initT args keep)) []
 |[],_=>.nil
 |t::ts,he=>by
  have ih:=init_run hv hn ts fun s hs=>he s (List.mem_cons_of_mem _ hs)
  show EnvR false H _ r 0 Ev2 ((t,0,Zal args t)::zipT ts (initT args ts)) ([]++[])
  have h1:OV (Zal args t)∧VR H (Sof F r Oh []) r (Zal args t) (argAt vs' t) []:=by
   unfold Zal
   rw [Zcb]
   cases hx:args[t]? with
   |none=>exact ⟨und_nb,.und⟩
   |some x=>
    obtain ⟨y,u2,u3,c1,u1,u4,c3,_⟩:=hv.get hx
    have:u3=[]:=by
     cases u2 <;> cases u3 <;> first |rfl |cases u4
    subst this
    have e:argAt vs' t=y:=by unfold argAt;rw [Zcb,u1];rfl
    rw [e]
    exact ⟨.inl (hn.mem x (List.mem_of_getElem? hx)),c3⟩
  exact .cons (Nat.le_refl _) (by rw [nowT_same];exact h1.1) (he t (List.mem_cons_self ..)) (by rw [nowT_same];exact h1.2) ih
theorem zipT_init (vs':List Value):∀ (keep:List Tmp) (t:Tmp),t∈keep→Zcs (zipE keep (initV vs' keep)) t=some (argAt vs' t)
 |s::ts,t,h=>by
  show cond (Nat.beq s t) (some (argAt vs' s)) (Zcs (zipE ts (initV vs' ts)) t)=_
  cases hb:Nat.beq s t with
  |true=>have:=Zay hb;subst this;rfl
  |false=>
   rcases List.mem_cons.1 h with h |h
   ·exact absurd h.symm (ne_of_beq' hb)
   ·exact zipT_init vs' ts t h
theorem zip_zero:∀ (keep:List Tmp) (S:VT keep),∀ q∈zipT keep S,q.2.1=0
 |[],_,q,h=>by cases h
 |t::ts,S,q,h=>by
  rcases List.mem_cons.1 h with rfl |h
  ·rfl
  ·exact zip_zero ts _ q h
theorem resE_eq {β:Type} {e:Ex} {r:Option β} {ρ:β} (h:Zdp e r=some ρ):r=some ρ∧∀ {γ:Type} (r':Option γ),Zdp e r'=r':=by
 cases e with
 |normal=>exact ⟨h,fun _=>rfl⟩
 |exit=>cases h
 |ret=>exact ⟨h,fun _=>rfl⟩
abbrev CtxOf (C:TC):Ctx:=⟨C.fuel,C.keep,fun _=>.all⟩
theorem fn_sim (hs:CallSim C tc ec):CallSim C (fnT P C tc) (evFn P (CtxOf C) ec) where
 run:=by
  intro tlo f args T v T' h F lo H r Oh vs' hG hV hN
  obtain ⟨fn,h1,h⟩:=Zac h
  obtain ⟨c,h2,h⟩:=Zac h
  obtain ⟨h3,h⟩:=Zan h
  obtain ⟨p,h4,h5⟩:=Zau (show Zaa (codeT P C tc tlo (Zag T) fn.ntmps (C.keep f) (resTmps fn.results.toList) c (initT args (C.keep f)) T) (fun p=>
   Zdp p.1 (resultsT P tlo fn.results.toList (zipT (C.keep f) p.2.1) p.2.2 fun vs H'=>Zap (Zbu Zbo vs) (some (Zdw (Zag T) (oneOfT vs) H'))))=some (v,T') from h)
  obtain ⟨e,ST,T1⟩:=p
  have h5:Zdp e (resultsT P tlo fn.results.toList (zipT (C.keep f) ST) T1 fun vs H'=>Zap (Zbu Zbo vs) (some (Zdw (Zag T) (oneOfT vs) H')))=some (v,T'):=h5
  rw [Zat] at h4 h5
  obtain ⟨h5,hres⟩:=resE_eq h5
  have hI:InvT C F lo tlo 0 (zipE (C.keep f) (initV vs' (C.keep f))) (zipT (C.keep f) (initT args (C.keep f))) H r T Oh []:=⟨hG,init_run hV hN _ (zipT_init vs' _)⟩
  obtain ⟨SV,H1,a1,r1,Oh1,Xe1,a2,a3,a4⟩:=code_sim (keep:=C.keep f) (res:=resTmps fn.results.toList) (tlo:=tlo) (base:=T.length) hs fn.ntmps c h4 hI (Nat.le_refl _)
  obtain ⟨vs,T2,b1,b⟩:=results_run (C:=C) h5 (zip_zero _ _)
  obtain ⟨b2,b1⟩:=Zan b1
  obtain ⟨ws,r2,Oh2,ov,c1,c2,c3,c4,c5,_,c7⟩:=b (base:=T.length) (Xv:=[]) (Ev:=zipE (C.keep f) SV) (by rw [List.append_nil];exact a2.1) (by rw [List.append_nil];exact a2.2) a4.1
  rw [List.append_nil] at c2 c3 c5
  rw [List.append_nil] at c5
  obtain ⟨d1,d2⟩:=oneOfT_rel c3 c4 b2
  have hR:Res C F lo tlo T.length true H r T Oh [] (oneOfT vs) T2 (oneOf ws) H1:=⟨r2,Oh2,ov,c2,d1,.inl d2,a3.trans c5,fun h=>(by cases h),a4.trans c7⟩
  refine ⟨oneOf ws,H1,?_,?_⟩
  ·show Zaf (nth P.funcs.toList f) _=_
   rw [h1,Zai,h2,Zai,h3]
   show Zaa (evCode P ec C.fuel lo fn.ntmps (C.keep f) c (initV vs' (C.keep f)) H) _=_
   rw [show evCode P ec C.fuel lo fn.ntmps (C.keep f) c (initV vs' (C.keep f)) H=_ from a1]
   show Zdp e (evResults P (zipE (C.keep f) SV) H1 fn.results.toList fun vs=>some (oneOf vs,H1))=_
   rw [hres,c1]
  ·have b1:cond (loose (oneOfT vs)) (oneOfT vs,Zdg T2 T.length) (oneOfT vs,T2)=(v,T'):=Option.some.inj b1
   cases hl:loose (oneOfT vs) with
   |true=>
    rw [hl] at b1
    cases b1
    rw [Zct]
    exact ⟨d2,res_cut hG hR hl⟩
   |false=>
    rw [hl] at b1
    cases b1
    exact ⟨d2,hR⟩
def TabOk (P:Program) (C:TC) (table:Tr (Zbc→Zbc)):Prop:=∀ f F,table.get f=some F→∀ (ih:Zbc) (tlo:Nat) (args:List TV) (H:TH),F ih tlo f args H=fnT P C ih tlo f args H
theorem tab_sim {table:Tr (Zbc→Zbc)} (ht:TabOk P C table):∀ d,CallSim C (tabCall P C table d) (evCall P (CtxOf C) d)
 |0=>⟨fun h=>by cases h⟩
 |d+1=>⟨fun {tlo f args T v T'} h=>by
   have e:tabCall P C table (d+1) tlo f args T=fnT P C (tabCall P C table d) tlo f args T:=by
    show Option.rec (motive:=fun _=>Option (TV×TH)) (fnT P C (tabCall P C table d) tlo f args T) (fun F=>F (tabCall P C table d) tlo f args T) (table.get f)=_
    cases hx:table.get f with
    |none=>rfl
    |some F=>exact ht f F hx _ _ _ _
   rw [e] at h
   exact fun {F lo H r Oh vs'} a b c=>(fn_sim (tab_sim ht d)).run h a b c⟩
end
end Go.Ev
namespace Go.Ev
noncomputable section
def Zdf {β:Type} (n:Nat) (ag:Bool) (x:TV) (H:TH) (k:TV→TH→Option β):Option β:=bindT (thawC n ag x H) k
abbrev TVn:Nat→Type
 |0=>Unit
 |n+1=>TV×TVn n
def stN:(n:Nat)→TVn n→TVn n
 |0,_=>()
 |n+1,S=>(stale S.1,stN n S.2)
def tb32:List Int:=[0,1,28,2,29,14,24,3,30,22,20,15,25,17,4,8,31,27,13,23,21,19,16,7,26,12,18,6,11,5,10,9]
def tb64:List Int:=[0,1,56,2,57,49,28,3,61,58,42,50,38,29,17,4,62,47,59,36,45,43,51,22,53,39,33,30,24,18,12,5,63,55,48,27,60,41,37,16,46,35,44,21,52,32,23,11,54,26,40,15,34,20,31,10,25,14,19,9,13,8,7,6]
def tabT (l:List Int):List TV:=mapG (fun z=>.v (.int .u8 z)) l
def twoT (g:Nat):Option (List TV):=match g with |0=>some (tabT tb32) |1=>some (tabT tb64) |_=>none
end
end Go.Ev
namespace Go.Ev
theorem evCall_ok {P:Program} {base:Nat} (hm:P.follows .mixedOrders=true) (C:Ctx):∀ d,CallOk P base (evCall P C d)
 |0=>by intro lo f args H v H' _ h;cases h
 |d+1=>fn_ok (evCall_ok hm C d) hm C
theorem tab_krl {H:AH} {S:Nat→Prop}:∀ l:List Int,KRL H S (tabT l) (l.map fun z=>.int .u8 z)
 |[]=>.nil
 |z::l=>.cons (.v rfl rfl) (tab_krl l)
theorem tab_closed:∀ (l:List Int),∀ c∈tabT l,Zbw c=true:=by
 intro l c hc
 unfold tabT at hc
 rw [mapG_eq] at hc
 obtain ⟨z,_,rfl⟩:=List.mem_map.1 hc
 rfl
theorem tab_len (l:List Int):(tabT l).length=l.length:=by
 unfold tabT
 rw [mapG_eq,List.length_map]
abbrev twoH (e0 e1:TypeId):AH:=twoTabs .u8 tb32 tb64 e0 e1
theorem two_good {C:TC} (hC:C.tabs=twoT) (e0 e1:TypeId):Good C (fun _=>False) 2 0 (twoH e0 e1) [] [] [] []:=by
 have g0:(twoH e0 e1).get 0=some (.cells tb32.length (tb32.map fun z=>.int .u8 z) e0):=by
  show ((Tr.leaf.put 0 _).put 1 _).get 0=_
  rw [Tr.get_put,if_neg (by decide),Tr.get_put,if_pos rfl]
 have g1:(twoH e0 e1).get 1=some (.cells tb64.length (tb64.map fun z=>.int .u8 z) e1):=by
  show ((Tr.leaf.put 0 _).put 1 _).get 1=_
  rw [Tr.get_put,if_pos rfl]
 have one:∀ (g:Nat) (l:List Int) (e:TypeId),g < 2→(twoH e0 e1).get g=some (.cells l.length (l.map fun z=>.int .u8 z) e)→Sof (fun _=>False) [] [] [] g∧g < (twoH e0 e1).next∧∃ s ds e,(twoH e0 e1).get g=some (.cells s ds e)∧ds.length=s∧(tabT l).length≤s∧(∀ c∈tabT l,Zbw c=true)∧KRL (twoH e0 e1) (Sof (fun _=>False) [] [] []) (tabT l) (ds.take (tabT l).length):=by
  intro g l e hg hx
  refine ⟨⟨id,rfl⟩,hg,_,_,_,hx,by rw [List.length_map],by rw [tab_len];exact Nat.le_refl _,tab_closed l,?_⟩
  rw [tab_len,List.take_of_length_le (by rw [List.length_map];exact Nat.le_refl _)]
  exact tab_krl l
 refine ⟨fun i=>by simp [act],fun i hi=>by simp [act] at hi,fun i hi=>hi.elim,Nat.le_refl _,fun b i _ hi=>by simp at hi,fun i hi=>by (cases hi),.nil,fun g cs hg=>?_⟩
 rw [hC] at hg
 unfold twoT at hg
 split at hg
 ·cases hg;exact one 0 tb32 e0 (by omega) g0
 ·cases hg;exact one 1 tb64 e1 (by omega) g1
 ·cases hg
theorem args_rel {H:AH} {S:Nat→Prop} {r:List Nat}:∀ {l:List Value},l.all plain=true→VRL H S r (l.map ofV) l []∧NBL (l.map ofV)
 |[],_=>⟨.nil,.nil⟩
 |a::l,h=>by
  simp only [List.all_cons,Bool.and_eq_true] at h
  obtain ⟨h1,h2⟩:=ofV_rel (H:=H) (S:=S) (r:=r) h.1
  obtain ⟨h3,h4⟩:=args_rel (H:=H) (S:=S) (r:=r) h.2
  exact ⟨(.cons h1 h3:VRL H S r (ofV a::l.map ofV) (a::l) ([]++[])),.cons h2 h4⟩
theorem law_run {C:TC} (hC:C.tabs=twoT) {tc:Zbc} {ec:CallF} (hs:CallSim C tc ec) {f:FuncId} {args:List Value} {T':TH} (h:tc 0 f (args.map ofV) []=some (.v (.bool true),T')) (hp:args.all plain=true) (e0 e1:TypeId) :
  ∃ H',ec 2 f args (twoH e0 e1)=some (.bool true,H'):=by
 obtain ⟨h1,h2⟩:=args_rel (H:=twoH e0 e1) (S:=Sof (fun _=>False) [] [] []) (r:=[]) hp
 obtain ⟨v',H',a1,_,r',Oh',o,_,a3,_⟩:=hs.run h (two_good hC e0 e1) h1 h2
 obtain ⟨rfl,_⟩:=v_inv a3
 exact ⟨H',a1⟩
theorem tableT_get:∀ (l:List (Nat×(Zbc→Zbc))) (t:Tr (Zbc→Zbc)) (f:Nat) (F:Zbc→Zbc),(tableT l t).get f=some F→(f,F)∈l∨t.get f=some F
 |[],t,f,F,h=>.inr h
 |r::l,t,f,F,h=>by
  rcases tableT_get l _ f F h with h |h
  ·exact .inl (List.mem_cons_of_mem _ h)
  ·rw [Tr.get_put] at h
   split at h
   ·rename_i e
    cases h
    left;rw [e];exact List.mem_cons_self ..
   ·exact .inr h
theorem tabOk_rows {P:Program} {C:TC} {l:List (Nat×(Zbc→Zbc))} (h:∀ r∈l,∀ call tlo args H,r.2 call tlo r.1 args H=fnT P C call tlo r.1 args H):TabOk P C (tableT l .leaf):=by
 intro f F hg
 rcases tableT_get l .leaf f F hg with h1 |h1
 ·exact h _ h1
 ·cases h1
end Go.Ev
namespace Go.Ev
noncomputable section
abbrev tI (z:Int):TV:=.v (.int .i64 z)
abbrev tN (n:Nat):TV:=.v (.int .i64 (.ofNat n))
abbrev tB (b:Bool):TV:=.v (.bool b)
abbrev FnT:=Zbc→Nat→List TV→TH→Option (TV×TH)
def FEq (P:Program) (C:TC) (f:Nat) (F:FnT):Prop:=∀ call tlo l H,fnT P C call tlo f l H=F call tlo l H
def rowF (f:Nat) (F:FnT):Nat×(Zbc→Zbc):=(f,fun ih tlo _ l H=>F ih tlo l H)
def lF {β:Type} (tlo base:Nat) (H:TH) (a:TV) (k:TV→TH→Option β):Option β:=Zbg .lend tlo base false 1 H a k
def lA {β:Type} (tlo base n:Nat) (H:TH) (a:TV) (k:TV→TH→Option β):Option β:=Zbg .lend tlo base true n H a k
def sF {β:Type} (tlo base:Nat) (H:TH) (a:TV) (k:TV→TH→Option β):Option β:=Zbg .settle tlo base false 1 H a k
def sA {β:Type} (tlo base n:Nat) (H:TH) (a:TV) (k:TV→TH→Option β):Option β:=Zbg .settle tlo base true n H a k
def gB {β:Type} (x:TV) (w:Bool) (r:Option TV) (H:TH) (k:TV→TH→Option β):Option β:=Zbk (Zab x) w (Zaa r fun g=>Zbt g H) H k
def gV {β:Type} (x:TV) (w:Bool) (v:TV) (H:TH) (k:TV→TH→Option β):Option β:=Zbk (Zab x) w (Zbt v H) H k
abbrev Q0 (R:Type):=TV×R
def g0 {R:Type} (S:Q0 R):TV:=S.1
def z0 {R:Type} (x:TV) (S:Q0 R):Q0 R:=(stale x,S.2)
abbrev Q1 (R:Type):=TV×Q0 R
def g1 {R:Type} (S:Q1 R):TV:=g0 S.2
def z1 {R:Type} (x:TV) (S:Q1 R):Q1 R:=(S.1,z0 x S.2)
abbrev Q2 (R:Type):=TV×Q1 R
def g2 {R:Type} (S:Q2 R):TV:=g1 S.2
def z2 {R:Type} (x:TV) (S:Q2 R):Q2 R:=(S.1,z1 x S.2)
abbrev Q3 (R:Type):=TV×Q2 R
def g3 {R:Type} (S:Q3 R):TV:=g2 S.2
def z3 {R:Type} (x:TV) (S:Q3 R):Q3 R:=(S.1,z2 x S.2)
abbrev Q4 (R:Type):=TV×Q3 R
def g4 {R:Type} (S:Q4 R):TV:=g3 S.2
def z4 {R:Type} (x:TV) (S:Q4 R):Q4 R:=(S.1,z3 x S.2)
abbrev Q5 (R:Type):=TV×Q4 R
def g5 {R:Type} (S:Q5 R):TV:=g4 S.2
def z5 {R:Type} (x:TV) (S:Q5 R):Q5 R:=(S.1,z4 x S.2)
abbrev Q6 (R:Type):=TV×Q5 R
def g6 {R:Type} (S:Q6 R):TV:=g5 S.2
def z6 {R:Type} (x:TV) (S:Q6 R):Q6 R:=(S.1,z5 x S.2)
abbrev Q7 (R:Type):=TV×Q6 R
def g7 {R:Type} (S:Q7 R):TV:=g6 S.2
def z7 {R:Type} (x:TV) (S:Q7 R):Q7 R:=(S.1,z6 x S.2)
abbrev Q8 (R:Type):=TV×Q7 R
def g8 {R:Type} (S:Q8 R):TV:=g7 S.2
def z8 {R:Type} (x:TV) (S:Q8 R):Q8 R:=(S.1,z7 x S.2)
abbrev Q9 (R:Type):=TV×Q8 R
def g9 {R:Type} (S:Q9 R):TV:=g8 S.2
def z9 {R:Type} (x:TV) (S:Q9 R):Q9 R:=(S.1,z8 x S.2)
abbrev Q10 (R:Type):=TV×Q9 R
def g10 {R:Type} (S:Q10 R):TV:=g9 S.2
def z10 {R:Type} (x:TV) (S:Q10 R):Q10 R:=(S.1,z9 x S.2)
abbrev Q11 (R:Type):=TV×Q10 R
def g11 {R:Type} (S:Q11 R):TV:=g10 S.2
def z11 {R:Type} (x:TV) (S:Q11 R):Q11 R:=(S.1,z10 x S.2)
abbrev Q12 (R:Type):=TV×Q11 R
def g12 {R:Type} (S:Q12 R):TV:=g11 S.2
def z12 {R:Type} (x:TV) (S:Q12 R):Q12 R:=(S.1,z11 x S.2)
abbrev Q13 (R:Type):=TV×Q12 R
def g13 {R:Type} (S:Q13 R):TV:=g12 S.2
def z13 {R:Type} (x:TV) (S:Q13 R):Q13 R:=(S.1,z12 x S.2)
abbrev Q14 (R:Type):=TV×Q13 R
def g14 {R:Type} (S:Q14 R):TV:=g13 S.2
def z14 {R:Type} (x:TV) (S:Q14 R):Q14 R:=(S.1,z13 x S.2)
abbrev Q15 (R:Type):=TV×Q14 R
def g15 {R:Type} (S:Q15 R):TV:=g14 S.2
def z15 {R:Type} (x:TV) (S:Q15 R):Q15 R:=(S.1,z14 x S.2)
abbrev Q16 (R:Type):=TV×Q15 R
def g16 {R:Type} (S:Q16 R):TV:=g15 S.2
def z16 {R:Type} (x:TV) (S:Q16 R):Q16 R:=(S.1,z15 x S.2)
abbrev Q17 (R:Type):=TV×Q16 R
def g17 {R:Type} (S:Q17 R):TV:=g16 S.2
def z17 {R:Type} (x:TV) (S:Q17 R):Q17 R:=(S.1,z16 x S.2)
abbrev Q18 (R:Type):=TV×Q17 R
def g18 {R:Type} (S:Q18 R):TV:=g17 S.2
def z18 {R:Type} (x:TV) (S:Q18 R):Q18 R:=(S.1,z17 x S.2)
abbrev Q19 (R:Type):=TV×Q18 R
def g19 {R:Type} (S:Q19 R):TV:=g18 S.2
def z19 {R:Type} (x:TV) (S:Q19 R):Q19 R:=(S.1,z18 x S.2)
abbrev Q20 (R:Type):=TV×Q19 R
def g20 {R:Type} (S:Q20 R):TV:=g19 S.2
def z20 {R:Type} (x:TV) (S:Q20 R):Q20 R:=(S.1,z19 x S.2)
abbrev Q21 (R:Type):=TV×Q20 R
def g21 {R:Type} (S:Q21 R):TV:=g20 S.2
def z21 {R:Type} (x:TV) (S:Q21 R):Q21 R:=(S.1,z20 x S.2)
abbrev Q22 (R:Type):=TV×Q21 R
def g22 {R:Type} (S:Q22 R):TV:=g21 S.2
def z22 {R:Type} (x:TV) (S:Q22 R):Q22 R:=(S.1,z21 x S.2)
abbrev Q23 (R:Type):=TV×Q22 R
def g23 {R:Type} (S:Q23 R):TV:=g22 S.2
def z23 {R:Type} (x:TV) (S:Q23 R):Q23 R:=(S.1,z22 x S.2)
abbrev Q24 (R:Type):=TV×Q23 R
def g24 {R:Type} (S:Q24 R):TV:=g23 S.2
def z24 {R:Type} (x:TV) (S:Q24 R):Q24 R:=(S.1,z23 x S.2)
abbrev Q25 (R:Type):=TV×Q24 R
def g25 {R:Type} (S:Q25 R):TV:=g24 S.2
def z25 {R:Type} (x:TV) (S:Q25 R):Q25 R:=(S.1,z24 x S.2)
abbrev Q26 (R:Type):=TV×Q25 R
def g26 {R:Type} (S:Q26 R):TV:=g25 S.2
def z26 {R:Type} (x:TV) (S:Q26 R):Q26 R:=(S.1,z25 x S.2)
abbrev Q27 (R:Type):=TV×Q26 R
def g27 {R:Type} (S:Q27 R):TV:=g26 S.2
def z27 {R:Type} (x:TV) (S:Q27 R):Q27 R:=(S.1,z26 x S.2)
abbrev Q28 (R:Type):=TV×Q27 R
def g28 {R:Type} (S:Q28 R):TV:=g27 S.2
def z28 {R:Type} (x:TV) (S:Q28 R):Q28 R:=(S.1,z27 x S.2)
abbrev Q29 (R:Type):=TV×Q28 R
def g29 {R:Type} (S:Q29 R):TV:=g28 S.2
def z29 {R:Type} (x:TV) (S:Q29 R):Q29 R:=(S.1,z28 x S.2)
abbrev Q30 (R:Type):=TV×Q29 R
def g30 {R:Type} (S:Q30 R):TV:=g29 S.2
def z30 {R:Type} (x:TV) (S:Q30 R):Q30 R:=(S.1,z29 x S.2)
abbrev Q31 (R:Type):=TV×Q30 R
def g31 {R:Type} (S:Q31 R):TV:=g30 S.2
def z31 {R:Type} (x:TV) (S:Q31 R):Q31 R:=(S.1,z30 x S.2)
abbrev Q32 (R:Type):=TV×Q31 R
def g32 {R:Type} (S:Q32 R):TV:=g31 S.2
def z32 {R:Type} (x:TV) (S:Q32 R):Q32 R:=(S.1,z31 x S.2)
abbrev Q33 (R:Type):=TV×Q32 R
def g33 {R:Type} (S:Q33 R):TV:=g32 S.2
def z33 {R:Type} (x:TV) (S:Q33 R):Q33 R:=(S.1,z32 x S.2)
abbrev Q34 (R:Type):=TV×Q33 R
def g34 {R:Type} (S:Q34 R):TV:=g33 S.2
def z34 {R:Type} (x:TV) (S:Q34 R):Q34 R:=(S.1,z33 x S.2)
abbrev Q35 (R:Type):=TV×Q34 R
def g35 {R:Type} (S:Q35 R):TV:=g34 S.2
def z35 {R:Type} (x:TV) (S:Q35 R):Q35 R:=(S.1,z34 x S.2)
abbrev Q36 (R:Type):=TV×Q35 R
def g36 {R:Type} (S:Q36 R):TV:=g35 S.2
def z36 {R:Type} (x:TV) (S:Q36 R):Q36 R:=(S.1,z35 x S.2)
abbrev Q37 (R:Type):=TV×Q36 R
def g37 {R:Type} (S:Q37 R):TV:=g36 S.2
def z37 {R:Type} (x:TV) (S:Q37 R):Q37 R:=(S.1,z36 x S.2)
abbrev Q38 (R:Type):=TV×Q37 R
def g38 {R:Type} (S:Q38 R):TV:=g37 S.2
def z38 {R:Type} (x:TV) (S:Q38 R):Q38 R:=(S.1,z37 x S.2)
abbrev Q39 (R:Type):=TV×Q38 R
def g39 {R:Type} (S:Q39 R):TV:=g38 S.2
def z39 {R:Type} (x:TV) (S:Q39 R):Q39 R:=(S.1,z38 x S.2)
abbrev Q40 (R:Type):=TV×Q39 R
def g40 {R:Type} (S:Q40 R):TV:=g39 S.2
def z40 {R:Type} (x:TV) (S:Q40 R):Q40 R:=(S.1,z39 x S.2)
abbrev Q41 (R:Type):=TV×Q40 R
def g41 {R:Type} (S:Q41 R):TV:=g40 S.2
def z41 {R:Type} (x:TV) (S:Q41 R):Q41 R:=(S.1,z40 x S.2)
abbrev Q42 (R:Type):=TV×Q41 R
def g42 {R:Type} (S:Q42 R):TV:=g41 S.2
def z42 {R:Type} (x:TV) (S:Q42 R):Q42 R:=(S.1,z41 x S.2)
abbrev Q43 (R:Type):=TV×Q42 R
def g43 {R:Type} (S:Q43 R):TV:=g42 S.2
def z43 {R:Type} (x:TV) (S:Q43 R):Q43 R:=(S.1,z42 x S.2)
abbrev Q44 (R:Type):=TV×Q43 R
def g44 {R:Type} (S:Q44 R):TV:=g43 S.2
def z44 {R:Type} (x:TV) (S:Q44 R):Q44 R:=(S.1,z43 x S.2)
abbrev Q45 (R:Type):=TV×Q44 R
def g45 {R:Type} (S:Q45 R):TV:=g44 S.2
def z45 {R:Type} (x:TV) (S:Q45 R):Q45 R:=(S.1,z44 x S.2)
abbrev Q46 (R:Type):=TV×Q45 R
def g46 {R:Type} (S:Q46 R):TV:=g45 S.2
def z46 {R:Type} (x:TV) (S:Q46 R):Q46 R:=(S.1,z45 x S.2)
abbrev Q47 (R:Type):=TV×Q46 R
def g47 {R:Type} (S:Q47 R):TV:=g46 S.2
def z47 {R:Type} (x:TV) (S:Q47 R):Q47 R:=(S.1,z46 x S.2)
abbrev Q48 (R:Type):=TV×Q47 R
def g48 {R:Type} (S:Q48 R):TV:=g47 S.2
def z48 {R:Type} (x:TV) (S:Q48 R):Q48 R:=(S.1,z47 x S.2)
abbrev Q49 (R:Type):=TV×Q48 R
def g49 {R:Type} (S:Q49 R):TV:=g48 S.2
def z49 {R:Type} (x:TV) (S:Q49 R):Q49 R:=(S.1,z48 x S.2)
abbrev Q50 (R:Type):=TV×Q49 R
def g50 {R:Type} (S:Q50 R):TV:=g49 S.2
def z50 {R:Type} (x:TV) (S:Q50 R):Q50 R:=(S.1,z49 x S.2)
abbrev Q51 (R:Type):=TV×Q50 R
def g51 {R:Type} (S:Q51 R):TV:=g50 S.2
def z51 {R:Type} (x:TV) (S:Q51 R):Q51 R:=(S.1,z50 x S.2)
abbrev Q52 (R:Type):=TV×Q51 R
def g52 {R:Type} (S:Q52 R):TV:=g51 S.2
def z52 {R:Type} (x:TV) (S:Q52 R):Q52 R:=(S.1,z51 x S.2)
abbrev Q53 (R:Type):=TV×Q52 R
def g53 {R:Type} (S:Q53 R):TV:=g52 S.2
def z53 {R:Type} (x:TV) (S:Q53 R):Q53 R:=(S.1,z52 x S.2)
abbrev Q54 (R:Type):=TV×Q53 R
def g54 {R:Type} (S:Q54 R):TV:=g53 S.2
def z54 {R:Type} (x:TV) (S:Q54 R):Q54 R:=(S.1,z53 x S.2)
abbrev Q55 (R:Type):=TV×Q54 R
def g55 {R:Type} (S:Q55 R):TV:=g54 S.2
def z55 {R:Type} (x:TV) (S:Q55 R):Q55 R:=(S.1,z54 x S.2)
abbrev Q56 (R:Type):=TV×Q55 R
def g56 {R:Type} (S:Q56 R):TV:=g55 S.2
def z56 {R:Type} (x:TV) (S:Q56 R):Q56 R:=(S.1,z55 x S.2)
theorem aI {p q:Prop} (a:p) (b:q):p∧q:=⟨a,b⟩
def WW:=aI @lF.eq_1<| aI @lA.eq_1<| aI @sF.eq_1<| aI @sA.eq_1<| aI @gB.eq_1<| aI @gV.eq_1<| aI @g0.eq_1<| aI @z0.eq_1<| aI @g1.eq_1<| aI @z1.eq_1<| aI @g2.eq_1<| aI @z2.eq_1<| aI @g3.eq_1<| aI @z3.eq_1<| aI @g4.eq_1<| aI @z4.eq_1<| aI @g5.eq_1<| aI @z5.eq_1<| aI @g6.eq_1<| aI @z6.eq_1<| aI @g7.eq_1<| aI @z7.eq_1<| aI @g8.eq_1<| aI @z8.eq_1<| aI @g9.eq_1<| aI @z9.eq_1<| aI @g10.eq_1<| aI @z10.eq_1<| aI @g11.eq_1<| aI @z11.eq_1<| aI @g12.eq_1<| aI @z12.eq_1<| aI @g13.eq_1<| aI @z13.eq_1<| aI @g14.eq_1<| aI @z14.eq_1<| aI @g15.eq_1<| aI @z15.eq_1<| aI @g16.eq_1<| aI @z16.eq_1<| aI @g17.eq_1<| aI @z17.eq_1<| aI @g18.eq_1<| aI @z18.eq_1<| aI @g19.eq_1<| aI @z19.eq_1<| aI @g20.eq_1<| aI @z20.eq_1<| aI @g21.eq_1<| aI @z21.eq_1<| aI @g22.eq_1<| aI @z22.eq_1<| aI @g23.eq_1<| aI @z23.eq_1<| aI @g24.eq_1<| aI @z24.eq_1<| aI @g25.eq_1<| aI @z25.eq_1<| aI @g26.eq_1<| aI @z26.eq_1<| aI @g27.eq_1<| aI @z27.eq_1<| aI @g28.eq_1<| aI @z28.eq_1<| aI @g29.eq_1<| aI @z29.eq_1<| aI @g30.eq_1<| aI @z30.eq_1<| aI @g31.eq_1<| aI @z31.eq_1<| aI @g32.eq_1<| aI @z32.eq_1<| aI @g33.eq_1<| aI @z33.eq_1<| aI @g34.eq_1<| aI @z34.eq_1<| aI @g35.eq_1<| aI @z35.eq_1<| aI @g36.eq_1<| aI @z36.eq_1<| aI @g37.eq_1<| aI @z37.eq_1<| aI @g38.eq_1<| aI @z38.eq_1<| aI @g39.eq_1<| aI @z39.eq_1<| aI @g40.eq_1<| aI @z40.eq_1<| aI @g41.eq_1<| aI @z41.eq_1<| aI @g42.eq_1<| aI @z42.eq_1<| aI @g43.eq_1<| aI @z43.eq_1<| aI @g44.eq_1<| aI @z44.eq_1<| aI @g45.eq_1<| aI @z45.eq_1<| aI @g46.eq_1<| aI @z46.eq_1<| aI @g47.eq_1<| aI @z47.eq_1<| aI @g48.eq_1<| aI @z48.eq_1<| aI @g49.eq_1<| aI @z49.eq_1<| aI @g50.eq_1<| aI @z50.eq_1<| aI @g51.eq_1<| aI @z51.eq_1<| aI @g52.eq_1<| aI @z52.eq_1<| aI @g53.eq_1<| aI @z53.eq_1<| aI @g54.eq_1<| aI @z54.eq_1<| aI @g55.eq_1<| aI @z55.eq_1<| aI @g56.eq_1<| @z56.eq_1
end
end Go.Ev
namespace Go.Ev
noncomputable section
def sqR {σ:Type} (r:RetT σ) (g:Zaz σ):RetT σ:=
 Option.rec (motive:=fun _=>RetT σ) none (fun p=>Ex.casesOn (motive:=fun _=>RetT σ) p.1 (g p.2.1 p.2.2) (fun _=>some p) (some p)) r
def blR {σ:Type} (id:Nat) (r:RetT σ):RetT σ:=
 Option.rec (motive:=fun _=>RetT σ) none (fun p=>Ex.casesOn (motive:=fun _=>RetT σ) p.1 (some p) (fun id'=>cond (Nat.beq id' id) (some (.normal,p.2)) (some p)) (some p)) r
def cdV {σ:Type} (v:TV) (a b:RetT σ):RetT σ:=match v with |.v (.bool t)=>cond t a b |_=>none
section
variable {σ:Type} {f g:Zaz σ} {S:σ} {H:TH} {c:σ→Option TV} {id id':Nat} {a b:RetT σ}
theorem seqT_eq:Zaj f g S H=sqR (f S H) g:=(rfl)
theorem sqR_n:sqR (some (.normal,S,H)) g=g S H:=(rfl)
theorem sqR_e:sqR (some (.exit id,S,H)) g=some (.exit id,S,H):=(rfl)
theorem sqR_r:sqR (some (.ret,S,H)) g=some (.ret,S,H):=(rfl)
theorem blockT_eq:Zbd id f S H=blR id (f S H):=(rfl)
theorem blR_n:blR id (some (.normal,S,H))=some (.normal,S,H):=(rfl)
theorem blR_r:blR id (some (.ret,S,H))=some (.ret,S,H):=(rfl)
theorem blR_e:blR id (some (.exit id',S,H))=cond (Nat.beq id' id) (some (.normal,S,H)) (some (.exit id',S,H)):=(rfl)
theorem leafT_eq {f:σ→TH→(σ→TH→RetT σ)→RetT σ}:Zad f S H=f S H fun S H=>some (.normal,S,H):=(rfl)
theorem doneT_eq {e:Ex}:Zam e S H=some (e,S,H):=(rfl)
theorem condT_eq:Zbb c f g S H=Zaa (c S) fun v=>cdV v (f S H) (g S H):=(rfl)
theorem cdV_b {t:Bool}:cdV (.v (.bool t)) a b=cond t a b:=(rfl)
end
theorem bindT_some {β:Type} {v:TV} {H:TH} {k:TV→TH→Option β}:bindT (some (v,H)) k=k v H:=(rfl)
theorem bindT_pair {β:Type} {v:TV} {H:TH} {k:TV→TH→Option β}:bindT (Zbt v H) k=k v H:=(rfl)
theorem cond_t {α:Type} {a b:α}:cond true a b=a:=(rfl)
theorem cond_f {α:Type} {a b:α}:cond false a b=b:=(rfl)
theorem resE_r {β:Type} {r:Option β}:Zdp .ret r=r:=(rfl)
theorem resE_n {β:Type} {r:Option β}:Zdp .normal r=r:=(rfl)
def EndsT {σ:Type} (r:RetT σ) (Q:Ex→σ→TH→Prop):Prop:=∃ e S H,r=some (e,S,H)∧Q e S H
section
variable {σ:Type} {Q Q1:Ex→σ→TH→Prop}
theorem EndsT.mono {r:RetT σ} (h:EndsT r Q1) (hq:∀ e S H,Q1 e S H→Q e S H):EndsT r Q:=
 let ⟨e,S,H,a,b⟩:=h;⟨e,S,H,a,hq e S H b⟩
theorem EndsT.of {r:RetT σ} {e:Ex} {S:σ} {H:TH} (h:r=some (e,S,H)) (q:Q e S H):EndsT r Q:=⟨e,S,H,h,q⟩
theorem EndsT.fin {e:Ex} {S:σ} {H:TH} (q:Q e S H):EndsT (Option.some (e,S,H)) Q:=⟨e,S,H,rfl,q⟩
theorem EndsT.sq {r:RetT σ} {g:Zaz σ} (h:EndsT r Q1) (hn:∀ S H,Q1 .normal S H→EndsT (g S H) Q) (he:∀ id S H,Q1 (.exit id) S H→Q (.exit id) S H) (hr:∀ S H,Q1 .ret S H→Q .ret S H):EndsT (sqR r g) Q:=by
 obtain ⟨e,S,H,rfl,q⟩:=h
 cases e with
 |normal=>exact hn S H q
 |exit id=>exact ⟨_,_,_,rfl,he id S H q⟩
 |ret=>exact ⟨_,_,_,rfl,hr S H q⟩
theorem EndsT.bl {r:RetT σ} {id:Nat} (h:EndsT r Q1) (hn:∀ S H,Q1 .normal S H→Q .normal S H) (he:∀ i S H,Q1 (.exit i) S H→cond (Nat.beq i id) (Q .normal S H) (Q (.exit i) S H)) (hr:∀ S H,Q1 .ret S H→Q .ret S H):EndsT (blR id r) Q:=by
 obtain ⟨e,S,H,rfl,q⟩:=h
 cases e with
 |normal=>exact ⟨_,_,_,rfl,hn S H q⟩
 |exit i=>
  rw [blR_e]
  have:=he i S H q
  cases hb:Nat.beq i id with
  |true=>rw [hb] at this;exact ⟨_,_,_,rfl,this⟩
  |false=>rw [hb] at this;exact ⟨_,_,_,rfl,this⟩
 |ret=>exact ⟨_,_,_,rfl,hr S H q⟩
theorem EndsT.loop {f:Zaz σ} (I:Nat→σ→TH→Prop) (hstep:∀ k S H,I k S H→EndsT (f S H) fun e S' H'=>(e=.normal∧∃ k',k' < k∧I k' S' H')∨(e≠.normal∧Q e S' H')) :
  ∀ (fuel k:Nat) (S:σ) (H:TH),k < fuel→I k S H→EndsT (Zdn f fuel S H) Q
 |0,_,_,_,h,_=>absurd h (Nat.not_lt_zero _)
 |fuel+1,k,S,H,h,hi=>by
  obtain ⟨e,S',H',hr,hq⟩:=hstep k S H hi
  have hl:Zdn f (fuel+1) S H=Option.rec (motive:=fun _=>RetT σ) none (fun p=>Ex.casesOn (motive:=fun _=>RetT σ) p.1 (Zdn f fuel p.2.1 p.2.2) (fun _=>some p) (some p)) (f S H):=rfl
  rw [hl,hr]
  rcases hq with ⟨rfl,k',hk',hi'⟩ |⟨hne,hq⟩
  ·exact EndsT.loop I hstep fuel k' S' H' (by omega) hi'
  ·cases e with
   |normal=>exact absurd rfl hne
   |exit id=>exact ⟨_,_,_,rfl,hq⟩
   |ret=>exact ⟨_,_,_,rfl,hq⟩
end
section
variable {x:Value} {c:Cp} {n:Nat} {e:TypeId} {es cs:List TV} {b off len cap:Nat} {ag:Bool} {f:Fn} {l m:List TV}
theorem stale_v:stale (.v x)=.v x:=(rfl)
theorem stale_set:stale (.row c .set n es)=.row c .set n es:=(rfl)
theorem stale_own:stale (.row c (.own e) n es)=.row c (.own e) n es:=(rfl)
theorem stale_bor:stale (.row c .bor n es)=Zao:=(rfl)
theorem stale_agg:stale (.agg cs)=.agg cs:=(rfl)
theorem stale_tup:stale (.tup cs)=.tup cs:=(rfl)
theorem stale_ptr:stale (.ptr b off)=.ptr b off:=(rfl)
theorem stale_vec:stale (.vec b off len cap n ag)=.vec b off len cap n ag:=(rfl)
theorem stale_map:stale (.map b)=.map b:=(rfl)
theorem stale_fn:stale (.fn f l m)=.fn f l m:=(rfl)
theorem setV_v:Zak (.v x)=.v x:=(rfl)
theorem setV_set:Zak (.row c .set n es)=.row c .set n es:=(rfl)
theorem setV_own:Zak (.row c (.own e) n es)=.row c .set n es:=(rfl)
theorem setV_bor:Zak (.row c .bor n es)=.row c .bor n es:=(rfl)
theorem setV_agg:Zak (.agg cs)=.agg (mapG setC cs):=(rfl)
theorem setV_ptr:Zak (.ptr b off)=.ptr b off:=(rfl)
theorem setV_vec:Zak (.vec b off len cap n ag)=.vec b off len cap n ag:=(rfl)
theorem setV_map:Zak (.map b)=.map b:=(rfl)
theorem setV_fn:Zak (.fn f l m)=.fn f l m:=(rfl)
theorem setC_v:setC (.v x)=.v x:=(rfl)
theorem setC_set:setC (.row c .set n es)=.row c .set n es:=(rfl)
theorem setC_own:setC (.row c (.own e) n es)=.row c .set n es:=(rfl)
theorem hush_v:hush (.v x)=.v x:=(rfl)
theorem hush_set:hush (.row c .set n es)=.row c .set n es:=(rfl)
theorem hush_own:hush (.row c (.own e) n es)=.row c .bor n es:=(rfl)
theorem hush_agg:hush (.agg cs)=.agg (mapG hushC cs):=(rfl)
theorem hush_ptr:hush (.ptr b off)=.ptr b off:=(rfl)
theorem hush_fn:hush (.fn f l m)=.fn f l m:=(rfl)
theorem hush_map:hush (.map b)=.map b:=(rfl)
theorem hushC_v:hushC (.v x)=.v x:=(rfl)
theorem hushC_set:hushC (.row c .set n es)=.row c .set n es:=(rfl)
theorem lendV_v:Zab (.v x)=.v x:=(rfl)
theorem lendV_set:Zab (.row c .set n es)=.row c .set n es:=(rfl)
theorem lendV_own:Zab (.row c (.own e) n es)=.row c .bor n es:=(rfl)
theorem lendV_agg:Zab (.agg cs)=.agg (mapG setC cs):=(rfl)
theorem lendV_ptr:Zab (.ptr b off)=.ptr b off:=(rfl)
theorem keepV_v:Zae (.v x)=.v x:=(rfl)
theorem keepV_set:Zae (.row c .set n es)=.row c .set n es:=(rfl)
theorem keepV_own:Zae (.row c (.own e) n es)=.row c (.own e) n es:=(rfl)
theorem keepV_agg:Zae (.agg cs)=.agg (mapG setC cs):=(rfl)
theorem keepV_ptr:Zae (.ptr b off)=.ptr b off:=(rfl)
theorem mapG_nil {α β:Type} {g:α→β}:mapG g []=[]:=(rfl)
theorem mapG_cons {α β:Type} {g:α→β} {y:α} {ys:List α}:mapG g (y::ys)=g y::mapG g ys:=(rfl)
theorem cellsT_v:Zav (.v x)=[.v x]:=(rfl)
theorem cellsT_row {q:Lf}:Zav (.row c q n es)=[.row c q n es]:=(rfl)
theorem Zdr:Zav (.agg cs)=cs:=(rfl)
theorem cellsT_ptr:Zav (.ptr b off)=[.ptr b off]:=(rfl)
theorem cellsT_fn:Zav (.fn f l m)=[.fn f l m]:=(rfl)
theorem stor_v:stor (.v x)=true:=(rfl)
theorem stor_set:stor (.row c .set n es)=true:=(rfl)
theorem stor_own:stor (.row c (.own e) n es)=true:=(rfl)
theorem stor_agg:stor (.agg cs)=Zbu storC cs:=(rfl)
theorem stor_fn:stor (.fn f l m)=true:=(rfl)
theorem storC_v:storC (.v x)=true:=(rfl)
theorem storC_set:storC (.row c .set n es)=true:=(rfl)
theorem pass_v:pass (.v x)=true:=(rfl)
theorem pass_ptr:pass (.ptr b off)=true:=(rfl)
theorem pass_set:pass (.row c .set n es)=true:=(rfl)
theorem pass_fn:pass (.fn f l m)=true:=(rfl)
theorem pass_agg:pass (.agg cs)=Zbu Zbw cs:=(rfl)
theorem closed_v:closed (.v x)=true:=(rfl)
theorem closed_agg:closed (.agg cs)=Zbu Zbw cs:=(rfl)
theorem closedC_v:Zbw (.v x)=true:=(rfl)
theorem closedC_set:Zbw (.row c .set n es)=true:=(rfl)
theorem Zdq:loose (.v x)=true:=(rfl)
theorem loose_set:loose (.row c .set n es)=true:=(rfl)
theorem loose_own:loose (.row c (.own e) n es)=true:=(rfl)
theorem loose_agg:loose (.agg cs)=Zbu looseC cs:=(rfl)
theorem looseC_v:looseC (.v x)=true:=(rfl)
theorem looseC_set:looseC (.row c .set n es)=true:=(rfl)
theorem resOk_v:Zbo (.v x)=true:=(rfl)
theorem resOk_set:Zbo (.row c .set n es)=true:=(rfl)
theorem resOk_own:Zbo (.row c (.own e) n es)=true:=(rfl)
theorem resOk_agg:Zbo (.agg cs)=true:=(rfl)
theorem isOwn_v:isOwn (.v x)=false:=(rfl)
theorem isOwn_set:isOwn (.row c .set n es)=false:=(rfl)
theorem isOwn_own:isOwn (.row c (.own e) n es)=true:=(rfl)
theorem isOwn_ptr:isOwn (.ptr b off)=false:=(rfl)
theorem allG_nil {α:Type} {p:α→Bool}:Zbu p []=true:=(rfl)
theorem allG_cons {α:Type} {p:α→Bool} {y:α} {ys:List α}:Zbu p (y::ys)=cond (p y) (Zbu p ys) false:=(rfl)
theorem anyG_nil {α:Type} {p:α→Bool}:anyG p []=false:=(rfl)
theorem anyG_cons {α:Type} {p:α→Bool} {y:α} {ys:List α}:anyG p (y::ys)=cond (p y) true (anyG p ys):=(rfl)
theorem bool_v {t:Bool}:isBoolT (.v (.bool t))=true:=(rfl)
theorem isBT_v {t w:Bool}:isBT (.v (.bool t)) w=isB (.bool t) w:=(rfl)
end
theorem b2_v {f:Value→Value→Option Value} {x y:Value}:b2 f (.v x) (.v y)=Zaf (f x y) fun r=>some (.v r):=(rfl)
theorem b1_v {f:Value→Option Value} {x:Value}:b1 f (.v x)=Zaf (f x) fun r=>some (.v r):=(rfl)
theorem not_v {t:Bool}:evNot (.bool t)=some (.bool (!t)):=(rfl)
theorem pick_v {t:Bool} {a b:TV}:Zch (.v (.bool t)) a b=some (cond t a b):=(rfl)
theorem eqlT_v {q:EqKind} {x y:TV}:eqlT q x y=Zaf (eqT q x y) fun r=>some (.v (.bool r)):=(rfl)
theorem neqT_v {q:EqKind} {x y:TV}:neqT q x y=Zaf (eqT q x y) fun r=>some (.v (.bool (!r))):=(rfl)
theorem eqT_int {k:IntKind} {a b:Int}:eqT .int (.v (.int k a)) (.v (.int k b))=some (Zca a b):=by cases k <;> rfl
theorem lenT_row {c:Cp} {q:Lf} {n:Nat} {es:List TV}:lenT (.row c q n es)=some (.v (.int .i64 (.ofNat (Zag es)))):=(rfl)
theorem shift_ptr {b off d:Nat}:Zar (.ptr b off) d=some (.ptr b (off+d)):=(rfl)
theorem nilCk_ptr {b off:Nat}:nilCkT (.ptr b off)=some (.ptr b off):=(rfl)
theorem nil_row:nilT=.row .nil .set 0 []:=(rfl)
theorem lend_row_own {e:TypeId} {c:Cp} {n:Nat} {es:List TV}:lendC (.row c (.own e) n es)=.row c .bor n es:=(rfl)
theorem lend_row_set {c:Cp} {n:Nat} {es:List TV}:lendC (.row c .set n es)=.row c .set n es:=(rfl)
theorem lend_v {x:Value}:lendC (.v x)=.v x:=(rfl)
theorem Zbv {c:Cp} {q:Lf} {n j:Nat} {es:List TV} {e:TV} (h:es[j]? = some e):Zbn n (.row c q n es) (.v (.int .i64 (.ofNat j)))=some (.el (elQ q) (Zav e) 0):=by
 show Zaf (asNat (.int .i64 (.ofNat j))) _=_
 have:asNat (.int .i64 (.ofNat j))=some j:=rfl
 rw [this]
 show Zaf (nth es j) _=_
 rw [Zcb,h]
 show Zap (Nat.beq n n) _=_
 rw [Nat.beq_refl];rfl
theorem load_el {β:Type} {m:Ld} {tlo base:Nat} {H:TH} {q:Lf} {x:TV} {off:Nat} {cs:List TV} {k:TV→TH→Option β} (h:cs[off]? = some x):Zbg m tlo base false 1 H (.el q cs off) k=k x H:=by
 show bindT (Zaf (nth cs off) fun x=>Zbt x H) k=_
 rw [Zcb,h];rfl
theorem el_one {β:Type} {m:Ld} {tlo base:Nat} {H:TH} {q:Lf} {x:TV} {k:TV→TH→Option β}:Zbg m tlo base false 1 H (.el q [x] 0) k=k x H:=(rfl)
theorem el_two {β:Type} {m:Ld} {tlo base:Nat} {H:TH} {q:Lf} {x y:TV} {k:TV→TH→Option β}:Zbg m tlo base true 2 H (.el q [x,y] 0) k=k (.agg [x,y]) H:=(rfl)
theorem el_fst {β:Type} {m:Ld} {tlo base:Nat} {H:TH} {q:Lf} {x y:TV} {k:TV→TH→Option β}:Zbg m tlo base false 1 H (.el q [x,y] 0) k=k x H:=(rfl)
theorem el_snd {β:Type} {m:Ld} {tlo base:Nat} {H:TH} {q:Lf} {x y:TV} {k:TV→TH→Option β}:Zbg m tlo base false 1 H (.el q [x,y] 1) k=k y H:=(rfl)
theorem lendV_fn {f:Fn} {l m:List TV}:Zab (.fn f l m)=.fn f l m:=(rfl)
theorem keepV_fn {f:Fn} {l m:List TV}:Zae (.fn f l m)=.fn f l m:=(rfl)
theorem Zbf {β:Type} {m:Ld} {tlo base b off:Nat} {H:TH} {cs:List TV} {x:TV} {k:TV→TH→Option β} (hb:H[b]? = some (.cells cs)) (hx:cs[off]? = some x) (ho:isOwn x=false) (hl:lendC x=x):Zbg m tlo base false 1 H (.ptr b off) k=k x H:=by
 show bindT (Zco H b fun cs=>Zaf (nth cs off) fun x=>ldCell m tlo base H b cs off x Zbt) k=_
 unfold Zco
 rw [Zcb,hb]
 show bindT (Zaf (nth cs off) fun x=>ldCell m tlo base H b cs off x Zbt) k=_
 rw [Zcb,hx]
 show bindT (ldCell m tlo base H b cs off x Zbt) k=_
 unfold ldCell
 cases m with
 |lend=>rw [hl];rfl
 |take=>rw [ho];rfl
 |settle=>rw [ho];rfl
 |thaw n ag=>rw [ho];rfl
theorem Zcw {β:Type} {m:Ld} {tlo base b off n:Nat} {H:TH} {cs:List TV} {k:TV→TH→Option β} (hb:H[b]? = some (.cells cs)) (hn:off+n≤cs.length) (ho:((cs.drop off).take n).any isOwn=false):Zbg m tlo base true n H (.ptr b off) k=k (.agg ((cs.drop off).take n)) H:=by
 show bindT (Zco H b fun cs=>Zap (Nat.ble (off+n) (Zag cs)) (cond (anyG isOwn (segG cs off n)) _ (Zbt (.agg (segG cs off n)) H))) k=_
 unfold Zco
 rw [Zcb,hb]
 show bindT (Zap (Nat.ble (off+n) (Zag cs)) (cond (anyG isOwn (segG cs off n)) _ (Zbt (.agg (segG cs off n)) H))) k=_
 have e:segG cs off n=(cs.drop off).take n:=by unfold segG;rw [Zct,dropG_eq]
 rw [Zat,Nat.ble_eq_true_of_le hn,anyG_eq,e,ho];rfl
theorem Zbh {H:TH} {o:TObj}:(Zaq H o)[Zag H]? = some o:=by
 unfold Zaq
 rw [Zat]
 show (H++[o])[H.length]? = _
 simp
theorem Zbi {H:TH} {o p:TObj} {b:Nat} (h:H[b]? = some p):(Zaq H o)[b]? = some p:=by
 unfold Zaq
 have:=(List.getElem?_eq_some_iff.1 h).1
 show (H++[o])[b]? = _
 rw [List.getElem?_append_left this];exact h
theorem take_push {H:TH} {o:TObj}:Zdg (Zaq H o) (Zag H)=H:=by
 unfold Zaq
 rw [Zct,Zat]
 show List.take H.length (H++[o])=H
 simp
theorem Zbp {H:TH} {o:TObj}:Zag (Zaq H o)=Zag H+1:=by
 unfold Zaq
 rw [Zat,Zat]
 show (H++[o]).length=_
 simp
theorem Zbm {base:Nat} {v:TV} {H:TH} (h:loose v=true):Zdw base v H=(v,Zdg H base):=by
 unfold Zdw;rw [h];rfl
def Zcr (e n:Nat) (l:List TV):TV:=match l with |[]=>nilT |_=>.row .opn (.own e) n l
theorem append_one {β:Type} {tlo:Nat} {H:TH} {e size bytes:Nat} {l:List TV} {x:TV} {k:TV→TH→Option β} (hr:Zcc bytes (l.length+1)=true) :
  Zcm tlo H e size bytes (Zcr e size l) (.row .full (.own e) size [x]) k=k (Zcr e size (l++[x])) H:=by
 have hne:Zcr e size (l++[x])=.row .opn (.own e) size (l++[x]):=by cases l <;> rfl
 rw [hne]
 unfold Zcm appendC
 show bindT (Zaf (Zap (cond (isNilC .full) true (Nat.beq size size)) (some [x])) _) k=_
 rw [Nat.beq_refl]
 show bindT (match Zcr e size l with |.row c q n es=>_ |.vec b off len cap n ag=>_ |_=>none) k=_
 cases l with
 |nil=>
  show bindT (Zap (cond (isNilC .nil) true _) (Zap (Zcc bytes (0+1)) _)) k=_
  have:Zcc bytes (0+1)=true:=hr
  rw [this];rfl
 |cons y ys=>
  show bindT (Zap (cond (isNilC .opn) true (Nat.beq size size)) (cond (Nat.beq (Zag [x]) 0) _ (Zap (Zcc bytes (Zag (y::ys)+Zag [x])) _))) k=_
  have:Zcc bytes (Zag (y::ys)+Zag [x])=true:=by rw [Zat];exact hr
  rw [Nat.beq_refl,this]
  show bindT (appRow e size H .opn (.own e) (y::ys) [x] Zbt) k=_
  unfold appRow
  show bindT (Zap (Nat.beq e e) _) k=_
  rw [Nat.beq_refl];rfl
def cpO (l:List TV):Cp:=match l with |[]=>.nil |_=>.opn
def szO (n:Nat) (l:List TV):Nat:=match l with |[]=>0 |_=>n
def lfB (l:List TV):Lf:=match l with |[]=>.set |_=>.bor
section
variable {e n:Nat} {l:List TV}
theorem rowO_nil:Zcr e n []=.row .nil .set 0 []:=(rfl)
theorem stale_O:stale (Zcr e n l)=Zcr e n l:=by cases l <;> rfl
theorem loose_O:loose (Zcr e n l)=true:=by cases l <;> rfl
theorem resOk_O:Zbo (Zcr e n l)=true:=by cases l <;> rfl
theorem stor_O:stor (Zcr e n l)=true:=by cases l <;> rfl
theorem keepV_O:Zae (Zcr e n l)=Zcr e n l:=by cases l <;> rfl
theorem setV_O:Zak (Zcr e n l)=.row (cpO l) .set (szO n l) l:=by cases l <;> rfl
theorem lendV_O:Zab (Zcr e n l)=.row (cpO l) (lfB l) (szO n l) l:=by cases l <;> rfl
theorem setV_B {c:Cp} {es:List TV}:Zak (.row c (lfB l) n es)=.row c (lfB l) n es:=by cases l <;> rfl
theorem cellsT_O:Zav (Zcr e n l)=[Zcr e n l]:=by cases l <;> rfl
theorem lenT_O:lenT (Zcr e n l)=some (.v (.int .i64 (.ofNat (Zag l)))):=by cases l <;> rfl
theorem szO_eq (h:l≠[]):szO n l=n:=by cases l with |nil=>exact absurd rfl h |cons=>rfl
end
theorem stN_s {n:Nat} {S:TVn (n+1)}:stN (n+1) S=(stale S.1,stN n S.2):=(rfl)
theorem stN_z {S:TVn 0}:stN 0 S=():=(rfl)
theorem isB_t {t:Bool}:isB (.bool t) true=t:=by cases t <;> rfl
theorem isB_f {t:Bool}:isB (.bool t) false=!t:=by cases t <;> rfl
theorem guard_eq {β:Type} {x:TV} {w:Bool} {r:Option (TV×TH)} {H:TH} {k:TV→TH→Option β}:Zbk x w r H k=Zap (isBoolT x) (bindT (cond (isBT x w) r (some (.gone,H))) k):=(rfl)
theorem bool_gone:isBoolT .gone=true:=(rfl)
theorem isBT_gone {w:Bool}:isBT .gone w=false:=(rfl)
theorem stale_gone:stale .gone=.gone:=(rfl)
theorem lendV_gone:Zab .gone=.gone:=(rfl)
theorem setV_gone:Zak .gone=.gone:=(rfl)
theorem keepV_gone:Zae .gone=.gone:=(rfl)
theorem idxSl_vec {b off len cap n j:Nat} {ag:Bool} (h:j < len):Zbn n (.vec b off len cap n ag) (.v (.int .i64 (.ofNat j)))=some (.ptr b (off+j * n)):=by
 show Zaf (some j) (fun j=>Zap (Nat.beq n n) (Zap (Nat.blt j len) (some (TV.ptr b (Nat.add off (Nat.mul j n))))))=_
 rw [Nat.beq_refl]
 show Zap (Nat.blt j len) _=_
 rw [(by rw [Nat.blt_eq];exact h:Nat.blt j len=true)];rfl
theorem outR_O {e n:Nat} {l:List TV} {H:TH}:outR false H (Zcr e n l)=some (Zcr e n l):=by cases l <;> rfl
theorem eqT_two {a b c d:Int}:eqT (.ints 2) (.agg [tI a,tI b]) (.agg [tI c,tI d])=some (Zca a c && (Zca b d && true)):=(rfl)
theorem lenT_vec {b off len cap n:Nat} {ag:Bool}:lenT (.vec b off len cap n ag)=some (.v (.int .i64 (.ofNat len))):=(rfl)
theorem lendV_vec {b off len cap n:Nat} {ag:Bool}:Zab (.vec b off len cap n ag)=.vec b off len cap n ag:=(rfl)
theorem keepV_vec {b off len cap n:Nat} {ag:Bool}:Zae (.vec b off len cap n ag)=.vec b off len cap n ag:=(rfl)
theorem hush_vec {b off len cap n:Nat} {ag:Bool}:hush (.vec b off len cap n ag)=.vec b off len cap n ag:=(rfl)
theorem pass_vec {b off len cap n:Nat} {ag:Bool}:pass (.vec b off len cap n ag)=true:=(rfl)
theorem resOk_vec {b off len cap n:Nat} {ag:Bool}:Zbo (.vec b off len cap n ag)=true:=(rfl)
theorem thaw_set {β:Type} {n m:Nat} {ag:Bool} {c:Cp} {es:List TV} {H:TH} {k:TV→TH→Option β}:Zdf n ag (.row c .set m es) H k=k (.row c .set m es) H:=(rfl)
theorem thaw_vec {β:Type} {n b off len cap m:Nat} {ag ah:Bool} {H:TH} {k:TV→TH→Option β}:Zdf n ag (.vec b off len cap m ah) H k=k (.vec b off len cap m ah) H:=(rfl)
theorem thaw_own {β:Type} {n:Nat} {ag:Bool} {e:TypeId} {es:List TV} {H:TH} {k:TV→TH→Option β}:Zdf n ag (.row .opn (.own e) n es) H k=k (.vec (Zag H) 0 (Zag es) (UNK+n) n ag) (Zaq H (.cells (Zbl es))):=by
 show bindT (Zap (Nat.beq n n) _) k=_
 rw [Nat.beq_refl];rfl
theorem bz_some {α β:Type} {v:α} {k:α→Option β}:Zaa (some v) k=k v:=(rfl)
theorem wx_some {α β:Type} {v:α} {k:α→Option β}:Zaf (some v) k=k v:=(rfl)
theorem nd_true {β:Type} {k:Option β}:Zap true k=k:=(rfl)
theorem over_one {α:Type} (l:List α) (i:Nat) (x:α) (h:i < l.length):overG l i [x]=l.set i x:=by
 rw [overG_eq _ _ _ (by simp;omega),List.set_eq_take_append_cons_drop,if_pos h];rfl
theorem set_box {H:TH} {b:Nat} {o p:TObj} (hb:H[b]? = some p):setBox H b o=H.set b o:=over_one _ _ _ (List.getElem?_eq_some_iff.1 hb).1
theorem Zcf {tlo base b off n:Nat} {H:TH} {cs:List TV} {x:TV} (hb:H[b]? = some (.cells cs)) (ht:tlo≤b) (hs:stor x=true) (hl:looseT x=true∨base≤b) (hn:(Zav x).length=n) (ho:off+n≤cs.length) :
  Zas tlo base n H (.ptr b off) x=some (H.set b (.cells (overG cs off (Zav x)))):=by
 show Zap (Nat.ble tlo b) (Zap (stor x) (Zap (cond (Nat.blt b base) (looseT x) true) (Zaf (nth H b) fun o=>match o with
  |.cells cs=>Zap (Nat.beq (Zag (Zav x)) n) (Zap (Nat.ble (off+n) (Zag cs)) (some (setBox H b (.cells (overG cs off (Zav x))))))
  |_=>none)))=_
 rw [Nat.ble_eq_true_of_le ht,hs,Zcb,hb]
 have e:cond (Nat.blt b base) (looseT x) true=true:=by
  cases h:Nat.blt b base with
  |false=>rfl
  |true=>
   rcases hl with hl |hl
   ·exact hl
   ·rw [Nat.blt_eq] at h;omega
 rw [e]
 show Zap (Nat.beq (Zag (Zav x)) n) (Zap (Nat.ble (off+n) (Zag cs)) (some (setBox H b (.cells (overG cs off (Zav x))))))=_
 rw [Zat,hn,Nat.beq_refl,Zat,Nat.ble_eq_true_of_le ho,set_box hb];rfl
theorem idxArr_ptr {len n b off j:Nat} (h:j < len):Zbj len n (.ptr b off) (.v (.int .i64 (.ofNat j)))=some (.ptr b (off+j * n)):=by
 show Zap (Nat.blt j len) (Zar (.ptr b off) (Nat.mul j n))=_
 rw [(by rw [Nat.blt_eq];exact h:Nat.blt j len=true)];rfl
theorem set_get {H:TH} {b:Nat} {o p:TObj} (hb:H[b]? = some p):(H.set b o)[b]? = some o:=by
 rw [List.getElem?_set_self (List.getElem?_eq_some_iff.1 hb).1]
theorem set_old {H:TH} {b c:Nat} {o:TObj} (h:c≠b):(H.set b o)[c]? = H[c]?:=List.getElem?_set_ne (Ne.symm h)
theorem lenG_set {H:TH} {b:Nat} {o:TObj}:Zag (H.set b o)=Zag H:=by rw [Zat,Zat,List.length_set]
section
variable {x y z:TV} {l cs:List TV} {a:Value}
theorem setV_tup:Zak (.tup cs)=.tup (mapG setT cs):=(rfl)
theorem lendV_tup:Zab (.tup cs)=.tup (mapG setT cs):=(rfl)
theorem setT_v:setT (.v a)=.v a:=(rfl)
theorem setT_agg:setT (.agg cs)=.agg (mapG setC cs):=(rfl)
theorem setT_O {e n:Nat}:setT (Zcr e n l)=.row (cpO l) .set (szO n l) l:=by cases l <;> rfl
theorem comp_0:Zbq (.tup (x::l)) 0=some x:=(rfl)
theorem comp_1:Zbq (.tup (x::y::l)) 1=some y:=(rfl)
theorem comp_2:Zbq (.tup (x::y::z::l)) 2=some z:=(rfl)
theorem gone_0:Zba (.tup (x::l)) 0=.tup (Zao::l):=(rfl)
theorem gone_1:Zba (.tup (x::y::l)) 1=.tup (x::Zao::l):=(rfl)
end
theorem isV_v {x:Value}:isV (.v x)=true:=(rfl)
theorem Zde {H:TH}:Zdg H (Zag H)=H:=by rw [Zct,Zat,List.take_length]
theorem fin_one {base:Nat} {v:TV} {H:TH} (hr:Zbo v=true) (hv:loose v=true):Zap (Zbu Zbo [v]) (some (Zdw base v H))=some (v,Zdg H base):=by
 rw [Zbm hv,allG_cons,hr];rfl
theorem callFn_of {β:Type} {C:TC} {call:Zbc} {tlo g:Nat} {l m vs:List TV} {H H':TH} {v:TV} {k:TV→TH→Option β} (hp:Zbu pass (l++(vs++m))=true) (hc:call tlo g (l++(vs++m)) H=some (v,H')) :
  Zdc C call tlo (.fn (.func g) l m) vs H k=k v H':=by
 show Zap (Zbu pass (l++(vs++m))) (bindT (call tlo g (l++(vs++m)) H) k)=_
 rw [hp,hc];rfl
theorem Zcy {β:Type} {call:Zbc} {tlo g:Nat} {vs:List TV} {H H':TH} {v:TV} {k:TV→TH→Option β} (hp:Zbu pass vs=true) (hc:call tlo g vs H=some (v,H')) :
  Zbr call tlo g vs H k=k v H':=by
 show Zap (Zbu pass vs) (bindT (call tlo g vs H) k)=_
 rw [hp,hc];rfl
def VV:=aI @seqT_eq<| aI @sqR_n<| aI @sqR_e<| aI @sqR_r<| aI @blockT_eq<| aI @blR_n<| aI @blR_r<| aI @blR_e<| aI @leafT_eq<| aI @doneT_eq<| aI @condT_eq<| aI @cdV_b<| aI @bindT_some<| aI @bindT_pair<| aI @cond_t<| aI @cond_f<| aI @resE_r<| aI @resE_n<| aI @stale_v<| aI @stale_set<| aI @stale_own<| aI @stale_bor<| aI @stale_agg<| aI @stale_tup<| aI @stale_ptr<| aI @stale_vec<| aI @stale_map<| aI @stale_fn<| aI @setV_v<| aI @setV_set<| aI @setV_own<| aI @setV_bor<| aI @setV_agg<| aI @setV_ptr<| aI @setV_vec<| aI @setV_map<| aI @setV_fn<| aI @setC_v<| aI @setC_set<| aI @setC_own<| aI @hush_v<| aI @hush_set<| aI @hush_own<| aI @hush_agg<| aI @hush_ptr<| aI @hush_fn<| aI @hush_map<| aI @hushC_v<| aI @hushC_set<| aI @lendV_v<| aI @lendV_set<| aI @lendV_own<| aI @lendV_agg<| aI @lendV_ptr<| aI @keepV_v<| aI @keepV_set<| aI @keepV_own<| aI @keepV_agg<| aI @keepV_ptr<| aI @mapG_nil<| aI @mapG_cons<| aI @cellsT_v<| aI @cellsT_row<| aI @Zdr<| aI @cellsT_ptr<| aI @cellsT_fn<| aI @stor_v<| aI @stor_set<| aI @stor_own<| aI @stor_agg<| aI @stor_fn<| aI @storC_v<| aI @storC_set<| aI @pass_v<| aI @pass_ptr<| aI @pass_set<| aI @pass_fn<| aI @pass_agg<| aI @closed_v<| aI @closed_agg<| aI @closedC_v<| aI @closedC_set<| aI @Zdq<| aI @loose_set<| aI @loose_own<| aI @loose_agg<| aI @looseC_v<| aI @looseC_set<| aI @resOk_v<| aI @resOk_set<| aI @resOk_own<| aI @resOk_agg<| aI @isOwn_v<| aI @isOwn_set<| aI @isOwn_own<| aI @isOwn_ptr<| aI @allG_nil<| aI @allG_cons<| aI @anyG_nil<| aI @anyG_cons<| aI @bool_v<| aI @isBT_v<| aI @b2_v<| aI @not_v<| aI @pick_v<| aI @eqlT_v<| aI @neqT_v<| aI @eqT_int<| aI @lenT_row<| aI @shift_ptr<| aI @nilCk_ptr<| aI @lend_row_own<| aI @lend_row_set<| aI @lend_v<| aI @el_one<| aI @el_two<| aI @el_fst<| aI @el_snd<| aI @lendV_fn<| aI @keepV_fn<| aI @stale_O<| aI @loose_O<| aI @resOk_O<| aI @stor_O<| aI @keepV_O<| aI @setV_O<| aI @lendV_O<| aI @setV_B<| aI @cellsT_O<| aI @lenT_O<| aI @isB_t<| aI @isB_f<| aI @guard_eq<| aI @bool_gone<| aI @isBT_gone<| aI @stale_gone<| aI @lendV_gone<| aI @setV_gone<| aI @keepV_gone<| aI @eqT_two<| aI @lenT_vec<| aI @lendV_vec<| aI @keepV_vec<| aI @hush_vec<| aI @pass_vec<| aI @resOk_vec<| aI @b1_v<| aI @bz_some<| aI @wx_some<| aI @nd_true<| aI @thaw_set<| aI @thaw_vec<| aI @thaw_own<| aI @setV_tup<| aI @lendV_tup<| aI @setT_v<| aI @setT_agg<| aI @setT_O<| aI @comp_0<| aI @comp_1<| aI @comp_2<| aI @gone_0<| aI @gone_1<| aI @stN_s<| aI @stN_z<| WW
end
end Go.Ev
