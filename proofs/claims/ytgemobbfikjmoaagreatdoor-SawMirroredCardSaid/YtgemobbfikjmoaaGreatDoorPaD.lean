/- A second evaluator that holds rows by value, and that the first answers what it answers, part two.
   Conditions: none beyond the given statement's own. -/
import Derived.Test.YtgemobbfikjmoaaGreatDoorPaC
set_option linter.unusedVariables false
set_option linter.unusedSimpArgs false
set_option linter.defProp false
namespace Go.Ev
section
variable {H:AH} {S:Nat->Prop} {r:List Nat}
theorem Zn5 {x v:TV} (h:Kn x=some v) {y:Value} {o:List Nat} (hx:VR H S r x y o):∃ u,Sy y=some u/\v=.v u/\Pb u=true:=by
 unfold Kn at h;split at h
 ·cases h;rw [Zz];rcases Ud hx with ⟨_,_,_,rfl,rfl,_⟩ |⟨_,i,off,cap,_,_,_,rfl,_⟩ <;> exact ⟨_,rfl,rfl,rfl⟩
 ·cases h;obtain ⟨i,_,rfl,_⟩:=U1 hx;exact ⟨_,rfl,rfl,rfl⟩
 ·cases h
theorem Zpz {x v:TV} (h:capT x=some v) {y:Value} {o:List Nat} (hx:VR H S r x y o):∃ u,ve y=some u/\v=.v u/\Pb u=true:=by
 have small:∀ {a:Option Addr} {len n:Nat},n < Xk->ve (.slice a len n)=some (.int .i64 (.ofNat n)):=λ{a len n} h=>by
  show cond (Nat.ble Xk n) none _=_;cases hb:Nat.ble Xk n with
  |false=>rfl
  |true=>have:=Qa hb;omega
 have u0:0 < Xk:=by unfold Xk;decide
 unfold capT at h;split at h
 ·cases h;rcases Ud hx with ⟨_,_,_,_,rfl,_⟩ |⟨h,_⟩
  ·exact ⟨_,small u0,rfl,rfl⟩
  ·exact absurd rfl h
 ·cases h;rw [Zz];rcases Ud hx with ⟨h,_⟩ |⟨_,i,off,cap,_,_,_,rfl,h1,_⟩
  ·cases h
  ·obtain ⟨e1,e2⟩:cap=_/\_ < Xk:=h1;subst e1;exact ⟨_,small e2,rfl,rfl⟩
 ·rename_i b off len cap n ag;obtain ⟨i,_,rfl,_⟩:=U1 hx;have h:cond (Nat.ble Xk cap) none (some (TV.v (.int .i64 (.ofNat cap))))=some v:=h;cases hb:Nat.ble Xk cap with
  |true=>rw [hb] at h;cases h
  |false=>
   rw [hb] at h;cases h;exact ⟨_,small (Up hb),rfl,rfl⟩
 ·cases h
theorem Ac {mx:Bool}:∀ {vs:List TV} {v:TV} {β:Type} {k:TV->Option β} {ρ:β},Ro mx v vs k=some ρ ->
  ∃ u,k u=some ρ/\∀ {H:AH} {S:Nat->Prop} {r:List Nat} {v':Value} {Wq:List Value} {o:List Nat},VR H S r v v' o->Nr (λx y=>∃ o,VR H S r x y o) vs Wq ->
   ∃ w,(∀ {γ:Type} (k':Value->Option γ),Pg mx v' Wq k'=k' w)/\u=.v w/\flat w=true/\ke w=true
 |[],v,β,k,ρ,h=>by
  obtain ⟨h1,h2⟩:=Zt (show Zp (ie v) (k v)=some ρ from h);refine ⟨v,h2,λ{H S r v' Wq o} hv hr=>?_⟩;cases hr;cases v with
  |v a=>
   obtain ⟨rfl,q1,q2,_⟩:=V0 hv;exact ⟨_,λ_=>rfl,rfl,q1,q2⟩
  |_=>cases h1
 |w::vs,v,β,k,ρ,h=>by
  obtain ⟨z,h1,h2⟩:=Z5 (show Za (b2 (Y0 mx) v w) (λv=>Ro mx v vs k)=some ρ from h);obtain ⟨a0,b0,u0,rfl,rfl,h3,rfl⟩:=Zfr h1;obtain ⟨u,h4,h5⟩:=Ac h2;refine ⟨u,h4,λ{H S r v' Wq o} hv hr=>?_⟩;obtain ⟨rfl,_⟩:=V0 hv;cases hr with
  |cons hw ht=>
   obtain ⟨o,hw⟩:=hw;obtain ⟨rfl,_⟩:=V0 hw
   have hsu:Pb u0=true:=by
    unfold Y0 at h3;split at h3
    ·split at h3
     ·cases h3;rfl
     ·cases h3
    ·cases h3
   obtain ⟨z,q1,q2,q3⟩:=h5 (H:=H) (S:=S) (r:=r) (o:=[]) (.k (.v (Vm hsu).1 (Vm hsu).2)) ht;refine ⟨z,λk'=>?_,q2,q3⟩;show Za (Y0 mx _ _) _=_;rw [h3];exact q1 k'
theorem kx:∀ {xs:List TV} {ys:List Value},W6 H S xs ys->(∀ c∈xs,Qv c=true)->ys.all single=true
 |_,_,.nil,_=>rfl
 |x::xs,_,.cons h t,hc=>by
  have h1:=hc x (List.mem_cons_self ..);rw [List.all_cons,kx t λc h=>hc c (List.mem_cons_of_mem _ h),Bool.and_true];cases h with
  |v h2 h3=>
   rename_i y _;revert h2;cases y <;> intro h2 <;> first |rfl |cases h2
  |nil=>rfl
  |row=>rfl
  |agg=>cases h1
  |iface=>rfl
  |fn0=>cases h1
theorem N2 {c:Cp} {n:Nat} {es:List TV} {y:Value} (h:RowV H S c n es y):∃ l,rowOf H n y=some l/\W6 H S (Qi es) l/\Um n es:=by
 obtain ⟨i,off,cap,s,cs,e,rfl,h1,h2,h3,h4,h5,h6,h7⟩:=h;refine ⟨(cs.drop off).take (es.length * n),?_,h7,h6⟩;show cond (Nat.beq es.length 0) (some []) (Kp H i λs cs _=>Zp (Nat.ble (off+es.length * n) s) (some (P9 cs off (es.length * n))))=_
 by_cases hz:es.length=0
 ·rw [Uj hz,hz];simp
 ·rw [Wm hz];show (match H.get i with |some (.cells s cs e)=>_ |_=>none)=_
  rw [h3];show Zp (Nat.ble (off+es.length * n) s) _=_;rw [Nat.ble_eq_true_of_le h5,Dz];rfl
end
section
variable {C:TC} {F:Nat->Prop} {lo Zh base:Nat} {ends:Bool} {H:AH} {r:List Nat} {T:TH} {Oh os:List Nat}
theorem Ay {b off len n:Nat} {ag:Bool} {es:List TV} (h:Un T b off len n ag=some es) (hG:Good C F lo Zh H r T Oh os):∃ i s ds e,r[b]? = some i/\H.get i=some (.cells s ds e)/\ds.length=s/\off+len * n<=s /\
  Um n es/\es.length=len/\W6 H (Ya F r Oh os) (Qi es) ((ds.drop off).take (len * n)):=by
 obtain ⟨cs,hb,hA⟩:=E5 h;obtain ⟨h1,hB⟩:=Zt hA;obtain ⟨h2,h3⟩:=Zt hB;have h1:=Qa h1;rw [Zz] at h1;have h1:off+len * n<=cs.length:=h1;have h2:Z2 Qv (Vi cs off (len * n))=true:=h2;rw [M4,Ye,List.all_eq_true] at h2;rw [Jq] at h3;obtain ⟨g1,g2,g3,g4⟩:=jv h3 h2;obtain ⟨i,s,ds,e,a,w,c,k1,k2,hg,hs,nb,hce,hw,Tm⟩:=hG.Ll hb;obtain ⟨a1,ox,c1,k3,k4,_⟩:=hw.P9 off (len * n) h1;refine ⟨i,s,ds,e,k1,hg,hs,by omega,g4,g2,?_⟩
 rw [g3];exact (Mk h2 k4).1
theorem da {b i off len n s cap:Nat} {ds:List Value} {e:TypeId} {es:List TV} (hg:H.get i=some (.cells s ds e)) (hf:off+len * n<=s) (hl:es.length=len) (he:Um n es) {S:Nat->Prop} (hk:W6 H S (Qi es) ((ds.drop off).take (len * n))) :
  rowOf H n (.slice (some ⟨i,off,none⟩) len cap)=some ((ds.drop off).take (len * n)):=by
 show cond (Nat.beq len 0) (some []) (Kp H i λs cs _=>Zp (Nat.ble (off+len * n) s) (some (P9 cs off (len * n))))=_
 by_cases hz:len=0
 ·rw [Uj hz,hz];simp
 ·rw [Wm hz];show (match H.get i with |some (.cells s cs e)=>_ |_=>none)=_
  rw [hg];show Zp (Nat.ble (off+len * n) s) _=_;rw [Nat.ble_eq_true_of_le hf,Dz];rfl
theorem Zja {size:Nat} {x:TV} {new:List TV} (h:Znl size T x=some new) (hG:Good C F lo Zh H r T Oh os) {y:Value} {o:List Nat} (hx:VR H (Ya F r Oh os) r x y o) :
  ∃ a cap l,y=.slice a new.length cap/\rowOf H size y=some l/\W6 H (Ya F r Oh os) (Qi new) l/\Um size new:=by
 unfold Znl at h;split at h
 ·rename_i c q n es;obtain ⟨h1,h2⟩:=Zt h;cases h2;rcases Ud hx with ⟨rfl,_,_,rfl,rfl,_⟩ |⟨hc,hr⟩
  ·exact ⟨none,0,[],rfl,rfl,.nil,λx hx=>by cases hx⟩
  ·have hn:n=size:=by
    cases c with
    |nil=>exact absurd rfl hc
    |_=>exact Qb h1
   subst hn;obtain ⟨l,k1,k2,k3⟩:=N2 hr;obtain ⟨i,off,cap,_,_,_,rfl,_⟩:=hr;exact ⟨_,_,l,rfl,k1,k2,k3⟩
 ·rename_i b off len cap n ag;obtain ⟨h1,h2⟩:=Zt h;have h1:=Qb h1;subst h1;obtain ⟨i,s,ds,e,hr,hg,hs,hf,he,hl,hk⟩:=Ay h2 hG;obtain ⟨i',iq,rfl,_⟩:=U1 hx;rw [hr] at iq;cases iq;exact ⟨_,_,_,by rw [hl],da (b:=b) hg hf hl he hk,hk,he⟩
 ·cases h
theorem UNK_le (n:Nat):Nat.ble Xk (Xk+n)=true:=Nat.ble_eq_true_of_le (Nat.le_add_right _ _)
theorem unk_no {n:Nat} (h:n < Xk):Nat.ble Xk n=false:=by
 cases hb:Nat.ble Xk n with
 |false=>rfl
 |true=>have:=Qa hb;omega
theorem po {bytes n:Nat} (h:roomFor bytes n=true):n < Xk:=by
 have h1:=(Cv h).2;have h2:Xk=18446744073709551616:=by unfold Xk;rfl
 omega
theorem Ux.Zgz {i:Nat} {ob:Ir} {v:TV} {v':Value} (hG:Good C F lo Zh H r T Oh os) (hi:i∈os) (he:ends=true)
  (hv:∀ S r',Wb H (Ya F r Oh os) ((H.kill i).push ob) S->VR ((H.kill i).push ob) S r' v v' [H.next]) (hn:OV v):Ux C F lo Zh base ends H r T Oh os v T v' ((H.kill i).push ob):=by
 have hx:=hG.mem_x hi;have get:∀ j,j < H.next->j≠i->((H.kill i).push ob).get j=H.get j:=λj hj Da=>by rw [AH.Yq,if_neg (by simp;omega),AH.Mi,if_neg Da]
 have fr:∀ j,j≠H.next->[H.next].count j=0:=λj hj=>List.count_eq_zero.2 (by simpa using hj)
 have m:Mv H r Oh os ((H.kill i).push ob) r Oh [H.next]:=by
  refine ⟨by simp,λj hj ha=>get j hj λe=>?_,λj hj=>?_,λ_ _ h=>h⟩
  ·subst e;have:=Z8.2 hi;unfold act at ha;omega
  ·have:=fr j (by omega)
   unfold act;omega
 have st:=m.stay (F:=F)
 refine ⟨r,Oh,[H.next],hG.next m (λj hj=>?_) hG.pq (λj hj=>by rw [List.mem_singleton] at hj;have:=hG.lon;omega)
  (hG.heap.mono st (λ_ _ h=>h) (λj hj=>get j (hG.Eb hj).1 λe=>?_) λj hj=>get j (hG.Za4 hj).1 λe=>?_),hv _ _ st,hn,m,λh=>(by rw [he] at h;cases h),.refl _ _⟩
 ·have h1:=hG.L0 hj;unfold act at h1 ⊢
  by_cases he:j=H.next
  ·subst he;have h4:[H.next].count H.next=1:=by simp
   exact ⟨by omega,λ_=>by simp⟩
  ·have h4:=fr j he;exact ⟨by omega,λh=>by omega⟩
 ·subst e;have:=Z8.2 hj;have:=hx.2.2.1;omega
 ·subst e;have:=Z8.2 hj;have:=hx.2.2.2.1;omega
theorem Zc4 {e:TypeId} {size bytes:Nat} {s x:TV} {β:Type} {k:TV->TH->Option β} {ρ:β} (h:fc Zh T e size bytes s x k=some ρ) :
  ∃ v T',k v T'=some ρ/\∀ {C:TC} {F:Nat->Prop} {lo:Nat} {H:AH} {r Oh os:List Nat} {s' x':Value} {o o':List Nat},Good C F lo Zh H r T Oh os->VR H (Ya F r Oh os) r s s' o->VR H (Ya F r Oh os) r x x' o'->OV s->(∀ j,o.count j<=os.count j)->base<=T.length ->
   ∃ v' H',Gx lo H e size bytes s' x'=some (v',H')/\Ux C F lo Zh base true H r T Oh os v T' v' H':=by
 obtain ⟨new,hnew,hA⟩:=Zj h
 have more:∀ {C:TC} {F:Nat->Prop} {lo:Nat} {H:AH} {r Oh os:List Nat} {x':Value} {o':List Nat},Good C F lo Zh H r T Oh os->VR H (Ya F r Oh os) r x x' o' ->
   ∃ l,W6 H (Ya F r Oh os) (Qi new) l/\Um size new/\l.length=new.length * size/\l.all single=true/\∀ s',Gx lo H e size bytes s' x'=Dc lo H e size bytes s' new.length l:=by
  intro C F lo H r Oh os x' o' hG hx;obtain ⟨a,cap,l,rfl,k1,k2,k3⟩:=Zja hnew hG hx;have hs:=kx k2 k3.closed;refine ⟨l,k2,k3,by rw [<- k2.length,K5 k3],hs,λs'=>?_⟩
  show Zf (rowOf H size (.slice a new.length cap)) (λn=>Zp (n.all single) (Dc lo H e size bytes s' new.length n))=_;rw [k1,Zo,hs];rfl
 rw [Zz] at hA
 have fresh:∀ {C:TC} {F:Nat->Prop} {lo:Nat} {H:AH} {r Oh os:List Nat} {es:List TV} {l:List Value} {m:Nat},Good C F lo Zh H r T Oh os->W6 H (Ya F r Oh os) (Qi es) l->Um size es->es.length=m->roomFor bytes m=true ->
   Ux C F lo Zh base true H r T Oh os (.row .Jf (.own e) size es) T (Yi H m (Nat.add Xk size)) (Je H e size m l):=by
  intro C F lo H r Oh os es l m hG hk he hm hr;subst hm;refine Ux.row hG (λS r' st=>?_) (.inl (.Wh (by intro h;cases h)))
  exact VR.own (c:=.Jf) (n:=size) (i:=H.next) (cs:=l) (by intro h;cases h) (po hr) (by simp) (by
   show (H.push _).get H.next=_
   rw [AH.Yq,if_pos rfl];rfl) he (hk.mono st)
 split at hA
 ·rename_i c q n es;obtain ⟨h1,hB⟩:=Zt hA
  have h1:c≠.nil->n=size:=λhc=>by
   cases c with
   |nil=>exact absurd rfl hc
   |_=>exact Qb h1
  cases hz:Nat.beq new.length 0 with
  |true=>
   rw [hz] at hB;refine ⟨_,T,hB,λ{C F lo H r Oh os s' x' o o'} hG hs hx hv ho hb=>?_⟩;obtain ⟨l,m1,m2,m3,m4,m5⟩:=more hG hx;refine ⟨s',H,?_,.Zs hG hs hv ho⟩;rw [m5];rcases Ud hs with ⟨_,_,_,_,rfl,_⟩ |⟨hc,i,off,cap,s2,cs,e2,rfl,k1,_⟩
   ·show cond (Nat.beq new.length 0) _ _=_;rw [hz];rfl
   ·show cond (Nat.beq new.length 0) (Zp (Nat.ble es.length cap) _) _=_;rw [hz]
    have:es.length<=cap:=by
     cases c with
     |nil=>exact k1.elim
     |full=>obtain ⟨e1,_⟩:cap=es.length/\_:=k1;omega
     |Jf=>
      rcases (show (es.length<=cap/\cap < Xk)\/(cap=Xk+n/\es.length < Xk) from k1) with ⟨e1,_⟩ |⟨e1,e2⟩ <;> omega
    show Zp (Nat.ble es.length cap) _=_;rw [Nat.ble_eq_true_of_le this];rfl
  |false=>
   rw [hz] at hB;obtain ⟨h2,hC⟩:=Zt (show Zp (roomFor bytes (Nat.add (Zb es) new.length)) (wh e size T c q es new k)=some ρ from hB);rw [Zz] at h2;have hnz:=Vq hz;unfold wh at hC;cases c with
   |nil=>
    have hC:k (.row .Jf (.own e) size (es++new)) T=some ρ:=hC;refine ⟨_,T,hC,λ{C F lo H r Oh os s' x' o o'} hG hs hx hv ho hb=>?_⟩;obtain ⟨l,m1,m2,m3,m4,m5⟩:=more hG hx;rcases Ud hs with ⟨_,_,_,rfl,rfl,_⟩ |⟨hc,_⟩
    ·have h2:roomFor bytes new.length=true:=by
      have:Nat.add ([]:List TV).length new.length=new.length:=Nat.zero_add _
      rwa [this] at h2
     refine ⟨Yi H new.length (Nat.add Xk size),Je H e size new.length l,?_,fresh hG m1 m2 rfl h2⟩;rw [m5];show cond (Nat.beq new.length 0) _ (Zp (roomFor bytes new.length) _)=_;rw [hz,h2];rfl
    ·exact absurd rfl hc
   |full=>
    have hC:k (.row .Jf (.own e) size (es++new)) T=some ρ:=hC;have hn:=h1 (by intro h;cases h)
    subst hn;refine ⟨_,T,hC,λ{C F lo H r Oh os s' x' o o'} hG hs hx hv ho hb=>?_⟩;obtain ⟨l,m1,m2,m3,m4,m5⟩:=more hG hx;rcases Ud hs with ⟨h,_⟩ |⟨hc,hr⟩
    ·cases h
    ·obtain ⟨Eg,k1,k2,k3⟩:=N2 hr;obtain ⟨i,off,cap,s2,cs,e2,rfl,q1,_⟩:=hr;obtain ⟨e1,e3⟩:cap=es.length/\es.length < Xk:=q1;subst e1;refine ⟨Yi H (es.length+new.length) (Nat.add Xk n),Je H e n (es.length+new.length) (Eg++l),?_,fresh hG (by rw [U9];exact k2.append m1) (k3.append m2) (List.length_append) h2⟩
     rw [m5];show cond (Nat.beq new.length 0) _ (Zp (roomFor bytes (es.length+new.length)) (cond (Nat.ble Xk es.length) _ (cond (Nat.ble (es.length+new.length) es.length) _ (Zf (rowOf H n _) λEg=>some (Yi H (es.length+new.length) (Nat.add Xk n),Je H e n (es.length+new.length) (List.append Eg l))))))=_;rw [hz,show roomFor bytes (es.length+new.length)=true from h2,unk_no e3,show Nat.ble (es.length+new.length) es.length=false from bleF (by omega),k1];rfl
   |Jf=>
    cases q with
    |set=>cases hC
    |D7=>cases hC
    |own e'=>
     obtain ⟨h3,h4⟩:=Zt (show Zp (Nat.beq e e') (k (.row .Jf (.own e) size (es++new)) T)=some ρ from hC);have h3:=Qb h3;subst h3;have hn:=h1 (by intro h;cases h)
     subst hn;refine ⟨_,T,h4,λ{C F lo H r Oh os s' x' o o'} hG hs hx hv ho hb=>?_⟩;obtain ⟨l,m1,m2,m3,m4,m5⟩:=more hG hx;cases hs with
     |k h=>cases h
     | @own _ _ _ i cs _ hc hu hl hg he hk=>
      have h8:[i].count i=1:=by simp
      have h9:=ho i;have hio:i∈os:=Z8.1 (by omega)
      have J7:=hG.xlo i hio;have hkl:=hk.length;rw [K5 he] at hkl;refine ⟨Yi H (es.length+new.length) (Nat.add Xk n),Je (H.kill i) e n (es.length+new.length) (cs++l),?_,?_⟩
      ·rw [m5];show cond (Nat.beq new.length 0) _ (Zp (roomFor bytes (es.length+new.length)) (cond (Nat.ble Xk (Xk+n)) (Zp (Nat.beq (Xk+n) (Nat.add Xk n)) (Od lo H e n i 0 es.length new.length l)) _))=_;rw [hz,show roomFor bytes (es.length+new.length)=true from h2,UNK_le,show Nat.beq (Xk+n) (Nat.add Xk n)=true from Uj rfl];show Od lo H e n i 0 es.length new.length l=_;unfold Od Kp;rw [hg];show Zp (Nat.ble lo i) (Zp (Nat.beq e e) (Zp (Nat.ble (0+es.length * n) (es.length * n)) (some (Yi H (es.length+new.length) (Nat.add Xk n),Je (H.kill i) e n (es.length+new.length) (List.append (P9 cs 0 (es.length * n)) l)))))=_;rw [Nat.ble_eq_true_of_le J7,Uj rfl,Nat.ble_eq_true_of_le (by omega),Dz,List.drop_zero,List.take_of_length_le (by omega)];rfl
      ·refine Ux.Zgz hG hio rfl (λS r' st=>?_) (.inl (.Wh (by intro h;cases h)))
       have hlen:(es++new).length=es.length+new.length:=List.length_append
       have:=VR.own (H:=Je (H.kill i) e n (es.length+new.length) (cs++l)) (S:=S) (r:=r') (c:=.Jf) (n:=n) (es:=es++new) (i:=H.next) (cs:=cs++l) (e:=e) (by intro h;cases h) (by rw [hlen];exact po h2) (by show H.next < H.next+1;omega) (by
        show ((H.kill i).push _).get H.next=_
        rw [AH.Yq,if_pos (show H.next=(H.kill i).next from rfl),hlen];rfl) (he.append m2) (by rw [U9];exact (hk.append m1).mono st)
       rw [hlen] at this;exact this
 ·rename_i b off len cap n ag;obtain ⟨h1,hB⟩:=Zt hA;have h1:=Qb h1;subst h1;cases hz:Nat.beq new.length 0 with
  |true=>
   rw [hz] at hB;obtain ⟨h2,hC⟩:=Zt (show Zp (Nat.ble len cap) (k (.vec b off len cap n ag) T)=some ρ from hB);refine ⟨_,T,hC,λ{C F lo H r Oh os s' x' o o'} hG hs hx hv ho hb=>?_⟩;obtain ⟨l,m1,m2,m3,m4,m5⟩:=more hG hx;refine ⟨s',H,?_,.Zs hG hs hv ho⟩;rw [m5];obtain ⟨i,hr,rfl,_⟩:=U1 hs;show cond (Nat.beq new.length 0) (Zp (Nat.ble len cap) _) _=_;rw [hz,h2];rfl
  |false=>
   rw [hz] at hB;obtain ⟨h2,hC⟩:=Zt (show Zp (roomFor bytes (Nat.add len new.length)) _=some ρ from hB);have hnz:=Vq hz;cases hU:Nat.ble Xk cap with
   |true=>rw [hU] at hC;cases hC
   |false=>
    rw [hU] at hC;cases hle:Nat.ble (Nat.add len new.length) cap with
    |true=>
     rw [hle] at hC;obtain ⟨h3,hD⟩:=Zt (show Zp (Nat.ble Zh b) _=some ρ from hC);obtain ⟨cs,hb,hE⟩:=E5 hD;obtain ⟨h4,h5⟩:=Zt hE;have h3:=Qa h3;have h4:=Qa h4;rw [Zz] at h4;have h4:off+(len+new.length) * n<=cs.length:=h4;rw [Nat.add_mul] at h4;rw [U4 hb] at h5;refine ⟨_,_,h5,λ{C F lo H r Oh os s' x' o o'} hG hs hx hv ho Cd=>?_⟩;obtain ⟨l,m1,m2,m3,m4,m5⟩:=more hG hx;obtain ⟨i,hr,rfl,_⟩:=U1 hs;obtain ⟨i',s,ds,e',a,w,c,k1,k2,hg,hss,nb,hcc,hw,Tm⟩:=hG.Ll hb;rw [hr] at k1;cases k1;have J7:=hG.pq b i h3 hr;refine ⟨.slice (some ⟨i,off,none⟩) (len+new.length) cap,H.set i (.cells s (over ds (off+len * n) l) e'),?_,?_⟩
     ·rw [m5];show cond (Nat.beq new.length 0) _ (Zp (roomFor bytes (len+new.length)) (cond (Nat.ble Xk cap) _ (cond (Nat.ble (len+new.length) cap) (Lw lo H n i off len cap new.length l) _)))=_;rw [hz,show roomFor bytes (len+new.length)=true from h2,hU,show Nat.ble (len+new.length) cap=true from hle];show Lw lo H n i off len cap new.length l=_;unfold Lw Kp;rw [hg];show Zp (Nat.ble lo i) (Zp (Nat.ble (off+(len+new.length) * n) s) _)=_;rw [Nat.ble_eq_true_of_le J7,Nat.ble_eq_true_of_le (by rw [Nat.add_mul];omega)];rfl
     ·have hfl:=K5 m2;exact Ux.wrote (o:=[]) hG hb hr hg h3 (by show off+len * n+_<=_;omega) m1.vrl (λj=>by simp) (Gq.of λc hc=>(Yt (m2.closed c hc)).1) (λc hc=>(Yt (m2.closed c hc)).2) (λm _ _=>Gn.of λc hc=>qa (m2.closed c hc)) (λ_ _=>.vec hr) (.inl (.vec _ _ _ _ _ _))
    |false=>
     rw [hle] at hC;obtain ⟨es,h3,h4⟩:=Zj (show Zf (Un T b off len n ag) _=some ρ from hC);refine ⟨_,T,h4,λ{C F lo H r Oh os s' x' o o'} hG hs hx hv ho Cd=>?_⟩;obtain ⟨l,m1,m2,m3,m4,m5⟩:=more hG hx;obtain ⟨i,s,ds,e',hr,hg,hss,hf,he,hl,hk⟩:=Ay h3 hG;obtain ⟨i',iq,rfl,_⟩:=U1 hs;rw [hr] at iq;cases iq;have Is:=da (b:=b) (cap:=cap) hg hf hl he hk;refine ⟨Yi H (len+new.length) (Nat.add Xk n),Je H e n (len+new.length) ((ds.drop off).take (len * n)++l),?_,fresh hG (by rw [show List.append es new=es++new from rfl,U9];exact hk.append m1) (he.append m2) (by rw [show List.append es new=es++new from rfl,List.length_append,hl]) h2⟩
     rw [m5];show cond (Nat.beq new.length 0) _ (Zp (roomFor bytes (len+new.length)) (cond (Nat.ble Xk cap) _ (cond (Nat.ble (len+new.length) cap) _ (Zf (rowOf H n _) λEg=>some (Yi H (len+new.length) (Nat.add Xk n),Je H e n (len+new.length) (List.append Eg l))))))=_;rw [hz,show roomFor bytes (len+new.length)=true from h2,hU,show Nat.ble (len+new.length) cap=false from hle,Is];rfl
 ·cases hA
theorem Zc3 {e:TypeId} {size bytes:Nat} {s x:TV} {β:Type} {k:TV->TH->Option β} {ρ:β} (h:X6 Zh T e size bytes s x k=some ρ) :
  ∃ v T',k v T'=some ρ/\∀ {C:TC} {F:Nat->Prop} {lo:Nat} {H:AH} {r Oh os:List Nat} {s' x':Value} {o o':List Nat},Good C F lo Zh H r T Oh os->VR H (Ya F r Oh os) r s s' o->VR H (Ya F r Oh os) r x x' o'->OV s->(∀ j,o.count j<=os.count j)->base<=T.length ->
   ∃ v' H',Gx lo H e size bytes s' x'=some (v',H')/\Ux C F lo Zh base true H r T Oh os v T' v' H':=by
 obtain ⟨p,h1,h2⟩:=we h;obtain ⟨v,T',h3,h4⟩:=Zc4 h1;cases h3;exact ⟨v,T',h2,h4⟩
theorem fb {e:TypeId} {size bytes:Nat} {z:Value} {s x:TV} {β:Type} {k:TV->TH->Option β} {ρ:β} (h:Zc2 e size bytes (Mq z) T s x k=some ρ) (hp:plain z=true) (ht:∀ l,z≠.tuple l) (Ec:(cellsOf z).length=size) (hs0:Nat.blt 0 size=true) :
  ∃ v,k v T=some ρ/\∀ {C:TC} {F:Nat->Prop} {lo:Nat} {H:AH} {r Oh os:List Nat} {s' x':Value} {o o':List Nat},Good C F lo Zh H r T Oh os->VR H (Ya F r Oh os) r s s' o->VR H (Ya F r Oh os) r x x' o' ->
   ∃ v' H',Lx H e size bytes (cellsOf z) s' x'=some (v',H')/\Ux C F lo Zh base true H r T Oh os v T v' H':=by
 obtain ⟨n,hn,hA⟩:=Zj h;obtain ⟨h1,hB⟩:=Zt hA;split at hB
 ·rename_i c q m es;obtain ⟨h2,hC⟩:=Zt hB;obtain ⟨h3,hD⟩:=Zt hC;obtain ⟨h4,h5⟩:=Zt hD;rw [Zz] at h3;obtain ⟨a,rfl,ha⟩:=De hn;refine ⟨_,h5,λ{C F lo H r Oh os s' x' o o'} hG hs hx=>?_⟩;obtain ⟨rfl,_⟩:=V0 hx;obtain ⟨z1,z2⟩:=At (H:=H) (S:=Ya F r Oh os) hp ht n;have ze:=x4 hp ht Ec n
  have Eg:∃ a l,s'=.slice a es.length es.length/\es.length < Xk/\rowOf H size s'=some l/\W6 H (Ya F r Oh os) (Qi es) l/\Um size es:=by
   rcases Ud hs with ⟨_,_,_,rfl,rfl,_⟩ |⟨hc,hr⟩
   ·exact ⟨none,[],rfl,by unfold Xk;decide,rfl,.nil,λx hx=>by cases hx⟩
   ·have hcf:c=.full/\m=size:=by
     cases c with
     |nil=>exact absurd rfl hc
     |full=>exact ⟨rfl,Qb h2⟩
     |Jf=>cases h2
    obtain ⟨rfl,rfl⟩:=hcf;obtain ⟨l,k1,k2,k3⟩:=N2 hr;obtain ⟨i,off,cap,s2,cs,e2,rfl,q1,_⟩:=hr;obtain ⟨e1,e3⟩:cap=es.length/\es.length < Xk:=q1;subst e1;exact ⟨_,l,rfl,e3,k1,k2,k3⟩
  obtain ⟨a,l,rfl,hu,k1,k2,k3⟩:=Eg;rw [Nat.blt_eq] at h1;have hlen:(es++Y5 [Mq z] n).length=es.length+n:=by rw [List.length_append,Di];simp
  refine ⟨Yi H (es.length+n) (Nat.add Xk size),Je H e size (es.length+n) (l++Vs (cellsOf z) n),?_,Ux.row hG (λS r' st=>?_) (.inl (.Wh (by intro h;cases h)))⟩
  ·show Zf (asNat _) (λn=>Zp (Nat.blt 0 n) (Zp (Nat.blt 0 size) (Zp (Nat.blt es.length Xk) (Zp (Nat.blt es.length (es.length+n)) (Zp (roomFor bytes (es.length+n)) (Zf (rowOf H size _) _))))))=_;rw [ha,Zo,Zfm h1,Yw,hs0,Yw,Zfm hu,Yw,Zfm (by omega),Yw,show roomFor bytes (es.length+n)=true from h3,Yw,k1];rfl
  ·have:=VR.own (H:=Je H e size (es.length+n) (l++Vs (cellsOf z) n)) (S:=S) (r:=r') (c:=.Jf) (n:=size) (es:=es++Y5 [Mq z] n) (i:=H.next) (cs:=l++Vs (cellsOf z) n) (e:=e) (by intro h;cases h) (by rw [hlen];exact po h3) (by show H.next < H.next+1;omega) (by
    show (H.push _).get H.next=_
    rw [AH.Yq,if_pos rfl,hlen];rfl) (k3.append ze) (by rw [U9,z2];exact (k2.append z1).mono st)
   rw [hlen] at this;exact this
 ·cases hB
theorem Zff {z:Value} {x:TV} {n:Nat} {T':TH} (h:Fg Zh T (Zy (Mq z)) x=some T') (hn:gj x n=true) (hp:plain z=true) (ht:∀ l,z≠.tuple l) (Ec:(cellsOf z).length=n) (hG:Good C F lo Zh H r T Oh os) {x':Value} {o:List Nat} (hx:VR H (Ya F r Oh os) r x x' o) :
  ∃ H',ck lo H n (cellsOf z) x'=some H'/\Ux C F lo Zh base ends H r T Oh os Zk T' (.tuple #[]) H':=by
 have Cq:OV Zk:=.inl (.Xh .nil λc hc=>by cases hc)
 unfold Fg at h;split at h
 ·cases h;rcases Ud hx with ⟨_,_,_,_,rfl,_⟩ |⟨hc,_⟩
  ·exact ⟨H,rfl,.Zs hG (o:=[]) .Cq Cq λi=>by simp⟩
  ·exact absurd rfl hc
 ·rename_i b off len cap m ag;have h:cond (Nat.beq len 0) (some T) (Zp (Nat.ble Zh b) (Yx T b λcs=>Zp (Nat.ble (off+len * m) (Zb cs)) (some (Kg T b (.cells (Kl cs off (Y5 (Zy (Mq z)) len)))))))=some T':=h;have hn:=Qb (show Nat.beq m n=true from hn);subst hn;obtain ⟨i,hr,rfl,_⟩:=U1 hx;cases hz:Nat.beq len 0 with
  |true=>
   rw [hz] at h;cases h;exact ⟨H,by show cond (Nat.beq len 0) _ _=_;rw [hz];rfl,.Zs hG (o:=[]) .Cq Cq λi=>by simp⟩
  |false=>
   rw [hz] at h;obtain ⟨h1,hA⟩:=Zt (show Zp (Nat.ble Zh b) _=some T' from h);obtain ⟨cs,hb,hB⟩:=E5 hA;obtain ⟨h2,h3⟩:=Zt hB;have h1:=Qa h1;have h2:=Qa h2;rw [Zz] at h2;have h2:off+len * m<=cs.length:=h2;rw [U4 hb] at h3;cases h3;obtain ⟨i',s,ds,e',a,w,c,k1,k2,hg,hss,nb,hcc,hw,Tm⟩:=hG.Ll hb;rw [hr] at k1;cases k1;have J7:=hG.pq b i h1 hr;obtain ⟨z1,_⟩:=At (H:=H) (S:=Ya F r Oh os) hp ht len;obtain ⟨z3,z4⟩:=Ee (H:=H) (S:=Ya F r Oh os) hp ht;have hzl:(Y5 (Zy (Mq z)) len).length=len * m:=by rw [Di,z3.length,Ec]
   refine ⟨H.set i (.cells s (over ds off (Vs (cellsOf z) len)) e'),?_,Ux.wrote (o:=[]) hG hb hr hg h1 (by rw [hzl];exact h2) z1.vrl (λj=>by simp) (Gq.of λc hc=>(Yt (z4 c (Pm hc))).1) (λc hc=>(Yt (z4 c (Pm hc))).2) (λm _ _=>Gn.of λc hc=>qa (z4 c (Pm hc))) (λ_ _=>.Cq) Cq⟩
   show cond (Nat.beq len 0) _ (Kp H i λs cs e'=>Zp (Nat.ble lo i) (Zp (Nat.ble (off+len * m) s) (some (H.set i (.cells s (over cs off (Vs (cellsOf z) len)) e')))))=_;rw [hz];show (match H.get i with |some (.cells s cs e)=>_ |_=>none)=_
   rw [hg];show Zp (Nat.ble lo i) (Zp (Nat.ble (off+len * m) s) _)=_;rw [Nat.ble_eq_true_of_le J7,Nat.ble_eq_true_of_le (by omega)];rfl
 ·cases h
end
end Go.Ev
namespace Go.Ev
structure Vp (C:TC) (tc:Z3) (ec:Jh):Prop where
 run:∀ {Zh:Nat} {f:FuncId} {args:List TV} {T:TH} {v:TV} {T':TH},tc Zh f args T=some (v,T')->∀ {F:Nat->Prop} {lo:Nat} {H:AH} {r Oh:List Nat} {Wq:List Value},Good C F lo Zh H r T Oh []->Y3 H (Ya F r Oh []) r args Wq []->Gq args ->
  ∃ v' H',ec lo f Wq H=some (v',H')/\NB v/\Ux C F lo Zh T.length true H r T Oh [] v T' v' H'
section
variable {H:AH} {S:Nat->Prop} {r:List Nat}
theorem Zm1 {x:TV} {y:Value} {o:List Nat} (hp:pass x=true) (h:VR H S r x y o) (hv:OV x):o=[]/\NB x:=by
 have hn:NB x:=by
  rcases hv with h1 |h1
  ·exact h1
  ·unfold Zel at h1;split at h1
   ·cases hp
   ·cases hp
   ·exact h1.elim
 cases x with
 |agg cs=>
  have hp:Z2 Qv cs=true:=hp;rw [Ye,List.all_eq_true] at hp;obtain ⟨ds,rfl,h1⟩:=E0 h;exact ⟨(Mk hp h1).2,hn⟩
 |row c q n es=>cases q with
  |own e=>cases hp
  |set=>exact ⟨J0 h rfl trivial,hn⟩
  |D7=>cases hp
 |Xh=>cases hp
 |el q cs off=>exact ⟨J0 h rfl trivial,hn⟩
 |_=>exact ⟨J0 h rfl trivial,hn⟩
def Le (m:Md):Prop:=match m with |.comp _=>False |_=>True
theorem VM.pass {w:Bool}:∀ {ms:List Md} {xs:List TV} {ys:List Value} {os:List Nat},VM w H S r ms xs ys os->(∀ m∈ms,Le m)->(∀ x∈xs,Ev.pass x=true)->Y3 H S r xs ys []/\Gq xs
 |_,_,_,_,.nil,_,_=>⟨.nil,.nil⟩
 |m::ms,x::xs,y::ys,_,.cons h hv t,hm,hp=>by
  obtain ⟨h1,h2⟩:=VM.pass t (λm h=>hm m (List.mem_cons_of_mem _ h)) λx h=>hp x (List.mem_cons_of_mem _ h);have hpx:=hp x (List.mem_cons_self ..);have hmm:=hm m (List.mem_cons_self ..)
  have:∃ o,VR H S r (wv w x) y o:=by
   cases m with
   |raw=>obtain ⟨_,o,h,_⟩:=h;exact ⟨o,h⟩
   |comp=>exact hmm.elim
   |W8=>exact ⟨_,by rw [h.2.wv];exact h.1⟩
   |settle=>exact ⟨_,h.2⟩
   |Xi=>exact ⟨_,h.2⟩
   |_=>exact ⟨_,h⟩
  obtain ⟨o,hx⟩:=this
  have hn:NB x:=by
   rcases hv with h1 |h1
   ·exact h1
   ·unfold Zel at h1;split at h1
    ·cases hpx
    ·cases hpx
    ·exact h1.elim
  rw [hn.wv] at hx;obtain ⟨rfl,_⟩:=Zm1 hpx hx hv;exact ⟨(Y3.cons hx h1:Y3 H S r (x::xs) (y::ys) ([]++[])),.cons hn h2⟩
theorem kz {H':AH} {S':Nat->Prop}:∀ {xs:List TV} {ys:List Value},W6 H S xs ys->(∀ c∈xs,ie c=true)->W6 H' S' xs ys
 |_,_,.nil,_=>.nil
 |x::xs,_,.cons h t,hc=>by
  refine .cons ?_ (kz t λc h=>hc c (List.mem_cons_of_mem _ h));have h1:=hc x (List.mem_cons_self ..);cases h with
  |v h2 h3=>exact .v h2 h3
  |_=>cases h1
theorem zo {es:List TV} (h:Z2 j7 es=true):∀ c∈Qi es,ie c=true:=by
 rw [Ye,List.all_eq_true] at h
 induction es with
 |nil=>intro c hc;rw [U8] at hc;cases hc
 |cons x es ih=>
  intro c hc;rw [Jy] at hc;rcases List.mem_append.1 hc with hc |hc
  ·have hx:=h x (List.mem_cons_self ..);cases x with
   |agg cs=>
    have hx:Z2 ie cs=true:=hx;rw [Ye,List.all_eq_true] at hx;exact hx c hc
   |v a=>rw [show Zy (TV.v a)=[.v a] from rfl,List.mem_singleton] at hc;subst hc;rfl
   |_=>cases hx
  ·exact ih (λy hy=>h y (List.mem_cons_of_mem _ hy)) c hc
theorem Zhn {len cap n:Nat} (h:Ms len cap n=true):Ci (cond (Nat.beq len cap) .full .Jf) cap len n:=by
 unfold Ms at h;cases hU:Nat.ble Xk cap with
 |true=>
  rw [hU] at h;cases hb:Nat.beq cap (Nat.add Xk n) with
  |false=>rw [hb] at h;cases h
  |true=>
   rw [hb] at h;have h:Nat.blt len Xk=true:=h;rw [Nat.blt_eq] at h;have:=Qb hb;have:=Qa hU;rw [Wm (by omega)]
   exact .inr ⟨by assumption,h⟩
 |false=>
  rw [hU] at h;have h:=Qa (show Nat.ble len cap=true from h);have:=Up hU;cases hb:Nat.beq len cap with
  |true=>have:=Qb hb;exact ⟨by omega,by omega⟩
  |false=>exact .inl ⟨h,by omega⟩
end
section
variable {C:TC} {F:Nat->Prop} {lo Zh base:Nat} {ends:Bool} {H:AH} {r:List Nat} {T:TH} {Oh os:List Nat}
theorem Fh {tc:Z3} {ec:Jh} (hs:Vp C tc ec) {f:FuncId} {vs:List TV} {β:Type} {k:TV->TH->Option β} {ρ:β} (h:Qo tc Zh f vs T k=some ρ) :
  ∃ v T',k v T'=some ρ/\(∀ x∈vs,pass x=true)/\∀ {F:Nat->Prop} {lo:Nat} {H:AH} {r Oh os:List Nat} {Wq:List Value},Good C F lo Zh H r T Oh os->Y3 H (Ya F r Oh os) r vs Wq []->Gq vs->base<=T.length ->
   ∃ v' H',ec lo f Wq H=some (v',H')/\Ux C F lo Zh base true H r T Oh os v T' v' H':=by
 obtain ⟨h1,hA⟩:=Zt h;rw [Ye,List.all_eq_true] at h1;cases hr:tc Zh f vs T with
 |none=>rw [hr] at hA;cases hA
 |some p=>
  rw [hr] at hA;refine ⟨p.1,p.2,hA,h1,λ{F lo H r Oh os Wq} hG hv hn hb=>?_⟩;have hG0:Good C F lo Zh H r T Oh []:=hG.less λi=>by simp
  have hle:∀ i,act r Oh [] i<=act r Oh os i:=λi=>by unfold act;simp
  obtain ⟨v',H',k1,k2,r',Vf,o,q1,q2,q3,q4,q5,q6⟩:=hs.run hr hG0 (hv.stay (Jg hle)) hn;refine ⟨v',H',k1,r',Vf,o,q1,q2,q3,⟨q4.next,λi hi ha=>q4.same i hi (by have:=hle i;omega),λi hi=>Nat.le_trans (q4.less i hi) (hle i),q4.pre⟩,λh=>(by cases h),q6.less hb⟩
theorem Zg6 {S':Nat->Prop} {x a:TV} {y:Value} {o:List Nat} {w:Bool} (h:inC T x=some a) (hG:Good C F lo Zh H r T Oh os) (hx:VR H (Ya F r Oh os) r (wv w x) y o) (hw:w=false) (hS:∀ i,Ya F r Oh os i->S' i) (ha:Np x=true->∀ i,S' i):KR H S' a y/\(Qv a=true\/∃ f,a=.fn f [] []):=by
 subst hw;have hx:VR H (Ya F r Oh os) r x y o:=hx;have st:Wb H (Ya F r Oh os) H S':=⟨Nat.le_refl _,λi _ hs=>⟨hS i hs,rfl⟩⟩;cases x with
 |v a=>
  cases h;obtain ⟨rfl,h1,h2,_⟩:=V0 hx;exact ⟨.v h1 h2,.inl rfl⟩
 |row c q n es=>
  cases h;refine ⟨?_,.inl rfl⟩;rcases Ud hx with ⟨rfl,_,rfl,rfl,rfl,_⟩ |⟨hc,i,off,cap,s,cs,e,rfl,k1,k2,k3,k4,k5,k6,k7⟩
  ·exact .nil
  ·refine .row k1 ?_ k2 k3 k4 k5 k6 (k7.mono st);cases hact:Np (.row c q n es) with
   |true=>exact ha hact i
   |false=>
    have:q=.set:=by
     cases c with
     |nil=>exact absurd rfl hc
     |_=>cases q <;> first |rfl |cases hact
    subst this;cases hx with
    |k h=>cases h with
     |row _ hi=>exact hS _ hi
 |iface t z=>
  cases h;obtain ⟨z,rfl,h1,_⟩:=Lt hx;exact ⟨.iface (h1.mono st),.inl rfl⟩
 |vec b off len cap n ag=>
  obtain ⟨es,h1,hA⟩:=Zj (show Zf (Un T b off len n ag) _=some a from h);obtain ⟨h2,h3⟩:=Zt hA;cases h3;obtain ⟨i,s,ds,e,hr,hg,hs,hf,he,hl,hk⟩:=Ay h1 hG;obtain ⟨i',iq,rfl,_⟩:=U1 hx;rw [hr] at iq;cases iq;subst hl;exact ⟨.row (Zhn h2) (ha rfl i) (hG.Eb (Wz hr)).1 hg hs hf he (hk.mono st),.inl rfl⟩
 |fn f first cap=>
  cases first with
  |cons=>cases h
  |nil=>cases cap with
   |cons=>cases h
   |nil=>
    cases h;refine ⟨?_,.inr ⟨_,rfl⟩⟩;cases hx with
    |k h=>exact h.mono st
    | @fn f _ _ f' c' h h'=>
     have e1:f'=#[]:=by
      have:=h.length;exact Array.toList_eq_nil_iff.1 (List.length_eq_zero_iff.1 this.symm)
     have e2:c'=#[]:=by
      have:=h'.length;exact Array.toList_eq_nil_iff.1 (List.length_eq_zero_iff.1 this.symm)
     subst e1 e2;exact .fn0
 |_=>cases h
theorem Zbg {S':Nat->Prop}:∀ {xs as:List TV} {ys:List Value} {o:List Nat},uj T xs=some as->Good C F lo Zh H r T Oh os->Y3 H (Ya F r Oh os) r xs ys o->(∀ i,Ya F r Oh os i->S' i)->(Kk Np xs=true->∀ i,S' i)->W6 H S' as ys/\∀ a∈as,Qv a=true\/∃ f,a=.fn f [] []
 |[],as,ys,o,h,hG,hx,hS,ha=>by cases h;cases hx;exact ⟨.nil,λa h=>by cases h⟩
 |x::xs,as,ys,o,h,hG,hx,hS,ha=>by
  obtain ⟨a,h1,hA⟩:=Zj (show Zf (inC T x) (λy=>Zf (uj T xs) λl=>some (y::l))=some as from h);obtain ⟨l,h2,h3⟩:=Zj hA;cases h3;cases hx with
  |cons hx ht=>
   have e:Kk Np (x::xs)=cond (Np x) true (Kk Np xs):=rfl;obtain ⟨k1,k2⟩:=Zg6 (w:=false) h1 hG hx rfl hS λhh=>ha (by rw [e,hh];rfl)
   obtain ⟨k3,k4⟩:=Zbg h2 hG ht hS λhh=>ha (by rw [e,hh];cases Np x <;> rfl)
   refine ⟨.cons k1 k3,λb hb=>?_⟩;rcases List.mem_cons.1 hb with rfl |hb
   ·exact k2
   ·exact k4 b hb
theorem Ze7 {a:TV} (h:Qv a=true\/∃ f,a=.fn f [] []):NB a/\Yl a:=by
 rcases h with h |⟨f,rfl⟩
 ·exact Yt h
 ·exact ⟨.fn .nil .nil,trivial⟩
theorem Zj4 (T:TH) (x:TV):(∃ cs,x=.agg cs)\/(inT T x=inC T x/\No x=Np x):=by cases x <;> first |exact .inl ⟨_,rfl⟩ |exact .inr ⟨rfl,rfl⟩
theorem Zd4 (b:Bool) (T:TH) (x:TV):(∃ cs,x=.agg cs)\/p9 b T x=y9 b T x:=by cases x <;> first |exact .inl ⟨_,rfl⟩ |exact .inr rfl
theorem Zd5 (b:Bool) (T:TH) (x:TV):(∃ cs,x=.Xh cs)\/y7 b T x=p9 b T x:=by cases x <;> first |exact .inl ⟨_,rfl⟩ |exact .inr rfl
theorem Zrw {S':Nat->Prop} {x a:TV} {y:Value} {o:List Nat} (h:inT T x=some a) (hG:Good C F lo Zh H r T Oh os) (hx:VR H (Ya F r Oh os) r x y o) (hS:∀ i,Ya F r Oh os i->S' i) (ha:No x=true->∀ i,S' i):VR H S' [] a y []/\NB a:=by
 have cell:∀ {x a:TV},inC T x=some a->VR H (Ya F r Oh os) r x y o->(Np x=true->∀ i,S' i)->VR H S' [] a y []/\NB a:=λh hx ha=>by
  obtain ⟨k1,k2⟩:=Zg6 (w:=false) h hG hx rfl hS ha;exact ⟨.k k1,(Ze7 k2).1⟩
 rcases Zj4 T x with ⟨cs,rfl⟩ |⟨e1,e2⟩
 ·obtain ⟨ds,h1,h2⟩:=Zj (show Zf (uj T cs) (λds=>some (TV.agg ds))=some a from h);cases h2;obtain ⟨es,rfl,h3⟩:=E0 hx;obtain ⟨k1,k2⟩:=Zbg h1 hG h3 hS ha;exact ⟨.agg k1.vrl,.agg (Gq.of λc hc=>(Ze7 (k2 c hc)).1) λc hc=>(Ze7 (k2 c hc)).2⟩
 ·exact cell (e1 ▸ h) hx (λhh=>ha (e2.trans hh))
theorem Zbf {S':Nat->Prop}:∀ {ms:List Md} {xs as:List TV} {ys:List Value} {o:List Nat},qm T xs=some as->Good C F lo Zh H r T Oh os->VM false H (Ya F r Oh os) r ms xs ys o->(∀ m∈ms,Le m)->(∀ i,Ya F r Oh os i->S' i)->(Kk No xs=true->∀ i,S' i)->Y3 H S' [] as ys []/\Gq as
 |ms,[],as,ys,o,h,hG,hv,hm,hS,ha=>by cases h;cases hv;exact ⟨.nil,.nil⟩
 |ms,x::xs,as,ys,o,h,hG,hv,hm,hS,ha=>by
  cases hv with
  | @cons m _ y _ ms _ ys _ hx hv ht=>
  obtain ⟨a,h1,hA⟩:=Zj (show Zf (inT T x) (λy=>Zf (qm T xs) λl=>some (y::l))=some as from h);obtain ⟨l,h2,h3⟩:=Zj hA;cases h3;have e:Kk No (x::xs)=cond (No x) true (Kk No xs):=rfl;have hmm:=hm m (List.mem_cons_self ..)
  have:∃ o,VR H (Ya F r Oh os) r x y o:=by
   cases m with
   |raw=>obtain ⟨_,o,h,_⟩:=hx;exact ⟨o,h⟩
   |comp=>exact hmm.elim
   |W8=>exact ⟨_,hx.1⟩
   |settle=>exact ⟨_,hx.2⟩
   |Xi=>exact ⟨_,hx.2⟩
   |_=>exact ⟨_,hx⟩
  obtain ⟨o,hx⟩:=this;obtain ⟨k1,k2⟩:=Zrw h1 hG hx hS λhh=>ha (by rw [e,hh];rfl)
  obtain ⟨k3,k4⟩:=Zbf h2 hG ht (λm h=>hm m (List.mem_cons_of_mem _ h)) hS λhh=>ha (by rw [e,hh];cases No x <;> rfl)
  exact ⟨(Y3.cons k1 k3:Y3 H S' [] (a::l) (y::ys) ([]++[])),.cons k2 k4⟩
theorem Zao {F':Nat->Prop} {Dv Ct:Nat} {r1 Rb o1:List Nat} {T1:TH} {S2:Nat->Prop} {r2:List Nat} {act:Bool} {x a:TV} {y:Value} {o:List Nat} (h:y9 act T1 x=some a) (hG:Good C F' Dv Ct H r1 T1 Rb o1) (hx:VR H (Ya F' r1 Rb o1) r1 x y o)
  (hS:act=false->∀ i,Ya F' r1 Rb o1 i->S2 i) (hr:∀ i∈r1,S2 i):∃ o',VR H S2 r2 a y o'/\(∀ i,o'.count i<=o.count i)/\NB a/\Yl a:=by
 have st:act=false->Wb H (Ya F' r1 Rb o1) H S2:=λh=>⟨Nat.le_refl _,λi _ hs=>⟨hS h i hs,rfl⟩⟩;unfold y9 at h;split at h
 ·cases h;obtain ⟨rfl,h1,h2,rfl⟩:=V0 hx;exact ⟨[],.k (.v h1 h2),λi=>Nat.le_refl _,.v _,trivial⟩
 ·rename_i c q n es;cases q with
  |own e=>
   obtain ⟨h1,h2⟩:=Zt h;cases h2;cases hx with
   |k h=>cases h
   |own a1 a2 a3 a4 a5 a6=>
    refine ⟨_,.own a1 a2 a3 a4 a5 ?_,λi=>Nat.le_refl _,.Wh (by intro h;cases h),trivial⟩
    cases act with
    |true=>exact kz a6 (zo h1)
    |false=>exact a6.mono (st rfl)
  |set=>
   obtain ⟨h1,h2⟩:=Zt h;cases h2;cases hx with
   |k hk=>
    refine ⟨[],.k ?_,λi=>Nat.le_refl _,.Wh (by intro h;cases h),trivial⟩
    cases act with
    |false=>exact hk.mono (st rfl)
    |true=>
     have hc:c=.nil:=by cases c <;> first |rfl |cases h1
     subst hc;cases hk with
     |nil=>exact .nil
     |row hc=>exact hc.elim
  |D7=>cases h
 ·rename_i b off len cap n ag;obtain ⟨es,h1,hA⟩:=Zj h;obtain ⟨h2,hB⟩:=Zt hA;obtain ⟨h3,h4⟩:=Zt hB;cases h4;obtain ⟨i,s,ds,e,hri,hg,hs,hf,he,hl,hk⟩:=Ay h1 hG;obtain ⟨i',iq,rfl,rfl⟩:=U1 hx;rw [hri] at iq;cases iq;subst hl;refine ⟨[],.k (.row (Zhn h2) (hr i (Wz hri)) (hG.Eb (Wz hri)).1 hg hs hf he ?_),λi=>Nat.le_refl _,.Wh (by intro h;cases h),trivial⟩
  cases act with
  |true=>exact kz hk (zo h3)
  |false=>exact hk.mono (st rfl)
 ·obtain ⟨h1,h2⟩:=Zt h;cases h2;obtain ⟨z,rfl,h3,rfl⟩:=Lt hx;have:act=false:=by cases act <;> first |rfl |cases h1
  exact ⟨[],.k (.iface (h3.mono (st this))),λi=>Nat.le_refl _,.iface _ _,trivial⟩
 ·cases h
theorem dt {F':Nat->Prop} {Dv Ct:Nat} {r1 Rb o1:List Nat} {T1:TH} {S2:Nat->Prop} {r2:List Nat} {act:Bool} (hG:Good C F' Dv Ct H r1 T1 Rb o1) (hS:act=false->∀ i,Ya F' r1 Rb o1 i->S2 i) (hr:∀ i∈r1,S2 i) :
  ∀ {xs as:List TV} {ys:List Value} {o:List Nat},B8 act T1 xs=some as->Y3 H (Ya F' r1 Rb o1) r1 xs ys o->∃ o',Y3 H S2 r2 as ys o'/\(∀ i,o'.count i<=o.count i)/\Gq as/\∀ a∈as,Yl a
 |[],as,ys,o,h,hx=>by cases h;cases hx;exact ⟨[],.nil,λi=>Nat.le_refl _,.nil,λa h=>by cases h⟩
 |x::xs,as,ys,o,h,hx=>by
  obtain ⟨a,h1,hA⟩:=Zj (show Zf (y9 act T1 x) (λy=>Zf (B8 act T1 xs) λl=>some (y::l))=some as from h);obtain ⟨l,h2,h3⟩:=Zj hA;cases h3;cases hx with
  |cons hx ht=>
   obtain ⟨oa,k1,k2,k3,k4⟩:=Zao (r2:=r2) h1 hG hx hS hr;obtain ⟨ol,k5,k6,k7,k8⟩:=dt hG hS hr h2 ht;refine ⟨_,.cons k1 k5,λi=>by rw [List.count_append,List.count_append];have:=k2 i;have:=k6 i;omega,.cons k3 k7,λb hb=>?_⟩
   rcases List.mem_cons.1 hb with rfl |hb
   ·exact k4
   ·exact k8 b hb
theorem Zkz {x:TV} (h:Yl x):Vh x:=by
 cases x with
 |Xh cs=>cases cs <;> first |trivial |exact h
 |_=>trivial
theorem Zan {F':Nat->Prop} {Dv Ct:Nat} {r1 Rb o1:List Nat} {T1:TH} {S2:Nat->Prop} {r2:List Nat} {act:Bool} (hG:Good C F' Dv Ct H r1 T1 Rb o1) (hS:act=false->∀ i,Ya F' r1 Rb o1 i->S2 i) (hr:∀ i∈r1,S2 i)
  {x a:TV} {y:Value} {o:List Nat} (h:p9 act T1 x=some a) (hx:VR H (Ya F' r1 Rb o1) r1 x y o):∃ o',VR H S2 r2 a y o'/\(∀ i,o'.count i<=o.count i)/\NB a/\Vh a:=by
 have cell:∀ {x:TV},y9 act T1 x=some a->VR H (Ya F' r1 Rb o1) r1 x y o->∃ o',VR H S2 r2 a y o'/\(∀ i,o'.count i<=o.count i)/\NB a/\Vh a:=λh hx=>by
  obtain ⟨o',k1,k2,k3,k4⟩:=Zao (r2:=r2) h hG hx hS hr;exact ⟨o',k1,k2,k3,Zkz k4⟩
 rcases Zd4 act T1 x with ⟨cs,rfl⟩ |e1
 ·obtain ⟨ds,h1,h2⟩:=Zj (show Zf (B8 act T1 cs) (λds=>some (TV.agg ds))=some a from h);cases h2;obtain ⟨es,rfl,h3⟩:=E0 hx;obtain ⟨o',k1,k2,k3,k4⟩:=dt (r2:=r2) hG hS hr h1 h3;exact ⟨o',.agg k1,k2,.agg k3 k4,trivial⟩
 ·exact cell (e1 ▸ h) hx
theorem dr {F':Nat->Prop} {Dv Ct:Nat} {r1 Rb o1:List Nat} {T1:TH} {S2:Nat->Prop} {r2:List Nat} {act:Bool} (hG:Good C F' Dv Ct H r1 T1 Rb o1) (hS:act=false->∀ i,Ya F' r1 Rb o1 i->S2 i) (hr:∀ i∈r1,S2 i) :
  ∀ {xs as:List TV} {ys:List Value} {o:List Nat},y5 act T1 xs=some as->Y3 H (Ya F' r1 Rb o1) r1 xs ys o->∃ o',Y3 H S2 r2 as ys o'/\(∀ i,o'.count i<=o.count i)/\Gq as/\∀ a∈as,Vh a
 |[],as,ys,o,h,hx=>by cases h;cases hx;exact ⟨[],.nil,λi=>Nat.le_refl _,.nil,λa h=>by cases h⟩
 |x::xs,as,ys,o,h,hx=>by
  obtain ⟨a,h1,hA⟩:=Zj (show Zf (p9 act T1 x) (λy=>Zf (y5 act T1 xs) λl=>some (y::l))=some as from h);obtain ⟨l,h2,h3⟩:=Zj hA;cases h3;cases hx with
  |cons hx ht=>
   obtain ⟨oa,k1,k2,k3,k4⟩:=Zan (r2:=r2) hG hS hr h1 hx;obtain ⟨ol,k5,k6,k7,k8⟩:=dr hG hS hr h2 ht;refine ⟨_,.cons k1 k5,λi=>by rw [List.count_append,List.count_append];have:=k2 i;have:=k6 i;omega,.cons k3 k7,λb hb=>?_⟩
   rcases List.mem_cons.1 hb with rfl |hb
   ·exact k4
   ·exact k8 b hb
theorem Zm9 {F':Nat->Prop} {Dv Ct:Nat} {r1 Rb o1:List Nat} {T1:TH} {S2:Nat->Prop} {r2:List Nat} {act:Bool} (hG:Good C F' Dv Ct H r1 T1 Rb o1) (hS:act=false->∀ i,Ya F' r1 Rb o1 i->S2 i) (hr:∀ i∈r1,S2 i)
  {x a:TV} {y:Value} {o:List Nat} (h:y7 act T1 x=some a) (hx:VR H (Ya F' r1 Rb o1) r1 x y o):∃ o',VR H S2 r2 a y o'/\(∀ i,o'.count i<=o.count i)/\NB a:=by
 have comp:∀ {x:TV},p9 act T1 x=some a->VR H (Ya F' r1 Rb o1) r1 x y o->∃ o',VR H S2 r2 a y o'/\(∀ i,o'.count i<=o.count i)/\NB a:=λh hx=>by
  obtain ⟨o',k1,k2,k3,k4⟩:=Zan (r2:=r2) hG hS hr h hx;exact ⟨o',k1,k2,k3⟩
 rcases Zd5 act T1 x with ⟨cs,rfl⟩ |e1
 rotate_left
 ·exact comp (e1 ▸ h) hx
 ·obtain ⟨ds,h1,h2⟩:=Zj (show Zf (y5 act T1 cs) (λds=>some (TV.Xh ds))=some a from h);cases h2;cases cs with
  |nil=>
   cases h1;exact ⟨[],.Cq,λi=>by simp,.Xh .nil λc h=>by cases h⟩
  |cons c cs=>
   obtain ⟨es,rfl,h3⟩:=xg hx;obtain ⟨o',k1,k2,k3,k4⟩:=dr (r2:=r2) hG hS hr h1 h3;exact ⟨o',.Xh k1,k2,.Xh k3 k4⟩
theorem Nk {tc:Z3} {ec:Jh} (hs:Vp C tc ec) {f:FuncId} {vs:List TV} {v:TV} (h:Zm tc f vs T=some v) {ms:List Md} {ys:List Value} {o:List Nat} (hG:Good C F lo Zh H r T Oh os) (hv:VM false H (Ya F r Oh os) r ms vs ys o) (hm:∀ m∈ms,Le m) {Bx:Nat} (hl1:lo<=Bx) (ld:Bx<=H.next) :
  ∃ v' H',ec Bx f ys H=some (v',H')/\Ux C F lo Zh base ends H r T Oh os v T v' H':=by
 obtain ⟨as,h1,hA⟩:=Zj h;obtain ⟨ac,hac⟩:∃ ac,ac=Kk No vs:=⟨_,rfl⟩;rw [<- hac] at hA;unfold Zf7 at hA;cases hr:tc 0 f as [] with
 |none=>rw [hr] at hA;cases hA
 |some p=>
  rw [hr] at hA;obtain ⟨v1,T1⟩:=p;have hA:y7 ac T1 v1=some v:=hA;obtain ⟨F',hF'⟩:∃ F':Nat->Prop,F'=λi=>ac=false/\(F i\/0 < act r Oh os i):=⟨_,rfl⟩
  have hS1:∀ i,Ya F r Oh os i->Ya F' [] [] [] i:=λi hi=>by
   rw [hF'];exact ⟨λh=>h.2.elim hi.1 λh=>by have:=hi.2;omega,rfl⟩
  have hS2:ac=true->∀ i,Ya F' [] [] [] i:=λe i=>by
   rw [hF'];exact ⟨λh=>by rw [e] at h;exact absurd h.1 (by decide),rfl⟩
  have st1:Wb H (Ya F r Oh os) H (Ya F' [] [] []):=⟨Nat.le_refl _,λi _ h=>⟨hS1 i h,rfl⟩⟩
  have hG1:Good C F' Bx 0 H [] [] [] []:=by
   refine ⟨λi=>by unfold act;simp,λi hi=>by unfold act at hi;simp at hi,λi hi=>?_,ld,(λb i _ h=>by simp at h),(λi hi=>by cases hi),.nil,λg cs hg=>?_⟩
   ·rw [hF'] at hi;exact hi.2.elim (hG.fl i) λh=>(hG.lt i h).1
   ·obtain ⟨a1,a2,s,ds,e,a3,a4,a5,a6,a7⟩:=hG.Bs g cs hg;exact ⟨hS1 g a1,a2,s,ds,e,a3,a4,a5,a6,a7.mono st1⟩
  obtain ⟨k1,k2⟩:=Zbf h1 hG hv hm hS1 λh=>hS2 (hac.trans h);obtain ⟨v',H',q0,_,r1,Rb,o1,q1,q2,q3,q4,_,_⟩:=hs.run hr hG1 k1 k2
  have new:∀ i,0 < act r1 Rb o1 i->H.next<=i:=λi hi=>by
   rcases Nat.lt_or_ge i H.next with h |h
   ·have:=q4.less i h;have:act [] [] [] i=0:=rfl;omega
   ·exact h
  have Eg:∀ i,i < H.next->H'.get i=H.get i:=λi hi=>q4.same i hi rfl
  have hfresh:∀ i,H.next<=i->act r Oh os i=0/\¬ F i:=λi hi=>⟨hG.L0 hi,λh=>by have:=hG.fl i h;omega⟩
  have hgen:∀ o2:List Nat,(∀ i,o2.count i<=o1.count i)->(ac=false->∀ i,Ya F' r1 Rb o1 i->Ya F r Oh o2 i)/\∀ i∈r1,Ya F r Oh o2 i:=by
   intro o2 iv;constructor
   ·intro e i hi
    have h1:¬ F i/\act r Oh os i=0:=by
     have:=hi.1;rw [hF'] at this;refine ⟨λh=>this ⟨e,.inl h⟩,?_⟩;rcases Nat.eq_zero_or_pos (act r Oh os i) with h |h
     ·exact h
     ·exact absurd ⟨e,.inr h⟩ this
    refine ⟨h1.1,?_⟩;have h2:=hi.2;have h3:=iv i;unfold act at *;omega
   ·intro i hi;have h2:=q1.Eb hi;have h3:=new i (by unfold act;have:=h2.2.2.1;omega)
    have h4:=hfresh i h3;refine ⟨h4.2,?_⟩;have h5:=iv i;unfold act at *;omega
  obtain ⟨o2,u1,u2,u3⟩:∃ o2,VR H' (Ya F r Oh o2) r v v' o2/\(∀ i,o2.count i<=o1.count i)/\NB v:=by
   obtain ⟨o2,w1,w2,w3⟩:=Zm9 (r2:=r) (S2:=λi=>¬ F i/\r.count i+Oh.count i=0/\o1.count i=0) (act:=ac) q1 (λe i hi=>by
    have h1:=(hgen o1 λ_=>Nat.le_refl _).1 e i hi;have h2:=h1.2;unfold act at h2;exact ⟨h1.1,by omega,by omega⟩) (λi hi=>by
    have h1:=(hgen o1 λ_=>Nat.le_refl _).2 i hi;have h2:=h1.2;unfold act at h2;exact ⟨h1.1,by omega,by omega⟩) hA q2
   refine ⟨o2,W3 ⟨Nat.le_refl _,λi _ hi=>⟨⟨hi.1,?_⟩,rfl⟩⟩ w1,w2,w3⟩;have:=w2 i;have:=hi.2;unfold act;omega
  have vv:∀ i,i < H.next->o2.count i=0:=λi hi=>by
   rcases Nat.eq_zero_or_pos (o2.count i) with h |h
   ·exact h
   ·have:=u2 i;have:=new i (by unfold act;omega)
    omega
  have m:Mv H r Oh os H' r Oh o2:=⟨q4.next,λi hi _=>Eg i hi,λi hi=>by have:=vv i hi;unfold act;omega,λ_ _ h=>h⟩
  have st:=m.stay (F:=F);refine ⟨v',H',q0,r,Oh,o2,hG.next m (λi hi=>?_) hG.pq (λi hi=>Nat.le_trans hl1 (q1.xlo i (Z8.1 (by have:=u2 i;have:=Z8.2 hi;omega)))) (hG.heap.mono st (λ_ _ h=>h) (λj hj=>Eg j (hG.Eb hj).1) λj hj=>Eg j (hG.Za4 hj).1),u1,.inl u3,m,λ_ i hi hr=>⟨hr,Eg i hi⟩,.refl _ _⟩
  have h1:=hG.L0 hi;have h2:=u2 i;have h3:=q1.nd i;have h4:=q1.lt i;unfold act at *;exact ⟨by omega,λh=>(h4 (by omega)).1⟩
end
end Go.Ev
namespace Go.Ev
def J2 (P:Program) (C:TC) (tc:Z3) (ec:Jh) (Zs res:List Tmp) (ops:List Oper) (Zh base:Nat) (T:TH) (o:Oper):Prop:=
 ∀ {vs:List TV} {β:Type} {k:TV->TH->Option β} {ρ:β},Zaq P C tc Zs res ops Zh base o.dst T o.op vs k=some ρ->vs.length=(Qw P C Zs res ops o).length ->
  ∃ v T',k v T'=some ρ/\∀ {F:Nat->Prop} {lo:Nat} {H:AH} {r Oh os:List Nat} {Ev:Env} {ys:List Value},Good C F lo Zh H r T Oh os ->
   VM (Kk (λp:Md×Operand=>Xy p.1) (Qw P C Zs res ops o)) H (Ya F r Oh os) r ((Qw P C Zs res ops o).map (·.1)) vs ys os->Kz P Ev ((Qw P C Zs res ops o).map (·.2))=some ys->base<=T.length ->
   ∃ v' H',(∀ {γ:Type} (k':Value->AH->Option γ),Uu P ec lo Ev H o.op k'=k' v' H')/\Ux C F lo Zh base (Vu P C Zs res ops o) H r T Oh os v T' v' H'
section
variable {P:Program} {C:TC} {tc:Z3} {ec:Jh} {Zs res:List Tmp} {ops:List Oper} {Zh base:Nat} {T:TH}
theorem Ky {E:Env} {x:Operand} {xs:List Operand} {ys:List Value} (h:Kz P E (x::xs)=some ys):∃ y l,ys=y::l/\K9 P E x=some y/\Kz P E xs=some l:=by
 obtain ⟨y,h1,hA⟩:=Zj (show Zf (K9 P E x) (λv=>Zf (Kz P E xs) λvs=>some (v::vs))=some ys from h);obtain ⟨l,h2,h3⟩:=Zj hA;cases h3;exact ⟨y,l,rfl,h1,h2⟩
theorem Zo8 {E:Env} {ys:List Value} (h:Kz P E []=some ys):ys=[]:=by cases h;rfl
theorem Zr3 {E:Env} {x:Operand} {xs:List Operand} {y:Value} {l:List Value} (h:K9 P E x=some y) (t:Kz P E xs=some l):Kz P E (x::xs)=some (y::l):=by
 show Zf (K9 P E x) _=_;rw [h,Zo,t];rfl
theorem VM.cons_inv {w:Bool} {H:AH} {S:Nat->Prop} {r:List Nat} {m:Md} {ms:List Md} {xs:List TV} {ys:List Value} {os:List Nat} (h:VM w H S r (m::ms) xs ys os):∃ x xs' y Bp ox os',xs=x::xs'/\ys=y::Bp/\os=ox++os'/\RdR w m H S r x y ox/\OV x/\VM w H S r ms xs' Bp os':=by
 cases h with
 |cons h hv t=>exact ⟨_,_,_,_,_,_,rfl,rfl,rfl,h,hv,t⟩
theorem VM.Uf {w:Bool} {H:AH} {S:Nat->Prop} {r:List Nat} {xs:List TV} {ys:List Value} {os:List Nat} (h:VM w H S r [] xs ys os):xs=[]/\ys=[]/\os=[]:=by
 cases h;exact ⟨rfl,rfl,rfl⟩
theorem Nh (a b:List Nat):∀ j,a.count j<=(a++b).count j:=λj=>by rw [List.count_append];omega
theorem VM.takes {H:AH} {S:Nat->Prop} {r:List Nat} {α:Type}:∀ {l:List α} {xs:List TV} {ys:List Value} {os:List Nat},VM false H S r (l.map λ_=>Md.take) xs ys os->Y3 H S r xs ys os/\∀ x∈xs,OV x
 |[],xs,ys,os,h=>by obtain ⟨rfl,rfl,rfl⟩:=h.Uf;exact ⟨.nil,λx h=>by cases h⟩
 |a::l,xs,ys,os,h=>by
  obtain ⟨x,xs',y,Bp,ox,os',rfl,rfl,rfl,h1,h2,h3⟩:=VM.cons_inv h;obtain ⟨k1,k2⟩:=VM.takes h3;refine ⟨.cons h1 k1,λz hz=>?_⟩;rcases List.mem_cons.1 hz with rfl |hz
  ·exact h2
  ·exact k2 z hz
theorem VM.Zgg {H:AH} {S:Nat->Prop} {r:List Nat} {α:Type}:∀ {l:List α} {xs:List TV} {ys:List Value} {os:List Nat},VM false H S r (l.map λ_=>Md.settle) xs ys os->Y3 H S r xs ys []/\∀ x∈xs,OV x
 |[],xs,ys,os,h=>by obtain ⟨rfl,rfl,rfl⟩:=h.Uf;exact ⟨.nil,λx h=>by cases h⟩
 |a::l,xs,ys,os,h=>by
  obtain ⟨x,xs',y,Bp,ox,os',rfl,rfl,rfl,h1,h2,h3⟩:=VM.cons_inv h;obtain ⟨k1,k2⟩:=VM.Zgg h3;refine ⟨(Y3.cons h1.2 k1:Y3 H S r (x::xs') (y::Bp) ([]++[])),λz hz=>?_⟩;rcases List.mem_cons.1 hz with rfl |hz
  ·exact h2
  ·exact k2 z hz
theorem Ej {α:Type} {l:List α} (h:l.length=2):∃ a b,l=[a,b]:=by
 cases l with
 |nil=>cases h
 |cons a l=>cases l with
  |nil=>cases h
  |cons b l=>cases l with
   |nil=>exact ⟨a,b,rfl⟩
   |cons=>cases h
theorem VM.raws {H:AH} {S:Nat->Prop} {r:List Nat} {α:Type}:∀ {l:List α} {xs:List TV} {ys:List Value} {os:List Nat},VM false H S r (l.map λ_=>Md.raw) xs ys os->Nr (λx y=>∃ o,VR H S r x y o) xs ys/\os=[]
 |[],xs,ys,os,h=>by obtain ⟨rfl,rfl,rfl⟩:=h.Uf;exact ⟨.nil,rfl⟩
 |a::l,xs,ys,os,h=>by
  obtain ⟨x,xs',y,Bp,ox,os',rfl,rfl,rfl,h1,h2,h3⟩:=VM.cons_inv h;obtain ⟨k1,rfl⟩:=VM.raws h3;obtain ⟨rfl,o,h4,_⟩:=h1;exact ⟨.cons ⟨o,h4⟩ k1,rfl⟩
theorem map_fst {α:Type} (m:Md) (f:α->Operand) (l:List α):(l.map λx=>(m,f x)).map (·.1)=l.map λ_=>m:=by rw [List.map_map];rfl
theorem map_snd {α:Type} (m:Md) (f:α->Operand) (l:List α):(l.map λx=>(m,f x)).map (·.2)=l.map f:=by rw [List.map_map];rfl
theorem Ml {α:Type} {m:Md} (hm:Xy m=false) (f:α->Operand):∀ l:List α,Kk (λp:Md×Operand=>Xy p.1) (l.map λx=>(m,f x))=false
 |[]=>rfl
 |x::l=>by
  show cond (Xy m) true (Kk _ (l.map λx=>(m,f x)))=false;rw [hm,Ml hm f l];rfl
variable {dst:Option Tmp} {ty:TypeId} {pos:String} {after:Array Edge} {guard:Option (Nat×Bool)}
theorem ki (P:Program) (C:TC) (Zs res:List Tmp) (ops:List Oper) (dst:Option Tmp) (x:Operand):Zef P C Zs res ops dst x=.take\/Zef P C Zs res ops dst x=.settle\/Zef P C Zs res ops dst x=.Xi\/∃ n ag,Zef P C Zs res ops dst x=.W8 n ag:=by
 unfold Zef;split
 ·split
  ·split
   ·exact .inr (.inr (.inr ⟨_,_,rfl⟩))
   ·rename_i t _ d _ _;cases Zs.contains d with
    |true=>
     show cond (res.contains d || !Zs.contains t) Md.take Md.settle=_\/_
     cases (res.contains d || !Zs.contains t) with
     |true=>exact .inl rfl
     |false=>exact .inr (.inl rfl)
    |false=>
     show Zle _=_\/_;unfold Zle;split
     ·exact .inr (.inr (.inl rfl))
     ·exact .inr (.inl rfl)
     ·exact .inl rfl
  ·exact .inl rfl
 ·exact .inl rfl
theorem VM.Zgz {m:Md} (hm:m=.take\/m=.settle\/m=.Xi\/∃ n ag,m=.W8 n ag) {x:Operand} {H:AH} {S:Nat->Prop} {r:List Nat} {a:TV} {ys:List Value} {os:List Nat} (h:VM (Kk (λp:Md×Operand=>Xy p.1) [(m,x)]) H S r [m] [a] ys os):∃ y,ys=[y]/\VR H S r a y os/\OV a:=by
 rcases hm with rfl |rfl |rfl |⟨n,ag,rfl⟩
 ·obtain ⟨_,_,y,_,ox,_,e1,rfl,rfl,h1,h2,h3⟩:=VM.cons_inv (w:=false) (m:=.take) (ms:=[]) h;obtain ⟨rfl,rfl,rfl⟩:=h3.Uf;cases e1;exact ⟨y,rfl,by rw [List.append_nil];exact h1,h2⟩
 ·obtain ⟨_,_,y,_,ox,_,e1,rfl,rfl,h1,h2,h3⟩:=VM.cons_inv (w:=false) (m:=.settle) (ms:=[]) h;obtain ⟨rfl,rfl,rfl⟩:=h3.Uf;cases e1;obtain ⟨rfl,h1⟩:=h1;exact ⟨y,rfl,h1,h2⟩
 ·obtain ⟨_,_,y,_,ox,_,e1,rfl,rfl,h1,h2,h3⟩:=VM.cons_inv (w:=false) (m:=.Xi) (ms:=[]) h;obtain ⟨rfl,rfl,rfl⟩:=h3.Uf;cases e1;obtain ⟨rfl,h1⟩:=h1;exact ⟨y,rfl,h1,h2⟩
 ·obtain ⟨_,_,y,_,ox,_,e1,rfl,rfl,h1,h2,h3⟩:=VM.cons_inv (w:=true) (m:=.W8 n ag) (ms:=[]) h;obtain ⟨rfl,rfl,rfl⟩:=h3.Uf;cases e1;exact ⟨y,rfl,by rw [List.append_nil];exact h1.1,h2⟩
theorem Zl6 (x:Operand):J2 P C tc ec Zs res ops Zh base T ⟨dst,.move x,ty,pos,after,guard⟩:=by
 intro vs β k ρ h hl;obtain ⟨a,rfl⟩:∃ a,vs=[a]:=List.length_eq_one_iff.1 hl;refine ⟨a,T,h,λ{F lo H r Oh os Ev ys} hG hV he hb=>?_⟩;obtain ⟨y,rfl,h1,h2⟩:=VM.Zgz (ki P C Zs res ops dst x) hV;obtain ⟨_,_,e2,h4,_⟩:=Ky (x:=x) (xs:=[]) he;cases e2;refine ⟨y,H,λk'=>?_,.Zs hG h1 h2 λ_=>Nat.le_refl _⟩;show Zf (K9 P Ev x) _=_;rw [h4];rfl
theorem Zdr (x:Operand):J2 P C tc ec Zs res ops Zh base T ⟨dst,.assign x,ty,pos,after,guard⟩:=by
 intro vs β k ρ h hl;obtain ⟨a,rfl⟩:∃ a,vs=[a]:=List.length_eq_one_iff.1 hl;refine ⟨a,T,h,λ{F lo H r Oh os Ev ys} hG hV he hb=>?_⟩;obtain ⟨y,rfl,h1,h2⟩:=VM.Zgz (ki P C Zs res ops dst x) hV;obtain ⟨_,_,e2,h4,_⟩:=Ky (x:=x) (xs:=[]) he;cases e2;refine ⟨y,H,λk'=>?_,.Zs hG h1 h2 λ_=>Nat.le_refl _⟩;show Zf (K9 P Ev x) _=_;rw [h4];rfl
theorem Zl5 (c a b:Operand):J2 P C tc ec Zs res ops Zh base T ⟨dst,.pick c a b,ty,pos,after,guard⟩:=by
 intro vs β k ρ h hl;have h:(match (generalizing:=false) vs with |[c,a,b]=>Za (Xa c a b) λv=>k v T |_=>none)=some ρ:=h
 split at h
 ·rename_i tc' ta tb;obtain ⟨v,h1,h2⟩:=Z5 h;unfold Xa at h1;split at h1
  ·rename_i t;cases h1;refine ⟨_,T,h2,λ{F lo H r Oh os Ev ys} hG hV he hb=>?_⟩;obtain ⟨_,_,y1,_,o1,_,e1,rfl,rfl,q1,_,hV⟩:=VM.cons_inv (w:=false) (m:=.raw) (ms:=[.settle,.settle]) hV;cases e1;obtain ⟨_,_,y2,_,o2,_,e1,rfl,rfl,q2,p2,hV⟩:=VM.cons_inv hV;cases e1;obtain ⟨_,_,y3,_,o3,_,e1,rfl,rfl,q3,p3,hV⟩:=VM.cons_inv hV;obtain ⟨rfl,rfl,rfl⟩:=hV.Uf;cases e1;obtain ⟨rfl,o,q1,_⟩:=q1;obtain ⟨rfl,_⟩:=V0 (show VR H _ r (.v (.bool t)) y1 o from q1);obtain ⟨_,_,e2,k1,he⟩:=Ky (x:=c) (xs:=[a,b]) he;cases e2;obtain ⟨_,_,e2,k2,he⟩:=Ky he;cases e2;obtain ⟨_,_,e2,k3,he⟩:=Ky he;cases e2;refine ⟨cond t y2 y3,H,λk'=>?_,?_⟩
   ·show Zf (K9 P Ev c) _=_;rw [k1,Zo,k2,Zo,k3];rfl
   ·cases t with
    |true=>exact .Zs hG q2.2 p2 λj=>by simp
    |false=>exact .Zs hG q3.2 p3 λj=>by simp
  ·cases h1
 ·cases h
theorem Zim (e:TypeId):J2 P C tc ec Zs res ops Zh base T ⟨dst,.alloc e,ty,pos,after,guard⟩:=by
 intro vs β k ρ h hl;obtain ⟨i,h1,hA⟩:=Zj (show Zf (Y7 P e) (λi=>Zf (Ts i) λz=>k (.ptr (Zb T) 0) (Zv T (.cells (Zy (Mq z)))))=some ρ from h);obtain ⟨z,h2,h3⟩:=Zj hA;obtain ⟨z1,z2,z3⟩:=E4 h2;refine ⟨_,_,h3,λ{F lo H r Oh os Ev ys} hG hV he hb=>⟨Oo H,Ez H e z,λk'=>?_,Zk7 z2 z3 hG hb⟩⟩;show Zf (Y7 P e) _=_;rw [h1,Zo,z1];rfl
theorem Zqp (e:TypeId) (x:Operand):J2 P C tc ec Zs res ops Zh base T ⟨dst,.box e x,ty,pos,after,guard⟩:=by
 intro vs β k ρ h hl;obtain ⟨a,rfl⟩:∃ a,vs=[a]:=List.length_eq_one_iff.1 hl;obtain ⟨h0,h⟩:=Zt (show Zp (Yu a) (k (.ptr (Zb T) 0) (Zv T (.cells (Zy a))))=some ρ from h);refine ⟨_,_,h,λ{F lo H r Oh os Ev ys} hG hV he hb=>?_⟩;obtain ⟨_,_,y,_,ox,_,e1,rfl,rfl,h1,h2,h3⟩:=VM.cons_inv (w:=false) (m:=.take) (ms:=[]) hV;obtain ⟨rfl,rfl,rfl⟩:=h3.Uf;cases e1;obtain ⟨_,_,e2,h4,_⟩:=Ky (x:=x) (xs:=[]) he;cases e2;refine ⟨Oo H,Ez H e y,λk'=>?_,Zsa h0 h2 h1 (Nh _ _) hG hb⟩;show Zf (K9 P Ev x) _=_;rw [h4];rfl
theorem Zik (t:TypeId) (parts:Array (Nat×Operand)):J2 P C tc ec Zs res ops Zh base T ⟨dst,.build t parts,ty,pos,after,guard⟩:=by
 intro vs β k ρ h hl;have hl:vs.length=parts.toList.length:=by simpa [Qw] using hl
 obtain ⟨v,h1,h2⟩:=Zfk (show Zfl P t (parts.toList.map (·.1)) vs (λv=>k v T)=some ρ from h) hl
 refine ⟨v,T,h1,λ{F lo H r Oh os Ev ys} hG hV he hb=>?_⟩;have e1:Qw P C Zs res ops ⟨dst,.build t parts,ty,pos,after,guard⟩=parts.toList.map λp=>(.take,p.2):=rfl;rw [e1,map_fst,Ml rfl] at hV;rw [e1,map_snd] at he;obtain ⟨q1,q2⟩:=VM.takes hV;obtain ⟨v',o',q3,q4,q5,q6⟩:=h2 q1 q2 he;exact ⟨v',H,λk'=>q3 _,.Zs hG q4 q6 q5⟩
theorem yl (t:TypeId) (len:Nat) (parts:Array (Nat×Operand)):J2 P C tc ec Zs res ops Zh base T ⟨dst,.buildSlice t len parts,ty,pos,after,guard⟩:=by
 intro vs β k ρ h hl;have hl:vs.length=parts.toList.length:=by simpa [Qw] using hl
 obtain ⟨v,h1,h2⟩:=Zn0 (Zh:=Zh) (base:=base) (show litT P t len (parts.toList.map (·.1)) vs (λv=>k v T)=some ρ from h) hl
 refine ⟨v,T,h1,λ{F lo H r Oh os Ev ys} hG hV he hb=>?_⟩;have e1:Qw P C Zs res ops ⟨dst,.buildSlice t len parts,ty,pos,after,guard⟩=parts.toList.map λp=>(.settle,p.2):=rfl;rw [e1,map_fst,Ml rfl] at hV;rw [e1,map_snd] at he;obtain ⟨q1,q2⟩:=VM.Zgg hV;obtain ⟨v',H',q3,q4⟩:=h2 hG q1 he;exact ⟨v',H',λk'=>q3 k',q4⟩
theorem VM.Mp {H:AH} {S:Nat->Prop} {r:List Nat} {E:Env} {x:Operand} {ms:List Md} {xs:List Operand} {a:TV} {vs:List TV} {ys:List Value} {os:List Nat} (h:VM false H S r (.raw::ms) (a::vs) ys os) (he:Kz P E (x::xs)=some ys) :
  ∃ y Bp o,ys=y::Bp/\K9 P E x=some y/\VR H S r a y o/\(∀ j∈o,j ∉ r)/\OV a/\VM false H S r ms vs Bp os/\Kz P E xs=some Bp:=by
 obtain ⟨_,_,y,Bp,ox,_,e1,rfl,rfl,h1,h2,h3⟩:=VM.cons_inv h;cases e1;obtain ⟨rfl,o,h4,h5⟩:=h1;obtain ⟨_,_,e2,k1,k2⟩:=Ky he;cases e2;exact ⟨y,Bp,o,rfl,k1,h4,h5 rfl,h2,h3,k2⟩
theorem Zl7 (t:TypeId) (a:Operand):J2 P C tc ec Zs res ops Zh base T ⟨dst,.load t a,ty,pos,after,guard⟩:=by
 intro vs β k ρ h hl;obtain ⟨x,rfl⟩:∃ a,vs=[a]:=List.length_eq_one_iff.1 hl;obtain ⟨i,h1,hA⟩:=Zj (show Zf (Y7 P t) (λi=>loadT (Zen P C Zs res ops t dst) Zh base i.agg i.size T x k)=some ρ from h);obtain ⟨v,T',h2,h3⟩:=ew hA;refine ⟨v,T',h2,λ{F lo H r Oh os Ev ys} hG hV he hb=>?_⟩;obtain ⟨y,_,o,rfl,k1,k2,_,_,k3,_⟩:=VM.Mp hV he;obtain ⟨v',q1,q2⟩:=h3 (ends:=Vu P C Zs res ops ⟨dst,.load t a,ty,pos,after,guard⟩) hG k2 (λh=>h) hb;refine ⟨v',H,λk'=>?_,q2⟩;show Zf (K9 P Ev a) _=_;rw [k1,Zo,h1,Zo,q1];rfl
theorem Zid (t:TypeId) (a x:Operand):J2 P C tc ec Zs res ops Zh base T ⟨dst,.store t a x,ty,pos,after,guard⟩:=by
 intro vs β k ρ h hl;obtain ⟨va,vx,rfl⟩:∃ a b,vs=[a,b]:=Ej hl;obtain ⟨i,h1,hA⟩:=Zj (show Zf (Y7 P t) (λi=>Za (storeT Zh base i.size T va vx) λH=>k Zk H)=some ρ from h);obtain ⟨T',h2,h3⟩:=Z5 hA;refine ⟨Zk,T',h3,λ{F lo H r Oh os Ev ys} hG hV he hb=>?_⟩;obtain ⟨y,_,o,rfl,k1,k2,_,_,k3,he⟩:=VM.Mp hV he;obtain ⟨_,_,y2,_,ox,_,e1,rfl,rfl,q1,q2,q3⟩:=VM.cons_inv k3;obtain ⟨rfl,rfl,rfl⟩:=q3.Uf;cases e1;obtain ⟨_,_,e2,k4,_⟩:=Ky he;cases e2;obtain ⟨H',q4,q5⟩:=Zdn (ends:=Vu P C Zs res ops ⟨dst,.store t a x,ty,pos,after,guard⟩) (base:=base) h2 hG k2 q1 q2 (Nh _ _);refine ⟨undef,H',λk'=>?_,q5⟩;show Zf (K9 P Ev a) _=_;rw [k1,Zo,k4,Zo,h1,Zo,q4];rfl
theorem pj (x:Operand):J2 P C tc ec Zs res ops Zh base T ⟨dst,.nilCheck x,ty,pos,after,guard⟩:=by
 intro vs β k ρ h hl;obtain ⟨a,rfl⟩:∃ a,vs=[a]:=List.length_eq_one_iff.1 hl;obtain ⟨v,h1,h2⟩:=Z5 (show Za (On a) (λv=>k v T)=some ρ from h);refine ⟨v,T,h2,λ{F lo H r Oh os Ev ys} hG hV he hb=>?_⟩;obtain ⟨y,_,o,rfl,k1,k2,_,k5,k3,_⟩:=VM.Mp hV he
 have hv:v=a/\Zpd y=some y/\o=[]:=by
  unfold On at h1;split at h1
  ·cases h1;obtain ⟨i,_,rfl,e⟩:=M5 k2;exact ⟨rfl,rfl,e⟩
  ·cases h1;cases k2 with
   |k h=>cases h
   |elS=>exact ⟨rfl,rfl,rfl⟩
   |elB=>exact ⟨rfl,rfl,rfl⟩
  ·cases h1
 obtain ⟨rfl,hn,rfl⟩:=hv;refine ⟨y,H,λk'=>?_,.Zs hG k2 k5 λj=>by simp⟩
 show Zf (K9 P Ev x) _=_;rw [k1,Zo,hn];rfl
theorem Zil (op:BinOp) (t:TypeId) (x y:Operand) (t2:TypeId):J2 P C tc ec Zs res ops Zh base T ⟨dst,.binOp op t x y t2,ty,pos,after,guard⟩:=by
 intro vs β k ρ h hl;obtain ⟨va,vx,rfl⟩:∃ a b,vs=[a,b]:=Ej hl;obtain ⟨u,h1,h2,h3⟩:=Zp3 (show binT P op t va vx (λv=>k v T)=some ρ from h);refine ⟨.v u,T,h1,λ{F lo H r Oh os Ev ys} hG hV he hb=>?_⟩;obtain ⟨y1,_,o,rfl,k1,k2,_,_,k3,he⟩:=VM.Mp hV he;obtain ⟨y2,_,o2,rfl,k4,k5,_,_,k6,he⟩:=VM.Mp k3 he;refine ⟨u,H,λk'=>?_,.flat hG (Vm h2).1 (Vm h2).2⟩;show Zf (K9 P Ev x) _=_;rw [k1,Zo,k4,Zo];exact h3 k2 k5 _
theorem Zl4 (op:UnOp) (t:TypeId) (x:Operand):J2 P C tc ec Zs res ops Zh base T ⟨dst,.unOp op t x,ty,pos,after,guard⟩:=by
 intro vs β k ρ h hl;obtain ⟨a,rfl⟩:∃ a,vs=[a]:=List.length_eq_one_iff.1 hl;obtain ⟨u,h1,h2,h3⟩:=Zqf (show unT op a (λv=>k v T)=some ρ from h);refine ⟨.v u,T,h1,λ{F lo H r Oh os Ev ys} hG hV he hb=>?_⟩;obtain ⟨y1,_,o,rfl,k1,k2,_,_,k3,he⟩:=VM.Mp hV he;refine ⟨u,H,λk'=>?_,.flat hG (Vm h2).1 (Vm h2).2⟩;show Zf (K9 P Ev x) _=_;rw [k1,Zo];exact h3 k2 _
theorem so (s d:TypeId) (x:Operand):J2 P C tc ec Zs res ops Zh base T ⟨dst,.convert s d x,ty,pos,after,guard⟩:=by
 intro vs β k ρ h hl;obtain ⟨a,rfl⟩:∃ a,vs=[a]:=List.length_eq_one_iff.1 hl;obtain ⟨i1,h1,hA⟩:=Zj (show Zf (Y7 P s) (λ_=>Zf (Y7 P d) λi=>Zf (intOf i.desc) λq=>Za (b1 (Ki q) a) λv=>k v T)=some ρ from h);obtain ⟨i2,h2,hB⟩:=Zj hA;obtain ⟨q,h3,hC⟩:=Zj hB;obtain ⟨v,h4,h5⟩:=Z5 hC;obtain ⟨a',u,rfl,h6,rfl⟩:=Zp4 h4;refine ⟨.v u,T,h5,λ{F lo H r Oh os Ev ys} hG hV he hb=>?_⟩;obtain ⟨y1,_,o,rfl,k1,k2,_,_,k3,he⟩:=VM.Mp hV he;obtain ⟨rfl,_⟩:=V0 k2
 have hs:Pb u=true:=by
  unfold Ki at h6;split at h6 <;> cases h6
  rfl
 refine ⟨u,H,λk'=>?_,.flat hG (Vm hs).1 (Vm hs).2⟩;show Zf (K9 P Ev x) _=_;rw [k1,Zo,h1,Zo,h2,Zo,h3,Zo,h6];rfl
theorem zp {E:Env}:∀ {xs zs:List Operand} {ys:List Value},Kz P E (xs++zs)=some ys->∃ a b,ys=a++b/\Kz P E xs=some a/\Kz P E zs=some b/\a.length=xs.length
 |[],zs,ys,h=>⟨[],ys,rfl,rfl,h,rfl⟩
 |x::xs,zs,ys,h=>by
  obtain ⟨y,l,rfl,h1,h2⟩:=Ky (xs:=xs++zs) h;obtain ⟨a,b,rfl,h3,h4,h5⟩:=zp h2;exact ⟨y::a,b,rfl,Zr3 h1 h3,h4,by simp [h5]⟩
theorem pk (fn:Fn) (first captured:Array Operand):J2 P C tc ec Zs res ops Zh base T ⟨dst,.makeFunc fn first captured,ty,pos,after,guard⟩:=by
 intro vs β k ρ h hl;obtain ⟨h0,h⟩:=Zt (show Zp (Z2 pass vs) (k (.fn fn (X7 vs first.size) (La vs first.size)) T)=some ρ from h)
 rw [Ye,List.all_eq_true] at h0;rw [Yh,Jq] at h;refine ⟨_,T,h,λ{F lo H r Oh os Ev ys} hG hV he hb=>?_⟩;have e1:Qw P C Zs res ops ⟨dst,.makeFunc fn first captured,ty,pos,after,guard⟩=(first.toList++captured.toList).map λx=>(.settle,x):=rfl
 rw [e1,map_fst,Ml rfl] at hV;rw [e1,map_snd,List.map_id'] at he;obtain ⟨q1,q2⟩:=VM.pass hV (λm hm=>by obtain ⟨_,_,rfl⟩:=List.mem_map.1 hm;trivial) h0
 obtain ⟨a,b,rfl,k1,k2,k3⟩:=zp he;have hlen:=q1.length;have hfs:first.size<=vs.length:=by rw [hlen,List.length_append,k3];simp
 rw [<- List.take_append_drop first.size vs] at q1
 obtain ⟨a',b',o1,o2,e2,e3,q3,q4⟩:=q1.split
 have hoo:o1=[]/\o2=[]:=by
  have:=congrArg List.length e3;simp at this;exact ⟨List.length_eq_zero_iff.1 (by omega),List.length_eq_zero_iff.1 (by omega)⟩
 obtain ⟨rfl,rfl⟩:=hoo;have hl1:a'.length=first.size:=by rw [<- q3.length,List.length_take];omega
 have ld:a.length=first.size:=by simpa using k3
 have hab:a=a'/\b=b':=List.append_inj e2 (by omega)
 obtain ⟨rfl,rfl⟩:=hab;refine ⟨.func fn ⟨a⟩ ⟨b⟩,H,λk'=>?_,.Zs (o:=[]) hG (.fn q3 q4) (.inl (.fn (Gq.of λx hx=>q2.mem x (List.mem_of_mem_take hx)) (Gq.of λx hx=>q2.mem x (List.mem_of_mem_drop hx)))) λj=>by simp⟩
 show Zf (Kz P Ev first.toList) _=_
 rw [k1,Zo,k2];rfl
theorem sm (t:TypeId) (x:Option Operand):J2 P C tc ec Zs res ops Zh base T ⟨dst,.makeMap t x,ty,pos,after,guard⟩:=by
 intro vs β k ρ h hl
 have ae:∀ {F:Nat->Prop} {lo:Nat} {H:AH} {r Oh os:List Nat},Good C F lo Zh H r T Oh os->base<=T.length->Ux C F lo Zh base (Vu P C Zs res ops ⟨dst,.makeMap t x,ty,pos,after,guard⟩) H r T Oh os (.map (Zb T)) (Zv T (.map [])) (.map (some H.next)) (H.push (.map [] 0)):=by
  intro F lo H r Oh os hG hb;rw [Zz];exact Ux.box (w:=[]) hG hb (λi=>by simp) (λS r' st _=>.map (by rw [AH.Yq,if_pos rfl]) .nil) (λS r' hr=>.map hr) (.inl (.map _))
 cases x with
 |none=>
  refine ⟨_,_,(show k (.map (Zb T)) (Zv T (.map []))=some ρ from h),λ{F lo H r Oh os Ev ys} hG hV he hb=>⟨.map (some H.next),H.push (.map [] 0),λk'=>rfl,ae hG hb⟩⟩
 |some x=>
  obtain ⟨a,rfl⟩:∃ a,vs=[a]:=List.length_eq_one_iff.1 hl;obtain ⟨i1,h1,hA⟩:=Zj (show Zf (Y7 P t) (λi=>Zf (mapOf i.desc) λ_=>Zf (se a) λa=>Za (Aq a) λ_=>k (.map (Zb T)) (Zv T (.map [])))=some ρ from h);obtain ⟨i2,h2,hB⟩:=Zj hA;obtain ⟨a',h3,hC⟩:=Zj hB;obtain ⟨p,h4,h5⟩:=Z5 hC;refine ⟨_,_,h5,λ{F lo H r Oh os Ev ys} hG hV he hb=>⟨.map (some H.next),H.push (.map [] 0),λk'=>?_,ae hG hb⟩⟩
  obtain ⟨y1,_,o,rfl,k1,k2,_,_,k3,he⟩:=VM.Mp hV he;have:=Cr h3 k2;subst this;show Zf (K9 P Ev x) _=_;rw [k1,Zo,h1,Zo,h2,Zo,h4];rfl
theorem uc (t:TypeId) (l c:Operand):J2 P C tc ec Zs res ops Zh base T ⟨dst,.makeSlice t l c,ty,pos,after,guard⟩:=by
 intro vs β k ρ h hl;obtain ⟨va,vx,rfl⟩:∃ a b,vs=[a,b]:=Ej hl;obtain ⟨v,T',h1,h2⟩:=Zjc (Zh:=Zh) (base:=base) (show Zns P T t va vx k=some ρ from h);refine ⟨v,T',h1,λ{F lo H r Oh os Ev ys} hG hV he hb=>?_⟩;obtain ⟨y1,_,o,rfl,k1,k2,_,_,k3,he⟩:=VM.Mp hV he;obtain ⟨y2,_,o2,rfl,k4,k5,_,_,k6,he⟩:=VM.Mp k3 he;obtain ⟨v',H',q1,q2⟩:=h2 hG k2 k5 hb;refine ⟨v',H',λk'=>?_,q2⟩;show Zf (K9 P Ev l) _=_;rw [k1,Zo,k4,Zo];exact q1 k'
theorem VM.opt {H:AH} {S:Nat->Prop} {r:List Nat} {E:Env} {b:Option Operand} {l:List (Md×Operand)} {vs:List TV} {p:Option TV×List TV} {ys:List Value} {os:List Nat} (h:VM false H S r ((Gd b++l).map (·.1)) vs ys os) (he:Kz P E ((Gd b++l).map (·.2))=some ys) (hp:ka b vs=some p) :
  ∃ b' Bp,Dd P E b=some b'/\BR H S r p.1 b'/\VM false H S r (l.map (·.1)) p.2 Bp os/\Kz P E (l.map (·.2))=some Bp:=by
 cases b with
 |none=>cases hp;exact ⟨none,ys,rfl,.Zqb,h,he⟩
 |some o=>
  cases vs with
  |nil=>cases hp
  |cons v vs=>
   cases hp;obtain ⟨y,Bp,o',rfl,k1,k2,_,_,k3,k4⟩:=VM.Mp (ms:=l.map (·.1)) (xs:=l.map (·.2)) h he;refine ⟨some y,Bp,?_,.given k2,k3,k4⟩;show Zf (K9 P E o) _=_;rw [k1];rfl
theorem C0 (b:Option Operand) (l:List (Md×Operand)):Kk (λp:Md×Operand=>Xy p.1) (Gd b++l)=Kk (λp:Md×Operand=>Xy p.1) l:=by cases b <;> rfl
theorem Zie (t:TypeId) (x:Operand) (ui an tg:Option Operand):J2 P C tc ec Zs res ops Zh base T ⟨dst,.slice t x ui an tg,ty,pos,after,guard⟩:=by
 intro vs β k ρ h hl;obtain ⟨md,hmd⟩:∃ md:Md,md=(match (generalizing:=false) dst with |some d=>cond (Zs.contains d) .settle .raw |none=>.raw):=⟨_,rfl⟩
 have hmd2:md=.settle\/md=.raw:=by
  rw [hmd];clear hmd;cases dst with
  |none=>exact .inr rfl
  |some d=>
   show cond (Zs.contains d) Md.settle .raw=.settle\/cond (Zs.contains d) Md.settle .raw=.raw;cases Zs.contains d with
   |true=>exact .inl rfl
   |false=>exact .inr rfl
 have e1:Qw P C Zs res ops ⟨dst,.slice t x ui an tg,ty,pos,after,guard⟩=(md,x)::(Gd ui++(Gd an++(Gd tg++[]))):=by rw [hmd,List.append_nil];rfl
 cases vs with
 |nil=>rw [e1] at hl;cases hl
 |cons a vs=>
  obtain ⟨p,h1,hA⟩:=Zj (show Zf (ka ui vs) (λp=>Zf (ka an p.2) λq=>Zf (ka tg q.2) λr=>Zl3 P t a p.1 q.1 r.1 λv=>k v T)=some ρ from h);obtain ⟨q,h2,hB⟩:=Zj hA;obtain ⟨s,h3,hC⟩:=Zj hB;obtain ⟨i,h4,hD⟩:=Zj (show Zf (Y7 P t) _=some ρ from hC)
  have reads:∀ {F:Nat->Prop} {lo:Nat} {H:AH} {r Oh os:List Nat} {Ev:Env} {ys:List Value},Good C F lo Zh H r T Oh os ->
    VM (Kk (λp:Md×Operand=>Xy p.1) (Qw P C Zs res ops ⟨dst,.slice t x ui an tg,ty,pos,after,guard⟩)) H (Ya F r Oh os) r ((Qw P C Zs res ops ⟨dst,.slice t x ui an tg,ty,pos,after,guard⟩).map (·.1)) (a::vs) ys os ->
    Kz P Ev ((Qw P C Zs res ops ⟨dst,.slice t x ui an tg,ty,pos,after,guard⟩).map (·.2))=some ys ->
    ∃ y o Dv Mh Ma,K9 P Ev x=some y/\VR H (Ya F r Oh os) r a y o/\(∀ j∈o,j ∉ r)/\Dd P Ev ui=some Dv/\Dd P Ev an=some Mh/\Dd P Ev tg=some Ma/\BR H (Ya F r Oh os) r p.1 Dv/\BR H (Ya F r Oh os) r q.1 Mh/\BR H (Ya F r Oh os) r s.1 Ma:=by
   intro F lo H r Oh os Ev ys hG hV he
   have e2:Kk (λp:Md×Operand=>Xy p.1) ((md,x)::(Gd ui++(Gd an++(Gd tg++[]))))=false:=by
    show cond (Xy md) true (Kk (λp:Md×Operand=>Xy p.1) (Gd ui++(Gd an++(Gd tg++[]))))=false;rw [C0,C0,C0];rcases hmd2 with rfl |rfl <;> rfl
   rw [e1] at hV he;rw [e2] at hV;obtain ⟨_,_,y,Bp,ox,os',q0,rfl,rfl,q1,q2,q3⟩:=VM.cons_inv (ms:=(Gd ui++(Gd an++(Gd tg++[]))).map λ(p:Md×Operand)=>p.1) hV;cases q0;obtain ⟨_,_,e3,k1,he⟩:=Ky (xs:=(Gd ui++(Gd an++(Gd tg++[]))).map λ(p:Md×Operand)=>p.2) he;cases e3;obtain ⟨Dv,ys1,r1,r2,r3,r4⟩:=VM.opt q3 he h1;obtain ⟨Mh,ys2,r5,r6,r7,r8⟩:=VM.opt r3 r4 h2;obtain ⟨Ma,ys3,r9,r10,_,_⟩:=VM.opt r7 r8 h3
   have hx:∃ o,VR H (Ya F r Oh (ox++os')) r a y o/\∀ j∈o,j ∉ r:=by
    rcases hmd2 with e |e
    ·rw [e] at q1;exact ⟨[],q1.2,λj hj=>by cases hj⟩
    ·rw [e] at q1;obtain ⟨_,o,q4,q5⟩:=q1;exact ⟨o,q4,q5 rfl⟩
   obtain ⟨o,q4,q5⟩:=hx;exact ⟨y,o,Dv,Mh,Ma,k1,q4,q5,r1,r5,r9,r2,r6,r10⟩
  have fin:∀ {v:TV} {ev:Value->Option Value->Option Value->Option Value->Option Value},k v T=some ρ->(∀ {H:AH} {S:Nat->Prop} {r:List Nat} {y:Value} {o:List Nat} {Dv Mh Ma:Option Value},VR H S r a y o->(∀ j∈o,j ∉ r)->BR H S r p.1 Dv->BR H S r q.1 Mh->BR H S r s.1 Ma->∃ y',ev y Dv Mh Ma=some y'/\VR H S r v y' []/\OV v) ->
    (∀ (E:Env) (y:Value) (Dv Mh Ma:Option Value),Dd P E ui=some Dv->Dd P E an=some Mh->Dd P E tg=some Ma->∀ {γ:Type} (k':Value->Option γ),F5 P E t y ui an tg k'=Za (ev y Dv Mh Ma) k') ->
    ∃ v T',k v T'=some ρ/\∀ {F:Nat->Prop} {lo:Nat} {H:AH} {r Oh os:List Nat} {Ev:Env} {ys:List Value},Good C F lo Zh H r T Oh os ->
     VM (Kk (λp:Md×Operand=>Xy p.1) (Qw P C Zs res ops ⟨dst,.slice t x ui an tg,ty,pos,after,guard⟩)) H (Ya F r Oh os) r ((Qw P C Zs res ops ⟨dst,.slice t x ui an tg,ty,pos,after,guard⟩).map (·.1)) (a::vs) ys os ->
     Kz P Ev ((Qw P C Zs res ops ⟨dst,.slice t x ui an tg,ty,pos,after,guard⟩).map (·.2))=some ys->base<=T.length ->
     ∃ v' H',(∀ {γ:Type} (k':Value->AH->Option γ),Uu P ec lo Ev H (.slice t x ui an tg) k'=k' v' H')/\Ux C F lo Zh base (Vu P C Zs res ops ⟨dst,.slice t x ui an tg,ty,pos,after,guard⟩) H r T Oh os v T' v' H':=by
   intro v ev hk Ze0 hop;refine ⟨v,T,hk,λ{F lo H r Oh os Ev ys} hG hV he hb=>?_⟩;obtain ⟨y,o,Dv,Mh,Ma,q1,q2,q3,q4,q5,q6,q7,q8,q9⟩:=reads hG hV he;obtain ⟨y',u1,u2,u3⟩:=Ze0 q2 q3 q7 q8 q9;refine ⟨y',H,λk'=>?_,.Zs hG u2 u3 λj=>by simp⟩
   show Zf (K9 P Ev x) _=_;rw [q1,Zo,hop Ev y Dv Mh Ma q4 q5 q6,u1];rfl
  split at hD
  ·rename_i len e hd;obtain ⟨j,h5,hE⟩:=Zj hD;obtain ⟨v,h6,h7⟩:=Z5 hE;refine fin (ev:=λy lo hi mx=>Py j.size len y lo hi mx) h7 (λhx _ hl hh hm=>Zcp h6 hx hl hh hm) λE y Dv Mh Ma b1 b2 b3 γ k'=>?_;show Zf (Dd P E ui) _=_;rw [b1,Zo,b2,Zo,b3,Zo,h4,Zo,hd];show Zf (Y7 P e) _=_;rw [h5];rfl
  ·rename_i e hd;obtain ⟨j,h5,hE⟩:=Zj hD;obtain ⟨v,h6,h7⟩:=Z5 hE;refine fin (ev:=λy lo hi mx=>mr j.size y lo hi mx) h7 (λhx ho hl hh hm=>Zpq h6 hx ho hl hh hm) λE y Dv Mh Ma b1 b2 b3 γ k'=>?_;show Zf (Dd P E ui) _=_;rw [b1,Zo,b2,Zo,b3,Zo,h4,Zo,hd];show Zf (Y7 P e) _=_;rw [h5];rfl
  ·cases hD
theorem ue (t:TypeId) (x:Operand) (f:Nat):J2 P C tc ec Zs res ops Zh base T ⟨dst,.fieldAddr t x f,ty,pos,after,guard⟩:=by
 intro vs β k ρ h hl;obtain ⟨a,rfl⟩:∃ a,vs=[a]:=List.length_eq_one_iff.1 hl;obtain ⟨i,h1,hA⟩:=Zj (show Zf (Y7 P t) (λi=>Zf (structOf i.desc) λfs=>Zf (Jb P fs f) λp=>cond (Nat.beq p.2 0) none (Za (Zw a p.1) λv=>k v T))=some ρ from h);obtain ⟨fs,h2,hB⟩:=Zj hA;obtain ⟨p,h3,hC⟩:=Zj hB;cases hz:Nat.beq p.2 0 with
 |true=>rw [hz] at hC;cases hC
 |false=>
  rw [hz] at hC;obtain ⟨v,h4,h5⟩:=Z5 (show Za (Zw a p.1) (λv=>k v T)=some ρ from hC);refine ⟨v,T,h5,λ{F lo H r Oh os Ev ys} hG hV he hb=>?_⟩;obtain ⟨y,_,o,rfl,k1,k2,_,_,k3,_⟩:=VM.Mp hV he;obtain ⟨y',q1,q2,q3,_⟩:=ym h4 k2;refine ⟨y',H,λk'=>?_,.Zs hG q2 q3 λj=>by simp⟩
  show Zf (K9 P Ev x) _=_;rw [k1,Zo];show Zf (Y7 P t) _=_;rw [h1,Zo,h2,Zo,h3,Zo,hz,q1];rfl
theorem Zii (t:TypeId) (x:Operand) (f:Nat):J2 P C tc ec Zs res ops Zh base T ⟨dst,.field t x f,ty,pos,after,guard⟩:=by
 intro vs β k ρ h hl;obtain ⟨a,rfl⟩:∃ a,vs=[a]:=List.length_eq_one_iff.1 hl;obtain ⟨i,h1,hA⟩:=Zj (show Zf (Y7 P t) (λi=>Zf (structOf i.desc) λfs=>Zf (nth fs f) λfd=>Zf (Y7 P fd.type) λj=>Za (yv j.agg j.size a fd.offset) λv=>k v T)=some ρ from h);obtain ⟨fs,h2,hB⟩:=Zj hA;obtain ⟨fd,h3,hC⟩:=Zj hB;obtain ⟨j,h4,hD⟩:=Zj hC;obtain ⟨v,h5,h6⟩:=Z5 hD;refine ⟨v,T,h6,λ{F lo H r Oh os Ev ys} hG hV he hb=>?_⟩;obtain ⟨_,_,y,_,ox,_,e1,rfl,rfl,q1,q2,q3⟩:=VM.cons_inv (w:=false) (m:=.settle) (ms:=[]) hV;obtain ⟨rfl,rfl,rfl⟩:=q3.Uf;cases e1;obtain ⟨_,_,e2,k1,_⟩:=Ky (x:=x) (xs:=[]) he;cases e2;have hox:VR H (Ya F r Oh (ox++[])) r a y []:=q1.2;obtain ⟨y',u1,u2,u3⟩:=dm h5 hox q2;refine ⟨y',H,λk'=>?_,.Zs hG u2 u3 λj=>by simp⟩
 show Zf (K9 P Ev x) _=_;rw [k1,Zo];show Zf (Y7 P t) _=_;rw [h1,Zo,h2,Zo,h3,Zo,h4,Zo,u1];rfl
end
end Go.Ev
namespace Go.Ev
section
variable {P:Program} {C:TC} {tc:Z3} {ec:Jh} {Zs res:List Tmp} {ops:List Oper} {Zh base:Nat} {T:TH}
variable {dst:Option Tmp} {ty:TypeId} {pos:String} {after:Array Edge} {guard:Option (Nat×Bool)}
theorem VM.xi {H:AH} {S:Nat->Prop} {r:List Nat} {E:Env} {x:Operand} {ms:List Md} {xs:List Operand} {a:TV} {vs:List TV} {ys:List Value} {os:List Nat} (h:VM false H S r (.settle::ms) (a::vs) ys os) (he:Kz P E (x::xs)=some ys) :
  ∃ y Bp,ys=y::Bp/\K9 P E x=some y/\VR H S r a y []/\OV a/\VM false H S r ms vs Bp os/\Kz P E xs=some Bp:=by
 obtain ⟨_,_,y,Bp,ox,_,e1,rfl,rfl,h1,h2,h3⟩:=VM.cons_inv h;cases e1;obtain ⟨rfl,h4⟩:=h1;obtain ⟨_,_,e2,k1,k2⟩:=Ky he;cases e2;exact ⟨y,Bp,rfl,k1,h4,h2,h3,k2⟩
theorem ud (t:TypeId) (x ix:Operand):J2 P C tc ec Zs res ops Zh base T ⟨dst,.indexAddr t x ix,ty,pos,after,guard⟩:=by
 intro vs β k ρ h hl;obtain ⟨va,vx,rfl⟩:=Ej hl;obtain ⟨md,hmd⟩:∃ md:Md,md=cond (match (generalizing:=false) dst with |some d=>En ops 4 d |none=>false) (.W8 (Yn P t).1 (Yn P t).2) .raw:=⟨_,rfl⟩
 have hmd2:md=.W8 (Yn P t).1 (Yn P t).2\/md=.raw:=by
  rw [hmd];cases (match (generalizing:=false) dst with |some d=>En ops 4 d |none=>false) with
  |true=>exact .inl rfl
  |false=>exact .inr rfl
 have e1:Qw P C Zs res ops ⟨dst,.indexAddr t x ix,ty,pos,after,guard⟩=[(md,x),(.raw,ix)]:=by rw [hmd];rfl
 obtain ⟨i,h4,hD⟩:=Zj (show Zf (Y7 P t) (λi=>match i.desc with |.array len e=>Zf (Y7 P e) λj=>Za (Qt len j.size va vx) λv=>k v T |.slice e=>Zf (Y7 P e) λj=>Za (Qh j.size va vx) λv=>k v T |_=>none)=some ρ from h)
 have reads:∀ {F:Nat->Prop} {lo:Nat} {H:AH} {r Oh os:List Nat} {Ev:Env} {ys:List Value},Good C F lo Zh H r T Oh os ->
   VM (Kk (λp:Md×Operand=>Xy p.1) (Qw P C Zs res ops ⟨dst,.indexAddr t x ix,ty,pos,after,guard⟩)) H (Ya F r Oh os) r ((Qw P C Zs res ops ⟨dst,.indexAddr t x ix,ty,pos,after,guard⟩).map (·.1)) [va,vx] ys os ->
   Kz P Ev ((Qw P C Zs res ops ⟨dst,.indexAddr t x ix,ty,pos,after,guard⟩).map (·.2))=some ys ->
   ∃ y iy o o',K9 P Ev x=some y/\K9 P Ev ix=some iy/\VR H (Ya F r Oh os) r va y o/\(∀ j∈o,j ∉ r)/\VR H (Ya F r Oh os) r vx iy o':=by
  intro F lo H r Oh os Ev ys hG hV he;rw [e1] at hV he;obtain ⟨_,_,y,Bp,ox,os',q0,rfl,rfl,q1,q2,q3⟩:=VM.cons_inv (ms:=[.raw]) hV;cases q0;obtain ⟨_,_,e3,k1,he⟩:=Ky (x:=x) (xs:=[ix]) he;cases e3;obtain ⟨_,_,iy,_,oy,_,q0,rfl,rfl,q4,q5,q6⟩:=VM.cons_inv q3;obtain ⟨rfl,rfl,rfl⟩:=q6.Uf;cases q0;obtain ⟨_,_,e3,k2,he⟩:=Ky he;cases e3;obtain ⟨rfl,o',q7,_⟩:=q4
  have num:∃ a,vx=.v a:=by
   split at hD
   ·obtain ⟨j,h5,hE⟩:=Zj hD;obtain ⟨v,h6,h7⟩:=Z5 hE;obtain ⟨n,h8,_⟩:=Zj h6;obtain ⟨a,rfl,_⟩:=De h8;exact ⟨a,rfl⟩
   ·obtain ⟨j,h5,hE⟩:=Zj hD;obtain ⟨v,h6,h7⟩:=Z5 hE;obtain ⟨n,h8,_⟩:=Zj h6;obtain ⟨a,rfl,_⟩:=De h8;exact ⟨a,rfl⟩
   ·cases hD
  obtain ⟨a,rfl⟩:=num;rw [wv_v] at q7;rcases hmd2 with e |e
  ·rw [e] at q1;obtain ⟨q8,q9⟩:=q1;refine ⟨y,iy,ox,o',k1,k2,q8,λj hj hr=>?_,q7⟩;have:=(hG.Eb hr).2.2.2.2;rw [List.count_append] at this;have:=Z8.2 hj;omega
  ·rw [e] at q1;obtain ⟨_,o,q8,q9⟩:=q1;exact ⟨y,iy,o,o',k1,k2,q8,q9 rfl,q7⟩
 split at hD
 ·rename_i len e hd;obtain ⟨j,h5,hE⟩:=Zj hD;obtain ⟨v,h6,h7⟩:=Z5 hE;refine ⟨v,T,h7,λ{F lo H r Oh os Ev ys} hG hV he hb=>?_⟩;obtain ⟨y,iy,o,o',q1,q2,q3,q4,q5⟩:=reads hG hV he;obtain ⟨y',u1,u2,u3⟩:=Zbn h6 q3 q5;refine ⟨y',H,λk'=>?_,.Zs hG u2 u3 λj=>by simp⟩
  show Zf (K9 P Ev x) _=_;rw [q1,Zo,q2,Zo];show Zf (Y7 P t) _=_;rw [h4,Zo,hd];show Zf (Y7 P e) _=_;rw [h5,Zo,u1];rfl
 ·rename_i e hd;obtain ⟨j,h5,hE⟩:=Zj hD;obtain ⟨v,h6,h7⟩:=Z5 hE;refine ⟨v,T,h7,λ{F lo H r Oh os Ev ys} hG hV he hb=>?_⟩;obtain ⟨y,iy,o,o',q1,q2,q3,q4,q5⟩:=reads hG hV he;obtain ⟨y',u1,u2,u3⟩:=Zeu h6 q3 q4 q5;refine ⟨y',H,λk'=>?_,.Zs hG u2 u3 λj=>by simp⟩
  show Zf (K9 P Ev x) _=_;rw [q1,Zo,q2,Zo];show Zf (Y7 P t) _=_;rw [h4,Zo,hd];show Zf (Y7 P e) _=_;rw [h5,Zo,u1];rfl
 ·cases hD
theorem Zih (t:TypeId) (x ix:Operand):J2 P C tc ec Zs res ops Zh base T ⟨dst,.index t x ix,ty,pos,after,guard⟩:=by
 intro vs β k ρ h hl;obtain ⟨va,vx,rfl⟩:=Ej hl;obtain ⟨i,h4,hD⟩:=Zj (show Zf (Y7 P t) (λi=>match i.desc with |.array len e=>Zf (Y7 P e) λj=>Za (ad j.agg len j.size va vx) λv=>k v T |.string=>Za (Oa va vx) λv=>k v T |_=>none)=some ρ from h)
 split at hD
 ·rename_i len e hd;obtain ⟨j,h5,hE⟩:=Zj hD;obtain ⟨v,h6,h7⟩:=Z5 hE;obtain ⟨n,h8,hF⟩:=Zj h6;obtain ⟨h9,h10⟩:=Zt hF;obtain ⟨a,rfl,ha⟩:=De h8;refine ⟨v,T,h7,λ{F lo H r Oh os Ev ys} hG hV he hb=>?_⟩;obtain ⟨y,_,rfl,k1,k2,k3,hV,he⟩:=VM.xi hV he;obtain ⟨iy,_,o,rfl,k4,k5,_,_,_,_⟩:=VM.Mp hV he;obtain ⟨rfl,_⟩:=V0 k5;obtain ⟨y',u1,u2,u3⟩:=dm h10 k2 k3;refine ⟨y',H,λk'=>?_,.Zs hG u2 u3 λj=>by simp⟩
  show Zf (K9 P Ev x) _=_;rw [k1,Zo,k4,Zo];show Zf (Y7 P t) _=_;rw [h4,Zo,hd];show Zf (Y7 P e) _=_;rw [h5,Zo];show Za (Zf (asNat _) _) _=_;rw [ha];show Za (Zp (Nat.blt n len) _) _=_;rw [h9];show Za (Fe j.agg j.size y (n * j.size)) _=_;rw [show Fe j.agg j.size y (n * j.size)=some y' from u1];rfl
 ·rename_i hd;obtain ⟨v,h6,h7⟩:=Z5 hD;obtain ⟨a,b,u,rfl,rfl,h8,rfl⟩:=Zfr h6;refine ⟨.v u,T,h7,λ{F lo H r Oh os Ev ys} hG hV he hb=>?_⟩;obtain ⟨y,_,rfl,k1,k2,k3,hV,he⟩:=VM.xi hV he;obtain ⟨iy,_,o,rfl,k4,k5,_,_,_,_⟩:=VM.Mp hV he;obtain ⟨rfl,_⟩:=V0 k2;obtain ⟨rfl,_⟩:=V0 k5
  have hs:Pb u=true:=by
   obtain ⟨n,_,hF⟩:=Zj (show Zf (asNat _) _=some u from h8);split at hF
   ·obtain ⟨b,_,h⟩:=Zj hF;cases h;rfl
   ·cases hF
  refine ⟨u,H,λk'=>?_,.flat hG (Vm hs).1 (Vm hs).2⟩;show Zf (K9 P Ev x) _=_;rw [k1,Zo,k4,Zo];show Zf (Y7 P t) _=_;rw [h4,Zo,hd];show Za (Na _ _) _=_;rw [h8];rfl
 ·cases hD
theorem Zdp (t:TypeId) (x key:Operand) (ok:Bool):J2 P C tc ec Zs res ops Zh base T ⟨dst,.lookup t x key ok,ty,pos,after,guard⟩:=by
 intro vs β k ρ h hl;obtain ⟨va,vx,rfl⟩:=Ej hl;obtain ⟨i,h1,hA⟩:=Zj (show dz P T t va vx ok (λv=>k v T)=some ρ from h);obtain ⟨p,h2,hB⟩:=Zj hA;obtain ⟨q,h3,hC⟩:=Zj hB;obtain ⟨j,h4,hD⟩:=Zj hC;obtain ⟨z,h5,hE⟩:=Zj hD;obtain ⟨v,h6,h7⟩:=Z5 hE;obtain ⟨z1,z2,z3⟩:=E4 h5;refine ⟨v,T,h7,λ{F lo H r Oh os Ev ys} hG hV he hb=>?_⟩;obtain ⟨y1,_,o,rfl,k1,k2,_,_,k3,he⟩:=VM.Mp hV he;obtain ⟨y2,_,o2,rfl,k4,k5,_,_,k6,he⟩:=VM.Mp k3 he;obtain ⟨v',u1,u2,u3⟩:=Za8 h6 z2 z3 hG k2 k5;refine ⟨v',H,λk'=>?_,.Zs hG u2 u3 λj=>by simp⟩
 show Zf (K9 P Ev x) _=_;rw [k1,Zo,k4,Zo];show Zf (Y7 P t) _=_;rw [h1,Zo,h2,Zo,h3,Zo,h4,Zo,z1,Zo,u1];rfl
theorem ub (t:TypeId) (m key x:Operand):J2 P C tc ec Zs res ops Zh base T ⟨dst,.mapUpdate t m key x,ty,pos,after,guard⟩:=by
 intro vs β k ρ h hl;have h:(match (generalizing:=false) vs with |[m,key,x]=>dw P Zh T t m key x λH=>k Zk H |_=>none)=some ρ:=h
 split at h
 ·rename_i vm vk vx;obtain ⟨i,h1,hA⟩:=Zj h;obtain ⟨p,h2,hB⟩:=Zj hA;obtain ⟨q,h3,hC⟩:=Zj hB;obtain ⟨T',h4,h5⟩:=Z5 hC;refine ⟨Zk,T',h5,λ{F lo H r Oh os Ev ys} hG hV he hb=>?_⟩;obtain ⟨y1,_,o,rfl,k1,k2,_,_,k3,he⟩:=VM.Mp hV he;obtain ⟨y2,_,o2,rfl,k4,k5,_,_,k6,he⟩:=VM.Mp k3 he;obtain ⟨y3,_,rfl,k7,k8,k9,_,_⟩:=VM.xi k6 he;obtain ⟨H',u1,u2⟩:=sc (base:=base) (ends:=Vu P C Zs res ops ⟨dst,.mapUpdate t m key x,ty,pos,after,guard⟩) h4 hG k2 k5 k8;refine ⟨undef,H',λk'=>?_,u2⟩;show Zf (K9 P Ev m) _=_;rw [k1,Zo,k4,Zo,k7,Zo];show Zf (Y7 P t) _=_;rw [h1,Zo,h2,Zo,h3,Zo,u1];rfl
 ·cases h
theorem sn (x:Operand) (i:Nat):J2 P C tc ec Zs res ops Zh base T ⟨dst,.extract x i,ty,pos,after,guard⟩:=by
 intro vs β k ρ h hl;obtain ⟨a,rfl⟩:∃ a,vs=[a]:=List.length_eq_one_iff.1 hl;refine ⟨a,T,h,λ{F lo H r Oh os Ev ys} hG hV he hb=>?_⟩;obtain ⟨_,_,y,_,ox,_,e1,rfl,rfl,q1,q2,q3⟩:=VM.cons_inv (w:=false) (m:=.comp i) (ms:=[]) hV;obtain ⟨rfl,rfl,rfl⟩:=q3.Uf;cases e1;obtain ⟨_,_,e2,k1,_⟩:=Ky (x:=x) (xs:=[]) he;cases e2;obtain ⟨ds,yz,rfl,q4,q5⟩:=q1;refine ⟨yz,H,λk'=>?_,.Zs hG q5 q2 (Nh _ _)⟩;show Zf (K9 P Ev x) _=_;rw [k1,Zo];show Za (nth ds.toList i) _=_;rw [Xq,q4];rfl
theorem Fu (t:TypeId) (x:Operand):J2 P C tc ec Zs res ops Zh base T ⟨dst,.makeInterface t x,ty,pos,after,guard⟩:=by
 intro vs β k ρ h hl;obtain ⟨a,rfl⟩:∃ a,vs=[a]:=List.length_eq_one_iff.1 hl;obtain ⟨i,h1,hA⟩:=Zj (show Zf (Y7 P t) (λi=>Zp (L9 i.desc) (Zp (closed a) (k (.iface t a) T)))=some ρ from h);obtain ⟨h2,hB⟩:=Zt hA;obtain ⟨h3,h4⟩:=Zt hB;refine ⟨_,T,h4,λ{F lo H r Oh os Ev ys} hG hV he hb=>?_⟩;obtain ⟨y,_,rfl,k1,k2,k3,_,_⟩:=VM.xi (x:=x) (xs:=[]) hV he;obtain ⟨q1,_⟩:=S3 h3 k2;refine ⟨.iface t y,H,λk'=>?_,.Zs (o:=[]) hG (.k (.iface q1)) (.inl (.iface _ _)) λj=>by simp⟩
 show Zf (K9 P Ev x) _=_;rw [k1,Zo,h1,Zo,h2];rfl
theorem yk (x:Operand) (t a:TypeId) (ok:Bool):J2 P C tc ec Zs res ops Zh base T ⟨dst,.typeAssert x t a ok,ty,pos,after,guard⟩:=by
 intro vs β k ρ h hl;obtain ⟨b,rfl⟩:∃ a,vs=[a]:=List.length_eq_one_iff.1 hl;obtain ⟨i,h1,hA⟩:=Zj (show Zf (Y7 P a) (λi=>Zp (L9 i.desc) (Zf (Ts i) λz=>Za (Zhr a (Mq z) b ok) λv=>k v T))=some ρ from h);obtain ⟨h2,hB⟩:=Zt hA;obtain ⟨z,h3,hC⟩:=Zj hB;obtain ⟨v,h4,h5⟩:=Z5 hC;obtain ⟨z1,z2,z3⟩:=E4 h3;refine ⟨v,T,h5,λ{F lo H r Oh os Ev ys} hG hV he hb=>?_⟩;obtain ⟨y,_,o,rfl,k1,k2,_,_,_,_⟩:=VM.Mp hV he
 have key:∃ v',Nc a z y ok=some v'/\VR H (Ya F r Oh os) r v v' []/\OV v:=by
  obtain ⟨zk,_⟩:=Zd9 (H:=H) (S:=Ya F r Oh os) z2 z3;have zn:=Zbc zk
  have zero:VR H (Ya F r Oh os) r (.Xh [Mq z,.v (.bool false)]) (.tuple #[z,.bool false]) []/\OV (.Xh [Mq z,.v (.bool false)]):=by
   have:=F8 (r:=r) (ok:=true) (is:=false) zk zn.1 zn.2;exact this
  cases b with
  |v c=>
   obtain ⟨rfl,_⟩:=V0 k2;cases y with
   |nilIface=>
    cases ok with
    |true=>cases h4;exact ⟨_,rfl,zero⟩
    |false=>cases h4
   |_=>cases h4
  |iface t' z'=>
   have h4:cond (Nat.beq t' a) (some (okT ok z' true)) (cond ok (some (.Xh [Mq z,.v (.bool false)])) none)=some v:=h4;obtain ⟨w,rfl,q1,_⟩:=Lt k2;have qn:=Zbc q1;cases w7:Nat.beq t' a with
   |true=>
    rw [w7] at h4;cases h4;refine ⟨_,?_,F8 q1 qn.1 qn.2⟩;show cond (Nat.beq t' a) _ _=_;rw [w7];rfl
   |false=>
    rw [w7] at h4;cases ok with
    |true=>
     cases h4;refine ⟨_,?_,zero⟩;show cond (Nat.beq t' a) _ _=_;rw [w7];rfl
    |false=>cases h4
  |_=>cases h4
 obtain ⟨v',u1,u2,u3⟩:=key;refine ⟨v',H,λk'=>?_,.Zs hG u2 u3 λj=>by simp⟩
 show Zf (K9 P Ev x) _=_;rw [k1,Zo,h1,Zo,h2,Yw,z1,Zo,u1];rfl
theorem Zds (args:Array Operand) (ts:Array TypeId):J2 P C tc ec Zs res ops Zh base T ⟨dst,.call ⟨.builtin .append,args,ts⟩,ty,pos,after,guard⟩:=by
 intro vs β k ρ h hl
 have jl:∃ st xt s x,ts.toList=[st,xt]/\vs=[s,x]/\ee P Zh T st xt s x k=some ρ:=by
  have h:Nl P Zh T .append ts.toList vs k=some ρ:=h;cases h1:ts.toList with
  |nil=>rw [h1] at h;cases h
  |cons st l=>cases l with
   |nil=>rw [h1] at h;cases h
   |cons xt l=>cases l with
    |cons=>rw [h1] at h;cases h
    |nil=>
     rw [h1] at h;cases vs with
     |nil=>cases h
     |cons s l=>cases l with
      |nil=>cases h
      |cons x l=>cases l with
       |cons=>cases h
       |nil=>exact ⟨st,xt,s,x,rfl,rfl,h⟩
 obtain ⟨st,xt,s,x,fx,rfl,hq⟩:=jl;have e1:Qw P C Zs res ops ⟨dst,.call ⟨.builtin .append,args,ts⟩,ty,pos,after,guard⟩=(match (generalizing:=false) args.toList with |s::xs=>(.take,s)::xs.map λx=>(.raw,x) |[]=>[]):=rfl
 obtain ⟨e,h1,hA⟩:=Zj hq;obtain ⟨i,h2,hB⟩:=Zj hA;obtain ⟨z,h3,hC⟩:=Zj hB;obtain ⟨j,h4,hD⟩:=Zj hC;obtain ⟨h5,hE⟩:=Zt hD;obtain ⟨z1,z2,z3⟩:=E4 h3
 have hargs:∃ a b,args.toList=[a,b]:=by
  rw [e1] at hl;cases ha:args.toList with
  |nil=>rw [ha] at hl;cases hl
  |cons a l=>
   rw [ha] at hl;cases l with
   |nil=>cases hl
   |cons b l=>cases l with
    |nil=>exact ⟨a,b,rfl⟩
    |cons=>cases hl
 obtain ⟨a,b,hab⟩:=hargs;rw [hab] at e1
 have jo:Vu P C Zs res ops ⟨dst,.call ⟨.builtin .append,args,ts⟩,ty,pos,after,guard⟩=true:=by
  unfold Vu;rw [e1];rfl
 have reads:∀ {F:Nat->Prop} {lo:Nat} {H:AH} {r Oh os:List Nat} {Ev:Env} {ys:List Value},Good C F lo Zh H r T Oh os ->
   VM (Kk (λp:Md×Operand=>Xy p.1) (Qw P C Zs res ops ⟨dst,.call ⟨.builtin .append,args,ts⟩,ty,pos,after,guard⟩)) H (Ya F r Oh os) r ((Qw P C Zs res ops ⟨dst,.call ⟨.builtin .append,args,ts⟩,ty,pos,after,guard⟩).map (·.1)) [s,x] ys os ->
   Kz P Ev ((Qw P C Zs res ops ⟨dst,.call ⟨.builtin .append,args,ts⟩,ty,pos,after,guard⟩).map (·.2))=some ys ->
   ∃ s' x' o o',ys=[s',x']/\Kz P Ev args.toList=some [s',x']/\VR H (Ya F r Oh os) r s s' o/\OV s/\(∀ j,o.count j<=os.count j)/\VR H (Ya F r Oh os) r x x' o':=by
  intro F lo H r Oh os Ev ys hG hV he;rw [e1] at hV he;obtain ⟨_,_,y,Bp,ox,os',q0,rfl,rfl,q1,q2,q3⟩:=VM.cons_inv (w:=false) (m:=.take) (ms:=[.raw]) hV;cases q0;have he0:=he;obtain ⟨_,_,e3,k1,he⟩:=Ky (x:=a) (xs:=[b]) he;cases e3;obtain ⟨y2,_,o2,rfl,k4,k5,_,_,k6,he⟩:=VM.Mp q3 he;obtain ⟨_,rfl,_⟩:=k6.Uf;exact ⟨y,y2,ox,o2,rfl,by rw [hab];exact he0,q1,q2,Nh _ _,k5⟩
 rw [K4] at h5;have h5':=Qb h5
 have fin:∀ {v:TV} {T':TH} {ev:Nat->AH->Value->Value->Option (Value×AH)},k v T'=some ρ->(∀ {F:Nat->Prop} {lo:Nat} {H:AH} {r Oh os:List Nat} {s' x':Value} {o o':List Nat},Good C F lo Zh H r T Oh os->VR H (Ya F r Oh os) r s s' o->VR H (Ya F r Oh os) r x x' o'->OV s->(∀ j,o.count j<=os.count j)->base<=T.length ->
   ∃ v' H',ev lo H s' x'=some (v',H')/\Ux C F lo Zh base true H r T Oh os v T' v' H') ->
   (∀ (lo:Nat) (H:AH) (s' x':Value) {γ:Type} (k':Value->AH->Option γ),L8 P lo H st xt s' x' k'=Gm (ev lo H s' x') k') ->
   ∃ v T',k v T'=some ρ/\∀ {F:Nat->Prop} {lo:Nat} {H:AH} {r Oh os:List Nat} {Ev:Env} {ys:List Value},Good C F lo Zh H r T Oh os ->
    VM (Kk (λp:Md×Operand=>Xy p.1) (Qw P C Zs res ops ⟨dst,.call ⟨.builtin .append,args,ts⟩,ty,pos,after,guard⟩)) H (Ya F r Oh os) r ((Qw P C Zs res ops ⟨dst,.call ⟨.builtin .append,args,ts⟩,ty,pos,after,guard⟩).map (·.1)) [s,x] ys os ->
    Kz P Ev ((Qw P C Zs res ops ⟨dst,.call ⟨.builtin .append,args,ts⟩,ty,pos,after,guard⟩).map (·.2))=some ys->base<=T.length ->
    ∃ v' H',(∀ {γ:Type} (k':Value->AH->Option γ),Uu P ec lo Ev H (.call ⟨.builtin .append,args,ts⟩) k'=k' v' H')/\Ux C F lo Zh base (Vu P C Zs res ops ⟨dst,.call ⟨.builtin .append,args,ts⟩,ty,pos,after,guard⟩) H r T Oh os v T' v' H':=by
  intro v T' ev hk Rt hop;refine ⟨v,T',hk,λ{F lo H r Oh os Ev ys} hG hV he hb=>?_⟩;obtain ⟨s',x',o,o',rfl,q1,q2,q3,q4,q5⟩:=reads hG hV he;obtain ⟨v',H',u1,u2⟩:=Rt hG q2 q5 q3 q4 hb;refine ⟨v',H',λk'=>?_,by rw [jo];exact u2⟩
  show Zf (Kz P Ev args.toList) _=_;rw [q1,Zo];show (match ts.toList,[s',x'] with |[st,xt],[s,x]=>L8 P lo H st xt s x k' |_,_=>none)=_
  rw [fx];show L8 P lo H st xt s' x' k'=_;rw [hop,u1];rfl
 have Hj:∀ (lo:Nat) (H:AH) (s' x':Value) {γ:Type} (k':Value->AH->Option γ),L8 P lo H st xt s' x' k'=(match j.desc with |.slice _=>Gm (Gx lo H e i.size i.bytes s' x') k' |.int _=>Gm (Lx H e i.size i.bytes (cellsOf z) s' x') k' |_=>none):=by
  intro lo H s' x' γ k';show Zf (G8 P st) _=_;rw [h1,Zo,h2,Zo,z1,Zo,h4,Zo,K4,h5];rfl
 split at hE
 ·rename_i e' hd;obtain ⟨v,T',q1,q2⟩:=Zc3 (base:=base) hE;refine fin (ev:=λlo H s' x'=>Gx lo H e i.size i.bytes s' x') q1 (λhG hs hx hv ho hb=>q2 hG hs hx hv ho hb) λlo H s' x' γ k'=>?_;rw [Hj,hd]
 ·rename_i kn hd;obtain ⟨h6,h7⟩:=Zt hE;obtain ⟨v,q1,q2⟩:=fb (base:=base) h7 z2 z3 h5' h6;refine fin (ev:=λlo H s' x'=>Lx H e i.size i.bytes (cellsOf z) s' x') q1 (λhG hs hx hv ho hb=>q2 hG hs hx) λlo H s' x' γ k'=>?_;rw [Hj,hd]
 ·cases hE
theorem Nr.one {α β:Type} {R:α->β->Prop} {a:α} {ys:List β} (h:Nr R [a] ys):∃ y,ys=[y]/\R a y:=by
 cases h with
 |cons h t=>cases t with
  |nil=>exact ⟨_,rfl,h⟩
theorem Zif (b:Builtin) (args:Array Operand) (ts:Array TypeId) (hb:b≠.append) (hc:b≠.clear):J2 P C tc ec Zs res ops Zh base T ⟨dst,.call ⟨.builtin b,args,ts⟩,ty,pos,after,guard⟩:=by
 intro vs β k ρ h hl;have e1:Qw P C Zs res ops ⟨dst,.call ⟨.builtin b,args,ts⟩,ty,pos,after,guard⟩=args.toList.map λx=>(.raw,x):=by cases b <;> first |rfl |exact absurd rfl hb |exact absurd rfl hc
 have reads:∀ {H:AH} {S:Nat->Prop} {r os:List Nat} {Ev:Env} {ys:List Value},
   VM (Kk (λp:Md×Operand=>Xy p.1) (Qw P C Zs res ops ⟨dst,.call ⟨.builtin b,args,ts⟩,ty,pos,after,guard⟩)) H S r ((Qw P C Zs res ops ⟨dst,.call ⟨.builtin b,args,ts⟩,ty,pos,after,guard⟩).map (·.1)) vs ys os ->
   Kz P Ev ((Qw P C Zs res ops ⟨dst,.call ⟨.builtin b,args,ts⟩,ty,pos,after,guard⟩).map (·.2))=some ys->Kz P Ev args.toList=some ys/\Nr (λx y=>∃ o,VR H S r x y o) vs ys:=by
  intro H S r os Ev ys hV he;rw [e1,map_fst,Ml rfl] at hV;rw [e1,map_snd,List.map_id'] at he;exact ⟨he,(VM.raws hV).1⟩
 have h:Nl P Zh T b ts.toList vs k=some ρ:=h
 have fin:∀ {u:TV},k u T=some ρ->(∀ {F:Nat->Prop} {lo:Nat} {H:AH} {r Oh os:List Nat} {ys:List Value},Good C F lo Zh H r T Oh os->Nr (λx y=>∃ o,VR H (Ya F r Oh os) r x y o) vs ys->∃ w,u=.v w/\Pb w=true/\∀ {γ:Type} (k':Value->AH->Option γ),U5 P lo H b ts.toList ys k'=k' w H) ->
   ∃ v T',k v T'=some ρ/\∀ {F:Nat->Prop} {lo:Nat} {H:AH} {r Oh os:List Nat} {Ev:Env} {ys:List Value},Good C F lo Zh H r T Oh os ->
    VM (Kk (λp:Md×Operand=>Xy p.1) (Qw P C Zs res ops ⟨dst,.call ⟨.builtin b,args,ts⟩,ty,pos,after,guard⟩)) H (Ya F r Oh os) r ((Qw P C Zs res ops ⟨dst,.call ⟨.builtin b,args,ts⟩,ty,pos,after,guard⟩).map (·.1)) vs ys os ->
    Kz P Ev ((Qw P C Zs res ops ⟨dst,.call ⟨.builtin b,args,ts⟩,ty,pos,after,guard⟩).map (·.2))=some ys->base<=T.length ->
    ∃ v' H',(∀ {γ:Type} (k':Value->AH->Option γ),Uu P ec lo Ev H (.call ⟨.builtin b,args,ts⟩) k'=k' v' H')/\Ux C F lo Zh base (Vu P C Zs res ops ⟨dst,.call ⟨.builtin b,args,ts⟩,ty,pos,after,guard⟩) H r T Oh os v T' v' H':=by
  intro u hk Rt;refine ⟨u,T,hk,λ{F lo H r Oh os Ev ys} hG hV he Cd=>?_⟩;obtain ⟨q1,q2⟩:=reads hV he;obtain ⟨w,rfl,q3,q4⟩:=Rt (lo:=lo) hG q2;refine ⟨w,H,λk'=>?_,.flat hG (Vm q3).1 (Vm q3).2⟩;show Zf (Kz P Ev args.toList) (λvs=>U5 P lo H b ts.toList vs k')=_;rw [q1,Zo];exact q4 k'
 have fin2:∀ {u:TV},k u T=some ρ->(∀ {F:Nat->Prop} {lo:Nat} {H:AH} {r Oh os:List Nat} {ys:List Value},Good C F lo Zh H r T Oh os->Nr (λx y=>∃ o,VR H (Ya F r Oh os) r x y o) vs ys->∃ w,u=.v w/\flat w=true/\ke w=true/\∀ {γ:Type} (k':Value->AH->Option γ),U5 P lo H b ts.toList ys k'=k' w H) ->
   ∃ v T',k v T'=some ρ/\∀ {F:Nat->Prop} {lo:Nat} {H:AH} {r Oh os:List Nat} {Ev:Env} {ys:List Value},Good C F lo Zh H r T Oh os ->
    VM (Kk (λp:Md×Operand=>Xy p.1) (Qw P C Zs res ops ⟨dst,.call ⟨.builtin b,args,ts⟩,ty,pos,after,guard⟩)) H (Ya F r Oh os) r ((Qw P C Zs res ops ⟨dst,.call ⟨.builtin b,args,ts⟩,ty,pos,after,guard⟩).map (·.1)) vs ys os ->
    Kz P Ev ((Qw P C Zs res ops ⟨dst,.call ⟨.builtin b,args,ts⟩,ty,pos,after,guard⟩).map (·.2))=some ys->base<=T.length ->
    ∃ v' H',(∀ {γ:Type} (k':Value->AH->Option γ),Uu P ec lo Ev H (.call ⟨.builtin b,args,ts⟩) k'=k' v' H')/\Ux C F lo Zh base (Vu P C Zs res ops ⟨dst,.call ⟨.builtin b,args,ts⟩,ty,pos,after,guard⟩) H r T Oh os v T' v' H':=by
  intro u hk Rt;refine ⟨u,T,hk,λ{F lo H r Oh os Ev ys} hG hV he Cd=>?_⟩;obtain ⟨q1,q2⟩:=reads hV he;obtain ⟨w,rfl,q3,q5,q4⟩:=Rt (lo:=lo) hG q2;refine ⟨w,H,λk'=>?_,.flat hG q3 q5⟩;show Zf (Kz P Ev args.toList) (λvs=>U5 P lo H b ts.toList vs k')=_;rw [q1,Zo];exact q4 k'
 cases b with
 |append=>exact absurd rfl hb
 |clear=>exact absurd rfl hc
 |len=>
  have jl:∃ t x,ts.toList=[t]/\vs=[x]/\Znb P T t x (λv=>k v T)=some ρ:=by
   cases h1:ts.toList with
   |nil=>rw [h1] at h;cases h
   |cons t l=>cases l with
    |cons=>rw [h1] at h;cases h
    |nil=>
     rw [h1] at h;cases vs with
     |nil=>cases h
     |cons x l=>cases l with
      |cons=>cases h
      |nil=>exact ⟨t,x,rfl,rfl,h⟩
  obtain ⟨t,x,fx,rfl,hq⟩:=jl
  ·obtain ⟨i,h1,hA⟩:=Zj hq
   have Hj:∀ (lo:Nat) (H:AH) (y:Value) {γ:Type} (k':Value->AH->Option γ),U5 P lo H .len ts.toList [y] k'=Zgs P H t y λv=>k' v H:=by
    intro lo H y γ k';rw [fx];rfl
   split at hA
   ·rename_i e hd;obtain ⟨v,h2,h3⟩:=Z5 hA;refine fin h3 λ{F lo H r Oh os ys} hG hr=>?_;obtain ⟨y,rfl,o,hx⟩:=hr.one;obtain ⟨u,q1,rfl,q3⟩:=Zn5 h2 hx;refine ⟨u,rfl,q3,λk'=>?_⟩;rw [Hj];show Zf (Y7 P t) _=_;rw [h1,Zo,hd];show Za (Sy y) _=_;rw [q1];rfl
   ·rename_i n e hd;refine fin hA λ{F lo H r Oh os ys} hG hr=>?_;obtain ⟨y,rfl,o,hx⟩:=hr.one;refine ⟨_,rfl,rfl,λk'=>?_⟩;rw [Hj];show Zf (Y7 P t) _=_;rw [h1,Zo,hd]
   ·rename_i a b hd;obtain ⟨v,h2,h3⟩:=Z5 hA;refine fin h3 λ{F lo H r Oh os ys} hG hr=>?_;obtain ⟨y,rfl,o,hx⟩:=hr.one
    have key:∃ u,cg H y=some u/\v=.v u/\Pb u=true:=by
     unfold lenMT at h2;split at h2
     ·cases h2;obtain ⟨rfl,_⟩:=V0 hx;exact ⟨_,rfl,rfl,rfl⟩
     ·obtain ⟨es,w7,h4⟩:=Rd h2;cases h4;obtain ⟨i2,c,fs,hr2,hg,hm⟩:=hG.Znr w7;obtain ⟨i3,hr3,rfl,_⟩:=xq hx;rw [hr2] at hr3;cases hr3;refine ⟨.int .i64 (.ofNat fs.length),?_,by rw [Zz,hm.length],rfl⟩
      show (match H.get i2 with |some (.map es c)=>some (Value.int .i64 (.ofNat es.length)) |_=>none)=_
      rw [hg]
     ·cases h2
    obtain ⟨u,q1,rfl,q3⟩:=key;refine ⟨u,rfl,q3,λk'=>?_⟩;rw [Hj];show Zf (Y7 P t) _=_;rw [h1,Zo,hd];show Za (cg H y) _=_;rw [q1];rfl
   ·cases hA
 |cap=>
  have jl:∃ t x,ts.toList=[t]/\vs=[x]/\Znc P t x (λv=>k v T)=some ρ:=by
   cases h1:ts.toList with
   |nil=>rw [h1] at h;cases h
   |cons t l=>cases l with
    |cons=>rw [h1] at h;cases h
    |nil=>
     rw [h1] at h;cases vs with
     |nil=>cases h
     |cons x l=>cases l with
      |cons=>cases h
      |nil=>exact ⟨t,x,rfl,rfl,h⟩
  obtain ⟨t,x,fx,rfl,hq⟩:=jl
  ·obtain ⟨i,h1,hA⟩:=Zj hq
   have Hj:∀ (lo:Nat) (H:AH) (y:Value) {γ:Type} (k':Value->AH->Option γ),U5 P lo H .cap ts.toList [y] k'=Zgt P t y λv=>k' v H:=by
    intro lo H y γ k';rw [fx];rfl
   split at hA
   ·rename_i e hd;obtain ⟨v,h2,h3⟩:=Z5 hA;refine fin h3 λ{F lo H r Oh os ys} hG hr=>?_;obtain ⟨y,rfl,o,hx⟩:=hr.one;obtain ⟨u,q1,rfl,q3⟩:=Zpz h2 hx;refine ⟨u,rfl,q3,λk'=>?_⟩;rw [Hj];show Zf (Y7 P t) _=_;rw [h1,Zo,hd];show Za (ve y) _=_;rw [q1];rfl
   ·rename_i n e hd;refine fin hA λ{F lo H r Oh os ys} hG hr=>?_;obtain ⟨y,rfl,o,hx⟩:=hr.one;refine ⟨_,rfl,rfl,λk'=>?_⟩;rw [Hj];show Zf (Y7 P t) _=_;rw [h1,Zo,hd]
   ·cases hA
 |min=>
  cases vs with
  |nil=>cases h
  |cons v vs=>
   obtain ⟨u,h1,h2⟩:=Ac (show Ro false v vs (λv=>k v T)=some ρ from h);refine fin2 h1 λ{F lo H r Oh os ys} hG hr=>?_;cases hr with
   | @cons _ y _ ys hv ht=>
    obtain ⟨o,hv⟩:=hv;obtain ⟨w,q1,q2,q3,q4⟩:=h2 hv ht;exact ⟨w,q2,q3,q4,λk'=>q1 _⟩
 |max=>
  cases vs with
  |nil=>cases h
  |cons v vs=>
   obtain ⟨u,h1,h2⟩:=Ac (show Ro true v vs (λv=>k v T)=some ρ from h);refine fin2 h1 λ{F lo H r Oh os ys} hG hr=>?_;cases hr with
   | @cons _ y _ ys hv ht=>
    obtain ⟨o,hv⟩:=hv;obtain ⟨w,q1,q2,q3,q4⟩:=h2 hv ht;exact ⟨w,q2,q3,q4,λk'=>q1 _⟩
 |_=>cases h
end
end Go.Ev
namespace Go.Ev
section
variable {P:Program} {C:TC} {tc:Z3} {ec:Jh} {Zs res:List Tmp} {ops:List Oper} {Zh base:Nat} {T:TH}
variable {dst:Option Tmp} {ty:TypeId} {pos:String} {after:Array Edge} {guard:Option (Nat×Bool)}
theorem E6:∀ (os:List Operand) (ts:List TypeId),(U3 P os ts).map (λp:Md×Operand=>p.2)=os
 |[],_=>rfl
 |o::os,[]=>by show o::_=_;rw [E6 os []]
 |o::os,t::ts=>by show o::_=_;rw [E6 os ts]
theorem Ok:∀ (os:List Operand) (ts:List TypeId),∀ m∈(U3 P os ts).map (λp:Md×Operand=>p.1),Le m
 |[],_,m,h=>by cases h
 |o::os,[],m,h=>by
  rcases List.mem_cons.1 (show m∈Md.settle::(U3 P os []).map (λp:Md×Operand=>p.1) from h) with rfl |h
  ·trivial
  ·exact Ok os [] m h
 |o::os,t::ts,m,h=>by
  rcases List.mem_cons.1 (show m∈(match Y7 P t with |some ⟨.slice _,_,_,_,_⟩=>Md.W8 (Yn P t).1 (Yn P t).2 |_=>.settle)::(U3 P os ts).map (λp:Md×Operand=>p.1) from h) with rfl |h
  ·split <;> trivial
  ·exact Ok os ts m h
theorem N6 {α:Type} {m:Md} (hm:Le m) (f:α->Operand) (l:List α):∀ x∈(l.map λx=>(m,f x)).map (λp:Md×Operand=>p.1),Le x:=λx hx=>by
 rw [List.map_map] at hx;obtain ⟨a,_,rfl⟩:=List.mem_map.1 hx;exact hm
theorem Zij (args:Array Operand) (ts:Array TypeId):J2 P C tc ec Zs res ops Zh base T ⟨dst,.call ⟨.builtin .clear,args,ts⟩,ty,pos,after,guard⟩:=by
 intro vs β k ρ h hl
 have jl:∃ t x,ts.toList=[t]/\vs=[x]/\Zav P Zh T t x (λH=>k Zk H)=some ρ:=by
  have h:Nl P Zh T .clear ts.toList vs k=some ρ:=h;cases h1:ts.toList with
  |nil=>rw [h1] at h;cases h
  |cons t l=>cases l with
   |cons=>rw [h1] at h;cases h
   |nil=>
    rw [h1] at h;cases vs with
    |nil=>cases h
    |cons x l=>cases l with
     |cons=>cases h
     |nil=>exact ⟨t,x,rfl,rfl,h⟩
 obtain ⟨t,x,fx,rfl,hq⟩:=jl;obtain ⟨e,h1,hA⟩:=Zj hq;obtain ⟨i,h2,hB⟩:=Zj hA;obtain ⟨z,h3,hC⟩:=Zj hB;obtain ⟨h5,hE⟩:=Zt hC;obtain ⟨h6,hF⟩:=Zt hE;obtain ⟨h7,hG0⟩:=Zt hF;obtain ⟨T',h8,h9⟩:=Z5 hG0;obtain ⟨z1,z2,z3⟩:=E4 h3;have e1:Qw P C Zs res ops ⟨dst,.call ⟨.builtin .clear,args,ts⟩,ty,pos,after,guard⟩=U3 P args.toList ts.toList:=rfl;refine ⟨Zk,T',h9,λ{F lo H r Oh os Ev ys} hG hV he hb=>?_⟩;rw [e1] at hV he;have he:Kz P Ev ((U3 P args.toList ts.toList).map λp:Md×Operand=>p.2)=some ys:=he;rw [E6] at he
 have ld:∃ a,args.toList=[a]:=by
  rw [e1] at hl;have:=congrArg List.length (E6 (P:=P) args.toList ts.toList);rw [List.length_map,<- hl] at this;exact List.length_eq_one_iff.1 this.symm
 obtain ⟨a,ha⟩:=ld;rw [ha] at he;obtain ⟨y,_,rfl,k1,he2⟩:=Ky he;have:=Zo8 he2;subst this
 have hx:∃ o,VR H (Ya F r Oh os) r x y o:=by
  rw [ha,fx] at hV;obtain ⟨_,_,y2,_,ox,_,q0,q00,rfl,q1,q2,q3⟩:=VM.cons_inv (ms:=[]) hV;cases q0;cases q00
  have hm:(match Y7 P t with |some ⟨.slice _,_,_,_,_⟩=>Md.W8 (Yn P t).1 (Yn P t).2 |_=>.settle)=.W8 (Yn P t).1 (Yn P t).2\/(match Y7 P t with |some ⟨.slice _,_,_,_,_⟩=>Md.W8 (Yn P t).1 (Yn P t).2 |_=>.settle)=.settle:=by
   split
   ·exact .inl rfl
   ·exact .inr rfl
  rcases hm with hm |hm
  ·have q1:RdR _ (match Y7 P t with |some ⟨.slice _,_,_,_,_⟩=>Md.W8 (Yn P t).1 (Yn P t).2 |_=>.settle) H _ r x y ox:=q1
   rw [hm] at q1;exact ⟨_,q1.1⟩
  ·have q1:RdR (cond (Xy (match Y7 P t with |some ⟨.slice _,_,_,_,_⟩=>Md.W8 (Yn P t).1 (Yn P t).2 |_=>.settle)) true false) (match Y7 P t with |some ⟨.slice _,_,_,_,_⟩=>Md.W8 (Yn P t).1 (Yn P t).2 |_=>.settle) H _ r x y ox:=q1
   rw [hm] at q1;exact ⟨_,q1.2⟩
 obtain ⟨o,hx⟩:=hx;rw [K4] at h5;obtain ⟨H',u1,u2⟩:=Zff (base:=base) (ends:=Vu P C Zs res ops ⟨dst,.call ⟨.builtin .clear,args,ts⟩,ty,pos,after,guard⟩) h8 h7 z2 z3 (Qb h5) hG hx;refine ⟨.tuple #[],H',λk'=>?_,u2⟩;show Zf (Kz P Ev args.toList) _=_;rw [ha,he,Zo];show (match ts.toList,[y] with |[t],[x]=>F6 P lo H t x λH=>k' (.tuple #[]) H |_,_=>none)=_
 rw [fx];show F6 P lo H t y _=_;show Zf (G8 P t) _=_;rw [h1,Zo,h2,Zo,z1,Zo,K4,h5,Yw,h6,Yw,u1];rfl
theorem Oi {dp:Bool} (l:List Operand):(∀ m∈(l.map λx=>(Ip dp Zs x,x)).map (λp:Md×Operand=>p.1),Le m)/\Kk (λp:Md×Operand=>Xy p.1) (l.map λx=>(Ip dp Zs x,x))=false:=by
 have one:∀ x:Operand,Ip dp Zs x=.raw\/Ip dp Zs x=.settle:=by
  intro x;unfold Ip;split
  ·rename_i t;cases Zs.contains t with
   |true=>cases dp with
    |true=>exact .inr rfl
    |false=>exact .inl rfl
   |false=>cases dp <;> exact .inr rfl
  ·exact .inl rfl
 constructor
 ·intro m hm;rw [List.map_map] at hm;obtain ⟨x,_,rfl⟩:=List.mem_map.1 hm;show Le (Ip dp Zs x);rcases one x with h |h <;> rw [h] <;> trivial
 ·induction l with
  |nil=>rfl
  |cons x l ih=>
   show cond (Xy (Ip dp Zs x)) true (Kk (λp:Md×Operand=>Xy p.1) (l.map λx=>(Ip dp Zs x,x)))=false;rw [ih];rcases one x with h |h <;> rw [h] <;> rfl
theorem Ox {β:Type} {call:Jh} {lo:Nat} {f:FuncId} {vs:List Value} {H:AH} {k:Value->AH->Option β}:R5 call lo (.func (.func f) #[] #[]) vs H k=Gm (call lo f vs H) k:=by
 show Gm (call lo f (List.append [] (List.append vs [])) H) k=_;rw [show List.append [] (List.append vs [])=vs from by show []++(vs++[])=vs;simp]
theorem Zl8 (hs:Vp C tc ec) (f:FuncId) (args:Array Operand) (ts:Array TypeId):J2 P C tc ec Zs res ops Zh base T ⟨dst,.call ⟨.value (.func f),args,ts⟩,ty,pos,after,guard⟩:=by
 intro vs β k ρ h hl;have h:cond (C.tree f) (Za (Zm tc f vs T) λv=>k v T) (Qo tc Zh f vs T k)=some ρ:=h;have e1:Qw P C Zs res ops ⟨dst,.call ⟨.value (.func f),args,ts⟩,ty,pos,after,guard⟩=cond (C.tree f) (args.toList.map λx=>(Ip (C.deep f) Zs x,x)) (cond (C.x9 f) (U3 P args.toList (T6 P f)) (args.toList.map λx=>(.settle,x))):=rfl;cases ht:C.tree f with
 |true=>
  rw [ht] at h e1;have e1:Qw P C Zs res ops ⟨dst,.call ⟨.value (.func f),args,ts⟩,ty,pos,after,guard⟩=args.toList.map λx=>(Ip (C.deep f) Zs x,x):=e1;obtain ⟨v,h1,h2⟩:=Z5 (show Za (Zm tc f vs T) (λv=>k v T)=some ρ from h);refine ⟨v,T,h2,λ{F lo H r Oh os Ev ys} hG hV he hb=>?_⟩;rw [e1,(Oi args.toList).2] at hV;rw [e1] at he;have he:Kz P Ev ((args.toList.map λx=>(Ip (C.deep f) Zs x,x)).map λp:Md×Operand=>p.2)=some ys:=he;rw [List.map_map,show ((λp:Md×Operand=>p.2) ∘ λx=>(Ip (C.deep f) Zs x,x))=id from rfl,List.map_id] at he;obtain ⟨v',H',q1,q2⟩:=Nk (base:=base) (ends:=Vu P C Zs res ops ⟨dst,.call ⟨.value (.func f),args,ts⟩,ty,pos,after,guard⟩) hs h1 hG hV (Oi args.toList).1 (Nat.le_refl lo) hG.lon;refine ⟨v',H',λk'=>?_,q2⟩;show Zf (Kz P Ev args.toList) _=_;rw [he,Zo];show Zf (some (Value.func (.func f) #[] #[])) (λf=>R5 ec lo f ys H k')=_;rw [Zo,Ox,q1];rfl
 |false=>
  rw [ht] at h e1;have h:Qo tc Zh f vs T k=some ρ:=h;have e1:Qw P C Zs res ops ⟨dst,.call ⟨.value (.func f),args,ts⟩,ty,pos,after,guard⟩=cond (C.x9 f) (U3 P args.toList (T6 P f)) (args.toList.map λx=>(.settle,x)):=e1;obtain ⟨v,T',h1,h2,h3⟩:=Fh (base:=base) hs h
  have jo:Vu P C Zs res ops ⟨dst,.call ⟨.value (.func f),args,ts⟩,ty,pos,after,guard⟩=true:=by
   show cond (Kk _ _) true (!C.tree f)=true;rw [ht];cases Kk (λp:Md×Operand=>Xy p.1) (Qw P C Zs res ops ⟨dst,.call ⟨.value (.func f),args,ts⟩,ty,pos,after,guard⟩) <;> rfl
  refine ⟨v,T',h1,λ{F lo H r Oh os Ev ys} hG hV he hb=>?_⟩
  have hp:∀ m∈(Qw P C Zs res ops ⟨dst,.call ⟨.value (.func f),args,ts⟩,ty,pos,after,guard⟩).map (λp:Md×Operand=>p.1),Le m:=by
   rw [e1];cases C.x9 f with
   |true=>exact Ok _ _
   |false=>exact N6 (m:=.settle) (f:=λx=>x) trivial args.toList
  have hsnd:(Qw P C Zs res ops ⟨dst,.call ⟨.value (.func f),args,ts⟩,ty,pos,after,guard⟩).map (λp:Md×Operand=>p.2)=args.toList:=by
   rw [e1];cases C.x9 f with
   |true=>exact E6 _ _
   |false=>show (args.toList.map λx=>(Md.settle,x)).map _=_;rw [List.map_map];exact List.map_id _
  have he:Kz P Ev ((Qw P C Zs res ops ⟨dst,.call ⟨.value (.func f),args,ts⟩,ty,pos,after,guard⟩).map λp:Md×Operand=>p.2)=some ys:=he;rw [hsnd] at he;obtain ⟨q1,q2⟩:=VM.pass hV hp h2;obtain ⟨v',H',q3,q4⟩:=h3 hG q1 q2 hb;refine ⟨v',H',λk'=>?_,by rw [jo];exact q4⟩
  show Zf (Kz P Ev args.toList) _=_;rw [he,Zo];show Zf (some (Value.func (.func f) #[] #[])) (λf=>R5 ec lo f ys H k')=_;rw [Zo,Ox,q3];rfl
theorem Zig (hs:Vp C tc ec) (o:Oper) (ht:Ur C o.op=true) {vs:List TV} {β:Type} {k:TV->TH->Option β} {ρ:β} (h:Zaq P C tc Zs res ops Zh base o.dst T o.op vs k=some ρ) :
  ∃ v T',k v T'=some ρ/\∀ {F:Nat->Prop} {lo Bx:Nat} {H:AH} {r Oh os:List Nat} {Ev:Env} {ys:List Value},lo<=Bx->Bx<=H.next->Good C F lo Zh H r T Oh os ->
   VM (Kk (λp:Md×Operand=>Xy p.1) (Qw P C Zs res ops o)) H (Ya F r Oh os) r ((Qw P C Zs res ops o).map (·.1)) vs ys os->Kz P Ev ((Qw P C Zs res ops o).map (·.2))=some ys->base<=T.length ->
   ∃ v' H',(∀ {γ:Type} (k':Value->AH->Option γ),Uu P ec Bx Ev H o.op k'=k' v' H')/\Ux C F lo Zh base (Vu P C Zs res ops o) H r T Oh os v T' v' H':=by
 obtain ⟨dst,op,ty,pos,after,guard⟩:=o
 have jl:∃ f args ts,op=.call ⟨.value (.func f),args,ts⟩/\C.tree f=true:=by
  have ht:Ur C op=true:=ht;unfold Ur at ht;split at ht
  ·exact ⟨_,_,_,rfl,ht⟩
  ·cases ht
 clear ht;obtain ⟨f,args,ts,rfl,ht⟩:=jl;have h:cond (C.tree f) (Za (Zm tc f vs T) λv=>k v T) (Qo tc Zh f vs T k)=some ρ:=h;have e1:Qw P C Zs res ops ⟨dst,.call ⟨.value (.func f),args,ts⟩,ty,pos,after,guard⟩=cond (C.tree f) (args.toList.map λx=>(Ip (C.deep f) Zs x,x)) (cond (C.x9 f) (U3 P args.toList (T6 P f)) (args.toList.map λx=>(.settle,x))):=rfl;rw [ht] at h e1;have e1:Qw P C Zs res ops ⟨dst,.call ⟨.value (.func f),args,ts⟩,ty,pos,after,guard⟩=args.toList.map λx=>(Ip (C.deep f) Zs x,x):=e1;obtain ⟨v,h1,h2⟩:=Z5 (show Za (Zm tc f vs T) (λv=>k v T)=some ρ from h);refine ⟨v,T,h2,λ{F lo Bx H r Oh os Ev ys} hl1 ld hG hV he hb=>?_⟩;rw [e1,(Oi args.toList).2] at hV;rw [e1] at he;have he:Kz P Ev ((args.toList.map λx=>(Ip (C.deep f) Zs x,x)).map λp:Md×Operand=>p.2)=some ys:=he;rw [List.map_map,show ((λp:Md×Operand=>p.2) ∘ λx=>(Ip (C.deep f) Zs x,x))=id from rfl,List.map_id] at he;obtain ⟨v',H',q1,q2⟩:=Nk (base:=base) (ends:=Vu P C Zs res ops ⟨dst,.call ⟨.value (.func f),args,ts⟩,ty,pos,after,guard⟩) hs h1 hG hV (Oi args.toList).1 hl1 ld;refine ⟨v',H',λk'=>?_,q2⟩;show Zf (Kz P Ev args.toList) _=_;rw [he,Zo];show Zf (some (Value.func (.func f) #[] #[])) (λf=>R5 ec Bx f ys H k')=_;rw [Zo,Ox,q1];rfl
theorem Zic (hs:Vp C tc ec) (f:Operand) (hf:∀ g,f≠.func g) (args:Array Operand) (ts:Array TypeId):J2 P C tc ec Zs res ops Zh base T ⟨dst,.call ⟨.value f,args,ts⟩,ty,pos,after,guard⟩:=by
 intro vs β k ρ h hl
 have h:(match (generalizing:=false) vs with |f::vs=>Xd C tc Zh f vs T k |_=>none)=some ρ:=by
  cases f with
  |func g=>exact absurd rfl (hf g)
  |_=>exact h
 have e1:Qw P C Zs res ops ⟨dst,.call ⟨.value f,args,ts⟩,ty,pos,after,guard⟩=(.raw,f)::args.toList.map λx=>(.settle,x):=by
  cases f with
  |func g=>exact absurd rfl (hf g)
  |_=>rfl
 have jo:Vu P C Zs res ops ⟨dst,.call ⟨.value f,args,ts⟩,ty,pos,after,guard⟩=true:=by
  unfold Vu;cases Kk (λp:Md×Operand=>Xy p.1) (Qw P C Zs res ops ⟨dst,.call ⟨.value f,args,ts⟩,ty,pos,after,guard⟩) with
  |true=>rfl
  |false=>cases f with
   |func g=>exact absurd rfl (hf g)
   |_=>rfl
 cases vs with
 |nil=>cases h
 |cons fv vs=>
  have h:Xd C tc Zh fv vs T k=some ρ:=h;cases fv with
  |fn fo first cap=>cases fo with
   |func g=>
   have h:Qo tc Zh g (first++(vs++cap)) T k=some ρ:=h
   obtain ⟨v,T',h1,h2,h3⟩:=Fh (base:=base) hs h;refine ⟨v,T',h1,λ{F lo H r Oh os Ev ys} hG hV he hb=>?_⟩;rw [e1] at hV he;have hV:VM (Kk (λp:Md×Operand=>Xy p.1) (args.toList.map λx=>(.settle,x))) H (Ya F r Oh os) r (.raw::(args.toList.map λx=>(Md.settle,x)).map λp:Md×Operand=>p.1) (.fn (.func g) first cap::vs) ys os:=hV
   rw [Ml rfl (λx=>x)] at hV;obtain ⟨y,Bp,o,rfl,k1,k2,_,k3,hV2,he2⟩:=VM.Mp (xs:=(args.toList.map λx=>(Md.settle,x)).map λp:Md×Operand=>p.2) hV he;rw [List.map_map,show ((λp:Md×Operand=>p.2) ∘ λx=>(Md.settle,x))=id from rfl,List.map_id] at he2;obtain ⟨q1,q2⟩:=VM.pass hV2 (N6 (m:=.settle) (f:=λx=>x) trivial args.toList) λx hx=>h2 x (List.mem_append_right _ (List.mem_append_left _ hx));have hn:NB (.fn (.func g) first cap):=k3.elim id λh=>h.elim
   have key:∃ f' c',y=.func (.func g) f' c'/\Y3 H (Ya F r Oh os) r first f'.toList []/\Y3 H (Ya F r Oh os) r cap c'.toList []/\Gq first/\Gq cap:=by
    cases k2 with
    |k h=>cases h;exact ⟨_,_,rfl,.nil,.nil,.nil,.nil⟩
    |fn h h'=>
     cases hn with
     |fn a b=>exact ⟨_,_,rfl,h,h',a,b⟩
   obtain ⟨f',c',rfl,q3,q4,q5,q6⟩:=key;have fw:Y3 H (Ya F r Oh os) r (first++(vs++cap)) (f'.toList++(Bp++c'.toList)) ([]++([]++[])):=q3.append (q1.append q4)
   obtain ⟨v',H',q7,q8⟩:=h3 hG fw (Gq.of λx hx=>(List.mem_append.1 hx).elim (q5.mem x) λhx=>(List.mem_append.1 hx).elim (q2.mem x) (q6.mem x)) hb;refine ⟨v',H',λk'=>?_,by rw [jo];exact q8⟩
   show Zf (Kz P Ev args.toList) _=_;rw [he2,Zo];show Zf (K9 P Ev f) (λf=>R5 ec lo f Bp H k')=_;rw [k1,Zo];show Gm (ec lo g (f'.toList++(Bp++c'.toList)) H) k'=_;rw [q7];rfl
   |_=>cases h
  |_=>cases h
theorem Zdq (hs:Vp C tc ec) (rc:Operand) (name:String) (args:Array Operand) (ts:Array TypeId):J2 P C tc ec Zs res ops Zh base T ⟨dst,.call ⟨.invoke rc name,args,ts⟩,ty,pos,after,guard⟩:=by
 intro vs β k ρ h hl;have h:(match (generalizing:=false) vs with |r::vs=>S6 P tc Zh r name vs T k |_=>none)=some ρ:=h
 have e1:Qw P C Zs res ops ⟨dst,.call ⟨.invoke rc name,args,ts⟩,ty,pos,after,guard⟩=(.raw,rc)::args.toList.map λx=>(.settle,x):=rfl
 have jo:Vu P C Zs res ops ⟨dst,.call ⟨.invoke rc name,args,ts⟩,ty,pos,after,guard⟩=true:=by
  unfold Vu;cases Kk (λp:Md×Operand=>Xy p.1) (Qw P C Zs res ops ⟨dst,.call ⟨.invoke rc name,args,ts⟩,ty,pos,after,guard⟩) <;> rfl
 cases vs with
 |nil=>cases h
 |cons fv vs=>
  have h:S6 P tc Zh fv name vs T k=some ρ:=h;cases fv with
  |iface t x=>
   have h:Zf (Al P t name) (λg=>Qo tc Zh g (x::vs) T k)=some ρ:=h;obtain ⟨g,h0,hA⟩:=Zj h;obtain ⟨v,T',h1,h2,h3⟩:=Fh (base:=base) hs hA;refine ⟨v,T',h1,λ{F lo H r Oh os Ev ys} hG hV he hb=>?_⟩;rw [e1] at hV he;have hV:VM (Kk (λp:Md×Operand=>Xy p.1) (args.toList.map λx=>(.settle,x))) H (Ya F r Oh os) r (.raw::(args.toList.map λx=>(Md.settle,x)).map λp:Md×Operand=>p.1) (.iface t x::vs) ys os:=hV;rw [Ml rfl (λx=>x)] at hV;obtain ⟨y,Bp,o,rfl,k1,k2,_,k3,hV2,he2⟩:=VM.Mp (xs:=(args.toList.map λx=>(Md.settle,x)).map λp:Md×Operand=>p.2) hV he;rw [List.map_map,show ((λp:Md×Operand=>p.2) ∘ λx=>(Md.settle,x))=id from rfl,List.map_id] at he2;obtain ⟨q1,q2⟩:=VM.pass hV2 (N6 (m:=.settle) (f:=λx=>x) trivial args.toList) λx hx=>h2 x (List.mem_cons_of_mem _ hx);obtain ⟨z,rfl,q3,_⟩:=Lt k2;have fw:Y3 H (Ya F r Oh os) r (x::vs) (z::Bp) ([]++[]):=.cons (.k q3) q1;obtain ⟨v',H',q7,q8⟩:=h3 hG fw (.cons (Zbc q3).1 q2) hb;refine ⟨v',H',λk'=>?_,by rw [jo];exact q8⟩
   show Zf (Kz P Ev args.toList) _=_;rw [he2,Zo];show Zf (K9 P Ev rc) (λr=>vy P ec lo r name Bp H k')=_;rw [k1,Zo];show Zf (Al P t name) _=_;rw [h0,Zo,q7];rfl
  |_=>cases h
theorem op_sim (hs:Vp C tc ec) (o:Oper):J2 P C tc ec Zs res ops Zh base T o:=by
 obtain ⟨dst,op,ty,pos,after,guard⟩:=o;cases op with
 |move x=>exact Zl6 x
 |assign x=>exact Zdr x
 |pick c a b=>exact Zl5 c a b
 |alloc e=>exact Zim e
 |box e x=>exact Zqp e x
 |build t parts=>exact Zik t parts
 |buildSlice t len parts=>exact yl t len parts
 |load t a=>exact Zl7 t a
 |store t a x=>exact Zid t a x
 |nilCheck x=>exact pj x
 |binOp op t x y t2=>exact Zil op t x y t2
 |unOp op t x=>exact Zl4 op t x
 |convert s d x=>exact so s d x
 |makeFunc fn a b=>exact pk fn a b
 |makeMap t x=>exact sm t x
 |makeSlice t l c=>exact uc t l c
 |slice t x a b c=>exact Zie t x a b c
 |fieldAddr t x f=>exact ue t x f
 |field t x f=>exact Zii t x f
 |indexAddr t x i=>exact ud t x i
 |index t x i=>exact Zih t x i
 |lookup t x k ok=>exact Zdp t x k ok
 |mapUpdate t m k x=>exact ub t m k x
 |extract x i=>exact sn x i
 |makeInterface t x=>exact Fu t x
 |typeAssert x t a ok=>exact yk x t a ok
 |call c=>
  obtain ⟨callee,args,ts⟩:=c;cases callee with
  |builtin b=>
   cases b with
   |append=>exact Zds args ts
   |clear=>exact Zij args ts
   |_=>exact Zif _ args ts (by intro h;cases h) (by intro h;cases h)
  |value f=>
   cases f with
   |func f=>exact Zl8 hs f args ts
   |_=>exact Zic hs _ (by intro g h;cases h) args ts
  |invoke r name=>exact Zdq hs r name args ts
 |_=>intro vs β k ρ h;cases h
end
end Go.Ev
namespace Go.Ev
section
variable {P:Program} {C:TC} {tc:Z3} {ec:Jh} {Zs res:List Tmp} {ops:List Oper} {Zh base:Nat}
def S9 (C:TC) (F:Nat->Prop) (lo Zh ep:Nat) (Ev:Env) (E:TE) (H:AH) (r:List Nat) (T:TH) (Oh Xe:List Nat):Prop:=
 Good C F lo Zh H r T Oh Xe/\Ko false H (Ya F r Oh Xe) r ep Ev E Xe
theorem Za0 {o:Oper} {ep:Nat} (h:Vu P C Zs res ops o=true):Uo P C Zs res ops o ep=ep+1:=by unfold Uo;rw [h];rfl
theorem td {o:Oper} {ep:Nat} (h:Vu P C Zs res ops o=false):Uo P C Zs res ops o ep=ep:=by unfold Uo;rw [h];rfl
theorem Zku {o:Oper} (h:Vu P C Zs res ops o=false):Kk (λp:Md×Operand=>Xy p.1) (Qw P C Zs res ops o)=false:=by
 unfold Vu at h;cases hx:Kk (λp:Md×Operand=>Xy p.1) (Qw P C Zs res ops o) with
 |true=>rw [hx] at h;cases h
 |false=>rfl
theorem m9 {F:Nat->Prop} {lo ep:Nat} {o:Oper} {w:Bool} (hw:w=Kk (λp:Md×Operand=>Xy p.1) (Qw P C Zs res ops o)) {H H':AH} {r1 r' Oh Vf Gp os ov:List Nat} {Ev:Env} {E':TE} {T1:TH}
  (hG:Good C F lo Zh H r1 T1 Oh (Gp++os)) (hE:Ko w H (Ya F r1 Oh (Gp++os)) r1 ep Ev E' Gp) (m:Mv H r1 Oh (Gp++os) H' r' Vf (Gp++ov)) (hs:∀ i∈Gp,H'.get i=H.get i)
  (hq:Vu P C Zs res ops o=false->∀ i,i < H.next->i ∉ r1->i ∉ r'/\H'.get i=H.get i):Ko false H' (Ya F r' Vf (Gp++ov)) r' (Uo P C Zs res ops o ep) Ev E' Gp:=by
 have st:=m.stay (F:=F);cases he:Vu P C Zs res ops o with
 |true=>rw [Za0 he];exact hE.succ st m.pre hs
 |false=>
  have h1:=Zku he;rw [h1] at hw;subst hw;rw [td he];exact hE.mono st m.pre (λ_=>hq he) hs
theorem Za3 {H H':AH} {r Oh os r' Vf ov Y:List Nat} (m:Mv H r Oh os H' r' Vf ov):Mv H r Oh (Y++os) H' r' Vf (Y++ov):=
 ⟨m.next,λi hi ha=>m.same i hi (by unfold act at *;rw [List.count_append] at ha;omega),λi hi=>by have:=m.less i hi;unfold act at *;rw [List.count_append,List.count_append];omega,m.pre⟩
theorem HL.top {H:AH} {S:Nat->Prop} {r:List Nat} {lo Zh Dv n:Nat}:∀ {b:Nat} {T:List Kc} {rs O:List Nat},HL H S r lo Zh b T rs O->b+T.length<=n->HL H S r Dv n b T rs O
 |_,_,_,_,.nil,_=>.nil
 |_,_,_,_,.cons h _ t,hb=>.cons h (λhn=>by rw [List.length_cons] at hb;omega) (HL.top t (by rw [List.length_cons] at hb;omega))
theorem HL.all {H:AH} {S:Nat->Prop} {r:List Nat} {lo Zh Dv Ct:Nat}:∀ {b:Nat} {T:List Kc} {rs O:List Nat},HL H S r lo Zh b T rs O->(∀ j∈O,Dv<=j)->HL H S r Dv Ct b T rs O
 |_,_,_,_,.nil,_=>.nil
 |_,_,_,_,.cons h _ t,hb=>.cons h (λ_ j hj=>hb j (List.mem_append_left _ hj)) (HL.all t λj hj=>hb j (List.mem_append_right _ hj))
theorem HL.Znf {H:AH} {S:Nat->Prop} {r:List Nat} {lo Zh:Nat}:∀ {b:Nat} {T:List Kc} {rs O:List Nat},HL H S r lo Zh b T rs O->(∀ o∈T,X3 o=true)->O=[]
 |_,_,_,_,.nil,_=>rfl
 |_,_,_,_,.cons h _ t,hb=>by
  have h1:=HL.Znf t λo ho=>hb o (List.mem_cons_of_mem _ ho);have h2:=hb _ (List.mem_cons_self ..);subst h1;rw [List.append_nil];cases h with
  | @cells cs i s ds e o hg hs nb hc h=>
   have h2:Z2 (λx=>!Xs x) cs=true:=h2;rw [Ye,List.all_eq_true] at h2
   exact N8 h hc (by
    rw [List.any_eq_false];intro x hx hy;have:=h2 x hx;rw [hy] at this;cases this)
  |map=>rfl
  |dead=>rfl
theorem Ze4 {F:Nat->Prop} {lo:Nat} {H:AH} {r Oh:List Nat} {T:TH} (h:Good C F lo Zh H r T Oh []):Good C F H.next T.length H r T Oh []:=
 ⟨h.nd,h.lt,h.fl,Nat.le_refl _,λb i hb hi=>(by rw [List.getElem?_eq_none (by rw [h.len];exact hb)] at hi;cases hi),λi hi=>(by cases hi),h.heap.top (by omega),h.Bs⟩
theorem Ze5 {F:Nat->Prop} {lo n:Nat} {H H':AH} {r r' Vf o:List Nat} {T T':TH} (h:Good C F lo Zh H r T [] []) (m:Mv H r [] [] H' r' Vf o) (hn:n=T.length) (k:Good C F H.next n H' r' T' Vf o):Good C F lo Zh H' r' T' Vf o:=
 ⟨k.nd,k.lt,k.fl,Nat.le_trans h.lon m.next,λb i hb hi=>by
  rcases Nat.lt_or_ge b r.length with hl |hl
  ·have h1:r[b]? = some r[b]:=List.getElem?_eq_getElem hl;have h2:=m.pre b _ h1;rw [hi] at h2;cases h2;exact h.pq b _ hb h1
  ·have h1:=k.pq b i (by rw [hn,<- h.len];exact hl) hi
   have:=h.lon;omega,λi hi=>Nat.le_trans h.lon (k.xlo i hi),k.heap.all λj hj=>by
  rcases Nat.lt_or_ge j H.next with hl |hl
  ·have h1:=m.less j hl;have h2:=k.Za4 hj;have h3:=Z8.2 hj;unfold act at h1;simp only [List.count_nil] at h1;have h4:j∈r:=Z8.1 (by omega)
   obtain ⟨b,hb⟩:=List.mem_iff_getElem?.1 h4;have h5:=Z8.2 (Wz (m.pre b j hb));omega
  ·have:=h.lon;omega,k.Bs⟩
theorem Zix {F:Nat->Prop} {lo n:Nat} {ends:Bool} {H H':AH} {r:List Nat} {T T':TH} {v:TV} {v':Value} (h:Good C F lo Zh H r T [] []) (hn:n=T.length) (k:Ux C F H.next n base ends H r T [] [] v T' v' H'):Ux C F lo Zh base ends H r T [] [] v T' v' H':=by
 obtain ⟨r',Vf,o,k1,k2,k3,k4,k5,k6⟩:=k;exact ⟨r',Vf,o,Ze5 h k4 hn k1,k2,k3,k4,k5,k6⟩
theorem VM.Zah {w:Bool} {H:AH} {S:Nat->Prop} {r:List Nat}:∀ {ms:List Md} {xs:List TV} {ys:List Value} {os:List Nat},VM w H S r ms xs ys os->(∀ m∈ms,Zai m=true)->os=[]
 |_,_,_,_,.nil,_=>rfl
 |m::ms,_,_,_,.cons h hv t,hm=>by
  have h1:=VM.Zah t λm h=>hm m (List.mem_cons_of_mem _ h);have h2:=hm m (List.mem_cons_self ..);subst h1;cases m with
  |raw=>rw [h.1];rfl
  |settle=>rw [h.1];rfl
  |_=>cases h2
theorem Zd0 {o:Oper} (h:Rj P C Zs res ops o=true):Kk (λp:Md×Operand=>Xy p.1) (Qw P C Zs res ops o)=false:=by
 unfold Rj at h;rw [Ye,List.all_eq_true] at h;rw [xz,List.any_eq_false];intro p hp hq;have:=h p hp;obtain ⟨m,x⟩:=p;cases m with
 |W8=>cases this
 |_=>cases hq
def LoOk (P:Program) (C:TC) (Zs res:List Tmp) (ops:List Oper) (T:TH) (o:Oper) (Zh ua lo Bx:Nat) (H:AH):Prop:=
 (ua=Zh/\Bx=lo)\/(ua=Zh/\Ur C o.op=true/\lo<=Bx/\Bx<=H.next)\/(ua=T.length/\Bx=H.next/\Rj P C Zs res ops o=true/\Z2 X3 T=true/\Ur C o.op=false)
theorem Zax (hs:Vp C tc ec) (o:Oper) {ep:Nat} {E:TE} {T:TH} {β:Type} {k:TV->TE->TH->Option β} {ρ:β} {ua:Nat} (h:Zd6 P C tc Zs res ops ua base ep E T o k=some ρ) :
  ∃ v E' T',k v E' T'=some ρ/\∀ {F:Nat->Prop} {lo Bx:Nat} {H:AH} {r Oh Xe:List Nat} {Ev:Env},LoOk P C Zs res ops T o Zh ua lo Bx H->S9 C F lo Zh ep Ev E H r T Oh Xe->base<=T.length ->
   ∃ v' H' r' Vf Bm ov,(∀ {γ:Type} (k':Value->AH->Option γ),Vn P ec Bx ops Ev H o k'=k' v' H')/\S9 C F lo Zh (Uo P C Zs res ops o ep) Ev E' H' r' T' Vf Bm/\Good C F lo Zh H' r' T' Vf (Bm++ov) /\
    Ko false H' (Ya F r' Vf (Bm++ov)) r' (Uo P C Zs res ops o ep) Ev E' Bm/\VR H' (Ya F r' Vf (Bm++ov)) r' v v' ov/\OV v/\Mv H r Oh Xe H' r' Vf (Bm++ov)/\Mm base T T':=by
 have step:∀ {E1:TE} {q:TH} {xs:List TV} {γ:Type} {k1:TV->TH->Option γ} {ρ1:γ},xs.length=(Qw P C Zs res ops o).length->Zaq P C tc Zs res ops ua base o.dst (T++q) o.op xs k1=some ρ1 ->
   ∃ v T',k1 v T'=some ρ1/\∀ {F:Nat->Prop} {lo Bx:Nat} {H:AH} {r r1 Oh Xe Gp os:List Nat} {ys:List Value} {Ev:Env},LoOk P C Zs res ops T o Zh ua lo Bx H->base<=T.length ->
    Kz P Ev ((Qw P C Zs res ops o).map (·.2))=some ys->Good C F lo Zh H r1 (T++q) Oh (Gp++os)->Ko (Kk (λp:Md×Operand=>Xy p.1) (Qw P C Zs res ops o)) H (Ya F r1 Oh (Gp++os)) r1 ep Ev E1 Gp ->
    VM (Kk (λp:Md×Operand=>Xy p.1) (Qw P C Zs res ops o)) H (Ya F r1 Oh (Gp++os)) r1 ((Qw P C Zs res ops o).map (·.1)) xs ys os->(∀ (b i:Nat),r[b]? = some i->r1[b]? = some i)->(∀ i,act r1 Oh (Gp++os) i<=act r Oh Xe i)->(Kk (λp:Md×Operand=>Xy p.1) (Qw P C Zs res ops o)=false->r1=r)->(r.length=T.length) ->
    ∃ v' H' r' Vf ov,(∀ {γ:Type} (k':Value->AH->Option γ),Uu P ec Bx Ev H o.op k'=k' v' H')/\Good C F lo Zh H' r' T' Vf (Gp++ov) /\
     Ko false H' (Ya F r' Vf (Gp++ov)) r' (Uo P C Zs res ops o ep) Ev E1 Gp/\VR H' (Ya F r' Vf (Gp++ov)) r' v v' ov/\OV v/\Mv H r Oh Xe H' r' Vf (Gp++ov)/\Mm base T T':=by
  intro E1 q xs γ k1 ρ1 hl hk
  have fin:∀ {v:TV} {T':TH} {F:Nat->Prop} {lo Bx:Nat} {H:AH} {r r1 Oh Xe Gp os:List Nat} {Ev:Env},base<=T.length->Good C F lo Zh H r1 (T++q) Oh (Gp++os)->Ko (Kk (λp:Md×Operand=>Xy p.1) (Qw P C Zs res ops o)) H (Ya F r1 Oh (Gp++os)) r1 ep Ev E1 Gp ->
    (∀ (b i:Nat),r[b]? = some i->r1[b]? = some i)->(∀ i,act r1 Oh (Gp++os) i<=act r Oh Xe i) ->
    (∃ v' H',(∀ {γ:Type} (k':Value->AH->Option γ),Uu P ec Bx Ev H o.op k'=k' v' H')/\Ux C (λi=>F i\/i∈Gp) lo Zh base (Vu P C Zs res ops o) H r1 (T++q) Oh os v T' v' H') ->
    ∃ v' H' r' Vf ov,(∀ {γ:Type} (k':Value->AH->Option γ),Uu P ec Bx Ev H o.op k'=k' v' H')/\Good C F lo Zh H' r' T' Vf (Gp++ov) /\
     Ko false H' (Ya F r' Vf (Gp++ov)) r' (Uo P C Zs res ops o ep) Ev E1 Gp/\VR H' (Ya F r' Vf (Gp++ov)) r' v v' ov/\OV v/\Mv H r Oh Xe H' r' Vf (Gp++ov)/\Mm base T T':=by
   intro v T' F lo Bx H r r1 Oh Xe Gp os Ev hb hG hE pre hc hR;obtain ⟨v',H',e,r',Vf,ov,g1,g2,g3,g4,g5,g6⟩:=hR
   have cx:∀ i∈Gp,r1.count i=0/\Oh.count i=0/\os.count i=0/\Gp.count i=1/\i < H.next:=λi hi=>by
    have h1:=hG.nd i;have h2:=Z8.2 hi;have h3:=hG.lt i (by unfold act;rw [List.count_append];omega)
    unfold act at h1;rw [List.count_append] at h1;exact ⟨by omega,by omega,by omega,by omega,h3.1⟩
   have hs:∀ i∈Gp,H'.get i=H.get i:=λi hi=>by
    obtain ⟨a1,a2,a3,a4,a5⟩:=cx i hi;exact g4.same i a5 (by unfold act;omega)
   have hj:=g1.join (λi=>by
    rcases Nat.eq_zero_or_pos (Gp.count i) with h1 |h1
    ·omega
    ·have:=(cx i (Z8.1 h1)).2.2.2.1;omega) (λi hi=>(hG.lt i (by unfold act;rw [List.count_append];have:=Z8.2 hi;omega)).2) λi hi=>hG.xlo i (List.mem_append_left _ hi)
   have m:=Za3 (Y:=Gp) g4;have m0:Mv H r Oh Xe H r1 Oh (Gp++os):=⟨Nat.le_refl _,λ_ _ _=>rfl,λi _=>hc i,pre⟩;refine ⟨v',H',r',Vf,ov,e,hj,m9 rfl hG hE m hs g5,by rw [<- P6];exact g2,g3,m0.trans m,(Mm.append hb).trans g6⟩
  cases ht:Ur C o.op with
  |true=>
   obtain ⟨v,T',a1,a2⟩:=Zig (base:=base) hs o ht hk;refine ⟨v,T',a1,λ{F lo Bx H r r1 Oh Xe Gp os ys Ev} J7 hb he hG hE hV pre hc xr hrl=>fin hb hG hE pre hc ?_⟩;have hA:=hG.apart;rw [<- P6] at hV
   have hl:ua=Zh/\lo<=Bx/\Bx<=H.next:=by
    rcases J7 with ⟨h1,h2⟩ |⟨h1,_,h2⟩ |⟨_,_,_,_,h1⟩
    ·exact ⟨h1,by omega,by have:=hG.lon;omega⟩
    ·exact ⟨h1,h2⟩
    ·rw [ht] at h1;cases h1
   obtain ⟨rfl,hl⟩:=hl;exact a2 hl.1 hl.2 hA hV he (by rw [List.length_append];omega)
  |false=>
   obtain ⟨v,T',a1,a2⟩:=op_sim (P:=P) (Zs:=Zs) (res:=res) (ops:=ops) (Zh:=ua) (base:=base) hs o hk hl;refine ⟨v,T',a1,λ{F lo Bx H r r1 Oh Xe Gp os ys Ev} J7 hb he hG hE hV pre hc xr hrl=>fin hb hG hE pre hc ?_⟩;have hA:=hG.apart;rw [<- P6] at hV;rcases J7 with ⟨h1,h2⟩ |⟨_,h1,_⟩ |⟨h1,h2,h3,h4,_⟩
   ·subst h1;subst h2;exact a2 hA hV he (by rw [List.length_append];omega)
   ·rw [ht] at h1;cases h1
   ·have hos:os=[]:=hV.Zah λm hm=>by
     obtain ⟨p,hp,rfl⟩:=List.mem_map.1 hm;unfold Rj at h3;rw [Ye,List.all_eq_true] at h3;exact h3 p hp
    have hq:q=[]:=by
     have h5:=hG.len
     have h6:r1.length<=r.length:=by
      rcases Nat.lt_or_ge r.length r1.length with h |h
      ·exact absurd (xr (Zd0 h3)) (by intro e;rw [e] at h;omega)
      ·exact h
     have h7:=hrl;rw [List.length_append] at h5;exact List.length_eq_zero_iff.1 (by omega)
    subst hos;subst hq;rw [List.append_nil] at hA a2 ⊢;have hOh:Oh=[]:=hA.heap.Znf (by rw [Ye,List.all_eq_true] at h4;exact h4)
    subst hOh;have hR:=Ze4 hA;rw [<- h2,<- h1] at hR;obtain ⟨v',H',k1,k2⟩:=a2 hR hV he hb;exact ⟨v',H',k1,Zix hA h1 (by rw [<- h2];exact k2)⟩
 unfold Zd6 at h;split at h
 ·rename_i hg;obtain ⟨xs,E1,q,h1,h2,a⟩:=N5 h;obtain ⟨v,T',b1,b2⟩:=step (E1:=E1) h1 h2;refine ⟨v,E1,T',b1,λ{F lo Bx H r Oh Xe Ev} J7 hI hb=>?_⟩;obtain ⟨ys,r1,Gp,os,c1,c2,c3,c4,c5,c6,c7⟩:=a (w:=Kk (λp:Md×Operand=>Xy p.1) (Qw P C Zs res ops o)) (Xv:=[]) (Ev:=Ev) id (by rw [List.append_nil];exact hI.1) (by rw [List.append_nil];exact hI.2.weak)
  rw [List.append_nil os] at c2 c3 c4 c7;rw [List.append_nil Xe] at c7;obtain ⟨v',H',r',Vf,ov,d1,d2,d3,d4,d5,d6,d7⟩:=b2 J7 hb c1 c2 c3 c4 c5 c7 c6 hI.1.len;have hc:∀ i,act r' Vf Gp i<=act r' Vf (Gp++ov) i:=λi=>by unfold act;rw [List.count_append];omega
  refine ⟨v',H',r',Vf,Gp,ov,λk'=>?_,⟨d2.less λi=>by rw [List.count_append];omega,d3.mono (Jg hc) (λ_ _ h=>h) (λ_ i _ hi=>⟨hi,rfl⟩) λ_ _=>rfl⟩,d2,d3,d4,d5,d6,d7⟩
  unfold Vn;rw [hg];exact d1 k'
 ·rename_i g hg;obtain ⟨p,p1,h⟩:=Zj h;obtain ⟨d,p2,h⟩:=Zj h;obtain ⟨e,p3,h⟩:=Zj h;obtain ⟨xs,E1,q,h1,h2,a⟩:=N5 h;obtain ⟨h3,h2⟩:=Zt h2
  obtain ⟨z,hz,hw⟩:∃ z:Value,(∀ {H:AH} {S:Nat->Prop} {r:List Nat} {y:Value} {o:List Nat},VR H S r (Gw ep e) y o->y=z)/\isBT e.2 g.2=isB z g.2:=by
   unfold Hg at h3;split at h3
   ·rename_i b hb
    have e2:Gw ep e=.v (.bool b):=by
     unfold Gw;rw [hb];cases Nat.beq e.1 ep <;> rfl
    refine ⟨.bool b,λ{H S r y o} h=>?_,by rw [hb];rfl⟩
    rw [e2] at h;exact (V0 h).1
   ·rename_i hb
    have e2:Gw ep e=.gone:=by
     unfold Gw;rw [hb];cases Nat.beq e.1 ep <;> rfl
    refine ⟨undef,λ{H S r y o} h=>?_,by rw [hb];rfl⟩
    rw [e2] at h;cases h with
    |k h=>cases h
    |gone=>rfl
   ·cases h3
  have read:∀ {F:Nat->Prop} {lo:Nat} {H:AH} {r Oh Xe:List Nat} {Ev:Env},S9 C F lo Zh ep Ev E H r T Oh Xe->X4 Ev d=some z:=by
   intro F lo H r Oh Xe Ev hI;obtain ⟨y,o1,O2,_,_,l1,l2,_⟩:=hI.2.look p3;rw [<- hz (show VR H _ r (Gw ep e) y o1 from l2)];exact l1
  rw [hw] at h2;obtain ⟨w,hwv⟩:∃ w,w=isB z g.2:=⟨_,rfl⟩;rw [<- hwv] at h2;cases w with
  |true=>
   obtain ⟨vT,h4,h5⟩:=we h2;obtain ⟨v,T',b1,b2⟩:=step (E1:=E1) h1 h4;cases b1;refine ⟨v,E1,T',h5,λ{F lo Bx H r Oh Xe Ev} J7 hI hb=>?_⟩;obtain ⟨ys,r1,Gp,os,c1,c2,c3,c4,c5,c6,c7⟩:=a (w:=Kk (λp:Md×Operand=>Xy p.1) (Qw P C Zs res ops o)) (Xv:=[]) (Ev:=Ev) id (by rw [List.append_nil];exact hI.1) (by rw [List.append_nil];exact hI.2.weak)
   rw [List.append_nil os] at c2 c3 c4 c7;rw [List.append_nil Xe] at c7;obtain ⟨v',H',r',Vf,ov,d1,d2,d3,d4,d5,d6,d7⟩:=b2 J7 hb c1 c2 c3 c4 c5 c7 c6 hI.1.len;have hc:∀ i,act r' Vf Gp i<=act r' Vf (Gp++ov) i:=λi=>by unfold act;rw [List.count_append];omega
   refine ⟨v',H',r',Vf,Gp,ov,λk'=>?_,⟨d2.less λi=>by rw [List.count_append];omega,d3.mono (Jg hc) (λ_ _ h=>h) (λ_ i _ hi=>⟨hi,rfl⟩) λ_ _=>rfl⟩,d2,d3,d4,d5,d6,d7⟩
   unfold Vn;rw [hg];show Zf (nth ops g.1) _=_;rw [p1,Zo,p2,Zo,read hI,Zo];unfold guarded;rw [<- hwv,d1];rfl
  |false=>
   refine ⟨.gone,E1,T++q,h2,λ{F lo Bx H r Oh Xe Ev} J7 hI hb=>?_⟩;obtain ⟨ys,r1,Gp,os,c1,c2,c3,c4,c5,c6,c7⟩:=a (w:=Kk (λp:Md×Operand=>Xy p.1) (Qw P C Zs res ops o)) (Xv:=[]) (Ev:=Ev) id (by rw [List.append_nil];exact hI.1) (by rw [List.append_nil];exact hI.2.weak)
   rw [List.append_nil os] at c2 c3 c4 c7;rw [List.append_nil Xe] at c7;have hc:∀ i,act r1 Oh (Gp++[]) i<=act r1 Oh (Gp++os) i:=λi=>by unfold act;rw [List.count_append,List.count_append];simp
   have m:Mv H r1 Oh (Gp++os) H r1 Oh (Gp++[]):=⟨Nat.le_refl _,λ_ _ _=>rfl,λi _=>hc i,λ_ _ h=>h⟩;have e1:=m9 (res:=res) (ov:=[]) rfl c2 c3 m (λ_ _=>rfl) (λ_ i _ hi=>⟨hi,rfl⟩);have g1:Good C F lo Zh H r1 (T++q) Oh (Gp++[]):=c2.less λi=>by rw [List.count_append,List.count_append];simp
   have m0:Mv H r Oh Xe H r1 Oh (Gp++os):=⟨Nat.le_refl _,λ_ _ _=>rfl,λi _=>c7 i,c5⟩;refine ⟨undef,H,r1,Oh,Gp,[],λk'=>?_,⟨by rw [List.append_nil] at g1;exact g1,by rw [List.append_nil] at e1;exact e1⟩,g1,e1,.gone,.inl .gone,m0.trans m,.append hb⟩
   unfold Vn;rw [hg];show Zf (nth ops g.1) _=_;rw [p1,Zo,p2,Zo,read hI,Zo];unfold guarded;rw [<- hwv];rfl
theorem Zg4 {F:Nat->Prop} {lo ep:Nat} {Ev:Env} {E:TE} {H:AH} {r Oh Xe ov:List Nat} {T:TH} {v:TV} {v':Value} (hG:Good C F lo Zh H r T Oh (Xe++ov)) (hE:Ko false H (Ya F r Oh (Xe++ov)) r ep Ev E Xe) (hv:VR H (Ya F r Oh (Xe++ov)) r v v' ov) (hn:OV v) (d:Option Tmp) :
  ∃ Bm,S9 C F lo Zh ep (Bv Ev d v') (putD E d ep v) H r T Oh Bm/\∀ i,Bm.count i<=(Xe++ov).count i:=by
 obtain ⟨O2,h1,h2⟩:=hE.put d hn hv;have hc:∀ i,O2.count i<=(Xe++ov).count i:=λi=>by rw [List.count_append];exact h2 i
 have ha:∀ i,act r Oh O2 i<=act r Oh (Xe++ov) i:=λi=>by unfold act;have:=hc i;omega
 exact ⟨O2,⟨hG.less hc,h1.mono (Jg ha) (λ_ _ h=>h) (λ_ i _ hi=>⟨hi,rfl⟩) λ_ _=>rfl⟩,hc⟩
def Left (C:TC) (F:Nat->Prop) (lo Zh base ep:Nat) (E:TE) (H:AH) (r:List Nat) (T:TH) (Oh Xe:List Nat) (T0:TH) (za:Env) (H':AH):Prop:=
 ∃ r' Vf Bm,S9 C F lo Zh ep za E H' r' T Vf Bm/\Mv H r Oh Xe H' r' Vf Bm/\Mm base T0 T
theorem Left.of {F:Nat->Prop} {lo ep:Nat} {za:Env} {E:TE} {H H1 H':AH} {r Oh Xe r1 Rb Gp:List Nat} {T T0 T1:TH} (h:Left C F lo Zh base ep E H1 r1 T Rb Gp T1 za H') (m:Mv H r Oh Xe H1 r1 Rb Gp) (l:Mm base T0 T1):Left C F lo Zh base ep E H r T Oh Xe T0 za H':=by
 obtain ⟨r',Vf,Bm,h1,h2,h3⟩:=h;exact ⟨r',Vf,Bm,h1,m.trans h2,l.trans h3⟩
theorem xp {H H':AH} {r Oh X r' Vf X' X2:List Nat} (m:Mv H r Oh X H' r' Vf X') (hc:∀ i,X2.count i<=X'.count i):Mv H r Oh X H' r' Vf X2:=
 ⟨m.next,m.same,λi hi=>by have:=m.less i hi;have:=hc i;unfold act at *;omega,m.pre⟩
theorem Zap (hs:Vp C tc ec) {nt:Nat} {β:Type}:∀ {l:List Oper} {ep:Nat} {E:TE} {T:TH} {k:TE->TH->Option β} {ρ:β},opsT P C tc Zs res Zh base nt ops l ep E T k=some ρ ->
  ∃ ep' E' T',k E' T'=some ρ/\∀ {F:Nat->Prop} {lo:Nat} {H:AH} {r Oh Xe:List Nat} {Ev:Env},S9 C F lo Zh ep Ev E H r T Oh Xe->base<=T.length ->
   ∃ za H',(∀ {γ:Type} (k':Env->AH->Option γ),ml P ec lo nt ops l Ev H k'=k' za H')/\Left C F lo Zh base ep' E' H r T' Oh Xe T za H'
 |[],ep,E,T,k,ρ,h=>⟨ep,E,T,h,λ{F lo H r Oh Xe Ev} hI _=>⟨Ev,H,λ_=>rfl,r,Oh,Xe,hI,.refl ..,.refl ..⟩⟩
 |o::l,ep,E,T,k,ρ,h=>by
  have h:cond (bound nt o.dst) (Zd6 P C tc Zs res ops Zh base ep E T o λv E H=>opsT P C tc Zs res Zh base nt ops l (Uo P C Zs res ops o ep) (putD E o.dst (Uo P C Zs res ops o ep) v) H k) none=some ρ:=h;cases hb:bound nt o.dst with
  |false=>rw [hb] at h;cases h
  |true=>
   rw [hb] at h;obtain ⟨v,E1,T1,h1,a⟩:=Zax hs o (show Zd6 P C tc Zs res ops Zh base ep E T o _=some ρ from h);obtain ⟨ep',E',T',h2,b⟩:=Zap hs h1;refine ⟨ep',E',T',h2,λ{F lo H r Oh Xe Ev} hI hl=>?_⟩;obtain ⟨v',H1,r1,Rb,Gp,ov,a1,_,a3,a4,a5,a6,a7,a8⟩:=a (Bx:=lo) (.inl ⟨rfl,rfl⟩) hI hl;obtain ⟨Xe2,c1,c2⟩:=Zg4 a3 a4 a5 a6 o.dst;obtain ⟨za,H',b1,b2⟩:=b c1 (Nat.le_trans hl a8.1);refine ⟨za,H',λk'=>?_,b2.of (xp a7 c2) a8⟩;show cond (bound nt o.dst) (Vn P ec lo ops Ev H o λv H=>ml P ec lo nt ops l (Bv Ev o.dst v) H k') none=_;rw [hb];show Vn P ec lo ops Ev H o _=_;rw [a1];exact b1 k'
def HdR (H:AH) (S:Nat->Prop) (r X:List Nat) (d:Hd) (y:Value):Prop:=
 match d with
 |.none=>Xl y=[]
 |.box b=>∃ i,r[b]? = some i/\Xl y=[i]
 |.own=>∃ i,i∈X/\Xl y=[i]
 |.set=>∃ i,S i/\Xl y=[i]
 |.any=>True
 |.row n=>∃ i,i ∉ r.take n/\n<=r.length/\Xl y=[i]
theorem Zb6 {a:Value} (h:flat a=true) (hn:ke a=true):Xl a=[]:=by
 cases a with
 |pointer a=>cases a with
  |none=>rfl
  |some=>cases h
 |map m=>cases m with
  |none=>rfl
  |some=>cases h
 |slice a _ _=>cases hn
 |_=>rfl
theorem hd_rel {H:AH} {S:Nat->Prop} {r X:List Nat} {x:TV} {y:Value} {o:List Nat} (h:VR H S r x y o) (ho:∀ i∈o,i∈X):HdR H S r X (hdT x) y:=by
 cases h with
 |k h=>cases h with
  |v h1 h2=>exact Zb6 h1 h2
  |nil=>rfl
  | @row c n es i off cap s cs e hc hi=>cases c with
   |nil=>exact hc.elim
   |full=>exact ⟨i,hi,rfl⟩
   |Jf=>exact ⟨i,hi,rfl⟩
  |agg=>rfl
  |iface=>rfl
  |fn0=>rfl
 | @D7 c n es i off cap s cs e hc=>cases c with
  |nil=>exact hc.elim
  |full=>trivial
  |Jf=>trivial
 | @own c n es i cs e hc=>cases c with
  |nil=>exact absurd rfl hc
  |full=>exact ⟨i,ho i (List.mem_singleton.2 rfl),rfl⟩
  |Jf=>exact ⟨i,ho i (List.mem_singleton.2 rfl),rfl⟩
 |ptr h=>exact ⟨_,h,rfl⟩
 |elS hi=>exact ⟨_,hi,rfl⟩
 |elB=>trivial
 |vec h=>exact ⟨_,h,rfl⟩
 |map h=>exact ⟨_,h,rfl⟩
 |fn=>rfl
 |agg=>rfl
 |Xh=>trivial
 |Cq=>trivial
 |gone=>trivial
theorem Zad {ep:Nat} {E:TE} {o:Operand} {x:TV} (h:rawT P C ep E o=some x) {F:Nat->Prop} {lo:Nat} {H:AH} {r Oh Xe:List Nat} {T:TH} {Ev:Env} (hI:S9 C F lo Zh ep Ev E H r T Oh Xe) :
  ∃ y ox,K9 P Ev o=some y/\VR H (Ya F r Oh Xe) r x y ox/\∀ i∈ox,i∈Xe:=by
 cases o with
 |tmp t=>
  obtain ⟨p,h1,h2⟩:=Zj h;cases h2;obtain ⟨y,o1,O2,_,_,l1,l2,_,l4⟩:=hI.2.look h1;exact ⟨y,o1,l1,l2,λi hi=>Z8.1 (by have:=l4 i;have:=Z8.2 hi;omega)⟩
 |const v=>
  obtain ⟨h1,h2⟩:=Zt h;cases h2;refine ⟨v,[],?_,(rn h1).1,λi hi=>by cases hi⟩
  show Zp (plain v) (some v)=_;rw [h1];rfl
 |global g=>
  obtain ⟨cs,h1,h2⟩:=Zj h;obtain ⟨h3,h4⟩:=Zt h2;cases h4;obtain ⟨a1,a2,s,ds,e,a3,a4,a5,a7,a6⟩:=hI.1.Bs g cs h1;refine ⟨.pointer (some ⟨g,0,none⟩),[],?_,.elS (o:=0) (off:=0) a1 a2 a3 a4 (by omega) a7 (by rw [List.drop_zero];exact a6),λi hi=>by cases hi⟩
  show Zp (Nat.blt g P.globals.size) _=_;rw [h3];rfl
 |func f=>
  cases h;exact ⟨_,[],rfl,.k .fn0,λi hi=>by cases hi⟩
def HdS (H:AH) (S:Nat->Prop) (r:List Nat) (d:Hd) (y:Value):Prop:=match d with |.own=>False |.set=>∃ i,S i/\i < H.next/\Xl y=[i] |h=>HdR H S r [] h y
def HER (H:AH) (S:Nat->Prop) (r:List Nat) (Ev:Env) (hs:HE):Prop:=∀ t h,Zba hs t=h->∀ y,X4 Ev t=some y->HdS H S r h y
theorem Zg9 {H:AH} {S:Nat->Prop} {r:List Nat} {T:TH} {x:TV} {y:Value} {o:List Nat} (hl:r.length=T.length) (ho:∀ i∈o,i ∉ r) (h:VR H S r x y o):HdS H S r (hdP T x) y:=by
 have nr:∀ {i:Nat},i ∉ r->i ∉ r.take (Zb T):=λhi h=>hi (List.mem_of_mem_take h);have nl:Zb T<=r.length:=by rw [Zz,hl];exact Nat.le_refl _
 cases h with
 |k h=>cases h with
  |v h1 h2=>exact Zb6 h1 h2
  |nil=>rfl
  | @row c n es i off cap s cs e hc hi hl=>cases c with
   |nil=>exact hc.elim
   |full=>exact ⟨i,hi,hl,rfl⟩
   |Jf=>exact ⟨i,hi,hl,rfl⟩
  |agg=>rfl
  |iface=>rfl
  |fn0=>rfl
 | @D7 c n es i off cap s cs e hc hi=>cases c with
  |nil=>exact hc.elim
  |full=>exact ⟨i,nr hi,nl,rfl⟩
  |Jf=>exact ⟨i,nr hi,nl,rfl⟩
 | @own c n es i cs e hc=>cases c with
  |nil=>exact absurd rfl hc
  |full=>exact ⟨i,nr (ho i (List.mem_singleton.2 rfl)),nl,rfl⟩
  |Jf=>exact ⟨i,nr (ho i (List.mem_singleton.2 rfl)),nl,rfl⟩
 |ptr h=>exact ⟨_,h,rfl⟩
 |elS hi hl=>exact ⟨_,hi,hl,rfl⟩
 |elB hi=>exact ⟨_,nr hi,nl,rfl⟩
 |vec h=>exact ⟨_,h,rfl⟩
 |map h=>exact ⟨_,h,rfl⟩
 |fn=>rfl
 |agg=>rfl
 |Xh=>trivial
 |Cq=>trivial
 |gone=>trivial
theorem Zll {r r':List Nat} {n:Nat} (g:∀ (b i:Nat),r[b]? = some i->r'[b]? = some i) (hn:n<=r.length):r'.take n=r.take n/\n<=r'.length:=by
 have h1:n<=r'.length:=by
  rcases Nat.eq_zero_or_pos n with h |h
  ·omega
  ·have h2:r[n - 1]? = some (r[n - 1]'(by omega)):=List.getElem?_eq_getElem (by omega)
   have h3:=g _ _ h2;rcases Nat.lt_or_ge (n - 1) r'.length with h4 |h4
   ·omega
   ·rw [List.getElem?_eq_none h4] at h3;cases h3
 refine ⟨List.ext_getElem? λi=>?_,h1⟩;rw [List.getElem?_take,List.getElem?_take];split
 ·rename_i hi;have h2:r[i]? = some (r[i]'(by omega)):=List.getElem?_eq_getElem (by omega)
  rw [h2,g _ _ h2]
 ·rfl
theorem HdR.stay {H H':AH} {S S':Nat->Prop} {r r':List Nat} {d:Hd} {y:Value} (st:Wb H S H' S') (g:∀ (b i:Nat),r[b]? = some i->r'[b]? = some i) (hd:HdS H S r d y):HdS H' S' r' d y:=by
 cases d with
 |none=>exact hd
 |box b=>obtain ⟨i,h1,h2⟩:=hd;exact ⟨i,g _ _ h1,h2⟩
 |own=>exact hd
 |set=>obtain ⟨i,h1,h2,h3⟩:=hd;exact ⟨i,(st.2 i h2 h1).1,Nat.lt_of_lt_of_le h2 st.1,h3⟩
 |any=>trivial
 |row n=>
  obtain ⟨i,h1,h2,h3⟩:=hd;obtain ⟨h4,h5⟩:=Zll g h2;exact ⟨i,by rw [h4];exact h1,h5,h3⟩
theorem HER.put {H H':AH} {S S':Nat->Prop} {r r':List Nat} {Ev:Env} {hs:HE} (h:HER H S r Ev hs) (st:Wb H S H' S') (g:∀ (b i:Nat),r[b]? = some i->r'[b]? = some i) {d:Option Tmp} {v':Value} {e:Hd} (he:HdS H' S' r' e v'):HER H' S' r' (Bv Ev d v') (putH hs d e):=by
 cases d with
 |none=>exact λt k hk y hy=>HdR.stay st g (h t k hk y hy)
 |some d=>
  intro t k hk y hy;have hk:cond (Nat.beq d t) e (Zba hs t)=k:=hk;have hy:cond (Nat.beq d t) (some v') (X4 Ev t)=some y:=hy;cases hb:Nat.beq d t with
  |true=>rw [hb] at hk hy;cases hk;cases hy;exact he
  |false=>rw [hb] at hk hy;exact HdR.stay st g (h t k hk y hy)
theorem HER.start {F:Nat->Prop} {lo:Nat} {H:AH} {r Oh Xe:List Nat} {T:TH} {Ev:Env} (hG:Good C F lo Zh H r T Oh Xe):∀ {E:TE} {O:List Nat},Ko false H (Ya F r Oh Xe) r 0 Ev E O->(∀ i∈O,i∈Xe)->HER H (Ya F r Oh Xe) r Ev (Nx T E)
 |_,_,.nil,_=>λt h hk y hy=>by cases hk;trivial
 |_,_,.cons (t:=s) (p:=p) (o:=o) (y:=z) he hv ht h k,ho=>by
  intro t e hk y hy;have hk:cond (Nat.beq s t) (hdP T p.2) (Zba (Nx T _) t)=e:=hk;cases hb:Nat.beq s t with
  |true=>
   rw [hb] at hk;have:=Qb hb;subst this;rw [ht] at hy;cases hy;have en:Gw 0 p=p.2:=by unfold Gw;rw [Uj (by omega)];rfl
   rw [en] at h
   have:=Zg9 (T:=T) hG.len (λi hi hr=>by
    have h1:=(hG.Eb hr).2.2.2.2;have h2:=Z8.2 (ho i (List.mem_append_left _ hi));omega) (show VR H _ r p.2 z o from h)
   have hk:hdP T p.2=e:=hk;rw [hk] at this;exact this
  |false=>rw [hb] at hk;exact HER.start hG k (λi hi=>ho i (List.mem_append_right _ hi)) t e hk y hy
theorem Zrz {H:AH} {S:Nat->Prop} {r X:List Nat} {x:TV} {y:Value} {e:Hd} (h:HdR H S r X (hdT x) y) (he:HdS H S r e y):HdR H S r X (hdX x e) y:=by
 have e1:HdR H S r X e y:=by
  cases e with
  |own=>exact he.elim
  |none=>exact he
  |box=>exact he
  |set=>obtain ⟨i,h1,h2,h3⟩:=he;exact ⟨i,h1,h3⟩
  |any=>exact he
  |row=>exact he
 unfold hdX;split
 ·exact e1
 ·exact h
theorem js {ep:Nat} {E:TE} {F:Nat->Prop} {lo:Nat} {H:AH} {r Oh Xe:List Nat} {T:TH} {Ev:Env} {hs:HE} (hI:S9 C F lo Zh ep Ev E H r T Oh Xe) (hh:HER H (Ya F r Oh Xe) r Ev hs):∀ {l:List Operand} {xs:List Hd},Zbs P C ep E hs l=some xs ->
  ∃ ys,Gl P Ev l=some (ys.map Xl)/\Nr (λx y=>HdR H (Ya F r Oh Xe) r Xe x y) xs ys
 |[],xs,h=>by cases h;exact ⟨[],rfl,.nil⟩
 |o::l,xs,h=>by
  obtain ⟨d,h1,h2⟩:=Zj (show Zf (hdO P C ep E hs o) (λv=>Zf (Zbs P C ep E hs l) λl=>some (v::l))=some xs from h);obtain ⟨xs2,h3,h4⟩:=Zj h2;cases h4;obtain ⟨x,h5,h6⟩:=Zj h1;cases h6;obtain ⟨y,ox,a1,a2,a3⟩:=Zad h5 hI;obtain ⟨ys,b1,b2⟩:=js hI hh h3;refine ⟨y::ys,?_,.cons (Zrz (hd_rel a2 a3) ?_) b2⟩
  ·show Zf (K9 P Ev o) (λv=>Zf (Gl P Ev l) λl=>some (Xl v::l))=_;rw [a1,Zo,b1];rfl
  ·cases o with
   |tmp t=>exact hh t _ rfl y a1
   |const=>trivial
   |global=>trivial
   |func=>trivial
theorem Zfu {F:Nat->Prop} {lo:Nat} {H:AH} {r Oh Xe:List Nat} {T:TH} (hG:Good C F lo Zh H r T Oh Xe) {d e:Hd} {y z:Value} (hd:HdR H (Ya F r Oh Xe) r Xe d y) (he:HdR H (Ya F r Oh Xe) r Xe e z) (ha:Zp6 d e=true) :
  ∀ i∈Xl y,∀ j∈Xl z,i≠j:=by
 have none:Xl y=[]\/Xl z=[]->∀ i∈Xl y,∀ j∈Xl z,i≠j:=by
  rintro (h |h) i hi j hj
  ·rw [h] at hi;cases hi
  ·rw [h] at hj;cases hj
 have two:∀ {i j:Nat},Xl y=[i]->Xl z=[j]->i≠j->∀ i∈Xl y,∀ j∈Xl z,i≠j:=by
  intro i j h1 h2 h3 a ha b hb;rw [h1,List.mem_singleton] at ha;rw [h2,List.mem_singleton] at hb;rw [ha,hb];exact h3
 have ra:∀ {i:Nat},i∈r->¬ Ya F r Oh Xe i:=λ{i} h1 h2=>by have:=Z8.2 h1;have:=h2.2;unfold act at this;omega
 have xa:∀ {i:Nat},i∈Xe->¬ Ya F r Oh Xe i:=λ{i} h1 h2=>by have:=Z8.2 h1;have:=h2.2;unfold act at this;omega
 have rx:∀ {i:Nat},i∈r->¬ i∈Xe:=λ{i} h1 h2=>by have:=(hG.Eb h1).2.2.2.2;have:=Z8.2 h2;omega
 cases d with
 |none=>exact none (.inl hd)
 |box b=>
  obtain ⟨i,hi,hyi⟩:=hd;cases e with
  |none=>exact none (.inr he)
  |box c=>
   obtain ⟨j,hj,hzj⟩:=he
   have Da:b≠c:=λe=>by
    have ha:(!(Nat.beq b c))=true:=ha;rw [Uj e] at ha;cases ha
   exact two hyi hzj λe=>Da (hG.inj hi (e ▸ hj))
  |own=>obtain ⟨j,hj,hzj⟩:=he;exact two hyi hzj λe=>rx (Wz hi) (e ▸ hj)
  |set=>obtain ⟨j,hj,hzj⟩:=he;exact two hyi hzj λe=>ra (Wz hi) (e ▸ hj)
  |any=>cases ha
  |row n=>
   obtain ⟨j,hj,hn,hzj⟩:=he;have ha:Nat.blt b n=true:=ha;exact two hyi hzj λe=>hj (List.mem_iff_getElem?.2 ⟨b,by rw [List.getElem?_take,if_pos (by simpa [Nat.blt_eq] using ha),hi,e]⟩)
 |own=>
  obtain ⟨i,hi,hyi⟩:=hd;cases e with
  |none=>exact none (.inr he)
  |box c=>obtain ⟨j,hj,hzj⟩:=he;exact two hyi hzj λe=>rx (Wz hj) (e ▸ hi)
  |set=>obtain ⟨j,hj,hzj⟩:=he;exact two hyi hzj λe=>xa hi (e ▸ hj)
  |own=>cases ha
  |any=>cases ha
  |row=>cases ha
 |set=>
  obtain ⟨i,hi,hyi⟩:=hd;cases e with
  |none=>exact none (.inr he)
  |box c=>obtain ⟨j,hj,hzj⟩:=he;exact two hyi hzj λe=>ra (Wz hj) (e ▸ hi)
  |own=>obtain ⟨j,hj,hzj⟩:=he;exact two hyi hzj λe=>xa hj (e ▸ hi)
  |set=>cases ha
  |any=>cases ha
  |row=>cases ha
 |row n=>
  obtain ⟨i,hi,hn,hyi⟩:=hd;cases e with
  |none=>exact none (.inr he)
  |box c=>
   obtain ⟨j,hj,hzj⟩:=he;have ha:Nat.blt c n=true:=ha;exact two hyi hzj λe=>hi (List.mem_iff_getElem?.2 ⟨c,by rw [List.getElem?_take,if_pos (by simpa [Nat.blt_eq] using ha),hj,e]⟩)
  |own=>cases ha
  |set=>cases ha
  |any=>cases ha
  |row=>cases ha
 |any=>cases e with
  |none=>exact none (.inr he)
  |_=>cases ha
theorem wk {α β:Type} {R:α->β->Prop}:∀ {xs:List α} {ys:List β},Nr R xs ys->∀ y∈ys,∃ x∈xs,R x y
 |_,_,.nil,y,hy=>by cases hy
 |_,_,.cons h t,y,hy=>by
  rcases List.mem_cons.1 hy with rfl |hy
  ·exact ⟨_,List.mem_cons_self ..,h⟩
  ·obtain ⟨x,hx,hr⟩:=wk t y hy;exact ⟨x,List.mem_cons_of_mem _ hx,hr⟩
theorem Zft {F:Nat->Prop} {lo:Nat} {H:AH} {r Oh Xe:List Nat} {T:TH} (hG:Good C F lo Zh H r T Oh Xe) {a b:List Hd} {ya yb:List Value} (ha:Nr (λx y=>HdR H (Ya F r Oh Xe) r Xe x y) a ya) (hb:Nr (λx y=>HdR H (Ya F r Oh Xe) r Xe x y) b yb) (h:Tb a b=true) :
  D3 (ya.map Xl) (yb.map Xl)=true:=by
 unfold Tb at h;rw [Ye,List.all_eq_true] at h;unfold D3;rw [List.all_eq_true];intro u hu;rw [List.all_eq_true];intro v hv;obtain ⟨y,hy,rfl⟩:=List.mem_map.1 hu;obtain ⟨z,hz,rfl⟩:=List.mem_map.1 hv;obtain ⟨x,hx,hx2⟩:=wk ha y hy;obtain ⟨w,hw,hw2⟩:=wk hb z hz;have h1:=h x hx;rw [Ye,List.all_eq_true] at h1;have h2:=Zfu hG hx2 hw2 (h1 w hw);rw [List.all_eq_true];intro i hi;rw [List.all_eq_true];intro j hj;have h3:=h2 i hi j hj;cases hbq:Nat.beq i j with
 |false=>rfl
 |true=>exact absurd (Nat.eq_of_beq_eq_true hbq) h3
theorem du (hs:Vp C tc ec) {nt:Nat} {β:Type}:∀ {l:List Oper} {rows:List Row} {ep:Nat} {hs:HE} {E:TE} {T:TH} {k:TE->TH->Option β} {ρ:β},dv P C tc Zs res Zh base nt ops l rows ep hs E T k=some ρ ->
  ∃ ep' E' T',k E' T'=some ρ/\∀ {F:Nat->Prop} {lo:Nat} {H:AH} {r Oh Xe:List Nat} {Ev:Env},S9 C F lo Zh ep Ev E H r T Oh Xe->HER H (Ya F r Oh Xe) r Ev hs->base<=T.length ->
   ∃ za H',(∀ {γ:Type} (k':Env->AH->Option γ),Ak P ec lo nt ops l rows Ev H k'=k' za H')/\Left C F lo Zh base ep' E' H r T' Oh Xe T za H'
 |[],rows,ep,hs,E,T,k,ρ,h=>⟨ep,E,T,h,λ{F lo H r Oh Xe Ev} hI _ _=>⟨Ev,H,λ_=>rfl,r,Oh,Xe,hI,.refl ..,.refl ..⟩⟩
 |o::l,[],ep,hs,E,T,k,ρ,h=>by cases h
 |o::l,w::rows,ep,hd,E,T,k,ρ,h=>by
  have h:cond (bound nt o.dst)
    (Zf (Zbs P C ep E hd w.apart) λa=>Zf (Zbs P C ep E hd w.own) λb=>Zp (Tb a b)
     (Zp (cond w.quiet (Zgp P C Zs res ops T o) true)<| Zd6 P C tc Zs res ops (cond w.quiet (pz C Zh T o) Zh) base ep E T o λv E H=>dv P C tc Zs res Zh base nt ops l rows (Uo P C Zs res ops o ep) (putH hd o.dst (hdP H v)) (putD E o.dst (Uo P C Zs res ops o ep) v) H k)) none=some ρ:=h
  cases hb:bound nt o.dst with
  |false=>rw [hb] at h;cases h
  |true=>
   rw [hb] at h;obtain ⟨a,ha,h⟩:=Zj (show Zf (Zbs P C ep E hd w.apart) _=some ρ from h);obtain ⟨b,Hl,h⟩:=Zj h;obtain ⟨hap,h⟩:=Zt h;obtain ⟨hq,h⟩:=Zt h;obtain ⟨v,E1,T1,h1,a⟩:=Zax hs o h;obtain ⟨ep',E',T',h2,b⟩:=du hs h1;refine ⟨ep',E',T',h2,λ{F lo H r Oh Xe Ev} hI hh hl=>?_⟩;obtain ⟨ya,y1,y2⟩:=js hI hh ha;obtain ⟨yb,z1,z2⟩:=js hI hh Hl;have hdis:=Zft hI.1 y2 z2 hap
   have J7:LoOk P C Zs res ops T o Zh (cond w.quiet (pz C Zh T o) Zh) lo (cond w.quiet H.next lo) H:=by
    cases hw:w.quiet with
    |false=>exact .inl ⟨rfl,rfl⟩
    |true=>
     rw [hw] at hq;have hq:cond (Ur C o.op) true (cond (Rj P C Zs res ops o) (Z2 X3 T) false)=true:=hq;show LoOk P C Zs res ops T o Zh (cond (Ur C o.op) Zh (Zb T)) lo H.next H
     cases ht:Ur C o.op with
     |true=>exact .inr (.inl ⟨rfl,ht,hI.1.lon,Nat.le_refl _⟩)
     |false=>
      rw [ht] at hq;cases hp:Rj P C Zs res ops o with
      |false=>rw [hp] at hq;cases hq
      |true=>rw [hp] at hq;exact .inr (.inr ⟨Zz T,rfl,hp,hq,ht⟩)
   have hlq:cond w.quiet (Nat.ble lo H.next) true=true:=by
    cases w.quiet with
    |false=>rfl
    |true=>show Nat.ble lo H.next=true;rw [Nat.ble_eq];exact hI.1.lon
   obtain ⟨v',H1,r1,Rb,Gp,ov,a1,_,a3,a4,a5,a6,a7,a8⟩:=a J7 hI hl;obtain ⟨Xe2,c1,c2⟩:=Zg4 a3 a4 a5 a6 o.dst;have mm:=xp a7 c2
   have hov:∀ i∈ov,i ∉ r1:=λi hi hr=>by
    have h1:=(a3.Eb hr).2.2.2.2;have h2:=Z8.2 hi;rw [List.count_append] at h1;omega
   have ha2:∀ i,act r1 Rb Xe2 i<=act r1 Rb (Gp++ov) i:=λi=>by unfold act;have:=c2 i;omega
   have hp:=Zg9 (T:=T1) a3.len hov a5;obtain ⟨za,H',b1,b2⟩:=b c1 (hh.put (d:=o.dst) mm.stay mm.pre (HdR.stay (Jg ha2) (λ_ _ h=>h) hp)) (Nat.le_trans hl a8.1);refine ⟨za,H',λk'=>?_,b2.of (xp a7 c2) a8⟩
   show cond (bound nt o.dst) (Zf (Gl P Ev w.apart) λa=>Zf (Gl P Ev w.own) λb=>Zp (D3 a b) (Zp (cond w.quiet (Nat.ble lo H.next) true)
     (Vn P ec (cond w.quiet H.next lo) ops Ev H o λv H=>Ak P ec lo nt ops l rows (Bv Ev o.dst v) H k'))) none=_
   rw [hb];show Zf (Gl P Ev w.apart) _=_;rw [y1,Zo,z1,Zo,hdis];show Zp (cond w.quiet (Nat.ble lo H.next) true) _=_
   rw [hlq];show Vn P ec _ ops Ev H o _=_;rw [a1];exact b1 k'
theorem sw (hs:Vp C tc ec) {nt:Nat} {β:Type} {draw:Bool} {E:TE} {T:TH} {k:TE->TH->Option β} {ρ:β} (h:xk P C tc Zs res Zh base nt ops draw E T k=some ρ) :
  ∃ ep' E' T',k E' T'=some ρ/\∀ {F:Nat->Prop} {lo:Nat} {H:AH} {r Oh Xe:List Nat} {Ev:Env},S9 C F lo Zh 0 Ev E H r T Oh Xe->base<=T.length ->
   ∃ za H',(∀ {γ:Type} (k':Env->AH->Option γ),Pw P ec lo nt ops draw Ev H k'=k' za H')/\Left C F lo Zh base ep' E' H r T' Oh Xe T za H':=by
 cases draw with
 |false=>exact Zap hs h
 |true=>
  have h:cond (L5 ops (Yp ops [])).ok (dv P C tc Zs res Zh base nt ops ops (L5 ops (Yp ops [])).rows 0 (Nx T E) E T k) none=some ρ:=h;cases hp:(L5 ops (Yp ops [])).ok with
  |false=>rw [hp] at h;cases h
  |true=>
   rw [hp] at h;obtain ⟨ep',E',T',h2,b⟩:=du hs (show dv P C tc Zs res Zh base nt ops ops (L5 ops (Yp ops [])).rows 0 (Nx T E) E T k=some ρ from h);refine ⟨ep',E',T',h2,λ{F lo H r Oh Xe Ev} hI hl=>?_⟩;obtain ⟨za,H',b1,b2⟩:=b hI (HER.start hI.1 hI.2 λ_ h=>h) hl;refine ⟨za,H',λk'=>?_,b2⟩;show cond (L5 ops (Yp ops [])).ok (Ak P ec lo nt ops ops (L5 ops (Yp ops [])).rows Ev H k') none=_;rw [hp];exact b1 k'
end
end Go.Ev
namespace Go.Ev
section
variable {P:Program} {C:TC} {tc:Z3} {ec:Jh} {Zs res:List Tmp} {Zh base:Nat}
theorem eu {E:TE} {t:Tmp} {p:Nat×TV} (h:Pn E t=some p):(t,p)∈E:=by
 induction E with
 |nil=>cases h
 |cons x E ih=>
  obtain ⟨s,q⟩:=x;have h:cond (Nat.beq s t) (some q) (Pn E t)=some p:=h;cases hb:Nat.beq s t with
  |true=>rw [hb] at h;cases h;have:=Qb hb;subst this;exact List.mem_cons_self ..
  |false=>rw [hb] at h;exact List.mem_cons_of_mem _ (ih h)
theorem Zjm {E:TE} {t:Tmp} {x:Tmp×Nat×TV} (h:x∈I7 E t):x∈E:=by
 induction E with
 |nil=>cases h
 |cons y E ih=>
  obtain ⟨s,q⟩:=y;have h:x∈cond (Nat.beq s t) (I7 E t) ((s,q)::I7 E t):=h;cases hb:Nat.beq s t with
  |true=>rw [hb] at h;exact List.mem_cons_of_mem _ (ih h)
  |false=>
   rw [hb] at h;rcases List.mem_cons.1 h with h |h
   ·rw [h];exact List.mem_cons_self ..
   ·exact List.mem_cons_of_mem _ (ih h)
theorem Zh7 (ep:Nat) (p:Nat×TV):Zr (Gw ep p)=Zr p.2:=by
 unfold Gw;cases Nat.beq p.1 ep with
 |true=>rfl
 |false=>exact Tx _
theorem Zlf:OV Zk:=.inl (.Xh .nil λc hc=>by cases hc)
theorem Zeg {H:AH} {S:Nat->Prop} {r:List Nat} {ep:Nat} {Ev Ev2:Env}:∀ (Zs:List Tmp) {E:TE} {O:List Nat},Ko false H S r ep Ev E O->(∀ t∈Zs,X4 Ev2 t=some ((X4 Ev t).getD undef)) ->
  ∃ O2,Ko false H S r 0 Ev2 (Mo Zs (mkT E Zs)) O2/\∀ i,O2.count i<=O.count i
 |[],E,O,_,_=>⟨[],.nil,λi=>by simp⟩
 |t::ts,E,O,h,he=>by
  show ∃ O2,Ko false H S r 0 Ev2 ((t,0,Zr ((Pn E t).getD (0,Zk)).2)::Mo ts (mkT (I7 E t) ts)) O2/\_;cases hl:Pn E t with
  |none=>
   obtain ⟨O2,h1,h2⟩:=h.less t;obtain ⟨O3,h3,h4⟩:=Zeg ts h1 λs hs=>he s (List.mem_cons_of_mem _ hs);refine ⟨[]++O3,.cons (y:=(X4 Ev t).getD undef) (Nat.le_refl _) (by rw [W4];exact Zlf) (he t (List.mem_cons_self ..)) ?_ h3,λi=>by rw [List.nil_append];exact Nat.le_trans (h4 i) (h2 i)⟩
   rw [W4];exact .Cq
  |some p=>
   obtain ⟨y,o,O2,_,a1,a2,a3,a4,a5⟩:=h.look hl;obtain ⟨O3,h3,h4⟩:=Zeg ts a4 λs hs=>he s (List.mem_cons_of_mem _ hs);have a3:VR H S r (Gw ep p) y o:=a3;have e:Zr ((some p:Option (Nat×TV)).getD (0,Zk)).2=Zr (Gw ep p):=(Zh7 ep p).symm;rw [e];refine ⟨o++O3,.cons (y:=y) (Nat.le_refl _) (by rw [W4];exact .inl (Ft a1)) ((he t (List.mem_cons_self ..)).trans (by rw [a2];rfl)) ?_ h3,λi=>by rw [List.count_append];have:=h4 i;have:=a5 i;omega⟩
   rw [W4];exact Nz a3
theorem Zla (Ev:Env):∀ (Zs:List Tmp) (t:Tmp),t∈Zs->X4 (Wt Zs (mkV Ev Zs)) t=some ((X4 Ev t).getD undef)
 |s::ts,t,h=>by
  show cond (Nat.beq s t) (some ((X4 Ev s).getD undef)) (X4 (Wt ts (mkV Ev ts)) t)=_;cases hb:Nat.beq s t with
  |true=>have:=Qb hb;subst this;rfl
  |false=>
   rcases List.mem_cons.1 h with h |h
   ·exact absurd h.symm (Vq hb)
   ·exact Zla Ev ts t h
def V9 (C:TC) (Zh base:Nat) (Zs:List Tmp) (f:Z4 (VT Zs)) (g:Nat->Piece (V Zs)):Prop:=
 ∀ {ST:VT Zs} {T:TH} {e:Ex} {nf:VT Zs} {T':TH},f ST T=some (e,nf,T')->∀ {F:Nat->Prop} {lo:Nat} {H:AH} {r Oh Xe:List Nat} {SV:V Zs},S9 C F lo Zh 0 (Wt Zs SV) (Mo Zs ST) H r T Oh Xe->base<=T.length ->
  ∃ SV' H',g lo SV H=some (e,SV',H')/\Left C F lo Zh base 0 (Mo Zs nf) H r T' Oh Xe T (Wt Zs SV') H'
theorem Nd (e:Ex):V9 C Zh base Zs (Zn e) (λ_=>Zcj e):=by
 intro ST T e2 nf T' h F lo H r Oh Xe SV hI _;cases h;exact ⟨SV,H,rfl,r,Oh,Xe,hI,.refl ..,.refl ..⟩
theorem Zn6 {F:Nat->Prop} {lo ep:Nat} {E:TE} {H H':AH} {r Oh Xe:List Nat} {T T0:TH} {za:Env} (h:Left C F lo Zh base ep E H r T Oh Xe T0 za H'):T0.length<=T.length:=by
 obtain ⟨_,_,_,_,_,h⟩:=h;exact h.1
theorem ez {F:Nat->Prop} {lo:Nat} {H H1:AH} {r Oh Xe:List Nat} {T0 T1 T':TH} {ST1 nf:VT Zs} {SV1:V Zs} {g:Nat->Piece (V Zs)} {e:Ex} (h:Left C F lo Zh base 0 (Mo Zs ST1) H r T1 Oh Xe T0 (Wt Zs SV1) H1)
  (k:∀ {r Oh Xe:List Nat},S9 C F lo Zh 0 (Wt Zs SV1) (Mo Zs ST1) H1 r T1 Oh Xe->base<=T1.length->∃ SV' H',g lo SV1 H1=some (e,SV',H')/\Left C F lo Zh base 0 (Mo Zs nf) H1 r T' Oh Xe T1 (Wt Zs SV') H') (hb:base<=T0.length) :
  ∃ SV' H',g lo SV1 H1=some (e,SV',H')/\Left C F lo Zh base 0 (Mo Zs nf) H r T' Oh Xe T0 (Wt Zs SV') H':=by
 have hl:=Zn6 h;obtain ⟨r1,Rb,Gp,a1,a2,a3⟩:=h;obtain ⟨SV',H',b1,b2⟩:=k a1 (Nat.le_trans hb hl);exact ⟨SV',H',b1,b2.of a2 a3⟩
theorem Zqu {f f':Z4 (VT Zs)} {g g':Nat->Piece (V Zs)} (h:V9 C Zh base Zs f g) (h':V9 C Zh base Zs f' g'):V9 C Zh base Zs (Zi f f') (λlo=>seqE (g lo) (g' lo)):=by
 intro ST T e nf T' hf F lo H r Oh Xe SV hI hb;unfold Zi at hf;unfold seqE;show ∃ SV' H',Option.rec (motive:=λ_=>Bn (V Zs)) none (λp=>Ex.casesOn (motive:=λ_=>Bn (V Zs)) p.1 (g' lo p.2.1 p.2.2) (λ_=>some p) (some p)) (g lo SV H)=_/\_;cases hp:f ST T with
 |none=>rw [hp] at hf;cases hf
 |some p=>
  obtain ⟨e1,ST1,T1⟩:=p;rw [hp] at hf;obtain ⟨SV1,H1,a1,a2⟩:=h hp hI hb;rw [a1];cases e1 with
  |normal=>
   have hf:f' ST1 T1=some (e,nf,T'):=hf;exact ez a2 (g:=g') (λh1 h2=>h' hf h1 h2) hb
  |exit id=>cases hf;exact ⟨SV1,H1,rfl,a2⟩
  |ret=>cases hf;exact ⟨SV1,H1,rfl,a2⟩
theorem Zk1 {f:Z4 (VT Zs)} {g:Nat->Piece (V Zs)} (id:Nat) (h:V9 C Zh base Zs f g):V9 C Zh base Zs (Z9 id f) (λlo=>S7 id (g lo)):=by
 intro ST T e nf T' hf F lo H r Oh Xe SV hI hb;unfold Z9 at hf;unfold S7;show ∃ SV' H',Option.rec (motive:=λ_=>Bn (V Zs)) none (λp=>Ex.casesOn (motive:=λ_=>Bn (V Zs)) p.1 (some p) (λSl=>cond (Nat.beq Sl id) (some (.normal,p.2)) (some p)) (some p)) (g lo SV H)=_/\_;cases hp:f ST T with
 |none=>rw [hp] at hf;cases hf
 |some p=>
  obtain ⟨e1,ST1,T1⟩:=p;rw [hp] at hf;obtain ⟨SV1,H1,a1,a2⟩:=h hp hI hb;rw [a1];cases e1 with
  |normal=>cases hf;exact ⟨SV1,H1,rfl,a2⟩
  |ret=>cases hf;exact ⟨SV1,H1,rfl,a2⟩
  |exit Sl=>
   have hf:cond (Nat.beq Sl id) (some (Ex.normal,ST1,T1)) (some (Ex.exit Sl,ST1,T1))=some (e,nf,T'):=hf;show ∃ SV' H',cond (Nat.beq Sl id) (some (Ex.normal,SV1,H1)) (some (Ex.exit Sl,SV1,H1))=_/\_;cases hx:Nat.beq Sl id with
   |true=>rw [hx] at hf;cases hf;exact ⟨SV1,H1,rfl,a2⟩
   |false=>rw [hx] at hf;cases hf;exact ⟨SV1,H1,rfl,a2⟩
theorem Znw {f:Z4 (VT Zs)} {g:Nat->Piece (V Zs)} (h:V9 C Zh base Zs f g) (fuel:Nat):V9 C Zh base Zs (Ym f fuel) (λlo=>Cb (g lo) fuel):=by
 induction fuel with
 |zero=>intro ST T e nf T' hf;cases hf
 |succ n ih=>
  intro ST T e nf T' hf F lo H r Oh Xe SV hI hb;have hf:Option.rec (motive:=λ_=>Gz (VT Zs)) none (λp=>Ex.casesOn (motive:=λ_=>Gz (VT Zs)) p.1 (Ym f n p.2.1 p.2.2) (λ_=>some p) (some p)) (f ST T)=some (e,nf,T'):=hf;show ∃ SV' H',Option.rec (motive:=λ_=>Bn (V Zs)) none (λp=>Ex.casesOn (motive:=λ_=>Bn (V Zs)) p.1 (Cb (g lo) n p.2.1 p.2.2) (λ_=>some p) (some p)) (g lo SV H)=_/\_;cases hp:f ST T with
  |none=>rw [hp] at hf;cases hf
  |some p=>
   obtain ⟨e1,ST1,T1⟩:=p;rw [hp] at hf;obtain ⟨SV1,H1,a1,a2⟩:=h hp hI hb;rw [a1];cases e1 with
   |normal=>
    have hf:Ym f n ST1 T1=some (e,nf,T'):=hf;exact ez a2 (g:=λlo=>Cb (g lo) n) (λh1 h2=>ih hf h1 h2) hb
   |exit id=>cases hf;exact ⟨SV1,H1,rfl,a2⟩
   |ret=>cases hf;exact ⟨SV1,H1,rfl,a2⟩
theorem Zpt {c:Operand} {f f':Z4 (VT Zs)} {g g':Nat->Piece (V Zs)} (h:V9 C Zh base Zs f g) (h':V9 C Zh base Zs f' g') :
  V9 C Zh base Zs (Z1 (λS=>rawT P C 0 (Mo Zs S) c) f f') (λlo=>condE (λS=>K9 P (Wt Zs S) c) (g lo) (g' lo)):=by
 intro ST T e nf T' hf F lo H r Oh Xe SV hI hb;obtain ⟨v,h1,h2⟩:=Z5 (show Za (rawT P C 0 (Mo Zs ST) c) (λv=>match v with |.v (.bool t)=>cond t (f ST T) (f' ST T) |_=>none)=some (e,nf,T') from hf)
 obtain ⟨y,ox,a1,a2,_⟩:=Zad h1 hI;split at h2
 ·rename_i t;obtain ⟨rfl,_⟩:=V0 a2;show ∃ SV' H',Za (K9 P (Wt Zs SV) c) _=_/\_;rw [a1];show ∃ SV' H',cond t (g lo SV H) (g' lo SV H)=_/\_;cases t with
  |true=>exact h h2 hI hb
  |false=>exact h' h2 hI hb
 ·cases h2
theorem Zdz (hs:Vp C tc ec) {nt:Nat} {ops:List Oper} {draw:Bool} :
  V9 C Zh base Zs (Zd λS H k=>xk P C tc Zs res Zh base nt ops draw (Mo Zs S) H λE H=>k (mkT E Zs) H) (λlo=>leafE λS H k=>Pw P ec lo nt ops draw (Wt Zs S) H λE H=>k (mkV E Zs) H):=by
 intro ST T e nf T' hf F lo H r Oh Xe SV hI hb;obtain ⟨ep',E',T1,h1,a⟩:=sw hs (show xk P C tc Zs res Zh base nt ops draw (Mo Zs ST) T (λE H=>some (Ex.normal,mkT E Zs,H))=some (e,nf,T') from hf);cases h1;obtain ⟨za,H',b1,r',Vf,Bm,b2,b3,b4⟩:=a hI hb;obtain ⟨O2,c1,c2⟩:=Zeg Zs b2.2 (Zla za Zs);have hc:∀ i,act r' Vf O2 i<=act r' Vf Bm i:=λi=>by unfold act;have:=c2 i;omega
 exact ⟨mkV za Zs,H',b1 _,r',Vf,O2,⟨b2.1.less c2,c1.mono (Jg hc) (λ_ _ h=>h) (λ_ i _ hi=>⟨hi,rfl⟩) λ_ _=>rfl⟩,xp b3 c2,b4⟩
theorem Im (hs:Vp C tc ec) (nt:Nat):∀ c:Code,V9 C Zh base Zs (Ch P C tc Zh base nt Zs res c) (λlo=>I1 P ec C.fuel lo nt Zs c)
 |.skip=>Nd _
 |.label _=>Nd _
 |.ret=>Nd _
 |.exit _=>Nd _
 |.region _ _ _=>Zdz hs
 |.seq a b=>Zqu (Im hs nt a) (Im hs nt b)
 |.cond _ a b=>Zpt (Im hs nt a) (Im hs nt b)
 |.block id c=>Zk1 id (Im hs nt c)
 |.loop c=>Znw (Im hs nt c) _
 |.scope c=>Im hs nt c
 |.rangeFunc _ _ _ _=>by intro h;cases h
 |.goto _=>by intro h;cases h
 |.refuse _=>by intro h;cases h
end
end Go.Ev
namespace Go.Ev
section
variable {P:Program} {C:TC} {tc:Z3} {ec:Jh} {Zh:Nat}
theorem Fi {n:Nat} {b i:Nat} {r:List Nat} (h:r[b]? = some i) (hr:r.length<=n):b < n:=by
 rcases Nat.lt_or_ge b r.length with h1 |h1
 ·omega
 ·rw [List.getElem?_eq_none h1] at h;cases h
mutual
theorem KR.bel {H:AH} {S:Nat->Prop} {n:Nat}:∀ {x:TV} {y:Value},KR H S x y->qz n x
 |_,_,.v _ _=>.v _
 |_,_,.nil=>.row ..
 |_,_,.row ..=>.row ..
 |_,_,.agg _ h=>.agg (W6.bel h)
 |_,_,.iface _=>.iface ..
 |_,_,.fn0=>.fn .nil .nil
theorem W6.bel {H:AH} {S:Nat->Prop} {n:Nat}:∀ {x:List TV} {y:List Value},W6 H S x y->Gn n x
 |_,_,.nil=>.nil
 |_,_,.cons h t=>.cons (KR.bel h) (W6.bel t)
end
mutual
theorem VR.bel {H:AH} {S:Nat->Prop} {r:List Nat} {n:Nat} (hr:r.length<=n):∀ {x:TV} {y:Value} {o:List Nat},VR H S r x y o->qz n x
 |_,_,_,.k h=>h.bel
 |_,_,_,.D7 ..=>.row ..
 |_,_,_,.own ..=>.row ..
 |_,_,_,.ptr h=>.ptr (Fi h hr)
 |_,_,_,.elS ..=>.el ..
 |_,_,_,.elB ..=>.el ..
 |_,_,_,.vec h=>.vec (Fi h hr)
 |_,_,_,.map h=>.map (Fi h hr)
 |_,_,_,.fn h h'=>.fn (Y3.bel hr h) (Y3.bel hr h')
 |_,_,_,.agg h=>.agg (Y3.bel hr h)
 |_,_,_,.Xh h=>.Xh (Y3.bel hr h)
 |_,_,_,.Cq=>.Xh .nil
 |_,_,_,.gone=>.gone
theorem Y3.bel {H:AH} {S:Nat->Prop} {r:List Nat} {n:Nat} (hr:r.length<=n):∀ {x:List TV} {y:List Value} {o:List Nat},Y3 H S r x y o->Gn n x
 |_,_,_,.nil=>.nil
 |_,_,_,.cons h t=>.cons (VR.bel hr h) (Y3.bel hr t)
end
theorem HL.low {H:AH} {S:Nat->Prop} {r:List Nat} {lo Zh n:Nat} (hr:r.length<=n):∀ {b:Nat} {T:List Kc} {rs O:List Nat},HL H S r lo Zh b T rs O->∀ o∈T,BelO n o
 |_,_,_,_,.nil,o,h=>by cases h
 |_,_,_,_,.cons h _ t,o,ho=>by
  rcases List.mem_cons.1 ho with rfl |ho
  ·cases h with
   |cells _ _ _ _ h=>exact Y3.bel hr h
   |map=>trivial
   |dead=>trivial
  ·exact HL.low hr t o ho
theorem Good.low {F:Nat->Prop} {lo:Nat} {H:AH} {r Oh X:List Nat} {T:TH} (h:Good C F lo Zh H r T Oh X):Low T.length T:=λb o _ ho=>h.heap.low (by rw [h.len];exact Nat.le_refl _) o (List.mem_of_getElem? ho)
mutual
theorem VR.cut {H:AH} {S S':Nat->Prop} {r r':List Nat} {n:Nat} (st:Wb H S H S') (g:∀ (b i:Nat),b < n->r[b]? = some i->r'[b]? = some i) (q:∀ i,i∈r'->i∈r):∀ {x:TV} {y:Value} {o:List Nat},VR H S r x y o->qz n x->VR H S' r' x y o
 |_,_,_,.k h,_=>.k (h.mono st)
 |_,_,_,.D7 hc hi hl hg hs hb he h,_=>.D7 hc (λh=>hi (q _ h)) hl hg hs hb he (h.mono st)
 |_,_,_,.own hc hu hl hg he h,_=>.own hc hu hl hg he (h.mono st)
 |_,_,_,.ptr h,.ptr hb=>.ptr (g _ _ hb h)
 |_,_,_,.elS hi hl hg hs hb hc h,_=>.elS (st.2 _ hl hi).1 hl hg hs hb hc (h.mono st)
 |_,_,_,.elB hi hl hg hs hb hc h,_=>.elB (λh=>hi (q _ h)) hl hg hs hb hc (h.mono st)
 |_,_,_,.vec h,.vec hb=>.vec (g _ _ hb h)
 |_,_,_,.map h,.map hb=>.map (g _ _ hb h)
 |_,_,_,.fn h h',.fn b b'=>.fn (Y3.cut st g q h b) (Y3.cut st g q h' b')
 |_,_,_,.agg h,.agg b=>.agg (Y3.cut st g q h b)
 |_,_,_,.Xh h,.Xh b=>.Xh (Y3.cut st g q h b)
 |_,_,_,.Cq,_=>.Cq
 |_,_,_,.gone,_=>.gone
theorem Y3.cut {H:AH} {S S':Nat->Prop} {r r':List Nat} {n:Nat} (st:Wb H S H S') (g:∀ (b i:Nat),b < n->r[b]? = some i->r'[b]? = some i) (q:∀ i,i∈r'->i∈r):∀ {x:List TV} {y:List Value} {o:List Nat},Y3 H S r x y o->Gn n x->Y3 H S' r' x y o
 |_,_,_,.nil,_=>.nil
 |_,_,_,.cons h t,.cons b b'=>.cons (VR.cut st g q h b) (Y3.cut st g q t b')
end
theorem HL.split {H:AH} {S:Nat->Prop} {r:List Nat} {lo Zh:Nat}:∀ {T1 T2:List Kc} {b:Nat} {rs O:List Nat},HL H S r lo Zh b (T1++T2) rs O ->
  ∃ rs1 rs2 O1 O2,rs=rs1++rs2/\O=O1++O2/\rs1.length=T1.length/\HL H S r lo Zh b T1 rs1 O1
 |[],T2,b,rs,O,h=>⟨[],rs,[],O,rfl,rfl,rfl,.nil⟩
 |o::T1,T2,b,rs,O,h=>by
  cases h with
  |cons h J7 t=>
   obtain ⟨rs1,rs2,O1,O2,rfl,rfl,h3,h4⟩:=HL.split t;exact ⟨_::rs1,rs2,_++O1,O2,rfl,by rw [List.append_assoc],by simp [h3],.cons h J7 h4⟩
theorem HL.cut {H:AH} {S S':Nat->Prop} {r r':List Nat} {lo Zh n:Nat} (st:Wb H S H S') (g:∀ (b i:Nat),b < n->r[b]? = some i->r'[b]? = some i) (q:∀ i,i∈r'->i∈r) :
  ∀ {b:Nat} {T:List Kc} {rs O:List Nat},HL H S r lo Zh b T rs O->(∀ o∈T,BelO n o)->HL H S' r' lo Zh b T rs O
 |_,_,_,_,.nil,_=>.nil
 |_,_,_,_,.cons h J7 t,hb=>.cons (by
   have h1:=hb _ (List.mem_cons_self ..);cases h with
   |cells hg hs nb hc h=>exact .cells hg hs nb hc (h.cut st g q h1)
   |map hg h=>exact .map hg (h.mono st)
   |dead=>exact .dead) J7 (HL.cut st g q t λo ho=>hb o (List.mem_cons_of_mem _ ho))
theorem Zqz {F:Nat->Prop} {lo:Nat} {H H':AH} {r Oh:List Nat} {T T':TH} {v:TV} {v':Value} (hG:Good C F lo Zh H r T Oh []) (h:Ux C F lo Zh T.length true H r T Oh [] v T' v' H') (hl:loose v=true):Ux C F lo Zh T.length true H r T Oh [] v (T'.take T.length) v' H':=by
 obtain ⟨r',Vf,o,g1,g2,g3,g4,_,g6⟩:=h;have uk:Low T.length T':=g6.2 _ (Nat.le_refl _) hG.low;have fy:T'=T'.take T.length++T'.drop T.length:=(List.take_append_drop _ _).symm;have hh:=g1.heap;rw [fy] at hh;obtain ⟨r1,r2,O1,O2,e1,e2,e3,e4⟩:=hh.split;have hlen:(T'.take T.length).length=T.length:=by rw [List.length_take];have:=g6.1;omega
 rw [hlen] at e3
 have er:r1=r:=by
  apply List.ext_getElem?;intro b;rcases Nat.lt_or_ge b r.length with hb |hb
  ·have h1:r[b]? = some r[b]:=List.getElem?_eq_getElem hb;have h2:=g4.pre b _ h1;rw [e1,List.getElem?_append_left (by rw [e3,<- hG.len];exact hb)] at h2
   rw [h2,h1]
  ·rw [List.getElem?_eq_none hb,List.getElem?_eq_none (by rw [e3,<- hG.len];exact hb)]
 subst er;subst e1;subst e2;have ha:∀ i,act r1 O1 o i<=act (r1++r2) (O1++O2) o i:=λi=>by unfold act;rw [List.count_append,List.count_append];omega
 have st:=Jg (F:=F) (H:=H') ha;have g:∀ (b i:Nat),b < T.length->(r1++r2)[b]? = some i->r1[b]? = some i:=λb i hb h=>by rwa [List.getElem?_append_left (by omega)] at h
 have q:∀ i,i∈r1->i∈r1++r2:=λi hi=>List.mem_append_left _ hi
 have pre:∀ (b i:Nat),r1[b]? = some i->(r1++r2)[b]? = some i:=λb i hb=>by
  rw [List.getElem?_append_left (by
   rcases Nat.lt_or_ge b r1.length with h |h
   ·exact h
   ·rw [List.getElem?_eq_none h] at hb;cases hb)];exact hb
 have low1:∀ b o,(T'.take T.length)[b]? = some o->BelO T.length o:=λb o ho=>by
  have hb:b < T.length:=by
   rcases Nat.lt_or_ge b (T'.take T.length).length with h |h
   ·omega
   ·rw [List.getElem?_eq_none h] at ho;cases ho
  rw [List.getElem?_take] at ho;rw [if_pos hb] at ho;exact uk b o hb ho
 refine ⟨r1,O1,o,⟨λi=>Nat.le_trans (ha i) (g1.nd i),λi hi=>g1.lt i (Nat.lt_of_lt_of_le hi (ha i)),g1.fl,g1.lon,λb i hb hi=>g1.pq b i hb (pre b i hi),g1.xlo,?_,λgg cs hg=>?_⟩,g2.cut st g q (Zjf hl),g3,⟨g4.next,g4.same,λi hi=>Nat.le_trans (ha i) (g4.less i hi),λ_ _ h=>h⟩,λh=>by (cases h),?_⟩
 ·exact e4.cut st g q λo ho=>by
   obtain ⟨b,hb⟩:=List.mem_iff_getElem?.1 ho;exact low1 b o hb
 ·obtain ⟨h1,h2,s,ds,e,h3,h4,h5,h6,h8⟩:=g1.Bs gg cs hg;exact ⟨(st.2 gg h2 h1).1,h2,s,ds,e,h3,h4,h5,h6,h8.mono st⟩
 ·refine ⟨by omega,λn hn hl b o hb ho=>?_⟩
  have hbT:b < T.length:=by omega
  rw [List.getElem?_take,if_pos hbT] at ho;exact g6.2 n hn hl b o hb ho
theorem Zjh {E:TE} {t:Tmp} {ep:Nat} {x:TV} {q:Tmp×Nat×TV} (h:q∈Ef E t ep x):q=(t,ep,x)\/q∈E:=by
 rcases List.mem_cons.1 h with h |h
 ·exact .inl h
 ·exact .inr (Zjm h)
theorem T3 {β:Type}:∀ {rs:List ResultVar} {E:TE} {T:TH} {k:List TV->TH->Option β} {ρ:β},E9 P Zh rs E T k=some ρ->(∀ q∈E,q.2.1=0) ->
  ∃ vs T',k vs T'=some ρ/\∀ {F:Nat->Prop} {lo base:Nat} {H:AH} {r Oh Xe Xv:List Nat} {Ev:Env},Good C F lo Zh H r T Oh (Xe++Xv)->Ko false H (Ya F r Oh (Xe++Xv)) r 0 Ev E Xe->base<=T.length ->
   ∃ Wq r' Vf ov,(∀ {γ:Type} (k':List Value->Option γ),Eo P Ev H rs k'=k' Wq)/\Good C F lo Zh H r' T' Vf (ov++Xv)/\Y3 H (Ya F r' Vf (ov++Xv)) r' vs Wq ov/\(∀ v∈vs,OV v)/\Mv H r Oh (Xe++Xv) H r' Vf (ov++Xv)/\(∀ i,i < H.next->i ∉ r->i ∉ r')/\Mm base T T'
 |[],E,T,k,ρ,h,_=>⟨[],T,h,λ{F lo base H r Oh Xe Xv Ev} hG hE _=>by
   have hc:∀ i,act r Oh ([]++Xv) i<=act r Oh (Xe++Xv) i:=λi=>by unfold act;rw [List.count_append,List.count_append];simp
   exact ⟨[],r,Oh,[],λ_=>rfl,hG.less λi=>by rw [List.count_append,List.count_append];simp,.nil,λv hv=>(by cases hv),⟨Nat.le_refl _,λ_ _ _=>rfl,λi _=>hc i,λ_ _ h=>h⟩,λ_ _ h=>h,.refl ..⟩⟩
 |.tmp t::rs,E,T,k,ρ,h,hz=>by
  obtain ⟨p,h1,h2⟩:=Zj h;have hp:p.1=0:=hz _ (eu h1);have en:Gw 0 p=p.2:=by unfold Gw;rw [Uj hp];rfl
  obtain ⟨x,E1,q,h3,a⟩:=Zac (P:=P) (C:=C) (m:=.take) (ep:=0) (E:=E) (T:=T) (o:=.tmp t) (k:=λx E1 T1=>Zp (Z2 (λq:Tmp×Nat×TV=>Nat.beq q.2.1 0) E1) (E9 P Zh rs E1 T1 λvs H=>k (x::vs) H)) (ρ:=ρ) (by
   show Zf (Pn E t) _=_;rw [h1,Zo];show Zp (Z2 (λq:Tmp×Nat×TV=>Nat.beq q.2.1 0) (Ef E t 0 (Qu (Gw 0 p)))) (E9 P Zh rs (Ef E t 0 (Qu (Gw 0 p))) T λvs H=>k (Gw 0 p::vs) H)=_;rw [en]
   have e1:Z2 (λq:Tmp×Nat×TV=>Nat.beq q.2.1 0) (Ef E t 0 (Qu p.2))=true:=by
    rw [Ye,List.all_eq_true];intro q hq;rcases Zjh hq with rfl |hq
    ·exact Uj rfl
    ·exact Uj (hz q hq)
   rw [e1];exact h2)
  obtain ⟨h4,h3⟩:=Zt h3;rw [Ye,List.all_eq_true] at h4;obtain ⟨vs,T',h5,b⟩:=T3 h3 λq hq=>Qb (h4 q hq);refine ⟨x::vs,T',h5,λ{F lo base H r Oh Xe Xv Ev} hG hE hb=>?_⟩;obtain ⟨y,r1,Gp,ox,a1,a2,a3,a4,a5,a6,a7,a8⟩:=a (w:=false) (λh=>by cases h) hG hE
  have:=a7 rfl;subst this;obtain ⟨Wq,r',Vf,ov,b1,b2,b3,b4,b5,b6,b7⟩:=b (base:=base) a2 a3 (by rw [List.length_append];omega)
  have e:∀ i,act r' Vf (ov++(ox++Xv)) i=act r' Vf ((ox++ov)++Xv) i:=λi=>by unfold act;simp only [List.count_append];omega
  have hx:VR H (Ya F r1 Oh (Gp++(ox++Xv))) r1 x y ox:=a4;refine ⟨y::Wq,r',Vf,ox++ov,λk'=>?_,b2.less λi=>by simp only [List.count_append];omega,?_,λv hv=>?_,⟨b5.next,λ_ _ _=>rfl,λi hi=>?_,b5.pre⟩,b6,(Mm.append hb).trans b7⟩
  ·show Zf (X4 Ev t) _=_;rw [show X4 Ev t=some y from a1,Zo,b1]
  ·rw [<- P5 e];exact .cons (hx.mono b5.stay b5.pre (λi hi hr=>⟨b6 i hi hr,rfl⟩) λ_ _=>rfl) b3
  ·rcases List.mem_cons.1 hv with rfl |hv
   ·exact a5
   ·exact b4 v hv
  ·rw [<- e];exact Nat.le_trans (b5.less i hi) (a8 i)
 |.cell ca t::rs,E,T,k,ρ,h,hz=>by
  obtain ⟨p,h1,h2⟩:=Zj h;obtain ⟨i,h3,h4⟩:=Zj h2;obtain ⟨v,T1,h5,a⟩:=ew h4;obtain ⟨vs,T',h6,b⟩:=T3 h5 hz;have hp:p.1=0:=hz _ (eu h1);have en:Gw 0 p=p.2:=by unfold Gw;rw [Uj hp];rfl
  refine ⟨v::vs,T',h6,λ{F lo base H r Oh Xe Xv Ev} hG hE hb=>?_⟩;obtain ⟨y,o1,O2,_,l1,l2,l3,_,_⟩:=hE.look h1;rw [en] at l3;have l3:VR H (Ya F r Oh (Xe++Xv)) r p.2 y o1:=l3;have hA:=(show Good C F lo Zh H r T Oh ((Xe++Xv)++[]) by rw [List.append_nil];exact hG).apart
  have eS:Ya (λi=>F i\/i∈Xe++Xv) r Oh []=Ya F r Oh (Xe++Xv):=by rw [P6,List.append_nil]
  obtain ⟨v',c1,r1,Rb,ov,c2,c3,c4,c5,c6,c7⟩:=a (ends:=false) hA (by rw [eS];exact l3) (λh=>by cases h) (Nat.le_of_eq (Zz T))
  have hJ:Good C F lo Zh H r1 T1 Rb ((Xe++Xv)++ov):=c2.join (λi=>by have:=hG.nd i;unfold act at this;omega) (λi hi=>(hG.lt i (by unfold act;have:=Z8.2 hi;omega)).2) hG.xlo
  have m:=Za3 (Y:=Xe++Xv) c5;rw [List.append_nil] at m;have e:∀ i,act r1 Rb ((Xe++Xv)++ov) i=act r1 Rb (Xe++(ov++Xv)) i:=λi=>by unfold act;simp only [List.count_append];omega
  have hJ2:Good C F lo Zh H r1 T1 Rb (Xe++(ov++Xv)):=hJ.less λi=>by simp only [List.count_append];omega
  have hE2:Ko false H (Ya F r1 Rb (Xe++(ov++Xv))) r1 0 Ev E Xe:=by
   rw [<- P5 e];exact hE.mono m.stay m.pre (λ_=>c6 rfl) λ_ _=>rfl
  have hl:base<=Zb T:=by rw [Zz];exact hb
  obtain ⟨Wq,r',Vf,ow,b1,b2,b3,b4,b5,b6,b7⟩:=b (base:=base) hJ2 hE2 (Nat.le_trans hb c7.1);have e2:∀ i,act r' Vf (ow++(ov++Xv)) i=act r' Vf ((ov++ow)++Xv) i:=λi=>by unfold act;simp only [List.count_append];omega
  rw [P6,P5 e] at c3;refine ⟨v'::Wq,r',Vf,ov++ow,λk'=>?_,b2.less λi=>by simp only [List.count_append];omega,?_,λw hw=>?_,⟨b5.next,λ_ _ _=>rfl,λi hi=>?_,λb i h=>b5.pre b i (m.pre b i h)⟩,λi hi hr=>b6 i hi (c6 rfl i hi hr).1,(c7.less hl).trans b7⟩
  ·show Zf (X4 Ev ca) _=_;rw [l2,Zo,h3,Zo,c1];exact b1 _
  ·rw [<- P5 e2];exact .cons (c3.mono b5.stay b5.pre (λi hi hr=>⟨b6 i hi hr,rfl⟩) λ_ _=>rfl) b3
  ·rcases List.mem_cons.1 hw with rfl |hw
   ·exact c4
   ·exact b4 w hw
  ·have h1:=b5.less i hi;have h2:=m.less i hi;rw [e] at h2;rw [<- e2];omega
theorem Zmv {v:TV} (h:OV v) (hr:Qk v=true):NB v/\Vh v:=by
 have hn:NB v:=by
  rcases h with h |h
  ·exact h
  ·unfold Zel at h;split at h
   ·cases hr
   ·cases hr
   ·exact h.elim
 refine ⟨hn,?_⟩;cases v with
 |Xh cs=>cases cs with
  |nil=>trivial
  |cons=>cases hr
 |_=>trivial
theorem Zd7 {H:AH} {S:Nat->Prop} {r:List Nat} {vs:List TV} {Wq:List Value} {o:List Nat} (h:Y3 H S r vs Wq o) (ho:∀ v∈vs,OV v) (hr:Z2 Qk vs=true):VR H S r (Om vs) (oneOf Wq) o/\NB (Om vs):=by
 rw [Ye,List.all_eq_true] at hr;have hn:∀ v∈vs,NB v/\Vh v:=λv hv=>Zmv (ho v hv) (hr v hv);have many:∀ {vs:List TV} {Wq:List Value},Y3 H S r vs Wq o->(∀ v∈vs,NB v/\Vh v)->VR H S r (.Xh vs) (.tuple ⟨Wq⟩) o/\NB (.Xh vs):=λh hn=>⟨.Xh h,.Xh (Gq.of λv hv=>(hn v hv).1) λv hv=>(hn v hv).2⟩;cases h with
 |nil=>exact many .nil hn
 | @cons x y ox xs ys oxs h t=>
  cases t with
  |nil=>rw [List.append_nil];exact ⟨h,(hn x (List.mem_cons_self ..)).1⟩
  |cons h2 t2=>exact many (.cons h (.cons h2 t2)) hn
theorem Zbh {F:Nat->Prop} {H:AH} {r Oh:List Nat} {args:List TV} {Wq:List Value} {Ev2:Env} (hv:Y3 H (Ya F r Oh []) r args Wq []) (hn:Gq args):∀ (Zs:List Tmp),(∀ t∈Zs,X4 Ev2 t=some (Ck Wq t)) ->
  Ko false H (Ya F r Oh []) r 0 Ev2 (Mo Zs (ig args Zs)) []
 |[],_=>.nil
 |t::ts,he=>by
  have ih:=Zbh hv hn ts λs hs=>he s (List.mem_cons_of_mem _ hs);show Ko false H _ r 0 Ev2 ((t,0,Zl args t)::Mo ts (ig args ts)) ([]++[])
  have h1:OV (Zl args t)/\VR H (Ya F r Oh []) r (Zl args t) (Ck Wq t) []:=by
   unfold Zl;rw [Xq];cases hx:args[t]? with
   |none=>exact ⟨Zlf,.Cq⟩
   |some x=>
    obtain ⟨y,u2,u3,c1,u1,u4,c3,_⟩:=hv.get hx
    have:u3=[]:=by
     cases u2 <;> cases u3 <;> first |rfl |cases u4
    subst this;have e:Ck Wq t=y:=by unfold Ck;rw [Xq,u1];rfl
    rw [e];exact ⟨.inl (hn.mem x (List.mem_of_getElem? hx)),c3⟩
  exact .cons (Nat.le_refl _) (by rw [W4];exact h1.1) (he t (List.mem_cons_self ..)) (by rw [W4];exact h1.2) ih
theorem gb (Wq:List Value):∀ (Zs:List Tmp) (t:Tmp),t∈Zs->X4 (Wt Zs (Ad Wq Zs)) t=some (Ck Wq t)
 |s::ts,t,h=>by
  show cond (Nat.beq s t) (some (Ck Wq s)) (X4 (Wt ts (Ad Wq ts)) t)=_;cases hb:Nat.beq s t with
  |true=>have:=Qb hb;subst this;rfl
  |false=>
   rcases List.mem_cons.1 h with h |h
   ·exact absurd h.symm (Vq hb)
   ·exact gb Wq ts t h
theorem nk:∀ (Zs:List Tmp) (S:VT Zs),∀ q∈Mo Zs S,q.2.1=0
 |[],_,q,h=>by cases h
 |t::ts,S,q,h=>by
  rcases List.mem_cons.1 h with rfl |h
  ·rfl
  ·exact nk ts _ q h
theorem Zq0 {β:Type} {e:Ex} {r:Option β} {ρ:β} (h:Xr e r=some ρ):r=some ρ/\∀ {γ:Type} (r':Option γ),Xr e r'=r':=by
 cases e with
 |normal=>exact ⟨h,λ_=>rfl⟩
 |exit=>cases h
 |ret=>exact ⟨h,λ_=>rfl⟩
abbrev Zqd (C:TC):Ctx:=⟨C.fuel,C.Zs,λ_=>.all⟩
theorem fn_sim (hs:Vp C tc ec):Vp C (fnT P C tc) (evFn P (Zqd C) ec) where
 run:=by
  intro Zh f args T v T' h F lo H r Oh Wq hG hV hN;obtain ⟨fn,h1,h⟩:=Zj h;obtain ⟨c,h2,h⟩:=Zj h;obtain ⟨h3,h⟩:=Zt h
  obtain ⟨p,h4,h5⟩:=Z5 (show Za (Ch P C tc Zh (Zb T) fn.ntmps (C.Zs f) (pr fn.results.toList) c (ig args (C.Zs f)) T) (λp=>
   Xr p.1 (E9 P Zh fn.results.toList (Mo (C.Zs f) p.2.1) p.2.2 λvs H'=>Zp (Z2 Qk vs) (some (Xm (Zb T) (Om vs) H'))))=some (v,T') from h)
  obtain ⟨e,ST,T1⟩:=p;have h5:Xr e (E9 P Zh fn.results.toList (Mo (C.Zs f) ST) T1 λvs H'=>Zp (Z2 Qk vs) (some (Xm (Zb T) (Om vs) H')))=some (v,T'):=h5;rw [Zz] at h4 h5;obtain ⟨h5,ae⟩:=Zq0 h5;have hI:S9 C F lo Zh 0 (Wt (C.Zs f) (Ad Wq (C.Zs f))) (Mo (C.Zs f) (ig args (C.Zs f))) H r T Oh []:=⟨hG,Zbh hV hN _ (gb Wq _)⟩;obtain ⟨SV,H1,a1,r1,Rb,Gp,a2,a3,a4⟩:=Im (Zs:=C.Zs f) (res:=pr fn.results.toList) (Zh:=Zh) (base:=T.length) hs fn.ntmps c h4 hI (Nat.le_refl _);obtain ⟨vs,T2,b1,b⟩:=T3 (C:=C) h5 (nk _ _);obtain ⟨b2,b1⟩:=Zt b1;obtain ⟨ws,r2,Oh2,ov,c1,c2,c3,c4,c5,_,c7⟩:=b (base:=T.length) (Xv:=[]) (Ev:=Wt (C.Zs f) SV) (by rw [List.append_nil];exact a2.1) (by rw [List.append_nil];exact a2.2) a4.1
  rw [List.append_nil] at c2 c3 c5;rw [List.append_nil] at c5;obtain ⟨d1,d2⟩:=Zd7 c3 c4 b2;have hR:Ux C F lo Zh T.length true H r T Oh [] (Om vs) T2 (oneOf ws) H1:=⟨r2,Oh2,ov,c2,d1,.inl d2,a3.trans c5,λh=>(by cases h),a4.trans c7⟩
  refine ⟨oneOf ws,H1,?_,?_⟩
  ·show Zf (nth P.funcs.toList f) _=_;rw [h1,Zo,h2,Zo,h3];show Za (I1 P ec C.fuel lo fn.ntmps (C.Zs f) c (Ad Wq (C.Zs f)) H) _=_;rw [show I1 P ec C.fuel lo fn.ntmps (C.Zs f) c (Ad Wq (C.Zs f)) H=_ from a1];show Xr e (Eo P (Wt (C.Zs f) SV) H1 fn.results.toList λvs=>some (oneOf vs,H1))=_;rw [ae,c1]
  ·have b1:cond (loose (Om vs)) (Om vs,X7 T2 T.length) (Om vs,T2)=(v,T'):=Option.some.inj b1;cases hl:loose (Om vs) with
   |true=>
    rw [hl] at b1;cases b1;rw [Yh];exact ⟨d2,Zqz hG hR hl⟩
   |false=>
    rw [hl] at b1;cases b1;exact ⟨d2,hR⟩
def TabOk (P:Program) (C:TC) (table:Tr (Z3->Z3)):Prop:=∀ f F,table.get f=some F->∀ (ih:Z3) (Zh:Nat) (args:List TV) (H:TH),F ih Zh f args H=fnT P C ih Zh f args H
theorem Zf9 {table:Tr (Z3->Z3)} (ht:TabOk P C table):∀ d,Vp C (Aw P C table d) (Zfb P (Zqd C) d)
 |0=>⟨λh=>by cases h⟩
 |d+1=>⟨λ{Zh f args T v T'} h=>by
   have e:Aw P C table (d+1) Zh f args T=fnT P C (Aw P C table d) Zh f args T:=by
    show Option.rec (motive:=λ_=>Option (TV×TH)) (fnT P C (Aw P C table d) Zh f args T) (λF=>F (Aw P C table d) Zh f args T) (table.get f)=_;cases hx:table.get f with
    |none=>rfl
    |some F=>exact ht f F hx _ _ _ _
   rw [e] at h;exact λ{F lo H r Oh Wq} a b c=>(fn_sim (Zf9 ht d)).run h a b c⟩
end
end Go.Ev
namespace Go.Ev
noncomputable section
def Xb {β:Type} (n:Nat) (ag:Bool) (x:TV) (H:TH) (k:TV->TH->Option β):Option β:=K1 (Zf8 n ag x H) k
abbrev TVn:Nat->Type
 |0=>Unit
 |n+1=>TV×TVn n
def Zu:(n:Nat)->TVn n->TVn n
 |0,_=>()
 |n+1,S=>(Zr S.1,Zu n S.2)
def sk:List Int:=[0,1,28,2,29,14,24,3,30,22,20,15,25,17,4,8,31,27,13,23,21,19,16,7,26,12,18,6,11,5,10,9]
def qf:List Int:=[0,1,56,2,57,49,28,3,61,58,42,50,38,29,17,4,62,47,59,36,45,43,51,22,53,39,33,30,24,18,12,5,63,55,48,27,60,41,37,16,46,35,44,21,52,32,23,11,54,26,40,15,34,20,31,10,25,14,19,9,13,8,7,6]
def Tv (l:List Int):List TV:=Ve (λz=>.v (.int .u8 z)) l
def twoT (g:Nat):Option (List TV):=match g with |0=>some (Tv sk) |1=>some (Tv qf) |_=>none
end
end Go.Ev
namespace Go.Ev
theorem mw {P:Program} {base:Nat} (hm:P.follows .mixedOrders=true) (C:Ctx):∀ d,I6 P base (Zfb P C d)
 |0=>by intro lo f args H v H' _ h;cases h
 |d+1=>fn_ok (mw hm C d) hm C
theorem Zgb {H:AH} {S:Nat->Prop}:∀ l:List Int,W6 H S (Tv l) (l.map λz=>.int .u8 z)
 |[]=>.nil
 |z::l=>.cons (.v rfl rfl) (Zgb l)
theorem Zdj:∀ (l:List Int),∀ c∈Tv l,Qv c=true:=by
 intro l c hc;unfold Tv at hc;rw [J4] at hc;obtain ⟨z,_,rfl⟩:=List.mem_map.1 hc;rfl
theorem Zga (l:List Int):(Tv l).length=l.length:=by
 unfold Tv;rw [J4,List.length_map]
abbrev pf (e0 e1:TypeId):AH:=xf .u8 sk qf e0 e1
theorem Zlh {C:TC} (hC:C.Bs=twoT) (e0 e1:TypeId):Good C (λ_=>False) 2 0 (pf e0 e1) [] [] [] []:=by
 have g0:(pf e0 e1).get 0=some (.cells sk.length (sk.map λz=>.int .u8 z) e0):=by
  show ((Tr.leaf.put 0 _).put 1 _).get 0=_;rw [Tr.U7,if_neg (by decide),Tr.U7,if_pos rfl]
 have g1:(pf e0 e1).get 1=some (.cells qf.length (qf.map λz=>.int .u8 z) e1):=by
  show ((Tr.leaf.put 0 _).put 1 _).get 1=_;rw [Tr.U7,if_pos rfl]
 have one:∀ (g:Nat) (l:List Int) (e:TypeId),g < 2->(pf e0 e1).get g=some (.cells l.length (l.map λz=>.int .u8 z) e)->Ya (λ_=>False) [] [] [] g/\g < (pf e0 e1).next/\∃ s ds e,(pf e0 e1).get g=some (.cells s ds e)/\ds.length=s/\(Tv l).length<=s/\(∀ c∈Tv l,Qv c=true)/\W6 (pf e0 e1) (Ya (λ_=>False) [] [] []) (Tv l) (ds.take (Tv l).length):=by
  intro g l e hg hx;refine ⟨⟨id,rfl⟩,hg,_,_,_,hx,by rw [List.length_map],by rw [Zga];exact Nat.le_refl _,Zdj l,?_⟩
  rw [Zga,List.take_of_length_le (by rw [List.length_map];exact Nat.le_refl _)]
  exact Zgb l
 refine ⟨λi=>by simp [act],λi hi=>by simp [act] at hi,λi hi=>hi.elim,Nat.le_refl _,λb i _ hi=>by simp at hi,λi hi=>by (cases hi),.nil,λg cs hg=>?_⟩
 rw [hC] at hg;unfold twoT at hg;split at hg
 ·cases hg;exact one 0 sk e0 (by omega) g0
 ·cases hg;exact one 1 qf e1 (by omega) g1
 ·cases hg
theorem Zc0 {H:AH} {S:Nat->Prop} {r:List Nat}:∀ {l:List Value},l.all plain=true->Y3 H S r (l.map Mq) l []/\Gq (l.map Mq)
 |[],_=>⟨.nil,.nil⟩
 |a::l,h=>by
  simp only [List.all_cons,Bool.and_eq_true] at h;obtain ⟨h1,h2⟩:=rn (H:=H) (S:=S) (r:=r) h.1;obtain ⟨h3,h4⟩:=Zc0 (H:=H) (S:=S) (r:=r) h.2;exact ⟨(.cons h1 h3:Y3 H S r (Mq a::l.map Mq) (a::l) ([]++[])),.cons h2 h4⟩
theorem Zrr {C:TC} (hC:C.Bs=twoT) {tc:Z3} {ec:Jh} (hs:Vp C tc ec) {f:FuncId} {args:List Value} {T':TH} (h:tc 0 f (args.map Mq) []=some (.v (.bool true),T')) (hp:args.all plain=true) (e0 e1:TypeId) :
  ∃ H',ec 2 f args (pf e0 e1)=some (.bool true,H'):=by
 obtain ⟨h1,h2⟩:=Zc0 (H:=pf e0 e1) (S:=Ya (λ_=>False) [] [] []) (r:=[]) hp;obtain ⟨v',H',a1,_,r',Vf,o,_,a3,_⟩:=hs.run h (Zlh hC e0 e1) h1 h2;obtain ⟨rfl,_⟩:=V0 a3;exact ⟨H',a1⟩
theorem yd:∀ (l:List (Nat×(Z3->Z3))) (t:Tr (Z3->Z3)) (f:Nat) (F:Z3->Z3),(ph l t).get f=some F->(f,F)∈l\/t.get f=some F
 |[],t,f,F,h=>.inr h
 |r::l,t,f,F,h=>by
  rcases yd l _ f F h with h |h
  ·exact .inl (List.mem_cons_of_mem _ h)
  ·rw [Tr.U7] at h;split at h
   ·rename_i e;cases h;left;rw [e];exact List.mem_cons_self ..
   ·exact .inr h
theorem Zdk {P:Program} {C:TC} {l:List (Nat×(Z3->Z3))} (h:∀ r∈l,∀ call Zh args H,r.2 call Zh r.1 args H=fnT P C call Zh r.1 args H):TabOk P C (ph l .leaf):=by
 intro f F hg;rcases yd l .leaf f F hg with h1 |h1
 ·exact h _ h1
 ·cases h1
end Go.Ev
namespace Go.Ev
noncomputable section
abbrev tI (z:Int):TV:=.v (.int .i64 z)
abbrev tN (n:Nat):TV:=.v (.int .i64 (.ofNat n))
abbrev tB (b:Bool):TV:=.v (.bool b)
abbrev Ji:=Z3->Nat->List TV->TH->Option (TV×TH)
def Jr (P:Program) (C:TC) (f:Nat) (F:Ji):Prop:=∀ call Zh l H,fnT P C call Zh f l H=F call Zh l H
def X1 (f:Nat) (F:Ji):Nat×(Z3->Z3):=(f,λih Zh _ l H=>F ih Zh l H)
def lF {β:Type} (Zh base:Nat) (H:TH) (a:TV) (k:TV->TH->Option β):Option β:=loadT .Xi Zh base false 1 H a k
def lA {β:Type} (Zh base n:Nat) (H:TH) (a:TV) (k:TV->TH->Option β):Option β:=loadT .Xi Zh base true n H a k
def sF {β:Type} (Zh base:Nat) (H:TH) (a:TV) (k:TV->TH->Option β):Option β:=loadT .settle Zh base false 1 H a k
def sA {β:Type} (Zh base n:Nat) (H:TH) (a:TV) (k:TV->TH->Option β):Option β:=loadT .settle Zh base true n H a k
def gB {β:Type} (x:TV) (w:Bool) (r:Option TV) (H:TH) (k:TV->TH->Option β):Option β:=Qp (Zc x) w (Za r λg=>Qr g H) H k
def gV {β:Type} (x:TV) (w:Bool) (v:TV) (H:TH) (k:TV->TH->Option β):Option β:=Qp (Zc x) w (Qr v H) H k
abbrev Q0 (R:Type):=TV×R
def g0 {R:Type} (S:Q0 R):TV:=S.1
def z0 {R:Type} (x:TV) (S:Q0 R):Q0 R:=(Zr x,S.2)
abbrev Q1 (R:Type):=TV×Q0 R
def g1 {R:Type} (S:Q1 R):TV:=g0 S.2
def z1 {R:Type} (x:TV) (S:Q1 R):Q1 R:=(S.1,z0 x S.2)
abbrev Q2 (R:Type):=TV×Q1 R
def g2 {R:Type} (S:Q2 R):TV:=g1 S.2
def z2 {R:Type} (x:TV) (S:Q2 R):Q2 R:=(S.1,z1 x S.2)
abbrev Q3 (R:Type):=TV×Q2 R
def g3 {R:Type} (S:Q3 R):TV:=g2 S.2
def z3 {R:Type} (x:TV) (S:Q3 R):Q3 R:=(S.1,z2 x S.2)
abbrev Q4 (R:Type):=TV×Q3 R
def g4 {R:Type} (S:Q4 R):TV:=g3 S.2
def z4 {R:Type} (x:TV) (S:Q4 R):Q4 R:=(S.1,z3 x S.2)
abbrev Q5 (R:Type):=TV×Q4 R
def g5 {R:Type} (S:Q5 R):TV:=g4 S.2
def z5 {R:Type} (x:TV) (S:Q5 R):Q5 R:=(S.1,z4 x S.2)
abbrev Q6 (R:Type):=TV×Q5 R
def g6 {R:Type} (S:Q6 R):TV:=g5 S.2
def z6 {R:Type} (x:TV) (S:Q6 R):Q6 R:=(S.1,z5 x S.2)
abbrev Q7 (R:Type):=TV×Q6 R
def g7 {R:Type} (S:Q7 R):TV:=g6 S.2
def z7 {R:Type} (x:TV) (S:Q7 R):Q7 R:=(S.1,z6 x S.2)
abbrev Q8 (R:Type):=TV×Q7 R
def g8 {R:Type} (S:Q8 R):TV:=g7 S.2
def z8 {R:Type} (x:TV) (S:Q8 R):Q8 R:=(S.1,z7 x S.2)
abbrev Q9 (R:Type):=TV×Q8 R
def g9 {R:Type} (S:Q9 R):TV:=g8 S.2
def z9 {R:Type} (x:TV) (S:Q9 R):Q9 R:=(S.1,z8 x S.2)
abbrev Q10 (R:Type):=TV×Q9 R
def J9 {R:Type} (S:Q10 R):TV:=g9 S.2
def Uh {R:Type} (x:TV) (S:Q10 R):Q10 R:=(S.1,z9 x S.2)
abbrev Q11 (R:Type):=TV×Q10 R
def Jj {R:Type} (S:Q11 R):TV:=J9 S.2
def Iv {R:Type} (x:TV) (S:Q11 R):Q11 R:=(S.1,Uh x S.2)
abbrev Q12 (R:Type):=TV×Q11 R
def Dn {R:Type} (S:Q12 R):TV:=Jj S.2
def Oj {R:Type} (x:TV) (S:Q12 R):Q12 R:=(S.1,Iv x S.2)
abbrev Q13 (R:Type):=TV×Q12 R
def Em {R:Type} (S:Q13 R):TV:=Dn S.2
def Te {R:Type} (x:TV) (S:Q13 R):Q13 R:=(S.1,Oj x S.2)
abbrev Q14 (R:Type):=TV×Q13 R
def Iz {R:Type} (S:Q14 R):TV:=Em S.2
def Cn {R:Type} (x:TV) (S:Q14 R):Q14 R:=(S.1,Te x S.2)
abbrev Q15 (R:Type):=TV×Q14 R
def Ra {R:Type} (S:Q15 R):TV:=Iz S.2
def zb {R:Type} (x:TV) (S:Q15 R):Q15 R:=(S.1,Cn x S.2)
abbrev Q16 (R:Type):=TV×Q15 R
def Nt {R:Type} (S:Q16 R):TV:=Ra S.2
def nu {R:Type} (x:TV) (S:Q16 R):Q16 R:=(S.1,zb x S.2)
abbrev Q17 (R:Type):=TV×Q16 R
def Bi {R:Type} (S:Q17 R):TV:=Nt S.2
def x5 {R:Type} (x:TV) (S:Q17 R):Q17 R:=(S.1,nu x S.2)
abbrev Q18 (R:Type):=TV×Q17 R
def B5 {R:Type} (S:Q18 R):TV:=Bi S.2
def xd {R:Type} (x:TV) (S:Q18 R):Q18 R:=(S.1,x5 x S.2)
abbrev Q19 (R:Type):=TV×Q18 R
def ux {R:Type} (S:Q19 R):TV:=B5 S.2
def z19 {R:Type} (x:TV) (S:Q19 R):Q19 R:=(S.1,xd x S.2)
abbrev Q20 (R:Type):=TV×Q19 R
def g20 {R:Type} (S:Q20 R):TV:=ux S.2
def z20 {R:Type} (x:TV) (S:Q20 R):Q20 R:=(S.1,z19 x S.2)
abbrev Q21 (R:Type):=TV×Q20 R
def g21 {R:Type} (S:Q21 R):TV:=g20 S.2
def z21 {R:Type} (x:TV) (S:Q21 R):Q21 R:=(S.1,z20 x S.2)
abbrev Q22 (R:Type):=TV×Q21 R
def uw {R:Type} (S:Q22 R):TV:=g21 S.2
def z22 {R:Type} (x:TV) (S:Q22 R):Q22 R:=(S.1,z21 x S.2)
abbrev Q23 (R:Type):=TV×Q22 R
def g23 {R:Type} (S:Q23 R):TV:=uw S.2
def z23 {R:Type} (x:TV) (S:Q23 R):Q23 R:=(S.1,z22 x S.2)
abbrev Q24 (R:Type):=TV×Q23 R
def g24 {R:Type} (S:Q24 R):TV:=g23 S.2
def z24 {R:Type} (x:TV) (S:Q24 R):Q24 R:=(S.1,z23 x S.2)
abbrev Q25 (R:Type):=TV×Q24 R
def g25 {R:Type} (S:Q25 R):TV:=g24 S.2
def z25 {R:Type} (x:TV) (S:Q25 R):Q25 R:=(S.1,z24 x S.2)
abbrev Q26 (R:Type):=TV×Q25 R
def g26 {R:Type} (S:Q26 R):TV:=g25 S.2
def z26 {R:Type} (x:TV) (S:Q26 R):Q26 R:=(S.1,z25 x S.2)
abbrev Q27 (R:Type):=TV×Q26 R
def g27 {R:Type} (S:Q27 R):TV:=g26 S.2
def z27 {R:Type} (x:TV) (S:Q27 R):Q27 R:=(S.1,z26 x S.2)
abbrev Q28 (R:Type):=TV×Q27 R
def g28 {R:Type} (S:Q28 R):TV:=g27 S.2
def z28 {R:Type} (x:TV) (S:Q28 R):Q28 R:=(S.1,z27 x S.2)
abbrev Q29 (R:Type):=TV×Q28 R
def g29 {R:Type} (S:Q29 R):TV:=g28 S.2
def z29 {R:Type} (x:TV) (S:Q29 R):Q29 R:=(S.1,z28 x S.2)
abbrev Q30 (R:Type):=TV×Q29 R
def g30 {R:Type} (S:Q30 R):TV:=g29 S.2
def z30 {R:Type} (x:TV) (S:Q30 R):Q30 R:=(S.1,z29 x S.2)
abbrev Q31 (R:Type):=TV×Q30 R
def g31 {R:Type} (S:Q31 R):TV:=g30 S.2
def z31 {R:Type} (x:TV) (S:Q31 R):Q31 R:=(S.1,z30 x S.2)
abbrev Q32 (R:Type):=TV×Q31 R
def g32 {R:Type} (S:Q32 R):TV:=g31 S.2
def z32 {R:Type} (x:TV) (S:Q32 R):Q32 R:=(S.1,z31 x S.2)
abbrev Q33 (R:Type):=TV×Q32 R
def g33 {R:Type} (S:Q33 R):TV:=g32 S.2
def z33 {R:Type} (x:TV) (S:Q33 R):Q33 R:=(S.1,z32 x S.2)
abbrev Q34 (R:Type):=TV×Q33 R
def g34 {R:Type} (S:Q34 R):TV:=g33 S.2
def z34 {R:Type} (x:TV) (S:Q34 R):Q34 R:=(S.1,z33 x S.2)
abbrev Q35 (R:Type):=TV×Q34 R
def g35 {R:Type} (S:Q35 R):TV:=g34 S.2
def z35 {R:Type} (x:TV) (S:Q35 R):Q35 R:=(S.1,z34 x S.2)
abbrev Q36 (R:Type):=TV×Q35 R
def g36 {R:Type} (S:Q36 R):TV:=g35 S.2
def z36 {R:Type} (x:TV) (S:Q36 R):Q36 R:=(S.1,z35 x S.2)
abbrev Q37 (R:Type):=TV×Q36 R
def g37 {R:Type} (S:Q37 R):TV:=g36 S.2
def z37 {R:Type} (x:TV) (S:Q37 R):Q37 R:=(S.1,z36 x S.2)
abbrev Q38 (R:Type):=TV×Q37 R
def g38 {R:Type} (S:Q38 R):TV:=g37 S.2
def z38 {R:Type} (x:TV) (S:Q38 R):Q38 R:=(S.1,z37 x S.2)
abbrev Q39 (R:Type):=TV×Q38 R
def g39 {R:Type} (S:Q39 R):TV:=g38 S.2
def z39 {R:Type} (x:TV) (S:Q39 R):Q39 R:=(S.1,z38 x S.2)
abbrev Q40 (R:Type):=TV×Q39 R
def g40 {R:Type} (S:Q40 R):TV:=g39 S.2
def z40 {R:Type} (x:TV) (S:Q40 R):Q40 R:=(S.1,z39 x S.2)
abbrev Q41 (R:Type):=TV×Q40 R
def g41 {R:Type} (S:Q41 R):TV:=g40 S.2
def z41 {R:Type} (x:TV) (S:Q41 R):Q41 R:=(S.1,z40 x S.2)
abbrev Q42 (R:Type):=TV×Q41 R
def g42 {R:Type} (S:Q42 R):TV:=g41 S.2
def z42 {R:Type} (x:TV) (S:Q42 R):Q42 R:=(S.1,z41 x S.2)
abbrev Q43 (R:Type):=TV×Q42 R
def g43 {R:Type} (S:Q43 R):TV:=g42 S.2
def z43 {R:Type} (x:TV) (S:Q43 R):Q43 R:=(S.1,z42 x S.2)
abbrev Q44 (R:Type):=TV×Q43 R
def g44 {R:Type} (S:Q44 R):TV:=g43 S.2
def z44 {R:Type} (x:TV) (S:Q44 R):Q44 R:=(S.1,z43 x S.2)
abbrev Q45 (R:Type):=TV×Q44 R
def g45 {R:Type} (S:Q45 R):TV:=g44 S.2
def z45 {R:Type} (x:TV) (S:Q45 R):Q45 R:=(S.1,z44 x S.2)
abbrev Q46 (R:Type):=TV×Q45 R
def g46 {R:Type} (S:Q46 R):TV:=g45 S.2
def z46 {R:Type} (x:TV) (S:Q46 R):Q46 R:=(S.1,z45 x S.2)
abbrev Q47 (R:Type):=TV×Q46 R
def g47 {R:Type} (S:Q47 R):TV:=g46 S.2
def z47 {R:Type} (x:TV) (S:Q47 R):Q47 R:=(S.1,z46 x S.2)
abbrev Q48 (R:Type):=TV×Q47 R
def g48 {R:Type} (S:Q48 R):TV:=g47 S.2
def z48 {R:Type} (x:TV) (S:Q48 R):Q48 R:=(S.1,z47 x S.2)
abbrev Q49 (R:Type):=TV×Q48 R
def g49 {R:Type} (S:Q49 R):TV:=g48 S.2
def z49 {R:Type} (x:TV) (S:Q49 R):Q49 R:=(S.1,z48 x S.2)
abbrev Q50 (R:Type):=TV×Q49 R
def g50 {R:Type} (S:Q50 R):TV:=g49 S.2
def z50 {R:Type} (x:TV) (S:Q50 R):Q50 R:=(S.1,z49 x S.2)
abbrev Q51 (R:Type):=TV×Q50 R
def g51 {R:Type} (S:Q51 R):TV:=g50 S.2
def z51 {R:Type} (x:TV) (S:Q51 R):Q51 R:=(S.1,z50 x S.2)
abbrev Q52 (R:Type):=TV×Q51 R
def g52 {R:Type} (S:Q52 R):TV:=g51 S.2
def z52 {R:Type} (x:TV) (S:Q52 R):Q52 R:=(S.1,z51 x S.2)
abbrev Q53 (R:Type):=TV×Q52 R
def g53 {R:Type} (S:Q53 R):TV:=g52 S.2
def z53 {R:Type} (x:TV) (S:Q53 R):Q53 R:=(S.1,z52 x S.2)
abbrev Q54 (R:Type):=TV×Q53 R
def g54 {R:Type} (S:Q54 R):TV:=g53 S.2
def z54 {R:Type} (x:TV) (S:Q54 R):Q54 R:=(S.1,z53 x S.2)
abbrev Q55 (R:Type):=TV×Q54 R
def g55 {R:Type} (S:Q55 R):TV:=g54 S.2
def z55 {R:Type} (x:TV) (S:Q55 R):Q55 R:=(S.1,z54 x S.2)
abbrev Q56 (R:Type):=TV×Q55 R
def g56 {R:Type} (S:Q56 R):TV:=g55 S.2
def z56 {R:Type} (x:TV) (S:Q56 R):Q56 R:=(S.1,z55 x S.2)
theorem aI {p q:Prop} (a:p) (b:q):p/\q:=⟨a,b⟩
def WW:=aI @lF.eq_1<| aI @lA.eq_1<| aI @sF.eq_1<| aI @sA.eq_1<| aI @gB.eq_1<| aI @gV.eq_1<| aI @g0.eq_1<| aI @z0.eq_1<| aI @g1.eq_1<| aI @z1.eq_1<| aI @g2.eq_1<| aI @z2.eq_1<| aI @g3.eq_1<| aI @z3.eq_1<| aI @g4.eq_1<| aI @z4.eq_1<| aI @g5.eq_1<| aI @z5.eq_1<| aI @g6.eq_1<| aI @z6.eq_1<| aI @g7.eq_1<| aI @z7.eq_1<| aI @g8.eq_1<| aI @z8.eq_1<| aI @g9.eq_1<| aI @z9.eq_1<| aI @J9.eq_1<| aI @Uh.eq_1<| aI @Jj.eq_1<| aI @Iv.eq_1<| aI @Dn.eq_1<| aI @Oj.eq_1<| aI @Em.eq_1<| aI @Te.eq_1<| aI @Iz.eq_1<| aI @Cn.eq_1<| aI @Ra.eq_1<| aI @zb.eq_1<| aI @Nt.eq_1<| aI @nu.eq_1<| aI @Bi.eq_1<| aI @x5.eq_1<| aI @B5.eq_1<| aI @xd.eq_1<| aI @ux.eq_1<| aI @z19.eq_1<| aI @g20.eq_1<| aI @z20.eq_1<| aI @g21.eq_1<| aI @z21.eq_1<| aI @uw.eq_1<| aI @z22.eq_1<| aI @g23.eq_1<| aI @z23.eq_1<| aI @g24.eq_1<| aI @z24.eq_1<| aI @g25.eq_1<| aI @z25.eq_1<| aI @g26.eq_1<| aI @z26.eq_1<| aI @g27.eq_1<| aI @z27.eq_1<| aI @g28.eq_1<| aI @z28.eq_1<| aI @g29.eq_1<| aI @z29.eq_1<| aI @g30.eq_1<| aI @z30.eq_1<| aI @g31.eq_1<| aI @z31.eq_1<| aI @g32.eq_1<| aI @z32.eq_1<| aI @g33.eq_1<| aI @z33.eq_1<| aI @g34.eq_1<| aI @z34.eq_1<| aI @g35.eq_1<| aI @z35.eq_1<| aI @g36.eq_1<| aI @z36.eq_1<| aI @g37.eq_1<| aI @z37.eq_1<| aI @g38.eq_1<| aI @z38.eq_1<| aI @g39.eq_1<| aI @z39.eq_1<| aI @g40.eq_1<| aI @z40.eq_1<| aI @g41.eq_1<| aI @z41.eq_1<| aI @g42.eq_1<| aI @z42.eq_1<| aI @g43.eq_1<| aI @z43.eq_1<| aI @g44.eq_1<| aI @z44.eq_1<| aI @g45.eq_1<| aI @z45.eq_1<| aI @g46.eq_1<| aI @z46.eq_1<| aI @g47.eq_1<| aI @z47.eq_1<| aI @g48.eq_1<| aI @z48.eq_1<| aI @g49.eq_1<| aI @z49.eq_1<| aI @g50.eq_1<| aI @z50.eq_1<| aI @g51.eq_1<| aI @z51.eq_1<| aI @g52.eq_1<| aI @z52.eq_1<| aI @g53.eq_1<| aI @z53.eq_1<| aI @g54.eq_1<| aI @z54.eq_1<| aI @g55.eq_1<| aI @z55.eq_1<| aI @g56.eq_1<| @z56.eq_1
end
end Go.Ev
namespace Go.Ev
noncomputable section
def sqR {σ:Type} (r:Gz σ) (g:Z4 σ):Gz σ:=
 Option.rec (motive:=λ_=>Gz σ) none (λp=>Ex.casesOn (motive:=λ_=>Gz σ) p.1 (g p.2.1 p.2.2) (λ_=>some p) (some p)) r
def blR {σ:Type} (id:Nat) (r:Gz σ):Gz σ:=
 Option.rec (motive:=λ_=>Gz σ) none (λp=>Ex.casesOn (motive:=λ_=>Gz σ) p.1 (some p) (λSl=>cond (Nat.beq Sl id) (some (.normal,p.2)) (some p)) (some p)) r
def cdV {σ:Type} (v:TV) (a b:Gz σ):Gz σ:=match v with |.v (.bool t)=>cond t a b |_=>none
section
variable {σ:Type} {f g:Z4 σ} {S:σ} {H:TH} {c:σ->Option TV} {id Sl:Nat} {a b:Gz σ}
theorem Zgi:Zi f g S H=sqR (f S H) g:=(rfl)
theorem sqR_n:sqR (some (.normal,S,H)) g=g S H:=(rfl)
theorem sqR_e:sqR (some (.exit id,S,H)) g=some (.exit id,S,H):=(rfl)
theorem sqR_r:sqR (some (.ret,S,H)) g=some (.ret,S,H):=(rfl)
theorem Zk2:Z9 id f S H=blR id (f S H):=(rfl)
theorem blR_n:blR id (some (.normal,S,H))=some (.normal,S,H):=(rfl)
theorem blR_r:blR id (some (.ret,S,H))=some (.ret,S,H):=(rfl)
theorem Zp1:blR id (some (.exit Sl,S,H))=cond (Nat.beq Sl id) (some (.normal,S,H)) (some (.exit Sl,S,H)):=(rfl)
theorem Zn7 {f:σ->TH->(σ->TH->Gz σ)->Gz σ}:Zd f S H=f S H λS H=>some (.normal,S,H):=(rfl)
theorem Zpo {e:Ex}:Zn e S H=some (e,S,H):=(rfl)
theorem Zpu:Z1 c f g S H=Za (c S) λv=>cdV v (f S H) (g S H):=(rfl)
theorem cdV_b {t:Bool}:cdV (.v (.bool t)) a b=cond t a b:=(rfl)
end
theorem Zfn {β:Type} {v:TV} {H:TH} {k:TV->TH->Option β}:K1 (some (v,H)) k=k v H:=(rfl)
theorem Zfo {β:Type} {v:TV} {H:TH} {k:TV->TH->Option β}:K1 (Qr v H) k=k v H:=(rfl)
theorem S0 {α:Type} {a b:α}:cond true a b=a:=(rfl)
theorem cond_f {α:Type} {a b:α}:cond false a b=b:=(rfl)
theorem Jm {β:Type} {r:Option β}:Xr .ret r=r:=(rfl)
theorem N4 {β:Type} {r:Option β}:Xr .normal r=r:=(rfl)
def Qg {σ:Type} (r:Gz σ) (Q:Ex->σ->TH->Prop):Prop:=∃ e S H,r=some (e,S,H)/\Q e S H
section
variable {σ:Type} {Q Q1:Ex->σ->TH->Prop}
theorem Qg.mono {r:Gz σ} (h:Qg r Q1) (hq:∀ e S H,Q1 e S H->Q e S H):Qg r Q:=
 let ⟨e,S,H,a,b⟩:=h;⟨e,S,H,a,hq e S H b⟩
theorem Qg.of {r:Gz σ} {e:Ex} {S:σ} {H:TH} (h:r=some (e,S,H)) (q:Q e S H):Qg r Q:=⟨e,S,H,h,q⟩
theorem Qg.fin {e:Ex} {S:σ} {H:TH} (q:Q e S H):Qg (Option.some (e,S,H)) Q:=⟨e,S,H,rfl,q⟩
theorem Qg.sq {r:Gz σ} {g:Z4 σ} (h:Qg r Q1) (hn:∀ S H,Q1 .normal S H->Qg (g S H) Q) (he:∀ id S H,Q1 (.exit id) S H->Q (.exit id) S H) (hr:∀ S H,Q1 .ret S H->Q .ret S H):Qg (sqR r g) Q:=by
 obtain ⟨e,S,H,rfl,q⟩:=h;cases e with
 |normal=>exact hn S H q
 |exit id=>exact ⟨_,_,_,rfl,he id S H q⟩
 |ret=>exact ⟨_,_,_,rfl,hr S H q⟩
theorem Qg.bl {r:Gz σ} {id:Nat} (h:Qg r Q1) (hn:∀ S H,Q1 .normal S H->Q .normal S H) (he:∀ i S H,Q1 (.exit i) S H->cond (Nat.beq i id) (Q .normal S H) (Q (.exit i) S H)) (hr:∀ S H,Q1 .ret S H->Q .ret S H):Qg (blR id r) Q:=by
 obtain ⟨e,S,H,rfl,q⟩:=h;cases e with
 |normal=>exact ⟨_,_,_,rfl,hn S H q⟩
 |exit i=>
  rw [Zp1];have:=he i S H q;cases hb:Nat.beq i id with
  |true=>rw [hb] at this;exact ⟨_,_,_,rfl,this⟩
  |false=>rw [hb] at this;exact ⟨_,_,_,rfl,this⟩
 |ret=>exact ⟨_,_,_,rfl,hr S H q⟩
theorem Qg.loop {f:Z4 σ} (I:Nat->σ->TH->Prop) (im:∀ k S H,I k S H->Qg (f S H) λe S' H'=>(e=.normal/\∃ k',k' < k/\I k' S' H')\/(e≠.normal/\Q e S' H')) :
  ∀ (fuel k:Nat) (S:σ) (H:TH),k < fuel->I k S H->Qg (Ym f fuel S H) Q
 |0,_,_,_,h,_=>absurd h (Nat.not_lt_zero _)
 |fuel+1,k,S,H,h,hi=>by
  obtain ⟨e,S',H',hr,hq⟩:=im k S H hi;have hl:Ym f (fuel+1) S H=Option.rec (motive:=λ_=>Gz σ) none (λp=>Ex.casesOn (motive:=λ_=>Gz σ) p.1 (Ym f fuel p.2.1 p.2.2) (λ_=>some p) (some p)) (f S H):=rfl;rw [hl,hr];rcases hq with ⟨rfl,k',Sp,Mh⟩ |⟨Da,hq⟩
  ·exact Qg.loop I im fuel k' S' H' (by omega) Mh
  ·cases e with
   |normal=>exact absurd rfl Da
   |exit id=>exact ⟨_,_,_,rfl,hq⟩
   |ret=>exact ⟨_,_,_,rfl,hq⟩
end
section
variable {x:Value} {c:Cp} {n:Nat} {e:TypeId} {es cs:List TV} {b off len cap:Nat} {ag:Bool} {f:Fn} {l m:List TV}
theorem Zqn:Zr (.v x)=.v x:=(rfl)
theorem Zh4:Zr (.row c .set n es)=.row c .set n es:=(rfl)
theorem Zh6:Zr (.row c (.own e) n es)=.row c (.own e) n es:=(rfl)
theorem Zh9:Zr (.row c .D7 n es)=Zk:=(rfl)
theorem Zia:Zr (.agg cs)=.agg cs:=(rfl)
theorem Zh3:Zr (.Xh cs)=.Xh cs:=(rfl)
theorem Zh5:Zr (.ptr b off)=.ptr b off:=(rfl)
theorem Ny:Zr (.vec b off len cap n ag)=.vec b off len cap n ag:=(rfl)
theorem Zh8:Zr (.map b)=.map b:=(rfl)
theorem Zlz:Zr (.fn f l m)=.fn f l m:=(rfl)
theorem setV_v:Zg (.v x)=.v x:=(rfl)
theorem Zmc:Zg (.row c .set n es)=.row c .set n es:=(rfl)
theorem Zme:Zg (.row c (.own e) n es)=.row c .set n es:=(rfl)
theorem Zmg:Zg (.row c .D7 n es)=.row c .D7 n es:=(rfl)
theorem Zmh:Zg (.agg cs)=.agg (Ve V3 cs):=(rfl)
theorem Zmd:Zg (.ptr b off)=.ptr b off:=(rfl)
theorem Zma:Zg (.vec b off len cap n ag)=.vec b off len cap n ag:=(rfl)
theorem Zmf:Zg (.map b)=.map b:=(rfl)
theorem Zqt:Zg (.fn f l m)=.fn f l m:=(rfl)
theorem setC_v:V3 (.v x)=.v x:=(rfl)
theorem Zml:V3 (.row c .set n es)=.row c .set n es:=(rfl)
theorem Zmm:V3 (.row c (.own e) n es)=.row c .set n es:=(rfl)
theorem hush_v:Qu (.v x)=.v x:=(rfl)
theorem Zog:Qu (.row c .set n es)=.row c .set n es:=(rfl)
theorem Zoi:Qu (.row c (.own e) n es)=.row c .D7 n es:=(rfl)
theorem Zok:Qu (.agg cs)=.agg (Ve Ob cs):=(rfl)
theorem Zoh:Qu (.ptr b off)=.ptr b off:=(rfl)
theorem Zrx:Qu (.fn f l m)=.fn f l m:=(rfl)
theorem Zoj:Qu (.map b)=.map b:=(rfl)
theorem Zry:Ob (.v x)=.v x:=(rfl)
theorem Zj5:Ob (.row c .set n es)=.row c .set n es:=(rfl)
theorem Zrp:Zc (.v x)=.v x:=(rfl)
theorem Zjp:Zc (.row c .set n es)=.row c .set n es:=(rfl)
theorem Zjr:Zc (.row c (.own e) n es)=.row c .D7 n es:=(rfl)
theorem Zjs:Zc (.agg cs)=.agg (Ve V3 cs):=(rfl)
theorem Zjq:Zc (.ptr b off)=.ptr b off:=(rfl)
theorem Zrs:Ze (.v x)=.v x:=(rfl)
theorem Zjv:Ze (.row c .set n es)=.row c .set n es:=(rfl)
theorem Zjx:Ze (.row c (.own e) n es)=.row c (.own e) n es:=(rfl)
theorem Zjy:Ze (.agg cs)=.agg (Ve V3 cs):=(rfl)
theorem Zjw:Ze (.ptr b off)=.ptr b off:=(rfl)
theorem Znq {α β:Type} {g:α->β}:Ve g []=[]:=(rfl)
theorem Zjb {α β:Type} {g:α->β} {y:α} {ys:List α}:Ve g (y::ys)=g y::Ve g ys:=(rfl)
theorem V8:Zy (.v x)=[.v x]:=(rfl)
theorem Zfh {q:Lf}:Zy (.row c q n es)=[.row c q n es]:=(rfl)
theorem Yb:Zy (.agg cs)=cs:=(rfl)
theorem Zfi:Zy (.ptr b off)=[.ptr b off]:=(rfl)
theorem Zky:Zy (.fn f l m)=[.fn f l m]:=(rfl)
theorem stor_v:Yu (.v x)=true:=(rfl)
theorem Zlt:Yu (.row c .set n es)=true:=(rfl)
theorem Zlu:Yu (.row c (.own e) n es)=true:=(rfl)
theorem Zlv:Yu (.agg cs)=Z2 Vj cs:=(rfl)
theorem Zql:Yu (.fn f l m)=true:=(rfl)
theorem Zge:Vj (.v x)=true:=(rfl)
theorem Zh2:Vj (.row c .set n es)=true:=(rfl)
theorem pass_v:pass (.v x)=true:=(rfl)
theorem Zm2:pass (.ptr b off)=true:=(rfl)
theorem Zm0:pass (.row c .set n es)=true:=(rfl)
theorem Zq4:pass (.fn f l m)=true:=(rfl)
theorem Zal:pass (.agg cs)=Z2 Qv cs:=(rfl)
theorem Zpx:closed (.v x)=true:=(rfl)
theorem Zfe:closed (.agg cs)=Z2 Qv cs:=(rfl)
theorem Zkw:Qv (.v x)=true:=(rfl)
theorem Zcv:Qv (.row c .set n es)=true:=(rfl)
theorem X8:loose (.v x)=true:=(rfl)
theorem Lp:loose (.row c .set n es)=true:=(rfl)
theorem Zje:loose (.row c (.own e) n es)=true:=(rfl)
theorem Zjg:loose (.agg cs)=Z2 Uq cs:=(rfl)
theorem Znv:Uq (.v x)=true:=(rfl)
theorem Zeh:Uq (.row c .set n es)=true:=(rfl)
theorem Vw:Qk (.v x)=true:=(rfl)
theorem N3:Qk (.row c .set n es)=true:=(rfl)
theorem Ziy:Qk (.row c (.own e) n es)=true:=(rfl)
theorem de:Qk (.agg cs)=true:=(rfl)
theorem Zrv:Xs (.v x)=false:=(rfl)
theorem Zjz:Xs (.row c .set n es)=false:=(rfl)
theorem Zj1:Xs (.row c (.own e) n es)=true:=(rfl)
theorem Zj0:Xs (.ptr b off)=false:=(rfl)
theorem W1 {α:Type} {p:α->Bool}:Z2 p []=true:=(rfl)
theorem Vc {α:Type} {p:α->Bool} {y:α} {ys:List α}:Z2 p (y::ys)=cond (p y) (Z2 p ys) false:=(rfl)
theorem Zp7 {α:Type} {p:α->Bool}:Kk p []=false:=(rfl)
theorem Zk5 {α:Type} {p:α->Bool} {y:α} {ys:List α}:Kk p (y::ys)=cond (p y) true (Kk p ys):=(rfl)
theorem bool_v {t:Bool}:Hg (.v (.bool t))=true:=(rfl)
theorem isBT_v {t w:Bool}:isBT (.v (.bool t)) w=isB (.bool t) w:=(rfl)
end
theorem b2_v {f:Value->Value->Option Value} {x y:Value}:b2 f (.v x) (.v y)=Zf (f x y) λr=>some (.v r):=(rfl)
theorem b1_v {f:Value->Option Value} {x:Value}:b1 f (.v x)=Zf (f x) λr=>some (.v r):=(rfl)
theorem not_v {t:Bool}:Gh (.bool t)=some (.bool (!t)):=(rfl)
theorem pick_v {t:Bool} {a b:TV}:Xa (.v (.bool t)) a b=some (cond t a b):=(rfl)
theorem eqlT_v {q:I5} {x y:TV}:Ja q x y=Zf (eqT q x y) λr=>some (.v (.bool r)):=(rfl)
theorem neqT_v {q:I5} {x y:TV}:Jc q x y=Zf (eqT q x y) λr=>some (.v (.bool (!r))):=(rfl)
theorem Zr6 {k:IntKind} {a b:Int}:eqT .int (.v (.int k a)) (.v (.int k b))=some (Qn a b):=by cases k <;> rfl
theorem Hf {c:Cp} {q:Lf} {n:Nat} {es:List TV}:Kn (.row c q n es)=some (.v (.int .i64 (.ofNat (Zb es)))):=(rfl)
theorem Zio {b off d:Nat}:Zw (.ptr b off) d=some (.ptr b (off+d)):=(rfl)
theorem Zi8 {b off:Nat}:On (.ptr b off)=some (.ptr b off):=(rfl)
theorem Zq8:Xp=.row .nil .set 0 []:=(rfl)
theorem tv {e:TypeId} {c:Cp} {n:Nat} {es:List TV}:He (.row c (.own e) n es)=.row c .D7 n es:=(rfl)
theorem tu {c:Cp} {n:Nat} {es:List TV}:He (.row c .set n es)=.row c .set n es:=(rfl)
theorem lend_v {x:Value}:He (.v x)=.v x:=(rfl)
theorem Qe {c:Cp} {q:Lf} {n j:Nat} {es:List TV} {e:TV} (h:es[j]? = some e):Qh n (.row c q n es) (.v (.int .i64 (.ofNat j)))=some (.el (vh q) (Zy e) 0):=by
 show Zf (asNat (.int .i64 (.ofNat j))) _=_;have:asNat (.int .i64 (.ofNat j))=some j:=rfl;rw [this];show Zf (nth es j) _=_;rw [Xq,h];show Zp (Nat.beq n n) _=_;rw [Nat.beq_refl];rfl
theorem Ku {β:Type} {m:Ld} {Zh base:Nat} {H:TH} {q:Lf} {x:TV} {off:Nat} {cs:List TV} {k:TV->TH->Option β} (h:cs[off]? = some x):loadT m Zh base false 1 H (.el q cs off) k=k x H:=by
 show K1 (Zf (nth cs off) λx=>Qr x H) k=_;rw [Xq,h];rfl
theorem Zny {β:Type} {m:Ld} {Zh base n:Nat} {H:TH} {q:Lf} {off:Nat} {cs:List TV} {k:TV->TH->Option β} (h:off+n<=cs.length):loadT m Zh base true n H (.el q cs off) k=k (.agg ((cs.drop off).take n)) H:=by
 show K1 (Zp (Nat.ble (off+n) (Zb cs)) (Qr (.agg (Vi cs off n)) H)) k=_;rw [Zz,Nat.ble_eq_true_of_le h];show k (.agg (X7 (La cs off) n)) H=_;rw [Yh,Jq]
theorem el_one {β:Type} {m:Ld} {Zh base:Nat} {H:TH} {q:Lf} {x:TV} {k:TV->TH->Option β}:loadT m Zh base false 1 H (.el q [x] 0) k=k x H:=(rfl)
theorem el_two {β:Type} {m:Ld} {Zh base:Nat} {H:TH} {q:Lf} {x y:TV} {k:TV->TH->Option β}:loadT m Zh base true 2 H (.el q [x,y] 0) k=k (.agg [x,y]) H:=(rfl)
theorem el_fst {β:Type} {m:Ld} {Zh base:Nat} {H:TH} {q:Lf} {x y:TV} {k:TV->TH->Option β}:loadT m Zh base false 1 H (.el q [x,y] 0) k=k x H:=(rfl)
theorem el_snd {β:Type} {m:Ld} {Zh base:Nat} {H:TH} {q:Lf} {x y:TV} {k:TV->TH->Option β}:loadT m Zh base false 1 H (.el q [x,y] 1) k=k y H:=(rfl)
theorem Zn4 {f:Fn} {l m:List TV}:Zc (.fn f l m)=.fn f l m:=(rfl)
theorem Zob {f:Fn} {l m:List TV}:Ze (.fn f l m)=.fn f l m:=(rfl)
theorem Zx {β:Type} {m:Ld} {Zh base b off:Nat} {H:TH} {cs:List TV} {x:TV} {k:TV->TH->Option β} (hb:H[b]? = some (.cells cs)) (hx:cs[off]? = some x) (ho:Xs x=false) (hl:He x=x):loadT m Zh base false 1 H (.ptr b off) k=k x H:=by
 show K1 (Yx H b λcs=>Zf (nth cs off) λx=>Mc m Zh base H b cs off x Qr) k=_;unfold Yx;rw [Xq,hb];show K1 (Zf (nth cs off) λx=>Mc m Zh base H b cs off x Qr) k=_;rw [Xq,hx];show K1 (Mc m Zh base H b cs off x Qr) k=_;unfold Mc;cases m with
 |Xi=>rw [hl];rfl
 |take=>rw [ho];rfl
 |settle=>rw [ho];rfl
 |W8 n ag=>rw [ho];rfl
theorem Xw {β:Type} {m:Ld} {Zh base b off n:Nat} {H:TH} {cs:List TV} {k:TV->TH->Option β} (hb:H[b]? = some (.cells cs)) (hn:off+n<=cs.length) (ho:((cs.drop off).take n).any Xs=false):loadT m Zh base true n H (.ptr b off) k=k (.agg ((cs.drop off).take n)) H:=by
 show K1 (Yx H b λcs=>Zp (Nat.ble (off+n) (Zb cs)) (cond (Kk Xs (Vi cs off n)) _ (Qr (.agg (Vi cs off n)) H))) k=_;unfold Yx;rw [Xq,hb];show K1 (Zp (Nat.ble (off+n) (Zb cs)) (cond (Kk Xs (Vi cs off n)) _ (Qr (.agg (Vi cs off n)) H))) k=_;have e:Vi cs off n=(cs.drop off).take n:=by unfold Vi;rw [Yh,Jq]
 rw [Zz,Nat.ble_eq_true_of_le hn,xz,e,ho];rfl
theorem Qf {H:TH} {o:Kc}:(Zv H o)[Zb H]? = some o:=by
 unfold Zv;rw [Zz];show (H++[o])[H.length]? = _;simp
theorem Qm {H:TH} {o p:Kc} {b:Nat} (h:H[b]? = some p):(Zv H o)[b]? = some p:=by
 unfold Zv;have:=(List.getElem?_eq_some_iff.1 h).1;show (H++[o])[b]? = _;rw [List.getElem?_append_left this];exact h
theorem Jt {H:TH} {o:Kc}:X7 (Zv H o) (Zb H)=H:=by
 unfold Zv;rw [Yh,Zz];show List.take H.length (H++[o])=H;simp
theorem Qd {H:TH} {o:Kc}:Zb (Zv H o)=Zb H+1:=by
 unfold Zv;rw [Zz,Zz];show (H++[o]).length=_;simp
theorem Z6 {base:Nat} {v:TV} {H:TH} (h:loose v=true):Xm base v H=(v,X7 H base):=by
 unfold Xm;rw [h];rfl
def Xj (e n:Nat) (l:List TV):TV:=match l with |[]=>Xp |_=>.row .Jf (.own e) n l
theorem Et {β:Type} {Zh:Nat} {H:TH} {e size bytes:Nat} {l:List TV} {x:TV} {k:TV->TH->Option β} (hr:roomFor bytes (l.length+1)=true) :
  X6 Zh H e size bytes (Xj e size l) (.row .full (.own e) size [x]) k=k (Xj e size (l++[x])) H:=by
 have Da:Xj e size (l++[x])=.row .Jf (.own e) size (l++[x]):=by cases l <;> rfl
 rw [Da];unfold X6 fc;show K1 (Zf (Zp (cond (Ot .full) true (Nat.beq size size)) (some [x])) _) k=_;rw [Nat.beq_refl];show K1 (match Xj e size l with |.row c q n es=>_ |.vec b off len cap n ag=>_ |_=>none) k=_
 cases l with
 |nil=>
  show K1 (Zp (cond (Ot .nil) true _) (Zp (roomFor bytes (0+1)) _)) k=_;have:roomFor bytes (0+1)=true:=hr;rw [this];rfl
 |cons y ys=>
  show K1 (Zp (cond (Ot .Jf) true (Nat.beq size size)) (cond (Nat.beq (Zb [x]) 0) _ (Zp (roomFor bytes (Zb (y::ys)+Zb [x])) _))) k=_;have:roomFor bytes (Zb (y::ys)+Zb [x])=true:=by rw [Zz];exact hr
  rw [Nat.beq_refl,this];show K1 (wh e size H .Jf (.own e) (y::ys) [x] Qr) k=_;unfold wh;show K1 (Zp (Nat.beq e e) _) k=_;rw [Nat.beq_refl];rfl
def om (l:List TV):Cp:=match l with |[]=>.nil |_=>.Jf
def zf (n:Nat) (l:List TV):Nat:=match l with |[]=>0 |_=>n
def lfB (l:List TV):Lf:=match l with |[]=>.set |_=>.D7
section
variable {e n:Nat} {l:List TV}
theorem Zmr:Xj e n []=.row .nil .set 0 []:=(rfl)
theorem Zqo:Zr (Xj e n l)=Xj e n l:=by cases l <;> rfl
theorem tn:loose (Xj e n l)=true:=by cases l <;> rfl
theorem pt:Qk (Xj e n l)=true:=by cases l <;> rfl
theorem yg:Yu (Xj e n l)=true:=by cases l <;> rfl
theorem Zrt:Ze (Xj e n l)=Xj e n l:=by cases l <;> rfl
theorem setV_O:Zg (Xj e n l)=.row (om l) .set (zf n l) l:=by cases l <;> rfl
theorem Zrq:Zc (Xj e n l)=.row (om l) (lfB l) (zf n l) l:=by cases l <;> rfl
theorem Zmi {c:Cp} {es:List TV}:Zg (.row c (lfB l) n es)=.row c (lfB l) n es:=by cases l <;> rfl
theorem Io:Zy (Xj e n l)=[Xj e n l]:=by cases l <;> rfl
theorem lenT_O:Kn (Xj e n l)=some (.v (.int .i64 (.ofNat (Zb l)))):=by cases l <;> rfl
theorem ye (h:l≠[]):zf n l=n:=by cases l with |nil=>exact absurd rfl h |cons=>rfl
end
theorem stN_s {n:Nat} {S:TVn (n+1)}:Zu (n+1) S=(Zr S.1,Zu n S.2):=(rfl)
theorem stN_z {S:TVn 0}:Zu 0 S=():=(rfl)
theorem isB_t {t:Bool}:isB (.bool t) true=t:=by cases t <;> rfl
theorem isB_f {t:Bool}:isB (.bool t) false=!t:=by cases t <;> rfl
theorem Zow {β:Type} {x:TV} {w:Bool} {r:Option (TV×TH)} {H:TH} {k:TV->TH->Option β}:Qp x w r H k=Zp (Hg x) (K1 (cond (isBT x w) r (some (.gone,H))) k):=(rfl)
theorem Zk0:Hg .gone=true:=(rfl)
theorem Zj2 {w:Bool}:isBT .gone w=false:=(rfl)
theorem Zdo:Zr .gone=.gone:=(rfl)
theorem Zem:Zc .gone=.gone:=(rfl)
theorem Ziq:Zg .gone=.gone:=(rfl)
theorem Zep:Ze .gone=.gone:=(rfl)
theorem K8 {b off len cap n j:Nat} {ag:Bool} (h:j < len):Qh n (.vec b off len cap n ag) (.v (.int .i64 (.ofNat j)))=some (.ptr b (off+j * n)):=by
 show Zf (some j) (λj=>Zp (Nat.beq n n) (Zp (Nat.blt j len) (some (TV.ptr b (Nat.add off (Nat.mul j n))))))=_;rw [Nat.beq_refl];show Zp (Nat.blt j len) _=_;rw [(by rw [Nat.blt_eq];exact h:Nat.blt j len=true)];rfl
theorem Zna {e n:Nat} {l:List TV} {H:TH}:y7 false H (Xj e n l)=some (Xj e n l):=by cases l <;> rfl
theorem Zr5 {a b c d:Int}:eqT (.ints 2) (.agg [tI a,tI b]) (.agg [tI c,tI d])=some (Qn a c && (Qn b d && true)):=(rfl)
theorem Po {b off len cap n:Nat} {ag:Bool}:Kn (.vec b off len cap n ag)=some (.v (.int .i64 (.ofNat len))):=(rfl)
theorem Zjn {b off len cap n:Nat} {ag:Bool}:Zc (.vec b off len cap n ag)=.vec b off len cap n ag:=(rfl)
theorem Zju {b off len cap n:Nat} {ag:Bool}:Ze (.vec b off len cap n ag)=.vec b off len cap n ag:=(rfl)
theorem Zbo {b off len cap n:Nat} {ag:Bool}:Qu (.vec b off len cap n ag)=.vec b off len cap n ag:=(rfl)
theorem T5 {b off len cap n:Nat} {ag:Bool}:pass (.vec b off len cap n ag)=true:=(rfl)
theorem Az {b off len cap n:Nat} {ag:Bool}:Qk (.vec b off len cap n ag)=true:=(rfl)
theorem si {β:Type} {n m:Nat} {ag:Bool} {c:Cp} {es:List TV} {H:TH} {k:TV->TH->Option β}:Xb n ag (.row c .set m es) H k=k (.row c .set m es) H:=(rfl)
theorem Fp {β:Type} {n b off len cap m:Nat} {ag ah:Bool} {H:TH} {k:TV->TH->Option β}:Xb n ag (.vec b off len cap m ah) H k=k (.vec b off len cap m ah) H:=(rfl)
theorem Zli {β:Type} {n:Nat} {ag:Bool} {e:TypeId} {es:List TV} {H:TH} {k:TV->TH->Option β}:Xb n ag (.row .Jf (.own e) n es) H k=k (.vec (Zb H) 0 (Zb es) (Xk+n) n ag) (Zv H (.cells (Qi es))):=by
 show K1 (Zp (Nat.beq n n) _) k=_;rw [Nat.beq_refl];rfl
theorem Yy {α β:Type} {v:α} {k:α->Option β}:Za (some v) k=k v:=(rfl)
theorem Zqe {α β:Type} {v:α} {k:α->Option β}:Zf (some v) k=k v:=(rfl)
theorem G0 {β:Type} {k:Option β}:Zp true k=k:=(rfl)
theorem Gv {α:Type} (l:List α) (i:Nat) (x:α) (h:i < l.length):Kl l i [x]=l.set i x:=by
 rw [Ia _ _ _ (by simp;omega),List.set_eq_take_append_cons_drop,if_pos h];rfl
theorem M3 {H:TH} {b:Nat} {o p:Kc} (hb:H[b]? = some p):Kg H b o=H.set b o:=Gv _ _ _ (List.getElem?_eq_some_iff.1 hb).1
theorem Qy {Zh base b off n:Nat} {H:TH} {cs:List TV} {x:TV} (hb:H[b]? = some (.cells cs)) (ht:Zh<=b) (hs:Yu x=true) (hl:Oq x=true\/base<=b) (hn:(Zy x).length=n) (ho:off+n<=cs.length) :
  storeT Zh base n H (.ptr b off) x=some (H.set b (.cells (Kl cs off (Zy x)))):=by
 show Zp (Nat.ble Zh b) (Zp (Yu x) (Zp (cond (Nat.blt b base) (Oq x) true) (Zf (nth H b) λo=>match o with
  |.cells cs=>Zp (Nat.beq (Zb (Zy x)) n) (Zp (Nat.ble (off+n) (Zb cs)) (some (Kg H b (.cells (Kl cs off (Zy x))))))
  |_=>none)))=_
 rw [Nat.ble_eq_true_of_le ht,hs,Xq,hb]
 have e:cond (Nat.blt b base) (Oq x) true=true:=by
  cases h:Nat.blt b base with
  |false=>rfl
  |true=>
   rcases hl with hl |hl
   ·exact hl
   ·rw [Nat.blt_eq] at h;omega
 rw [e];show Zp (Nat.beq (Zb (Zy x)) n) (Zp (Nat.ble (off+n) (Zb cs)) (some (Kg H b (.cells (Kl cs off (Zy x))))))=_;rw [Zz,hn,Nat.beq_refl,Zz,Nat.ble_eq_true_of_le ho,M3 hb];rfl
theorem G9 {len n b off j:Nat} (h:j < len):Qt len n (.ptr b off) (.v (.int .i64 (.ofNat j)))=some (.ptr b (off+j * n)):=by
 show Zp (Nat.blt j len) (Zw (.ptr b off) (Nat.mul j n))=_;rw [(by rw [Nat.blt_eq];exact h:Nat.blt j len=true)];rfl
theorem Jv {H:TH} {b:Nat} {o p:Kc} (hb:H[b]? = some p):(H.set b o)[b]? = some o:=by
 rw [List.getElem?_set_self (List.getElem?_eq_some_iff.1 hb).1]
theorem Vg {H:TH} {b c:Nat} {o:Kc} (h:c≠b):(H.set b o)[c]? = H[c]?:=List.getElem?_set_ne (Ne.symm h)
theorem Ks {H:TH} {b:Nat} {o:Kc}:Zb (H.set b o)=Zb H:=by rw [Zz,Zz,List.length_set]
section
variable {x y z:TV} {l cs:List TV} {a:Value}
theorem Zmb:Zg (.Xh cs)=.Xh (Ve Fv cs):=(rfl)
theorem Zjo:Zc (.Xh cs)=.Xh (Ve Fv cs):=(rfl)
theorem setT_v:Fv (.v a)=.v a:=(rfl)
theorem Zmk:Fv (.agg cs)=.agg (Ve V3 cs):=(rfl)
theorem setT_O {e n:Nat}:Fv (Xj e n l)=.row (om l) .set (zf n l) l:=by cases l <;> rfl
theorem vu:Qj (.Xh (x::l)) 0=some x:=(rfl)
theorem vt:Qj (.Xh (x::y::l)) 1=some y:=(rfl)
theorem Zfd:Qj (.Xh (x::y::z::l)) 2=some z:=(rfl)
theorem j5:Z7 (.Xh (x::l)) 0=.Xh (Zk::l):=(rfl)
theorem Ze6:Z7 (.Xh (x::y::l)) 1=.Xh (x::Zk::l):=(rfl)
end
theorem J6 {x:Value}:ie (.v x)=true:=(rfl)
theorem Xc {H:TH}:X7 H (Zb H)=H:=by rw [Yh,Zz,List.take_length]
theorem Wj {base:Nat} {v:TV} {H:TH} (hr:Qk v=true) (hv:loose v=true):Zp (Z2 Qk [v]) (some (Xm base v H))=some (v,X7 H base):=by
 rw [Z6 hv,Vc,hr];rfl
theorem Yo {β:Type} {C:TC} {call:Z3} {Zh g:Nat} {l m vs:List TV} {H H':TH} {v:TV} {k:TV->TH->Option β} (hp:Z2 pass (l++(vs++m))=true) (hc:call Zh g (l++(vs++m)) H=some (v,H')) :
  Xd C call Zh (.fn (.func g) l m) vs H k=k v H':=by
 show Zp (Z2 pass (l++(vs++m))) (K1 (call Zh g (l++(vs++m)) H) k)=_;rw [hp,hc];rfl
theorem Xx {β:Type} {call:Z3} {Zh g:Nat} {vs:List TV} {H H':TH} {v:TV} {k:TV->TH->Option β} (hp:Z2 pass vs=true) (hc:call Zh g vs H=some (v,H')) :
  Qo call Zh g vs H k=k v H':=by
 show Zp (Z2 pass vs) (K1 (call Zh g vs H) k)=_;rw [hp,hc];rfl
def VV:=aI @Zgi<| aI @sqR_n<| aI @sqR_e<| aI @sqR_r<| aI @Zk2<| aI @blR_n<| aI @blR_r<| aI @Zp1<| aI @Zn7<| aI @Zpo<| aI @Zpu<| aI @cdV_b<| aI @Zfn<| aI @Zfo<| aI @S0<| aI @cond_f<| aI @Jm<| aI @N4<| aI @Zqn<| aI @Zh4<| aI @Zh6<| aI @Zh9<| aI @Zia<| aI @Zh3<| aI @Zh5<| aI @Ny<| aI @Zh8<| aI @Zlz<| aI @setV_v<| aI @Zmc<| aI @Zme<| aI @Zmg<| aI @Zmh<| aI @Zmd<| aI @Zma<| aI @Zmf<| aI @Zqt<| aI @setC_v<| aI @Zml<| aI @Zmm<| aI @hush_v<| aI @Zog<| aI @Zoi<| aI @Zok<| aI @Zoh<| aI @Zrx<| aI @Zoj<| aI @Zry<| aI @Zj5<| aI @Zrp<| aI @Zjp<| aI @Zjr<| aI @Zjs<| aI @Zjq<| aI @Zrs<| aI @Zjv<| aI @Zjx<| aI @Zjy<| aI @Zjw<| aI @Znq<| aI @Zjb<| aI @V8<| aI @Zfh<| aI @Yb<| aI @Zfi<| aI @Zky<| aI @stor_v<| aI @Zlt<| aI @Zlu<| aI @Zlv<| aI @Zql<| aI @Zge<| aI @Zh2<| aI @pass_v<| aI @Zm2<| aI @Zm0<| aI @Zq4<| aI @Zal<| aI @Zpx<| aI @Zfe<| aI @Zkw<| aI @Zcv<| aI @X8<| aI @Lp<| aI @Zje<| aI @Zjg<| aI @Znv<| aI @Zeh<| aI @Vw<| aI @N3<| aI @Ziy<| aI @de<| aI @Zrv<| aI @Zjz<| aI @Zj1<| aI @Zj0<| aI @W1<| aI @Vc<| aI @Zp7<| aI @Zk5<| aI @bool_v<| aI @isBT_v<| aI @b2_v<| aI @not_v<| aI @pick_v<| aI @eqlT_v<| aI @neqT_v<| aI @Zr6<| aI @Hf<| aI @Zio<| aI @Zi8<| aI @tv<| aI @tu<| aI @lend_v<| aI @el_one<| aI @el_two<| aI @el_fst<| aI @el_snd<| aI @Zn4<| aI @Zob<| aI @Zqo<| aI @tn<| aI @pt<| aI @yg<| aI @Zrt<| aI @setV_O<| aI @Zrq<| aI @Zmi<| aI @Io<| aI @lenT_O<| aI @isB_t<| aI @isB_f<| aI @Zow<| aI @Zk0<| aI @Zj2<| aI @Zdo<| aI @Zem<| aI @Ziq<| aI @Zep<| aI @Zr5<| aI @Po<| aI @Zjn<| aI @Zju<| aI @Zbo<| aI @T5<| aI @Az<| aI @b1_v<| aI @Yy<| aI @Zqe<| aI @G0<| aI @si<| aI @Fp<| aI @Zli<| aI @Zmb<| aI @Zjo<| aI @setT_v<| aI @Zmk<| aI @setT_O<| aI @vu<| aI @vt<| aI @Zfd<| aI @j5<| aI @Ze6<| aI @stN_s<| aI @stN_z<| WW
end
end Go.Ev
