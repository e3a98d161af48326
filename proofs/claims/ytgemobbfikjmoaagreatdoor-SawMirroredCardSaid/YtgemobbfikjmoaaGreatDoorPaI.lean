/- What the functions that SawMirrored calls answer, part four; the law walked.
   Conditions: none beyond the given statement's own. -/
import Derived.Test.YtgemobbfikjmoaaGreatDoorPaH
set_option linter.unusedVariables false
set_option linter.unusedSimpArgs false
set_option linter.defProp false
namespace Go.Proofs.YtgemobbfikjmoaaGreatDoor
open Go Go.Ev
set_option maxRecDepth 100000
noncomputable section
theorem Qg.lp {σ:Type} {f:Z4 σ} {id fuel k:Nat} {S:σ} {H:TH} {Q:Ex->σ->TH->Prop} (I:Nat->σ->TH->Prop) (X:σ->TH->Prop)
  (im:∀ k S H,I k S H->Qg (f S H) λe S' H'=>(e=.normal/\∃ k',k' < k/\I k' S' H')\/(e=.exit id/\X S' H'))
  (hk:k < fuel) (h0:I k S H) (hx:∀ S H,X S H->Q .normal S H):Qg (blR id (Ym f fuel S H)) Q:=by
 have h:=Qg.loop (Q:=λe S H=>e=.exit id/\X S H) I (λk S H hi=>(im k S H hi).mono λe S' H' hq=>by
  rcases hq with ⟨a,b⟩ |⟨a,b⟩
  ·exact .inl ⟨a,b⟩
  ·exact .inr ⟨by rw [a];simp,a,b⟩) fuel k S H hk h0
 exact Qg.bl h (λS H h=>by cases h.1) (λi S H h=>by
  obtain ⟨h1,h2⟩:=h;cases h1;rw [Nat.beq_refl];exact hx S H h2) (λS H h=>by cases h.1)
theorem Zjl (d:Nat) {x y:Nat} {H:TH}:Zm (tc (d+2)) 183 [tN x,tN y] H=some (tB (Nat.blt x y)):=by
 refine Yc (ws:=[tN x,tN y]) (H':=[]) rfl rfl ?_ L7;rw [Y4 (F:=F183) (by kernel_rfl)]
 have c1:∀ x H,Zm (tc (d+1)) 176 [tN x] H=some (tB false):=λx H=>Ha d;show Za (C183 (tc (d+1)) 0 0 (tN x,tN y,Zk,()) []) _=_;simp only [C183,VV,c1,Ql,Z6 X8];rfl
theorem Zp5 {r p:List Nat} {x:Nat} {j:Nat} (hj:j=r.length):((r++x::p).map tN)[0+j * 1]? = some (tN x):=by
 rw [hj,Nat.zero_add,Nat.mul_one,List.getElem?_map,List.getElem?_append_right (Nat.le_refl _),Nat.sub_self];rfl
theorem Zlp {r p:List Nat} {x y:Nat}:(((r++y::x::p).map tN).set (r.length+1) (tN y)).set r.length (tN x)=(r++x::y::p).map tN:=by
 induction r with
 |nil=>rfl
 |cons a r ih=>show tN a::_=tN a::_;exact congrArg _ ih
theorem Zeq (d Zh:Nat) {b len cap:Nat} {x0:Nat} {l0:List Nat} {H:TH} (hb:H[b]? = some (.cells ((x0::l0).map tN))) (Oc:Zh<=b) (hlen:l0.length+1=len) (hl:len < 1000) :
  tc (d+3) Zh 177 [.vec b 0 len cap 1 false,tN 0,tN len] H=some (.Xh [],H.set b (.cells ((V2 Nat.blt (x0::l0) []).map tN))):=by
 rw [Y4 (F:=F177) (by kernel_rfl)]
 obtain ⟨R,hR⟩:∃ R,R=V2 Nat.blt (x0::l0) []:=⟨_,rfl⟩;rw [<- hR];have Ut:∀ cs,(H.set b (.cells cs))[b]? = some (.cells cs):=λcs=>Jv hb;have hss:∀ cs qw,(H.set b (.cells cs)).set b (.cells qw)=H.set b (.cells qw):=λcs qw=>List.set_set ..;have hle:∀ (H:TH) x y,Zm (tc (d+2)) 183 [tN x,tN y] H=some (tB (Nat.blt x y)):=λH x y=>Zjl d
 have key:Qg (Zfz (tc (d+2)) Zh (Zb H) (.vec b 0 len cap 1 false,tN 0,tN len,Zk,Zk,Zk,Zk,()) H)
   λe S H1=>e=.normal/\H1=H.set b (.cells (R.map tN)):=by
  have a1:Z0 (.int .i64 (.ofNat 0)) (.int .i64 (.ofNat 1))=some (.int .i64 (.ofNat 1)):=rfl;simp only [Zfz,VV,a1]
  refine Qg.lp (k:=l0.length) (λk S H1=>∃ acc l,S.1=.vec b 0 len cap 1 false/\S.2.1=tN 0/\S.2.2.1=tN len/\S.2.2.2.1=tN acc.length/\H1=H.set b (.cells ((acc++l).map tN))/\k=l.length/\acc.length+l.length=len/\R=V2 Nat.blt l acc)
   (λ_ H1=>H1=H.set b (.cells (R.map tN))) ?_ (by rw [Yg];omega) ⟨[x0],l0,rfl,rfl,rfl,rfl,(Uv hb).symm,rfl,by show 1+_=_;omega,hR⟩ (λ_ _ h=>⟨rfl,h⟩)
  rintro k S H1 ⟨acc,l,h0,h1,h2,h3,h4,rfl,xu,Qx⟩;rw [h4];cases l with
  |nil=>
   have Qx:R=acc:=Qx;have xu:acc.length=len:=xu;rw [List.append_nil];simp only [VV,h0,h1,h2,h3,Ql,Kf (Nat.le_of_eq xu.symm)];exact .fin (.inr ⟨rfl,by rw [Qx]⟩)
  |cons x l=>
   have xu:acc.length+(l.length+1)=len:=xu;have Qx:R=V2 Nat.blt l (B6 Nat.blt x acc.reverse []):=Qx;obtain ⟨R1,hR1⟩:∃ R1,R1=B6 Nat.blt x acc.reverse []:=⟨_,rfl⟩;rw [<- hR1] at Qx;have hR1l:R1.length=acc.length+1:=by rw [hR1,xy];simp
   simp only [VV,h0,h1,h2,h3,Ql,Xo (show acc.length < len by omega)]
   refine Qg.sq (Q1:=λe S H2=>e=.normal/\S.1=.vec b 0 len cap 1 false/\S.2.1=tN 0/\S.2.2.1=tN len/\S.2.2.2.1=tN acc.length/\H2=H.set b (.cells ((R1++l).map tN))) ?_ ?_ (λi S H h=>by cases h.1) (λS H h=>by cases h.1)
   ·refine Qg.bl (Q1:=λe S H2=>e=.normal/\S.1=.vec b 0 len cap 1 false/\S.2.1=tN 0/\S.2.2.1=tN len/\S.2.2.2.1=tN acc.length/\H2=H.set b (.cells ((R1++l).map tN))) ?_ (λS H h=>h) (λi S H h=>by cases h.1) (λS H h=>by cases h.1)
    refine Qg.lp (k:=acc.length) (λk S H2=>∃ r p,S.1=.vec b 0 len cap 1 false/\S.2.1=tN 0/\S.2.2.1=tN len/\S.2.2.2.1=tN acc.length/\S.2.2.2.2.1=tN r.length/\H2=H.set b (.cells ((r.reverse++x::(p++l)).map tN))/\k=r.length/\r.length+p.length=acc.length/\R1=B6 Nat.blt x r p)
     (λS H2=>S.1=.vec b 0 len cap 1 false/\S.2.1=tN 0/\S.2.2.1=tN len/\S.2.2.2.1=tN acc.length/\H2=H.set b (.cells ((R1++l).map tN))) ?_ (by rw [Yg];omega)
     ⟨acc.reverse,[],rfl,rfl,rfl,rfl,by rw [List.length_reverse],by rw [List.reverse_reverse];rfl,by rw [List.length_reverse],by rw [List.length_reverse];rfl,hR1⟩ (λ_ _ h=>⟨rfl,h⟩)
    rintro k S H2 ⟨r,p,k0,k1,k2,k3,k4,k5,rfl,hrp,D1⟩;rw [k5];cases r with
    |nil=>
     have D1:R1=x::p:=D1;have e0:Nat.blt 0 0=false:=rfl;simp only [VV,k0,k1,k2,k3,k4,Gg,List.length_nil,e0];exact .fin (.inr ⟨rfl,rfl,rfl,rfl,rfl,by rw [D1];rfl⟩)
    |cons y r=>
     have hrp:r.length+1+p.length=acc.length:=hrp;have D1:R1=cond (Nat.blt x y) (B6 Nat.blt x r (y::p)) (r.reverse++(y::x::p)):=D1;obtain ⟨q,hq⟩:∃ q,q=r.reverse:=⟨_,rfl⟩;have hql:q.length=r.length:=by rw [hq,List.length_reverse]
     have earr:(y::r).reverse++x::(p++l)=q++y::x::(p++l):=by rw [List.reverse_cons,<- hq,List.append_assoc];rfl
     have Zci:(y::r).reverse++x::(p++l)=(q++[y])++x::(p++l):=by rw [List.reverse_cons,<- hq]
     rw [<- hq] at D1;have g1:((q++y::x::(p++l)).map tN)[0+(r.length+1) * 1]? = some (tN x):=by rw [<- earr,Zci];exact Zp5 (by rw [List.length_append,hql];rfl)
     have g2:((q++y::x::(p++l)).map tN)[0+r.length * 1]? = some (tN y):=Zp5 hql.symm;have l1:∀ {β:Type} (md:Ld) (k:TV->TH->Option β),loadT md Zh (Zb H) false 1 (H.set b (.cells ((q++y::x::(p++l)).map tN))) (.ptr b (0+(r.length+1) * 1)) k=k (tN x) (H.set b (.cells ((q++y::x::(p++l)).map tN))):=λmd k=>Zx (Ut _) g1 rfl rfl;have l2:∀ {β:Type} (md:Ld) (k:TV->TH->Option β),loadT md Zh (Zb H) false 1 (H.set b (.cells ((q++y::x::(p++l)).map tN))) (.ptr b (0+r.length * 1)) k=k (tN y) (H.set b (.cells ((q++y::x::(p++l)).map tN))):=λmd k=>Zx (Ut _) g2 rfl rfl;have i1:Qh 1 (.vec b 0 len cap 1 false) (tN (r.length+1))=some (.ptr b (0+(r.length+1) * 1)):=K8 (by omega)
     have i2:Qh 1 (.vec b 0 len cap 1 false) (tN r.length)=some (.ptr b (0+r.length * 1)):=K8 (by omega)
     have z1:Qq (.int .i64 (.ofNat (r.length+1))) (.int .i64 (.ofNat 1))=some (.int .i64 (.ofNat r.length)):=Uc (by omega) (by omega)
     have e0:Nat.blt 0 (r.length+1)=true:=Xo (by omega)
     rw [earr];cases Jo:Nat.blt x y with
     |false=>
      rw [Jo] at D1;have D1:R1=q++(y::x::p):=D1;simp only [VV,k0,k1,k2,k3,k4,Gg,List.length_cons,e0,i1,i2,l1,l2,z1,hle,Jo];exact .fin (.inr ⟨rfl,rfl,rfl,rfl,rfl,by rw [D1,List.append_assoc];rfl⟩)
     |true=>
      rw [Jo] at D1;have D1:R1=B6 Nat.blt x r (y::p):=D1;obtain ⟨M,hM⟩:∃ M,M=H.set b (.cells ((q++y::x::(p++l)).map tN)):=⟨_,rfl⟩;have hMb:M[b]? = some (.cells ((q++y::x::(p++l)).map tN)):=by rw [hM];exact Ut _
      have iw:(q++y::x::(p++l)).length=len:=by simp only [List.length_append,List.length_cons];omega
      rw [<- hM] at l1 l2 ⊢;obtain ⟨M2,hM2⟩:∃ M2,M2=M.set b (.cells (((q++y::x::(p++l)).map tN).set (r.length+1) (tN y))):=⟨_,rfl⟩
      have s1:storeT Zh (Zb H) 1 M (.ptr b (0+(r.length+1) * 1)) (tN y)=some M2:=by
       rw [Qy (n:=1) (x:=tN y) hMb Oc rfl (.inl rfl) rfl (by rw [List.length_map,iw];omega),Nat.zero_add,Nat.mul_one,V8,Gv _ _ _ (by rw [List.length_map,iw];omega),hM2]
      have hM2b:M2[b]? = some (.cells (((q++y::x::(p++l)).map tN).set (r.length+1) (tN y))):=by rw [hM2];exact Jv hMb
      have s2:storeT Zh (Zb H) 1 M2 (.ptr b (0+r.length * 1)) (tN x)=some (H.set b (.cells ((q++x::y::(p++l)).map tN))):=by
       rw [Qy (n:=1) (x:=tN x) hM2b Oc rfl (.inl rfl) rfl (by rw [List.length_set,List.length_map,iw];omega),Nat.zero_add,Nat.mul_one,V8,Gv _ _ _ (by rw [List.length_set,List.length_map,iw];omega),<- hql,hM2,hM,<- hql,Zlp,hss,hss]
      simp only [VV,k0,k1,k2,k3,k4,Gg,List.length_cons,e0,i1,i2,l1,l2,z1,hle,Jo,s1,s2];exact .fin (.inl ⟨rfl,r.length,by omega,r,y::p,rfl,rfl,rfl,rfl,rfl,by rw [<- hq];rfl,rfl,by show r.length+(p.length+1)=_;omega,D1⟩)
   ·rintro S H2 ⟨_,k0,k1,k2,k3,k4⟩;rw [k4];have a3:Z0 (.int .i64 (.ofNat acc.length)) (.int .i64 (.ofNat 1))=some (.int .i64 (.ofNat (acc.length+1))):=X9 (by omega)
    simp only [VV,k0,k1,k2,k3,a3];exact .fin (.inl ⟨rfl,l.length,Nat.lt_succ_self _,R1,l,rfl,rfl,rfl,by rw [hR1l],rfl,rfl,by omega,Qx⟩)
 obtain ⟨e,S,H1,h1,rfl,h2⟩:=key;rw [h2] at h1;show Za (Zfz (tc (d+2)) Zh (Zb H) (.vec b 0 len cap 1 false,tN 0,tN len,Zk,Zk,Zk,Zk,()) H) _=_;rw [h1];simp only [Yy,N4];have hlen:X7 (H.set b (.cells (R.map tN))) (Zb H)=H.set b (.cells (R.map tN)):=by rw [<- Ks (H:=H) (b:=b) (o:=.cells (R.map tN))];exact Xc
 show some (Xm _ _ _)=_;rw [Z6 rfl,hlen]
theorem kv (d:Nat):∀ n:Nat,n<=12->∃ z:Nat,∀ H,Zm (tc (d+3)) 150 [tU n] H=some (tN z):=by
 intro n hn;have key:∀ z,tc (d+3) 0 150 [tU n] []=some (tN z,[])->∀ H,Zm (tc (d+3)) 150 [tU n] H=some (tN z):=λz h H=>Yc (ws:=[tU n]) (H':=[]) rfl rfl h L7;rcases n with _ |_ |_ |_ |_ |_ |_ |_ |_ |_ |_ |_ |_ |n
 ·exact ⟨0,key _ (by kernel_rfl)⟩
 ·exact ⟨1,key _ (by kernel_rfl)⟩
 ·exact ⟨2,key _ (by kernel_rfl)⟩
 ·exact ⟨2,key _ (by kernel_rfl)⟩
 ·exact ⟨3,key _ (by kernel_rfl)⟩
 ·exact ⟨3,key _ (by kernel_rfl)⟩
 ·exact ⟨3,key _ (by kernel_rfl)⟩
 ·exact ⟨3,key _ (by kernel_rfl)⟩
 ·exact ⟨4,key _ (by kernel_rfl)⟩
 ·exact ⟨4,key _ (by kernel_rfl)⟩
 ·exact ⟨4,key _ (by kernel_rfl)⟩
 ·exact ⟨4,key _ (by kernel_rfl)⟩
 ·exact ⟨4,key _ (by kernel_rfl)⟩
 ·omega
end
end Go.Proofs.YtgemobbfikjmoaaGreatDoor
namespace Go.Proofs.YtgemobbfikjmoaaGreatDoor
open Go Go.Ev
set_option maxRecDepth 100000
noncomputable section
theorem Zpr {n:Nat} (h:n < 9223372036854775808):Ki .u64 (.int .i64 (.ofNat n))=some (.int .u64 (.ofNat n)):=by
 show some (Value.int .u64 (Jl .u64 (.ofNat n)))=_;rw [Jk,IntKind.wrap_u64]
 have:(Int.ofNat n) % 18446744073709551616=Int.ofNat n:=by
  show ((n:Nat):Int) % 18446744073709551616=((n:Nat):Int);omega
 rw [this]
theorem Zg3 (k:IntKind) (a b:Nat):Am (.int k (.ofNat a)) (.int k (.ofNat b))=some (.bool (!Nat.blt b a)):=by cases k <;> rfl
theorem Zq3 (d Zh:Nat) {b len cap z:Nat} {x0:Nat} {l0:List Nat} {H:TH} (hb:H[b]? = some (.cells ((x0::l0).map tN))) (Oc:Zh<=b) (hlen:l0.length+1=len) (hl:len<=12) :
  tc (d+4) Zh 149 [.vec b 0 len cap 1 false,tN 0,tN len,tN z] H=some (.Xh [],H.set b (.cells ((V2 Nat.blt (x0::l0) []).map tN))):=by
 rw [Y4 (F:=F149) (by kernel_rfl)]
 obtain ⟨R,hR⟩:∃ R,R=H.set b (.cells ((V2 Nat.blt (x0::l0) []).map tN)):=⟨_,rfl⟩
 have c1:∀ {β:Type} (k:TV->TH->Option β),Qo (tc (d+3)) Zh 177 [.vec b 0 len cap 1 false,tN 0,tN len] H k=k (.Xh []) R:=λk=>
  Xx rfl (by rw [hR];exact Zeq d Zh hb Oc hlen (by omega))
 have z1:Qq (.int .i64 (.ofNat len)) (.int .i64 (.ofNat 0))=some (.int .i64 (.ofNat len)):=Uc (Nat.zero_le _) (by omega)
 have z2:Nat.blt 12 len=false:=Kf hl;rw [<- hR]
 have key:Qg (Zf0 (tc (d+3)) Zh (Zb H) (.vec b 0 len cap 1 false,tN 0,tN len,tN z,Zk,Zk,Zk,Zk,Zk,Zk,Zk,Zk,Zk,Zk,Zk,Zk,Zk,Zk,Zk,Zk,Zk,Zk,Zk,()) H)
   λe S H1=>e=.ret/\H1=R:=by
  simp only [Zf0,VV];refine Qg.bl (Q1:=λe S H1=>e=.ret/\H1=R) ?_ (λS H h=>by cases h.1) (λi S H h=>by cases h.1) (λS H h=>h)
  refine Qg.loop (λk S H1=>S.1=.vec b 0 len cap 1 false/\S.2.1=tN 0/\S.2.2.1=tN len/\H1=H/\k=0) ?_ fuel 0 _ _ (by rw [Yg];omega) ⟨rfl,rfl,rfl,rfl,rfl⟩
  rintro k S H1 ⟨g0,g1,g2,g3,_⟩;rw [g3];simp only [VV,g0,g1,g2,z1,Zg3,z2,Bool.not_false,c1];exact .fin (.inr ⟨by simp,rfl,rfl⟩)
 obtain ⟨e,S,H1,h1,rfl,h2⟩:=key;rw [h2] at h1;show Za (Zf0 (tc (d+3)) Zh (Zb H) (.vec b 0 len cap 1 false,tN 0,tN len,tN z,Zk,Zk,Zk,Zk,Zk,Zk,Zk,Zk,Zk,Zk,Zk,Zk,Zk,Zk,Zk,Zk,Zk,Zk,Zk,()) H) _=_;rw [h1];simp only [Yy,Jm,W1,G0];have ht:X7 R (Zb H)=R:=by rw [hR,<- Ks (H:=H) (b:=b) (o:=.cells ((V2 Nat.blt (x0::l0) []).map tN))];exact Xc
 rw [Z6 rfl,ht]
theorem Zl0 (d Zh:Nat) {b len cap:Nat} {x0:Nat} {l0:List Nat} {H:TH} (hb:H[b]? = some (.cells ((x0::l0).map tN))) (Oc:Zh<=b) (hlen:l0.length+1=len) (hl:len<=12) :
  tc (d+5) Zh 83 [.vec b 0 len cap 1 false] H=some (.Xh [],H.set b (.cells ((V2 Nat.blt (x0::l0) []).map tN))):=by
 rw [Y4 (F:=F83) (by kernel_rfl)]
 obtain ⟨R,hR⟩:∃ R,R=H.set b (.cells ((V2 Nat.blt (x0::l0) []).map tN)):=⟨_,rfl⟩;obtain ⟨z,hz⟩:=kv (d+1) len hl
 have c1:∀ {β:Type} (k:TV->TH->Option β),Qo (tc (d+4)) Zh 149 [.vec b 0 len cap 1 false,tN 0,tN len,tN z] H k=k (.Xh []) R:=λk=>
  Xx rfl (by rw [hR];exact Zq3 d Zh hb Oc hlen hl)
 have z1:Ki .u64 (.int .i64 (.ofNat len))=some (.int .u64 (.ofNat len)):=Zpr (by omega)
 rw [<- hR];have ht:X7 R (Zb H)=R:=by rw [hR,<- Ks (H:=H) (b:=b) (o:=.cells ((V2 Nat.blt (x0::l0) []).map tN))];exact Xc
 show Za (C83 (tc (d+4)) Zh (Zb H) (.vec b 0 len cap 1 false,Zk,()) H) _=_;simp only [C83,VV,z1,hz,c1];rw [Z6 rfl,ht]
theorem Zl1 (d Zh:Nat) {H:TH}:tc (d+5) Zh 83 [Xp] H=some (.Xh [],H):=by
 have c0:∀ {β:Type} (H:TH) (k:TV->TH->Option β),Qo (tc (d+3)) Zh 177 [Xp,tN 0,tN 0] H k=k (.Xh []) H:=λH k=>by
  refine Xx rfl ?_;rw [Y4 (F:=F177) (by kernel_rfl)]
  have key:Qg (Zfz (tc (d+2)) Zh (Zb H) (Xp,tN 0,tN 0,Zk,Zk,Zk,Zk,()) H) λe S H1=>e=.normal/\H1=H:=by
   have a1:Z0 (.int .i64 (.ofNat 0)) (.int .i64 (.ofNat 1))=some (.int .i64 (.ofNat 1)):=rfl;have e0:Nat.blt 1 0=false:=rfl;simp only [Zfz,VV,a1];refine Qg.lp (k:=0) (λk S H1=>S.2.2.1=tN 0/\S.2.2.2.1=tN 1/\H1=H) (λ_ H1=>H1=H) ?_ (by rw [Yg];omega) ⟨rfl,rfl,rfl⟩ (λ_ _ h=>⟨rfl,h⟩)
   rintro k S H1 ⟨g2,g3,g4⟩;rw [g4];simp only [VV,g2,g3,Ql,e0];exact .fin (.inr ⟨rfl,rfl⟩)
  obtain ⟨e,S,H1,h1,rfl,h2⟩:=key;rw [h2] at h1;show Za (Zfz (tc (d+2)) Zh (Zb H) (Xp,tN 0,tN 0,Zk,Zk,Zk,Zk,()) H) _=_;rw [h1];simp only [Yy,N4];show some (Xm _ _ _)=_;rw [Z6 rfl,Xc]
 have c1:∀ {β:Type} (z:Nat) (H:TH) (k:TV->TH->Option β),Qo (tc (d+4)) Zh 149 [Xp,tN 0,tN 0,tN z] H k=k (.Xh []) H:=λz H k=>by
  refine Xx rfl ?_;rw [Y4 (F:=F149) (by kernel_rfl)]
  have z1:Qq (.int .i64 (.ofNat 0)) (.int .i64 (.ofNat 0))=some (.int .i64 (.ofNat 0)):=rfl;have z2:Nat.blt 12 0=false:=rfl
  have key:Qg (Zf0 (tc (d+3)) Zh (Zb H) (Xp,tN 0,tN 0,tN z,Zk,Zk,Zk,Zk,Zk,Zk,Zk,Zk,Zk,Zk,Zk,Zk,Zk,Zk,Zk,Zk,Zk,Zk,Zk,()) H)
    λe S H1=>e=.ret/\H1=H:=by
   simp only [Zf0,VV];refine Qg.bl (Q1:=λe S H1=>e=.ret/\H1=H) ?_ (λS H h=>by cases h.1) (λi S H h=>by cases h.1) (λS H h=>h)
   refine Qg.loop (λk S H1=>S.1=Xp/\S.2.1=tN 0/\S.2.2.1=tN 0/\H1=H/\k=0) ?_ fuel 0 _ _ (by rw [Yg];omega) ⟨rfl,rfl,rfl,rfl,rfl⟩
   rintro k S H1 ⟨g0,g1,g2,g3,_⟩;rw [g3];simp only [VV,g0,g1,g2,z1,Zg3,z2,Bool.not_false,c0];exact .fin (.inr ⟨by simp,rfl,rfl⟩)
  obtain ⟨e,S,H1,h1,rfl,h2⟩:=key;rw [h2] at h1;show Za (Zf0 (tc (d+3)) Zh (Zb H) (Xp,tN 0,tN 0,tN z,Zk,Zk,Zk,Zk,Zk,Zk,Zk,Zk,Zk,Zk,Zk,Zk,Zk,Zk,Zk,Zk,Zk,Zk,Zk,()) H) _=_;rw [h1];simp only [Yy,Jm,W1,G0];rw [Z6 rfl,Xc]
 rw [Y4 (F:=F83) (by kernel_rfl)]
 obtain ⟨z,hz⟩:=kv (d+1) 0 (by omega)
 have z1:Ki .u64 (.int .i64 (.ofNat 0))=some (.int .u64 (.ofNat 0)):=rfl;show Za (C83 (tc (d+4)) Zh (Zb H) (Xp,Zk,()) H) _=_;simp only [C83,VV,show Zb ([]:List TV)=0 from rfl,z1,hz,c1];rw [Z6 rfl,Xc]
end
end Go.Proofs.YtgemobbfikjmoaaGreatDoor
namespace Go.Proofs.YtgemobbfikjmoaaGreatDoor
open Go Go.Ev
set_option maxRecDepth 100000
noncomputable section
def ej (a b:Nat×Nat):Bool:=Vo (I2 [a.1,a.2] [b.1,b.2]) (.ofNat 0)
theorem Zg5 {H:TH} {b b1 b2:Nat} (hb:H[b]? = some (.cells [tN b1,tN b2])):inC H (.vec b 0 2 2 1 false)=some (.row .full .set 1 [tN b1,tN b2]):=by
 have hu:=Lc
 have hr:Un H b 0 2 1 false=some [tN b1,tN b2]:=by
  unfold Un Yx;rw [Xq,hb];rfl
 show Zf (Un H b 0 2 1 false) (λes=>Zp (Ms 2 2 1) (some (TV.row (cond (Nat.beq 2 2) .full .Jf) .set 1 es)))=_;rw [hr]
 have:Ms 2 2 1=true:=by
  unfold Ms
  have:Nat.ble Xk 2=false:=by
   cases h:Nat.ble Xk 2 with
   |false=>rfl
   |true=>have:=Nat.le_of_ble_eq_true h;omega
  rw [this];rfl
 rw [this];rfl
theorem Zpv (d Zh:Nat) {x y:Nat×Nat} {H:TH}:tc (d+4) Zh 86 [tQ x,tQ y] H=some (tI (I2 [x.1,x.2] [y.1,y.2]),H):=by
 rw [Y4 (F:=F86) (by kernel_rfl)]
 obtain ⟨A,hA⟩:∃ A,A=Zv H (.cells [tN x.1,tN x.2]):=⟨_,rfl⟩;obtain ⟨B,hB⟩:∃ B,B=Zv A (.cells [tN y.1,tN y.2]):=⟨_,rfl⟩;have hBa:B[Zb H]? = some (.cells [tN x.1,tN x.2]):=by rw [hB,hA];exact Qm Qf
 have hBb:B[Zb A]? = some (.cells [tN y.1,tN y.2]):=by rw [hB];exact Qf
 have ht:X7 B (Zb H)=H:=by rw [hB];exact zd (by rw [hA];exact Jt) (by rw [hA,Qd];omega)
 have c1:Zm (tc (d+3)) 78 [.vec (Zb H) 0 2 2 1 false,.vec (Zb A) 0 2 2 1 false] B=some (tI (I2 [x.1,x.2] [y.1,y.2])):=by
  have hi:qm B [.vec (Zb H) 0 2 2 1 false,.vec (Zb A) 0 2 2 1 false]=some [.row .full .set 1 [tN x.1,tN x.2],.row .full .set 1 [tN y.1,tN y.2]]:=by
   show Zf (inC B (.vec (Zb H) 0 2 2 1 false)) (λy=>Zf (Zf (inC B (.vec (Zb A) 0 2 2 1 false)) λy=>Zf (some []) λl=>some (y::l)) λl=>some (y::l))=_;rw [Zg5 hBa,Zg5 hBb];rfl
  exact Yc hi rfl (zy d 0 (xs:=[x.1,x.2]) (ys:=[y.1,y.2]) (λ_=>rfl) (λ_=>rfl) (by simp)) rfl
 show Za (C86 (tc (d+3)) Zh (Zb H) (tQ x,tQ y,Zk,Zk,Zk,()) H) _=_;simp only [C86,VV,<- hA,<- hB,Wl,c1,Z6 X8,ht]
theorem Zo5 (q:Nat×Nat) (l:List (Nat×Nat)):Qi ((q::l).map tQ)=tN q.1::tN q.2::Qi (l.map tQ):=rfl
theorem j6:∀ l:List (Nat×Nat),(Qi (l.map tQ)).length=2 * l.length
 |[]=>rfl
 |q::l=>by rw [Zo5];simp only [List.length_cons,j6 l];omega
theorem fa {x:Nat×Nat} {p:List (Nat×Nat)}:∀ (r:List (Nat×Nat)) (j:Nat),j=r.length->((Qi ((r++x::p).map tQ)).drop (0+j * 2)).take 2=[tN x.1,tN x.2]
 |[],_,rfl=>rfl
 |a::r,_,rfl=>by
  have e:0+(a::r).length * 2=(0+r.length * 2)+2:=by simp only [List.length_cons];omega
  rw [e];show ((tN a.1::tN a.2::Qi ((r++x::p).map tQ)).drop ((0+r.length * 2)+2)).take 2=_;exact fa r _ rfl
theorem N9 {x y:Nat×Nat} {p:List (Nat×Nat)}:∀ (r:List (Nat×Nat)) (j:Nat),j=r.length->Kl (Qi ((r++x::p).map tQ)) (0+j * 2) [tN y.1,tN y.2]=Qi ((r++y::p).map tQ)
 |[],_,rfl=>rfl
 |a::r,_,rfl=>by
  have e:0+(a::r).length * 2=(0+r.length * 2)+2:=by simp only [List.length_cons];omega
  rw [e];show tN a.1::tN a.2::Kl (Qi ((r++x::p).map tQ)) (0+r.length * 2) [tN y.1,tN y.2]=tN a.1::tN a.2::Qi ((r++y::p).map tQ);rw [N9 r _ rfl]
theorem rz (l:List (Nat×Nat)) (a b:Nat):(((Qi (l.map tQ)).drop a).take b).any Xs=false:=by
 have h:∀ l:List (Nat×Nat),∀ x∈Qi (l.map tQ),Xs x=false:=by
  intro l
  induction l with
  |nil=>intro x hx;cases hx
  |cons q l ih=>
   intro x hx;rw [Zo5] at hx;rcases List.mem_cons.1 hx with rfl |hx
   ·rfl
   rcases List.mem_cons.1 hx with rfl |hx
   ·rfl
   exact ih x hx
 rw [List.any_eq_false];intro x hx;rw [h l x (List.mem_of_mem_drop (List.mem_of_mem_take hx))];exact Bool.false_ne_true
theorem Zbe (d Zh:Nat) {b len cap:Nat} {x0:Nat×Nat} {l0:List (Nat×Nat)} {H:TH} (hb:H[b]? = some (.cells (Qi ((x0::l0).map tQ)))) (Oc:Zh<=b) (hlen:l0.length+1=len) (hl:len < 1000) :
  tc (d+5) Zh 188 [.vec b 0 len cap 2 true,tN 0,tN len,.fn (.func 86) [] []] H=some (.Xh [],H.set b (.cells (Qi ((V2 ej (x0::l0) []).map tQ)))):=by
 rw [Y4 (F:=F188) (by kernel_rfl)]
 obtain ⟨R,hR⟩:∃ R,R=V2 ej (x0::l0) []:=⟨_,rfl⟩;rw [<- hR];obtain ⟨CF,hCF⟩:∃ CF:TV,CF=.fn (.func 86) [] []:=⟨_,rfl⟩;have Ut:∀ cs,(H.set b (.cells cs))[b]? = some (.cells cs):=λcs=>Jv hb;have hss:∀ cs qw,(H.set b (.cells cs)).set b (.cells qw)=H.set b (.cells qw):=λcs qw=>List.set_set ..;have hle:∀ {β:Type} (H:TH) x y (k:TV->TH->Option β),Xd TC (tc (d+4)) Zh (.fn (.func 86) [] []) [tQ x,tQ y] H k=k (tI (I2 [x.1,x.2] [y.1,y.2])) H:=λH x y k=>Yo rfl (Zpv d Zh);have hlz:∀ x y:Nat×Nat,Xg (.int .i64 (I2 [x.1,x.2] [y.1,y.2])) (.int .i64 (.ofNat 0))=some (.bool (ej x y)):=λ_ _=>rfl
 have key:Qg (C188 (tc (d+4)) Zh (Zb H) (.vec b 0 len cap 2 true,tN 0,tN len,.fn (.func 86) [] [],Zk,Zk,Zk,Zk,()) H)
   λe S H1=>e=.normal/\H1=H.set b (.cells (Qi (R.map tQ))):=by
  have a1:Z0 (.int .i64 (.ofNat 0)) (.int .i64 (.ofNat 1))=some (.int .i64 (.ofNat 1)):=rfl;simp only [C188,VV,a1]
  refine Qg.lp (k:=l0.length) (λk S H1=>∃ acc l,S.1=.vec b 0 len cap 2 true/\S.2.1=tN 0/\S.2.2.1=tN len/\S.2.2.2.1=.fn (.func 86) [] []/\S.2.2.2.2.1=tN acc.length/\H1=H.set b (.cells (Qi ((acc++l).map tQ)))/\k=l.length/\acc.length+l.length=len/\R=V2 ej l acc)
   (λ_ H1=>H1=H.set b (.cells (Qi (R.map tQ)))) ?_ (by rw [Yg];omega) ⟨[x0],l0,rfl,rfl,rfl,rfl,rfl,(Uv hb).symm,rfl,by show 1+_=_;omega,hR⟩ (λ_ _ h=>⟨rfl,h⟩)
  rintro k S H1 ⟨acc,l,h0,h1,h2,h2f,h3,h4,rfl,xu,Qx⟩;rw [h4];cases l with
  |nil=>
   have Qx:R=acc:=Qx;have xu:acc.length=len:=xu;rw [List.append_nil];simp only [VV,h0,h1,h2,h2f,h3,Ql,Kf (Nat.le_of_eq xu.symm)];exact .fin (.inr ⟨rfl,by rw [Qx]⟩)
  |cons x l=>
   have xu:acc.length+(l.length+1)=len:=xu;have Qx:R=V2 ej l (B6 ej x acc.reverse []):=Qx;obtain ⟨R1,hR1⟩:∃ R1,R1=B6 ej x acc.reverse []:=⟨_,rfl⟩;rw [<- hR1] at Qx;have hR1l:R1.length=acc.length+1:=by rw [hR1,xy];simp
   simp only [VV,h0,h1,h2,h2f,h3,Ql,Xo (show acc.length < len by omega)]
   refine Qg.sq (Q1:=λe S H2=>e=.normal/\S.1=.vec b 0 len cap 2 true/\S.2.1=tN 0/\S.2.2.1=tN len/\S.2.2.2.1=.fn (.func 86) [] []/\S.2.2.2.2.1=tN acc.length/\H2=H.set b (.cells (Qi ((R1++l).map tQ)))) ?_ ?_ (λi S H h=>by cases h.1) (λS H h=>by cases h.1)
   ·refine Qg.bl (Q1:=λe S H2=>e=.normal/\S.1=.vec b 0 len cap 2 true/\S.2.1=tN 0/\S.2.2.1=tN len/\S.2.2.2.1=.fn (.func 86) [] []/\S.2.2.2.2.1=tN acc.length/\H2=H.set b (.cells (Qi ((R1++l).map tQ)))) ?_ (λS H h=>h) (λi S H h=>by cases h.1) (λS H h=>by cases h.1)
    refine Qg.lp (k:=acc.length) (λk S H2=>∃ r p,S.1=.vec b 0 len cap 2 true/\S.2.1=tN 0/\S.2.2.1=tN len/\S.2.2.2.1=.fn (.func 86) [] []/\S.2.2.2.2.1=tN acc.length/\S.2.2.2.2.2.1=tN r.length/\H2=H.set b (.cells (Qi ((r.reverse++x::(p++l)).map tQ)))/\k=r.length/\r.length+p.length=acc.length/\R1=B6 ej x r p)
     (λS H2=>S.1=.vec b 0 len cap 2 true/\S.2.1=tN 0/\S.2.2.1=tN len/\S.2.2.2.1=.fn (.func 86) [] []/\S.2.2.2.2.1=tN acc.length/\H2=H.set b (.cells (Qi ((R1++l).map tQ)))) ?_ (by rw [Yg];omega)
     ⟨acc.reverse,[],rfl,rfl,rfl,rfl,rfl,by rw [List.length_reverse],by rw [List.reverse_reverse];rfl,by rw [List.length_reverse],by rw [List.length_reverse];rfl,hR1⟩ (λ_ _ h=>⟨rfl,h⟩)
    rintro k S H2 ⟨r,p,k0,k1,k2,k2f,k3,k4,k5,rfl,hrp,D1⟩;rw [k5];cases r with
    |nil=>
     have D1:R1=x::p:=D1;have e0:Nat.blt 0 0=false:=rfl;simp only [VV,k0,k1,k2,k2f,k3,k4,Gg,List.length_nil,e0];exact .fin (.inr ⟨rfl,rfl,rfl,rfl,rfl,rfl,by rw [D1];rfl⟩)
    |cons y r=>
     have hrp:r.length+1+p.length=acc.length:=hrp;have D1:R1=cond (ej x y) (B6 ej x r (y::p)) (r.reverse++(y::x::p)):=D1;obtain ⟨q,hq⟩:∃ q,q=r.reverse:=⟨_,rfl⟩;have hql:q.length=r.length:=by rw [hq,List.length_reverse]
     have earr:(y::r).reverse++x::(p++l)=q++y::x::(p++l):=by rw [List.reverse_cons,<- hq,List.append_assoc];rfl
     have Zci:∀ a c:Nat×Nat,q++a::c::(p++l)=(q++[a])++c::(p++l):=λa c=>by rw [List.append_assoc];rfl
     rw [<- hq] at D1;have iw:∀ a c:Nat×Nat,(Qi ((q++a::c::(p++l)).map tQ)).length=2 * len:=λa c=>by rw [j6];simp only [List.length_append,List.length_cons];omega
     obtain ⟨M,hM⟩:∃ M,M=H.set b (.cells (Qi ((q++y::x::(p++l)).map tQ))):=⟨_,rfl⟩;have hMb:M[b]? = some (.cells (Qi ((q++y::x::(p++l)).map tQ))):=by rw [hM];exact Ut _
     have l1:∀ {β:Type} (md:Ld) (k:TV->TH->Option β),loadT md Zh (Zb H) true 2 M (.ptr b (0+(r.length+1) * 2)) k=k (tQ x) M:=λmd k=>by
      rw [Xw hMb (by rw [iw];omega) (rz ..),Zci,fa (q++[y]) _ (by rw [List.length_append,hql];rfl)]
     have l2:∀ {β:Type} (md:Ld) (k:TV->TH->Option β),loadT md Zh (Zb H) true 2 M (.ptr b (0+r.length * 2)) k=k (tQ y) M:=λmd k=>by
      rw [Xw hMb (by rw [iw];omega) (rz ..),fa q _ hql.symm]
     have i1:Qh 2 (.vec b 0 len cap 2 true) (tN (r.length+1))=some (.ptr b (0+(r.length+1) * 2)):=K8 (by omega)
     have i2:Qh 2 (.vec b 0 len cap 2 true) (tN r.length)=some (.ptr b (0+r.length * 2)):=K8 (by omega)
     have z1:Qq (.int .i64 (.ofNat (r.length+1))) (.int .i64 (.ofNat 1))=some (.int .i64 (.ofNat r.length)):=Uc (by omega) (by omega)
     have e0:Nat.blt 0 (r.length+1)=true:=Xo (by omega)
     rw [earr,<- hM];cases Jo:ej x y with
     |false=>
      rw [Jo] at D1;have D1:R1=q++(y::x::p):=D1;simp only [VV,k0,k1,k2,k2f,k3,k4,Gg,List.length_cons,e0,i1,i2,l1,l2,z1,hle,hlz,Jo];exact .fin (.inr ⟨rfl,rfl,rfl,rfl,rfl,rfl,by rw [hM,D1,List.append_assoc];rfl⟩)
     |true=>
      rw [Jo] at D1;have D1:R1=B6 ej x r (y::p):=D1;obtain ⟨M2,hM2⟩:∃ M2,M2=H.set b (.cells (Qi ((q++y::y::(p++l)).map tQ))):=⟨_,rfl⟩
      have s1:storeT Zh (Zb H) 2 M (.ptr b (0+(r.length+1) * 2)) (tQ y)=some M2:=by
       rw [Qy (n:=2) (x:=tQ y) hMb Oc rfl (.inl rfl) rfl (by rw [iw];omega),Yb,Zci,N9 (q++[y]) _ (by rw [List.length_append,hql];rfl),<- Zci,hM,hss,hM2]
      have hM2b:M2[b]? = some (.cells (Qi ((q++y::y::(p++l)).map tQ))):=by rw [hM2];exact Ut _
      have s2:storeT Zh (Zb H) 2 M2 (.ptr b (0+r.length * 2)) (tQ x)=some (H.set b (.cells (Qi ((q++x::y::(p++l)).map tQ)))):=by
       rw [Qy (n:=2) (x:=tQ x) hM2b Oc rfl (.inl rfl) rfl (by rw [iw];omega),Yb,N9 q _ hql.symm,hM2,hss]
      simp only [VV,k0,k1,k2,k2f,k3,k4,Gg,List.length_cons,e0,i1,i2,l1,l2,z1,hle,hlz,Jo,s1,s2];exact .fin (.inl ⟨rfl,r.length,by omega,r,y::p,rfl,rfl,rfl,rfl,rfl,rfl,by rw [<- hq];rfl,rfl,by show r.length+(p.length+1)=_;omega,D1⟩)
   ·rintro S H2 ⟨_,k0,k1,k2,k2f,k3,k4⟩;rw [k4];have a3:Z0 (.int .i64 (.ofNat acc.length)) (.int .i64 (.ofNat 1))=some (.int .i64 (.ofNat (acc.length+1))):=X9 (by omega)
    simp only [VV,k0,k1,k2,k2f,k3,a3];exact .fin (.inl ⟨rfl,l.length,Nat.lt_succ_self _,R1,l,rfl,rfl,rfl,rfl,by rw [hR1l],rfl,rfl,by omega,Qx⟩)
 obtain ⟨e,S,H1,h1,rfl,h2⟩:=key;rw [h2] at h1;show Za (C188 (tc (d+4)) Zh (Zb H) (.vec b 0 len cap 2 true,tN 0,tN len,.fn (.func 86) [] [],Zk,Zk,Zk,Zk,()) H) _=_;rw [h1];simp only [Yy,N4];have hlen:X7 (H.set b (.cells (Qi (R.map tQ)))) (Zb H)=H.set b (.cells (Qi (R.map tQ))):=by rw [<- Ks (H:=H) (b:=b) (o:=.cells (Qi (R.map tQ)))];exact Xc
 show some (Xm _ _ _)=_;rw [Z6 rfl,hlen]
theorem Zmz (d Zh:Nat) {b len cap z:Nat} {x0:Nat×Nat} {l0:List (Nat×Nat)} {H:TH} (hb:H[b]? = some (.cells (Qi ((x0::l0).map tQ)))) (Oc:Zh<=b) (hlen:l0.length+1=len) (hl:len<=12) :
  tc (d+6) Zh 151 [.vec b 0 len cap 2 true,tN 0,tN len,tN z,.fn (.func 86) [] []] H=some (.Xh [],H.set b (.cells (Qi ((V2 ej (x0::l0) []).map tQ)))):=by
 rw [Y4 (F:=F151) (by kernel_rfl)]
 obtain ⟨R,hR⟩:∃ R,R=H.set b (.cells (Qi ((V2 ej (x0::l0) []).map tQ))):=⟨_,rfl⟩
 have c1:∀ {β:Type} (k:TV->TH->Option β),Qo (tc (d+5)) Zh 188 [.vec b 0 len cap 2 true,tN 0,tN len,.fn (.func 86) [] []] H k=k (.Xh []) R:=λk=>
  Xx rfl (by rw [hR];exact Zbe d Zh hb Oc hlen (by omega))
 have z1:Qq (.int .i64 (.ofNat len)) (.int .i64 (.ofNat 0))=some (.int .i64 (.ofNat len)):=Uc (Nat.zero_le _) (by omega)
 have z2:Nat.blt 12 len=false:=Kf hl;rw [<- hR]
 have key:Qg (C151 (tc (d+5)) Zh (Zb H) (.vec b 0 len cap 2 true,tN 0,tN len,tN z,.fn (.func 86) [] [],Zk,Zk,Zk,Zk,Zk,Zk,Zk,Zk,Zk,Zk,Zk,Zk,Zk,Zk,Zk,Zk,Zk,Zk,Zk,()) H)
   λe S H1=>e=.ret/\H1=R:=by
  simp only [C151,VV];refine Qg.bl (Q1:=λe S H1=>e=.ret/\H1=R) ?_ (λS H h=>by cases h.1) (λi S H h=>by cases h.1) (λS H h=>h)
  refine Qg.loop (λk S H1=>S.1=.vec b 0 len cap 2 true/\S.2.1=tN 0/\S.2.2.1=tN len/\S.2.2.2.2.1=.fn (.func 86) [] []/\H1=H/\k=0) ?_ fuel 0 _ _ (by rw [Yg];omega) ⟨rfl,rfl,rfl,rfl,rfl,rfl⟩
  rintro k S H1 ⟨g0,g1,g2,g4,g3,_⟩;rw [g3];simp only [VV,g0,g1,g2,g4,z1,Zg3,z2,Bool.not_false,c1];exact .fin (.inr ⟨by simp,rfl,rfl⟩)
 obtain ⟨e,S,H1,h1,rfl,h2⟩:=key;rw [h2] at h1;show Za (C151 (tc (d+5)) Zh (Zb H) (.vec b 0 len cap 2 true,tN 0,tN len,tN z,.fn (.func 86) [] [],Zk,Zk,Zk,Zk,Zk,Zk,Zk,Zk,Zk,Zk,Zk,Zk,Zk,Zk,Zk,Zk,Zk,Zk,Zk,()) H) _=_;rw [h1];simp only [Yy,Jm,W1,G0];have ht:X7 R (Zb H)=R:=by rw [hR,<- Ks (H:=H) (b:=b) (o:=.cells (Qi ((V2 ej (x0::l0) []).map tQ)))];exact Xc
 rw [Z6 rfl,ht]
theorem Zib (d Zh:Nat) {b len cap:Nat} {x0:Nat×Nat} {l0:List (Nat×Nat)} {H:TH} (hb:H[b]? = some (.cells (Qi ((x0::l0).map tQ)))) (Oc:Zh<=b) (hlen:l0.length+1=len) (hl:len<=12) :
  tc (d+7) Zh 85 [.vec b 0 len cap 2 true,.fn (.func 86) [] []] H=some (.Xh [],H.set b (.cells (Qi ((V2 ej (x0::l0) []).map tQ)))):=by
 rw [Y4 (F:=F85) (by kernel_rfl)]
 obtain ⟨R,hR⟩:∃ R,R=H.set b (.cells (Qi ((V2 ej (x0::l0) []).map tQ))):=⟨_,rfl⟩;obtain ⟨z,hz⟩:=kv (d+3) len hl
 have c1:∀ {β:Type} (k:TV->TH->Option β),Qo (tc (d+6)) Zh 151 [.vec b 0 len cap 2 true,tN 0,tN len,tN z,.fn (.func 86) [] []] H k=k (.Xh []) R:=λk=>
  Xx rfl (by rw [hR];exact Zmz d Zh hb Oc hlen hl)
 have z1:Ki .u64 (.int .i64 (.ofNat len))=some (.int .u64 (.ofNat len)):=Zpr (by omega)
 rw [<- hR];have ht:X7 R (Zb H)=R:=by rw [hR,<- Ks (H:=H) (b:=b) (o:=.cells (Qi ((V2 ej (x0::l0) []).map tQ)))];exact Xc
 show Za (C85 (tc (d+6)) Zh (Zb H) (.vec b 0 len cap 2 true,.fn (.func 86) [] [],Zk,()) H) _=_;simp only [C85,VV,z1,hz,c1];rw [Z6 rfl,ht]
end
end Go.Proofs.YtgemobbfikjmoaaGreatDoor
namespace Go.Proofs.YtgemobbfikjmoaaGreatDoor
open Go Go.Ev
set_option maxRecDepth 100000
noncomputable section
def Br (w h c:Nat):Nat:=c % w * h+c / w
theorem df {H:TH} {o:Kc} {i:Nat} (h:i < Zb H):(Zv H o)[i]? = H[i]?:=by
 rw [Zz] at h;show (H++[o])[i]? = _;rw [List.getElem?_append_left h]
theorem Zdh (d Zh:Nat) {w h b c:Nat} {x:TV} {H:TH} (Th:1<=w) (hw:w<=8) (hh:h<=8) (hc:c < 1000) (hb:H[b]? = some (.cells [tN w,tN h,x])) :
  tc (d+1) Zh 82 [tN c,.ptr b 0] H=some (tN (Br w h c),H):=by
 rw [Y4 (F:=F82) (by kernel_rfl)]
 have lw:∀ {β:Type} (k:TV->TH->Option β),loadT .Xi Zh (Zb H) false 1 H (.ptr b (0+0)) k=k (tN w) H:=λk=>Zx hb rfl rfl rfl;have lh:∀ {β:Type} (k:TV->TH->Option β),loadT .Xi Zh (Zb H) false 1 H (.ptr b (0+1)) k=k (tN h) H:=λk=>Zx hb rfl rfl rfl;have h2:c % w < w:=Nat.mod_lt _ Th;have h3:c % w * h<=7 * 8:=Nat.mul_le_mul (by omega) hh
 have h4:c / w<=c:=Nat.div_le_self ..;have z1:Y1 (.int .i64 (.ofNat c)) (.int .i64 (.ofNat w))=some (.int .i64 (.ofNat (c % w))):=Gu Th;have z2:Y2 (.int .i64 (.ofNat (c % w))) (.int .i64 (.ofNat h))=some (.int .i64 (.ofNat (c % w * h))):=M7 (by omega)
 have z3:Jp (.int .i64 (.ofNat c)) (.int .i64 (.ofNat w))=some (.int .i64 (.ofNat (c / w))):=Pe Th (by omega)
 have z4:Z0 (.int .i64 (.ofNat (c % w * h))) (.int .i64 (.ofNat (c / w)))=some (.int .i64 (.ofNat (Br w h c))):=X9 (by omega)
 show Za (C82 (tc d) Zh (Zb H) (tN c,.ptr b 0,Zk,()) H) _=_;simp only [C82,VV,lw,lh,z1,z2,z3,z4,Z6 X8,Xc]
def kl (w h:Nat) (q:Nat×Nat):Nat×Nat:=(Eh (Br w h q.1) (Br w h q.2),Hb (Br w h q.1) (Br w h q.2))
def Aa (w h:Nat) (v:List (Nat×Nat)):List (Nat×Nat):=V2 ej (v.map (kl w h)) []
theorem km {w h:Nat} {v:List (Nat×Nat)}:(Aa w h v).length=v.length:=by
 unfold Aa;rw [yj];simp
theorem kg (l:List (Nat×Nat)):X3 (.cells (Qi (l.map tQ)))=true:=by
 show Z2 (λx=>!Xs x) (Qi (l.map tQ))=true;rw [Ye,List.all_eq_true];intro x hx;have:=rz l 0 (Qi (l.map tQ)).length;rw [List.drop_zero,List.take_length,List.any_eq_false] at this;have:=this x hx;show (!Xs x)=true;cases h:Xs x with
 |true=>exact absurd h this
 |false=>rfl
theorem Zi7 {H:TH} {b:Nat} {o:Kc} (h:Z2 X3 H=true) (ho:X3 o=true):Z2 X3 (H.set b o)=true:=by
 rw [Ye,List.all_eq_true] at *;intro x hx;rcases List.mem_or_eq_of_mem_set hx with hx |hx
 ·exact h x hx
 ·rw [hx];exact ho
theorem ei (d Zh:Nat) {w h bt bs m:Nat} {c:Cp} {x:TV} {v:List (Nat×Nat)} {H:TH} (Th:1<=w) (hw:w<=8) (hh:h<=8) (Oc:Zh<=Zb H) (hv:v≠[]) (hm:m=2) (hvl:v.length<=12) (hv16:∀ q∈v,q.1 < 1000/\q.2 < 1000)
  (ll:H[bs]? = some (.cells [tN w,tN h,x])) (hbt:H[bt]? = some (.cells [.fn (.func 82) [] [.ptr bs 0]])) (hno:Z2 X3 H=true) :
  ∃ bv H',tc (d+8) Zh 84 [rB c m v,.ptr bt 0] H=some (.vec bv 0 v.length (Xk+2) 2 true,H')/\H'[bv]? = some (.cells (Qi ((Aa w h v).map tQ)))/\(∀ i,i < Zb H->H'[i]? = H[i]?)/\Z2 X3 H'=true/\Zb H<=bv/\Zb H<=Zb H':=by
 subst hm;rw [Y4 (F:=F84) (by kernel_rfl)]
 have lv:Zb (v.map tQ)=v.length:=by rw [Zz,List.length_map]
 obtain ⟨out,Zbq⟩:∃ out,out=v.map (kl w h):=⟨_,rfl⟩;have Zoo:out.length=v.length:=by rw [Zbq,List.length_map]
 have key:Qg (C84 (tc (d+7)) Zh (Zb H) (rB c 2 v,.ptr bt 0,Zk,Zk,Zk,Zk,Zk,Zk,Zk,Zk,Zk,()) H)
   λe S H1=>e=.ret/\∃ bv,S.2.2.1=.vec bv 0 v.length (Xk+2) 2 true/\H1[bv]? = some (.cells (Qi ((Aa w h v).map tQ)))/\(∀ i,i < Zb H->H1[i]? = H[i]?)/\Z2 X3 H1=true/\Zb H<=bv/\Zb H<=Zb H1:=by
  simp only [C84,VV,lv]
  refine Qg.su (k:=v.length) (λk S H1=>∃ j pre,S.2.1=.ptr bt 0/\S.2.2.2.1=Xj 71 2 (pre.map tQ)/\S.2.2.2.2.2.2.2.1=rB c 2 v/\S.2.2.2.2.2.2.2.2.1=tN v.length/\S.2.2.2.2.2.2.2.2.2.1=tN j/\(∀ i,i < Zb H->H1[i]? = H[i]?)/\Z2 X3 H1=true/\Zb H<=Zb H1/\j<=v.length/\k=v.length - j/\pre.length=j/\out=pre++(v.drop j).map (kl w h))
   (λS H1=>S.2.2.2.1=Xj 71 2 (out.map tQ)/\(∀ i,i < Zb H->H1[i]? = H[i]?)/\Z2 X3 H1=true/\Zb H<=Zb H1) (λ_ _=>False) ?_ (by rw [Yg];omega)
   ⟨0,[],rfl,rfl,rfl,rfl,rfl,λ_ _=>rfl,hno,Nat.le_refl _,Nat.zero_le _,rfl,rfl,Zbq⟩ ?_ (λ_ _ h=>h.elim)
  ·rintro k S H1 ⟨j,pre,g1,g3,g7,g8,g9,hold,hno1,Zoq,hj,rfl,Ns,Ae⟩;rcases Nat.eq_or_lt_of_le hj with hj |hj
   ·rw [hj,List.drop_length] at Ae;have Ae:out=pre:=by rw [Ae];exact List.append_nil _
    simp only [VV,g1,g3,g7,g8,g9,Ql,Kf (Nat.le_of_eq hj.symm)];exact .fin (.inr (.inl ⟨rfl,by rw [Ae],hold,hno1,Zoq⟩))
   ·obtain ⟨q,hq⟩:∃ q,q=v[j]:=⟨_,rfl⟩;have hq16:=hv16 q (by rw [hq];exact List.getElem_mem hj)
    have J8:(v.map tQ)[j]? = some (tQ q):=by rw [List.getElem?_map,List.getElem?_eq_getElem hj,hq];rfl
    rw [List.drop_eq_getElem_cons hj,<- hq,List.map_cons] at Ae;have Ae:out=(pre++[kl w h q])++(v.drop (j+1)).map (kl w h):=by rw [Ae,List.append_assoc];rfl
    obtain ⟨B,hB⟩:∃ B,B=Zv H1 (.cells [tN q.1,tN q.2]):=⟨_,rfl⟩;have hBn:Zb B=Zb H1+1:=by rw [hB];exact Qd
    have kq:B[Zb H1]? = some (.cells [tN q.1,tN q.2]):=by rw [hB];exact Qf
    have bsl:=Uw ll;have btl:=Uw hbt;have ks:B[bs]? = some (.cells [tN w,tN h,x]):=by rw [hB];exact Qm ((hold _ bsl).trans ll)
    have kt:B[bt]? = some (.cells [.fn (.func 82) [] [.ptr bs 0]]):=by rw [hB];exact Qm ((hold _ btl).trans hbt)
    have hnoB:Z2 X3 B=true:=by rw [hB];exact Jx hno1 rfl
    have st1:storeT Zh (Zb H) 2 (Zv H1 (.cells Vy)) (.ptr (Zb H1) 0) (tQ q)=some B:=by
     rw [Qy (off:=0) (n:=2) (x:=tQ q) Qf (by omega) rfl (.inl rfl) rfl (by decide),Yb,Kr (cs:=Vy) (xs:=[tN q.1,tN q.2]) rfl,Wv,hB]
    have lf:∀ {β:Type} (k:TV->TH->Option β),loadT .Xi Zh (Zb H) false 1 B (.ptr bt 0) k=k (.fn (.func 82) [] [.ptr bs 0]) B:=λk=>Zx kt rfl rfl rfl;have l1:∀ {β:Type} (md:Ld) (k:TV->TH->Option β),loadT md Zh (Zb H) false 1 B (.ptr (Zb H1) (0+0 * 1)) k=k (tN q.1) B:=λmd k=>Zx kq rfl rfl rfl;have l2:∀ {β:Type} (md:Ld) (k:TV->TH->Option β),loadT md Zh (Zb H) false 1 B (.ptr (Zb H1) (0+1 * 1)) k=k (tN q.2) B:=λmd k=>Zx kq rfl rfl rfl;have i0:Qt 2 1 (.ptr (Zb H1) 0) (tN 0)=some (.ptr (Zb H1) (0+0 * 1)):=rfl;have i1:Qt 2 1 (.ptr (Zb H1) 0) (tN 1)=some (.ptr (Zb H1) (0+1 * 1)):=rfl;have Xn:∀ {β:Type} (tl y:Nat) (_:y < 1000) (k:TV->TH->Option β),Xd TC (tc (d+7)) tl (.fn (.func 82) [] [.ptr bs 0]) [tN y] B k=k (tN (Br w h y)) B:=λtl y hy k=>Yo rfl (Zdh (d+6) tl Th hw hh hy ks);have xv:Uk [(0,1,tN (Eh (Br w h q.1) (Br w h q.2))),(1,1,tN (Hb (Br w h q.1) (Br w h q.2)))] Vy=some (tQ (kl w h q)):=rfl;have Sr:Yf 2 [0] [tQ (kl w h q)] (Y5 [.agg Vy] 1)=some [tQ (kl w h q)]:=rfl;have Ag:∀ {β:Type} {H:TH} (k:TV->TH->Option β),X6 Zh H 71 2 16 (Xj 71 2 (pre.map tQ)) (.row .full (.own 71) 2 [tQ (kl w h q)]) k=k (Xj 71 2 ((pre++[kl w h q]).map tQ)) H:=λk=>Zc5 (by omega) k
    have a3:Z0 (.int .i64 (.ofNat j)) (.int .i64 (.ofNat 1))=some (.int .i64 (.ofNat (j+1))):=X9 (by omega)
    simp only [VV,g1,g3,g7,g8,g9,Ql,Xo hj,Qe J8,Zny (cs:=Zy (tQ q)) (off:=0) (n:=2) (Nat.le_refl 2),st1,lf,i0,i1,l1,l2,hnoB,Xn _ _ hq16.1,Xn _ _ hq16.2,X5,Yr,J6,xv,Sr,Ag,a3];exact .fin (.inl ⟨rfl,v.length - (j+1),by omega,j+1,pre++[kl w h q],rfl,rfl,rfl,rfl,rfl,λi hi=>by rw [hB];exact (df (by omega)).trans (hold i hi),hnoB,by omega,hj,rfl,by rw [List.length_append,Ns];rfl,Ae⟩)
  ·rintro S H1 ⟨g3,hold,hno1,Zoq⟩;cases out with
   |nil=>
    have:v.length=0:=Zoo.symm;exact absurd (List.length_eq_zero_iff.1 this) hv
   |cons x0 l0=>
    obtain ⟨A,hA⟩:∃ A,A=Zv H1 (.cells (Qi ((x0::l0).map tQ))):=⟨_,rfl⟩;have hAb:A[Zb H1]? = some (.cells (Qi ((x0::l0).map tQ))):=by rw [hA];exact Qf
    have J7:Zb ((x0::l0).map tQ)=v.length:=by rw [Zz,List.length_map];exact Zoo
    have g3:S.2.2.2.1=.row .Jf (.own 71) 2 ((x0::l0).map tQ):=g3;obtain ⟨R,hR⟩:∃ R,R=A.set (Zb H1) (.cells (Qi ((V2 ej (x0::l0) []).map tQ))):=⟨_,rfl⟩
    have c1:∀ {β:Type} (k:TV->TH->Option β),Qo (tc (d+7)) Zh 85 [.vec (Zb H1) 0 v.length (Xk+2) 2 true,.fn (.func 86) [] []] A k=k (.Xh []) R:=λk=>
     Xx rfl (by rw [hR];exact Zib d Zh hAb (by omega) (by rw [<- Zoo];rfl) hvl)
    simp only [VV,g3,J7,<- hA,c1];refine .fin ⟨rfl,Zb H1,rfl,?_,λi hi=>?_,?_,Zoq,?_⟩
    ·rw [hR,Jv hAb];unfold Aa;rw [<- Zbq]
    ·rw [hR,Vg (by omega),hA]
     exact (df (by omega)).trans (hold i hi)
    ·rw [hR];refine Zi7 ?_ (kg _);rw [hA];exact Jx hno1 (kg _)
    ·rw [hR,Ks,hA,Qd];omega
 obtain ⟨e,S,H1,h1,rfl,bv,h2,h3,h4,h5,h6,h7⟩:=key;refine ⟨bv,H1,?_,h3,h4,h5,h6,h7⟩;show Za (C84 (tc (d+7)) Zh (Zb H) (rB c 2 v,.ptr bt 0,Zk,Zk,Zk,Zk,Zk,Zk,Zk,Zk,Zk,()) H) _=_;rw [h1];simp only [Yy,Jm,h2,Vc,W1,Az,S0,G0];rfl
end
end Go.Proofs.YtgemobbfikjmoaaGreatDoor
namespace Go.Proofs.YtgemobbfikjmoaaGreatDoor
open Go Go.Ev
set_option maxRecDepth 100000
noncomputable section
theorem Zqc (a b:Nat):(Int.ofNat a - Int.ofNat b) * (Int.ofNat a - Int.ofNat b)=Int.ofNat (Ul a b * Ul a b):=by
 rcases Nat.le_total a b with h |h
 ·obtain ⟨c,rfl⟩:=Nat.exists_eq_add_of_le h;have e:Ul a (a+c)=c:=by unfold Ul;omega
  have e2:Int.ofNat a - Int.ofNat (a+c)=-(c:Int):=by show (a:Int) - ((a+c:Nat):Int)=_;omega
  rw [e,e2,Int.neg_mul_neg];rfl
 ·obtain ⟨c,rfl⟩:=Nat.exists_eq_add_of_le h;have e:Ul (b+c) b=c:=by unfold Ul;omega
  have e2:Int.ofNat (b+c) - Int.ofNat b=(c:Int):=by show ((b+c:Nat):Int) - (b:Int)=_;omega
  rw [e,e2];rfl
theorem fj {a b m:Nat} (ha:a < m) (hb:b < m):Ul a b < m:=by unfold Ul;omega
theorem Zlr {a b:Nat} (ha:a < 1000) (hb:b < 1000):Qq (.int .i64 (.ofNat a)) (.int .i64 (.ofNat b))=some (.int .i64 (Int.ofNat a - Int.ofNat b)):=
 yf (by unfold I64;show -9223372036854775808<=(a:Int) - (b:Int)/\(a:Int) - (b:Int) < 9223372036854775808;omega)
def Cm (R:TV) (out:List Nat):Prop:=R=.row .full .set 1 (out.map tN)\/R=.row .Jf (.own 3) 1 (out.map tN)
theorem Cm.Xi {R:TV} {out:List Nat} (h:Cm R out):∃ c q,Zc R=.row c q 1 (out.map tN)/\Zg (.row c q 1 (out.map tN))=.row c q 1 (out.map tN)/\Ze R=R/\Zr R=R:=by
 rcases h with h |h
 ·exact ⟨.full,.set,by rw [h];rfl,rfl,by rw [h];rfl,by rw [h];rfl⟩
 ·exact ⟨.Jf,.D7,by rw [h];rfl,rfl,by rw [h];rfl,by rw [h];rfl⟩
theorem Cm.app {R:TV} {out:List Nat} (h:Cm R out) (hl:out.length < 80000) (Da:out≠[]) {β:Type} {Zh:Nat} {H:TH} {x:Nat} (k:TV->TH->Option β) :
  X6 Zh H 3 1 8 R (.row .full (.own 3) 1 [tN x]) k=k (.row .Jf (.own 3) 1 ((out++[x]).map tN)) H:=by
 have ho:∀ l:List Nat,l≠[]->Xj 3 1 (l.map tN)=.row .Jf (.own 3) 1 (l.map tN):=λl hl=>by
  cases l with
  |nil=>exact absurd rfl hl
  |cons=>rfl
 rcases h with h |h
 ·rw [h];cases out with
  |nil=>exact absurd rfl Da
  |cons y out=>
   show K1 (Zp true (Zp (roomFor 8 (Zb ((y::out).map tN)+1)) (Qr (.row .Jf (.own 3) 1 ((y::out).map tN++[tN x])) H))) k=_;have h2:out.length+1 < 80000:=hl
   have hr:roomFor 8 (Zb ((y::out).map tN)+1)=true:=by
    rw [Zz,List.length_map];exact dc (show out.length+1+1 < 90000 by omega)
   rw [hr,List.map_append];rfl
 ·rw [h,<- ho _ Da,Zhu hl k,ho _ (by simp)]
theorem jc (d Zh:Nat) {bw wide:Nat} {l:List Nat} {H:TH} (hwd:1<=wide) (hw2:wide < 1000) (hbw:H[bw]? = some (.cells [tN wide])) (Da:l≠[]) (iw:l.length < 1000) (Jo:∀ k∈l,k < 1000) :
  tc (d+3) Zh 141 [.row .Jf .set 1 (l.map tN),.ptr bw 0] H=some (tB (G3 wide l),H):=by
 rw [Y4 (F:=F141) (by kernel_rfl)]
 obtain ⟨R,hR⟩:∃ R,R=jd wide l (l.length+1) 0 (l.take 1):=⟨_,rfl⟩;have hjb:G3 wide l=Nat.beq R.length l.length:=by unfold G3;rw [<- hR]
 have lll:Zb (l.map tN)=l.length:=by rw [Zz,List.length_map]
 have Ze0:Ao 1 (.row .Jf .set 1 (l.map tN)) none (some (tN 1)) (some (tN 1))=some (.row .full .set 1 ((l.take 1).map tN)):=by
  have hu:=Lc;have h1:1<=l.length:=List.length_pos_iff.2 Da;show Zp (Nat.beq 1 1) (Zp (Nat.ble 0 1) (Zp (Nat.ble 1 (Zb (l.map tN))) (Zp (Nat.blt (Zb (l.map tN)) Xk) (Zp true (Zp (Nat.ble 1 1) (Zp (Nat.ble 1 (Zb (l.map tN))) (some (TV.row (cond (Nat.beq 1 1) .full .Jf) .set 1 (Vi (l.map tN) 0 1)))))))))=_;rw [lll,Nat.ble_eq_true_of_le h1,(by rw [Nat.blt_eq];omega:Nat.blt l.length Xk=true)]
  have:Vi (l.map tN) 0 1=(l.take 1).map tN:=by unfold Vi;rw [Yh,Jq,List.drop_zero,List.map_take]
  rw [this];rfl
 have lw:∀ {β:Type} (k:TV->TH->Option β),loadT .Xi Zh (Zb H) false 1 H (.ptr bw 0) k=k (tN wide) H:=λk=>Zx hbw rfl rfl rfl
 have key:Qg (C141 (tc (d+2)) Zh (Zb H) (.row .Jf .set 1 (l.map tN),.ptr bw 0,Zk,Zk,Zk,Zk,Zk,Zk,Zk,Zk,Zk,Zk,Zk,Zk,()) H)
   λe S H1=>e=.ret/\S.2.2.1=tB (G3 wide l)/\H1=H:=by
  simp only [C141,VV,Ze0];have hx1:(l.take 1).length=1:=by rw [List.length_take];have:=List.length_pos_iff.2 Da;omega
  refine Qg.su (k:=l.length+1) (λk S H1=>∃ i out,S.1=.row .Jf .set 1 (l.map tN)/\S.2.1=.ptr bw 0/\Cm S.2.2.2.1 out/\S.2.2.2.2.1=tN i/\H1=H/\R=jd wide l k i out/\Yk out l+out.length<=l.length+1/\i+k=l.length+1/\out≠[]/\∀ y∈out,y∈l)
   (λS H1=>S.1=.row .Jf .set 1 (l.map tN)/\Cm S.2.2.2.1 R/\H1=H) (λ_ _=>False) ?_ (by rw [Yg];omega)
   ⟨0,l.take 1,rfl,rfl,.inl rfl,rfl,rfl,hR,by have:=x6 (l.take 1) l;omega,by omega,(λh=>by rw [h] at hx1;cases hx1),λy hy=>List.mem_of_mem_take hy⟩ ?_ (λ_ _ h=>h.elim)
  ·rintro k S H1 ⟨i,out,g0,g1,g3,g4,g5,Is,hms,hik,ir,hsub⟩;rw [g5];obtain ⟨cc,cq,e1,e2,e3,e4⟩:=g3.Xi;have lout:Zb (out.map tN)=out.length:=by rw [Zz,List.length_map]
   rcases Nat.lt_or_ge i out.length with hio |hio
   ·cases k with
    |zero=>omega
    |succ k=>
     obtain ⟨x,hx⟩:∃ x,x=out[i]:=⟨_,rfl⟩;have hox:out[i]? = some x:=by rw [List.getElem?_eq_getElem hio,hx]
     have hx1000:x < 1000:=Jo _ (hsub _ (by rw [hx];exact List.getElem_mem hio))
     have Is:R=match out[i]? with |none=>out |some x=>jd wide l k (i+1) (I8 wide x l out):=Is
     rw [hox] at Is;have Is:R=jd wide l k (i+1) (I8 wide x l out):=Is;obtain ⟨G,hG⟩:∃ G,G=I8 wide x l out:=⟨_,rfl⟩;rw [<- hG] at Is;have hGm:Yk G l+G.length<=Yk out l+out.length:=by rw [hG];exact Bf l out (λ_ h=>h)
     have hGs:∀ y∈G,y∈l:=by rw [hG];exact Zb4 l out (λ_ h=>h) hsub
     simp only [VV,g0,g1,g4,e1,e3,e4,Hf,lout,Ql,Xo hio];refine Qg.sq (Q1:=λe S H2=>e=.normal/\S.1=.row .Jf .set 1 (l.map tN)/\S.2.1=.ptr bw 0/\Cm S.2.2.2.1 G/\S.2.2.2.2.1=tN i/\H2=H/\G≠[]) ?_ ?_ (λi S H h=>by cases h.1) (λS H h=>by cases h.1)
     ·refine Qg.bl (Q1:=λe S H2=>e=.normal/\S.1=.row .Jf .set 1 (l.map tN)/\S.2.1=.ptr bw 0/\Cm S.2.2.2.1 G/\S.2.2.2.2.1=tN i/\H2=H/\G≠[]) ?_ (λS H h=>h) (λi S H h=>by cases h.1) (λS H h=>by cases h.1)
      simp only [lll]
      refine Qg.lp (k:=l.length) (λk S H2=>∃ j o,S.1=.row .Jf .set 1 (l.map tN)/\S.2.1=.ptr bw 0/\Cm S.2.2.2.1 o/\S.2.2.2.2.1=tN i/\S.2.2.2.2.2.2.2.2.2.1=.row .Jf .set 1 (l.map tN)/\S.2.2.2.2.2.2.2.2.2.2.1=tN l.length/\S.2.2.2.2.2.2.2.2.2.2.2.1=tN j/\H2=H/\j<=l.length/\k=l.length - j/\o[i]? = some x/\o.length<=out.length+j/\G=I8 wide x (l.drop j) o)
       (λS H2=>S.1=.row .Jf .set 1 (l.map tN)/\S.2.1=.ptr bw 0/\Cm S.2.2.2.1 G/\S.2.2.2.2.1=tN i/\H2=H/\G≠[]) ?_ (by rw [Yg];omega)
       ⟨0,out,rfl,rfl,g3,rfl,rfl,rfl,rfl,rfl,Nat.zero_le _,rfl,hox,by omega,hG⟩ (λ_ _ h=>⟨rfl,h⟩)
      rintro k S H2 ⟨j,o,k0,k1,k3,k4,k9,k10,k11,k12,hj,rfl,hoi,hol,hgr⟩;rw [k12];obtain ⟨oc,oq,f1,f2,f3,f4⟩:=k3.Xi;have hone:o≠[]:=by intro h;rw [h] at hoi;cases hoi
      rcases Nat.eq_or_lt_of_le hj with hj |hj
      ·rw [hj,List.drop_length] at hgr;have hgr:G=o:=hgr;simp only [VV,k0,k1,k4,k9,k10,k11,f4,Ql,Kf (Nat.le_of_eq hj.symm)];exact .fin (.inr ⟨rfl,rfl,rfl,by rw [hgr];exact k3,rfl,rfl,by rw [hgr];exact hone⟩)
      ·obtain ⟨y,hy⟩:∃ y,y=l[j]:=⟨_,rfl⟩;have hy1000:y < 1000:=Jo _ (by rw [hy];exact List.getElem_mem hj)
       have J8:(l.map tN)[j]? = some (tN y):=by rw [List.getElem?_map,List.getElem?_eq_getElem hj,hy];rfl
       have heo:(o.map tN)[i]? = some (tN x):=by rw [List.getElem?_map,hoi];rfl
       rw [List.drop_eq_getElem_cons hj,<- hy] at hgr;have hgr:G=I8 wide x (l.drop (j+1)) (cond (Yz y o) o (cond (fi wide x y) (o++[y]) o)):=hgr;have y1:x % wide < wide:=Nat.mod_lt _ hwd;have y2:y % wide < wide:=Nat.mod_lt _ hwd;have y3:x / wide<=x:=Nat.div_le_self ..;have y4:y / wide<=y:=Nat.div_le_self ..;have z1:Y1 (.int .i64 (.ofNat x)) (.int .i64 (.ofNat wide))=some (.int .i64 (.ofNat (x % wide))):=Gu hwd;have z2:Y1 (.int .i64 (.ofNat y)) (.int .i64 (.ofNat wide))=some (.int .i64 (.ofNat (y % wide))):=Gu hwd;have z3:Jp (.int .i64 (.ofNat x)) (.int .i64 (.ofNat wide))=some (.int .i64 (.ofNat (x / wide))):=Pe hwd (by omega)
       have z4:Jp (.int .i64 (.ofNat y)) (.int .i64 (.ofNat wide))=some (.int .i64 (.ofNat (y / wide))):=Pe hwd (by omega)
       obtain ⟨dx,hdx⟩:∃ dx,dx=Int.ofNat (x % wide) - Int.ofNat (y % wide):=⟨_,rfl⟩;obtain ⟨dy,hdy⟩:∃ dy,dy=Int.ofNat (x / wide) - Int.ofNat (y / wide):=⟨_,rfl⟩
       have z5:Qq (.int .i64 (.ofNat (x % wide))) (.int .i64 (.ofNat (y % wide)))=some (.int .i64 dx):=by
        rw [hdx];exact Zlr (by omega) (by omega)
       have z6:Qq (.int .i64 (.ofNat (x / wide))) (.int .i64 (.ofNat (y / wide)))=some (.int .i64 dy):=by
        rw [hdy];exact Zlr (by omega) (by omega)
       have sx:dx * dx=Int.ofNat (Ul (x % wide) (y % wide) * Ul (x % wide) (y % wide)):=by rw [hdx];exact Zqc ..
       have sy:dy * dy=Int.ofNat (Ul (x / wide) (y / wide) * Ul (x / wide) (y / wide)):=by rw [hdy];exact Zqc ..
       have bx:Ul (x % wide) (y % wide) * Ul (x % wide) (y % wide)<=1000 * 1000:=Nat.mul_le_mul (Nat.le_of_lt (fj (by omega) (by omega))) (Nat.le_of_lt (fj (by omega) (by omega)))
       have by':Ul (x / wide) (y / wide) * Ul (x / wide) (y / wide)<=1000 * 1000:=Nat.mul_le_mul (Nat.le_of_lt (fj (by omega) (by omega))) (Nat.le_of_lt (fj (by omega) (by omega)))
       have z7:Y2 (.int .i64 dx) (.int .i64 dx)=some (.int .i64 (.ofNat (Ul (x % wide) (y % wide) * Ul (x % wide) (y % wide)))):=by rw [<- sx];exact Znj (by rw [sx];exact Tc (by omega))
       have z8:Y2 (.int .i64 dy) (.int .i64 dy)=some (.int .i64 (.ofNat (Ul (x / wide) (y / wide) * Ul (x / wide) (y / wide)))):=by rw [<- sy];exact Znj (by rw [sy];exact Tc (by omega))
       have z9:Z0 (.int .i64 (.ofNat (Ul (x % wide) (y % wide) * Ul (x % wide) (y % wide)))) (.int .i64 (.ofNat (Ul (x / wide) (y / wide) * Ul (x / wide) (y / wide))))=some (.int .i64 (.ofNat (Ul (x % wide) (y % wide) * Ul (x % wide) (y % wide)+Ul (x / wide) (y / wide) * Ul (x / wide) (y / wide)))):=X9 (by omega)
       have Uh:Qn (.ofNat (Ul (x % wide) (y % wide) * Ul (x % wide) (y % wide)+Ul (x / wide) (y / wide) * Ul (x / wide) (y / wide))) (.ofNat 1)=fi wide x y:=rfl
       have hcn:Zm (tc (d+2)) 64 [.row oc oq 1 (o.map tN),tN y] H=some (tB (Yz y o)):=
        Yc (ws:=[.row oc .set 1 (o.map tN),tN y]) (H':=[]) rfl rfl (Gy d 0 (λ_=>rfl) (by omega)) L7
       have a3:Z0 (.int .i64 (.ofNat j)) (.int .i64 (.ofNat 1))=some (.int .i64 (.ofNat (j+1))):=X9 (by omega)
       have Sr:Yf 1 [0] [tN y] (Y5 [tN 0] 1)=some [tN y]:=rfl;cases hb:Yz y o with
       |true=>
        rw [hb] at hgr hcn;simp only [VV,k0,k1,k4,k9,k10,k11,f1,f2,f3,f4,Ql,Xo hj,Qe J8,Qe heo,Ku (cs:=Zy (tN y)) (off:=0) rfl,Ku (cs:=Zy (tN x)) (off:=0) rfl,lw,z1,z2,z3,z4,z5,z6,hcn,Bool.not_true,a3];exact .fin (.inl ⟨rfl,l.length - (j+1),by omega,j+1,o,rfl,rfl,k3,rfl,rfl,rfl,rfl,rfl,hj,rfl,hoi,by omega,hgr⟩)
       |false=>
        rw [hb] at hgr hcn;cases ha:fi wide x y with
        |false=>
         rw [ha] at hgr Uh;simp only [VV,k0,k1,k4,k9,k10,k11,f1,f2,f3,f4,Ql,Xo hj,Qe J8,Qe heo,Ku (cs:=Zy (tN y)) (off:=0) rfl,Ku (cs:=Zy (tN x)) (off:=0) rfl,lw,z1,z2,z3,z4,z5,z6,hcn,Bool.not_false,z7,z8,z9,Uh,a3];exact .fin (.inl ⟨rfl,l.length - (j+1),by omega,j+1,o,rfl,rfl,k3,rfl,rfl,rfl,rfl,rfl,hj,rfl,hoi,by omega,hgr⟩)
        |true=>
         rw [ha] at hgr Uh;have Ag:=λ{β:Type} (k:TV->TH->Option β)=>k3.app (β:=β) (by omega) hone (Zh:=Zh) (H:=H) (x:=y) k
         simp only [VV,k0,k1,k4,k9,k10,k11,f1,f2,f3,f4,Ql,Xo hj,Qe J8,Qe heo,Ku (cs:=Zy (tN y)) (off:=0) rfl,Ku (cs:=Zy (tN x)) (off:=0) rfl,lw,z1,z2,z3,z4,z5,z6,hcn,Bool.not_false,z7,z8,z9,Uh,Sr,Ag,a3];exact .fin (.inl ⟨rfl,l.length - (j+1),by omega,j+1,o++[y],rfl,rfl,.inr rfl,rfl,rfl,rfl,rfl,rfl,hj,rfl,by rw [List.getElem?_append_left (List.getElem?_eq_some_iff.1 hoi).1];exact hoi,by rw [List.length_append];show o.length+1<=_;omega,hgr⟩)
     ·rintro S H2 ⟨_,k0,k1,k3,k4,k5,k6⟩;rw [k5];have a3:Z0 (.int .i64 (.ofNat i)) (.int .i64 (.ofNat 1))=some (.int .i64 (.ofNat (i+1))):=X9 (by omega)
      obtain ⟨oc,oq,f1,f2,f3,f4⟩:=k3.Xi;simp only [VV,k0,k1,k4,f4,a3];exact .fin (.inl ⟨rfl,k,Nat.lt_succ_self _,i+1,G,rfl,rfl,k3,rfl,rfl,Is,by omega,by omega,k6,hGs⟩)
   ·have hR:R=out:=by
     cases k with
     |zero=>exact Is
     |succ k=>
      have Is:R=match out[i]? with |none=>out |some x=>jd wide l k (i+1) (I8 wide x l out):=Is
      rw [List.getElem?_eq_none hio] at Is;exact Is
    simp only [VV,g0,g1,g4,e1,e3,e4,Hf,lout,Ql,Kf hio];exact .fin (.inr (.inl ⟨rfl,rfl,by rw [hR];exact g3,rfl⟩))
  ·rintro S H1 ⟨g0,g3,g5⟩;rw [g5];obtain ⟨cc,cq,e1,e2,e3,e4⟩:=g3.Xi;have lout:Zb (R.map tN)=R.length:=by rw [Zz,List.length_map]
   have eq1:Qn (.ofNat R.length) (.ofNat l.length)=G3 wide l:=hjb.symm;simp only [VV,g0,e1,e3,e4,Hf,lout,lll,eq1];exact .fin ⟨rfl,rfl,rfl⟩
 obtain ⟨e,S,H1,h1,rfl,h2,h3⟩:=key;rw [h3] at h1;show Za (C141 (tc (d+2)) Zh (Zb H) (.row .Jf .set 1 (l.map tN),.ptr bw 0,Zk,Zk,Zk,Zk,Zk,Zk,Zk,Zk,Zk,Zk,Zk,Zk,()) H) _=_;rw [h1];simp only [Yy,Jm,h2,Wj Vw X8,Xc]
end
end Go.Proofs.YtgemobbfikjmoaaGreatDoor
namespace Go.Proofs.YtgemobbfikjmoaaGreatDoor
open Go Go.Ev
set_option maxRecDepth 100000
noncomputable section
theorem Zsb (d Zh:Nat) {w bs bw c:Nat} {x y:TV} {H:TH} (Th:1<=w) (hw:w<=8) (hc:c < 16) (hb:H[bs]? = some (.cells [tN w,x,y])) (hbw:H[bw]? = some (.cells [tN (w+2)])) :
  tc (d+1) Zh 139 [tN c,.ptr bs 0,.ptr bw 0] H=some (tN (atN w c),H):=by
 rw [Y4 (F:=F139) (by kernel_rfl)]
 have lw:∀ {β:Type} (k:TV->TH->Option β),loadT .Xi Zh (Zb H) false 1 H (.ptr bs (0+0)) k=k (tN w) H:=λk=>Zx hb rfl rfl rfl;have lv:∀ {β:Type} (k:TV->TH->Option β),loadT .Xi Zh (Zb H) false 1 H (.ptr bw 0) k=k (tN (w+2)) H:=λk=>Zx hbw rfl rfl rfl;have h2:c % w < w:=Nat.mod_lt _ Th;have h4:c / w<=c:=Nat.div_le_self ..;have h3:(c / w+1) * (w+2)<=16 * 10:=Nat.mul_le_mul (by omega) (by omega)
 have z1:Jp (.int .i64 (.ofNat c)) (.int .i64 (.ofNat w))=some (.int .i64 (.ofNat (c / w))):=Pe Th (by omega)
 have z2:Z0 (.int .i64 (.ofNat (c / w))) (.int .i64 (.ofNat 1))=some (.int .i64 (.ofNat (c / w+1))):=X9 (by omega)
 have z3:Y2 (.int .i64 (.ofNat (c / w+1))) (.int .i64 (.ofNat (w+2)))=some (.int .i64 (.ofNat ((c / w+1) * (w+2)))):=M7 (by omega)
 have z4:Y1 (.int .i64 (.ofNat c)) (.int .i64 (.ofNat w))=some (.int .i64 (.ofNat (c % w))):=Gu Th;have z5:Z0 (.int .i64 (.ofNat ((c / w+1) * (w+2)))) (.int .i64 (.ofNat (c % w)))=some (.int .i64 (.ofNat ((c / w+1) * (w+2)+c % w))):=X9 (by omega)
 have z6:Z0 (.int .i64 (.ofNat ((c / w+1) * (w+2)+c % w))) (.int .i64 (.ofNat 1))=some (.int .i64 (.ofNat (atN w c))):=X9 (by omega)
 show Za (C139 (tc d) Zh (Zb H) (tN c,.ptr bs 0,.ptr bw 0,Zk,()) H) _=_;simp only [C139,VV,lw,lv,z1,z2,z3,z4,z5,z6,Z6 X8,Xc]
theorem Zod (d Zh:Nat) {w bs bw bf bk c k:Nat} {x y:TV} {H:TH} (Th:1<=w) (hw:w<=8) (hc:c < 16) (hb:H[bs]? = some (.cells [tN w,x,y])) (hbw:H[bw]? = some (.cells [tN (w+2)]))
  (hbf:H[bf]? = some (.cells [.fn (.func 139) [] [.ptr bs 0,.ptr bw 0]])) (hbk:H[bk]? = some (.cells [tN k])) (hno:Z2 X3 H=true) :
  tc (d+2) Zh 140 [tN c,.ptr bf 0,.ptr bk 0] H=some (tB (Nat.beq (atN w c) k),H):=by
 rw [Y4 (F:=F140) (by kernel_rfl)]
 have lf:∀ {β:Type} (k:TV->TH->Option β),loadT .Xi Zh (Zb H) false 1 H (.ptr bf 0) k=k (.fn (.func 139) [] [.ptr bs 0,.ptr bw 0]) H:=λk=>Zx hbf rfl rfl rfl;have lk:∀ {β:Type} (kk:TV->TH->Option β),loadT .Xi Zh (Zb H) false 1 H (.ptr bk 0) kk=kk (tN k) H:=λk=>Zx hbk rfl rfl rfl;have c1:∀ {β:Type} (k:TV->TH->Option β),Xd TC (tc (d+1)) (Zb H) (.fn (.func 139) [] [.ptr bs 0,.ptr bw 0]) [tN c] H k=k (tN (atN w c)) H:=λk=>Yo rfl (Zsb d _ Th hw hc hb hbw);have e1:Qn (.ofNat (atN w c)) (.ofNat k)=Nat.beq (atN w c) k:=rfl;show Za (C140 (tc (d+1)) Zh (Zb H) (tN c,.ptr bf 0,.ptr bk 0,Zk,()) H) _=_;simp only [C140,VV,lf,hno,c1,lk,e1,Z6 X8,Xc]
theorem Zj6 (d:Nat) {w h n:Nat} {c:Cp} {sp:List Nat} (ok:Kd w h sp) (hn:sp≠[]->n=1) :
  ∃ H',tc (d+5) 0 67 [tS w h c n sp] []=some (tB (Mf w h (Vk w h sp)),H'):=by
 rw [Y4 (F:=F67) (by kernel_rfl)]
 have w1:=ok.w1;have w8:=ok.w8;have y1:=ok.h1;have y8:=ok.h8;have Ca:=ok.Ca;have hspl:=Zhs ok.asc (λx hx=>Nat.lt_of_lt_of_le (ok.lt x hx) Ca);obtain ⟨gl,hgl⟩:∃ gl,gl=Vk w h sp:=⟨_,rfl⟩;have hgl16:gl.length<=16:=by rw [hgl];exact l7 ok
 have hglt:∀ x∈gl,x < 16:=by rw [hgl];exact Zb5 ok
 rw [<- hgl];obtain ⟨A,hA⟩:∃ A:TH,A=Zv [] (.cells [tN w,tN h,.row c .set n (sp.map tN)]):=⟨_,rfl⟩;have hA0:A[0]? = some (.cells [tN w,tN h,.row c .set n (sp.map tN)]):=by rw [hA];rfl
 have c1:∀ H,Zm (tc (d+4)) 56 [tS w h c n sp] H=some (Xj 3 1 (gl.map tN)):=λH=>by
  rw [hgl];exact St (d+1) (by omega) (by omega) hn (by omega)
 have lS:∀ {β:Type} (md:Ld) (k:TV->TH->Option β),loadT md 0 0 true 3 A (.ptr 0 0) k=k (tS w h c n sp) A:=λmd k=>Xw hA0 (by simp) rfl
 have lgl:Zb (gl.map tN)=gl.length:=by rw [Zz,List.length_map]
 have Us:Z2 Vj [tN w,tN h,.row c .set n (sp.map tN)]=true:=rfl
 have key:Qg (C67 (tc (d+4)) 0 0 (tS w h c n sp,Zk,Zk,Zk,Zk,Zk,Zk,Zk,Zk,Zk,Zk,Zk,Zk,Zk,Zk,()) [])
   λe S H1=>e=.ret/\S.2.2.1=tB (Mf w h gl):=by
  simp only [C67,VV,show Zb ([]:TH)=0 from rfl,Us,<- hA,lS,c1,lgl,show Qn (.ofNat gl.length) (.ofNat 0)=Nat.beq gl.length 0 from rfl];cases hz:Nat.beq gl.length 0 with
  |true=>
   simp only [VV];exact .fin ⟨rfl,by unfold Mf;rw [hz];rfl⟩
  |false=>
   have hgne:gl≠[]:=λe=>by rw [e] at hz;cases hz
   have Is:Xj 3 1 (gl.map tN)=.row .Jf (.own 3) 1 (gl.map tN):=by
    cases gl with
    |nil=>exact absurd rfl hgne
    |cons=>rfl
   obtain ⟨B,hB⟩:∃ B:TH,B=Zv A (.cells [tN (w+2)]):=⟨_,rfl⟩;obtain ⟨D,hD⟩:∃ D:TH,D=Zv B (.cells [.fn (.func 139) [] [.ptr 0 0,.ptr 1 0]]):=⟨_,rfl⟩;have nA:Zb A=1:=by rw [hA];rfl
   have nB:Zb B=2:=by rw [hB,Qd,nA]
   have nD:Zb D=3:=by rw [hD,Qd,nB]
   have b0:B[0]? = some (.cells [tN w,tN h,.row c .set n (sp.map tN)]):=by rw [hB];exact Qm hA0
   have b1:B[1]? = some (.cells [tN (w+2)]):=by rw [hB,<- nA];exact Qf
   have d0:D[0]? = some (.cells [tN w,tN h,.row c .set n (sp.map tN)]):=by rw [hD];exact Qm b0
   have d1:D[1]? = some (.cells [tN (w+2)]):=by rw [hD];exact Qm b1
   have d2:D[2]? = some (.cells [.fn (.func 139) [] [.ptr 0 0,.ptr 1 0]]):=by rw [hD,<- nB];exact Qf
   have noA:Z2 X3 A=true:=by rw [hA];exact Jx rfl (by cases c <;> rfl)
   have noD:Z2 X3 D=true:=by rw [hD,hB];exact Jx (Jx noA rfl) rfl
   have lw:∀ {β:Type} (k:TV->TH->Option β),loadT .Xi 0 0 false 1 A (.ptr 0 (0+0)) k=k (tN w) A:=λk=>Zx hA0 rfl rfl rfl;have lh:∀ {β:Type} (k:TV->TH->Option β),loadT .Xi 0 0 false 1 D (.ptr 0 (0+1)) k=k (tN h) D:=λk=>Zx d0 rfl rfl rfl;have lv:∀ {β:Type} (k:TV->TH->Option β),loadT .Xi 0 0 false 1 D (.ptr 1 0) k=k (tN (w+2)) D:=λk=>Zx d1 rfl rfl rfl;have z1:Z0 (.int .i64 (.ofNat w)) (.int .i64 (.ofNat 2))=some (.int .i64 (.ofNat (w+2))):=X9 (by omega)
   have z2:Z0 (.int .i64 (.ofNat h)) (.int .i64 (.ofNat 2))=some (.int .i64 (.ofNat (h+2))):=X9 (by omega)
   have hN:(w+2) * (h+2)<=10 * 10:=Nat.mul_le_mul (by omega) (by omega)
   have z3:Y2 (.int .i64 (.ofNat (w+2))) (.int .i64 (.ofNat (h+2)))=some (.int .i64 (.ofNat ((w+2) * (h+2)))):=M7 (by omega)
   have st1:storeT 0 0 1 (Zv A (.cells [tN 0])) (.ptr 1 0) (tN (w+2))=some B:=by
    have h:=Va (Zh:=0) (base:=0) (H:=A) (x:=tN (w+2)) (y:=tN (w+2)) (z:=tN 0) (Nat.zero_le _) rfl (.inl rfl) rfl;rw [nA] at h;rw [hB];exact h
   have st2:storeT 0 0 1 (Zv B (.cells [.v .nilFunc])) (.ptr 2 0) (.fn (.func 139) [] [.ptr 0 0,.ptr 1 0])=some D:=by
    have h:=Va (Zh:=0) (base:=0) (H:=B) (x:=.fn (.func 139) [] [.ptr 0 0,.ptr 1 0]) (y:=.fn (.func 139) [] [.ptr 0 0,.ptr 1 0]) (z:=.v .nilFunc) (Nat.zero_le _) rfl (.inr (Nat.zero_le _)) rfl;rw [nB] at h;rw [hD];exact h
   obtain ⟨N,hNd⟩:∃ N,N=(w+2) * (h+2):=⟨_,rfl⟩;obtain ⟨L2,C8⟩:∃ s,s=yh w h gl:=⟨_,rfl⟩;obtain ⟨air,Ze3⟩:∃ s,s=airL w h gl:=⟨_,rfl⟩
   have hsne:L2≠[]:=by
    rw [C8];refine Zlw w1 hgne λc hc=>?_;rw [hgl] at hc;exact (Bg.1 hc).1
   have hane:air≠[]:=by rw [Ze3];exact air_ne
   have hsl:L2.length<=100:=by rw [C8];exact Nat.le_trans (N7 ..) hN
   have xu:air.length<=100:=by rw [Ze3];exact Nat.le_trans (N7 ..) hN
   have hslt:∀ x∈L2,x < 1000:=λx hx=>by rw [C8] at hx;have:=(Pf _ _ _ _).1 hx;omega
   have halt:∀ x∈air,x < 1000:=λx hx=>by rw [Ze3] at hx;have:=(Pf _ _ _ _).1 hx;omega
   have hhb:Mf w h gl=cond (G3 (w+2) L2) (!G3 (w+2) air) true:=by unfold Mf;rw [hz,<- C8,<- Ze3];rfl
   rw [hhb];unfold yh at C8;unfold airL at Ze3;rw [<- hNd] at z3 C8 Ze3 hN;simp only [VV,Is,nA,nB,lw,z1,st1,st2,lv,lh,z2,z3]
   refine Qg.su (k:=N) (λk S H1=>∃ j s a,S.2.1=.ptr 0 0/\(Zg S.2.2.2.1=.row .Jf .set 1 (gl.map tN)/\Zr S.2.2.2.1=S.2.2.2.1)/\S.2.2.2.2.1=.ptr 1 0/\S.2.2.2.2.2.1=.ptr 2 0/\S.2.2.2.2.2.2.1=Xj 3 1 ((s:List Nat).map tN)/\S.2.2.2.2.2.2.2.1=Xj 3 1 ((a:List Nat).map tN)/\S.2.2.2.2.2.2.2.2.2.2.2.1=tN N/\S.2.2.2.2.2.2.2.2.2.2.2.2.1=tN j /\
     3<=Zb H1/\H1[0]? = some (.cells [tN w,tN h,.row c .set n (sp.map tN)])/\H1[1]? = some (.cells [tN (w+2)])/\H1[2]? = some (.cells [.fn (.func 139) [] [.ptr 0 0,.ptr 1 0]])/\Z2 X3 H1=true/\j<=N/\k=N - j/\s.length<=j/\a.length<=j /\
     L2=s++Gc (Vx w gl) (N - j) j/\air=a++Gc (λk=>!Vx w gl k) (N - j) j)
    (λS H1=>S.2.2.2.2.1=.ptr 1 0/\S.2.2.2.2.2.2.1=Xj 3 1 (L2.map tN)/\S.2.2.2.2.2.2.2.1=Xj 3 1 (air.map tN)/\H1[1]? = some (.cells [tN (w+2)])) (λ_ _=>False) ?_ (by rw [Yg];omega)
    ⟨0,[],[],rfl,⟨rfl,rfl⟩,rfl,rfl,rfl,rfl,rfl,rfl,by omega,d0,d1,d2,noD,Nat.zero_le _,rfl,Nat.le_refl _,Nat.le_refl _,C8,Ze3⟩ ?_ (λ_ _ h=>h.elim)
   ·rintro k S H1 ⟨j,s,a,g1,⟨g3,g3s⟩,g4,g5,g6,g7,Jj,Dn,h3l,k0,k1,k2,hno1,hj,rfl,hsj,haj,hS,hAi⟩;rcases Nat.eq_or_lt_of_le hj with hj |hj
    ·rw [hj,Nat.sub_self] at hS hAi;have hS:L2=s:=by rw [hS];exact List.append_nil _
     have hAi:air=a:=by rw [hAi];exact List.append_nil _
     simp only [VV,g1,g4,g5,g6,g7,Jj,Dn,Ql,Kf (Nat.le_of_eq hj.symm)];exact .fin (.inr (.inl ⟨rfl,rfl,by rw [hS],by rw [hAi],k1⟩))
    ·obtain ⟨r,hr⟩:∃ r,N - j=r+1:=⟨N - (j+1),by omega⟩
     rw [hr] at hS hAi;have hS:L2=s++cond (Vx w gl j) (j::Gc (Vx w gl) r (j+1)) (Gc (Vx w gl) r (j+1)):=hS;have hAi:air=a++cond (!Vx w gl j) (j::Gc (λk=>!Vx w gl k) r (j+1)) (Gc (λk=>!Vx w gl k) r (j+1)):=hAi;have hr:r=N - (j+1):=by omega
     rw [hr] at hS hAi;obtain ⟨E,hE⟩:∃ E,E=Zv H1 (.cells [tN j]):=⟨_,rfl⟩;have nE:Zb E=Zb H1+1:=by rw [hE];exact Qd
     have e0:E[0]? = some (.cells [tN w,tN h,.row c .set n (sp.map tN)]):=by rw [hE];exact Qm k0
     have e1:E[1]? = some (.cells [tN (w+2)]):=by rw [hE];exact Qm k1
     have e2:E[2]? = some (.cells [.fn (.func 139) [] [.ptr 0 0,.ptr 1 0]]):=by rw [hE];exact Qm k2
     have e3:E[Zb H1]? = some (.cells [tN j]):=by rw [hE];exact Qf
     have hnoE:Z2 X3 E=true:=by rw [hE];exact Jx hno1 rfl
     have st3:storeT 0 0 1 (Zv H1 (.cells [tN 0])) (.ptr (Zb H1) 0) (tN j)=some E:=by rw [hE];exact Va (Nat.zero_le _) rfl (.inl rfl) rfl
     have Tm:∀ {β:Type} (k:TV->TH->Option β),Qo (tc (d+4)) 0 65 [.row .Jf .set 1 (gl.map tN),.fn (.func 140) [] [.ptr 2 0,.ptr (Zb H1) 0]] E k=k (tB (Vx w gl j)) E:=λk=>
      Xx rfl (vq (d+2) 0 gl (λ_=>rfl) (λc=>Nat.beq (atN w c) j) (by omega) rfl λz hz=>Zod d 0 w1 w8 (hglt z hz) e0 e1 e2 e3 hnoE)
     have lj:∀ {β:Type} (k:TV->TH->Option β),loadT .settle 0 0 false 1 E (.ptr (Zb H1) 0) k=k (tN j) E:=λk=>Zx e3 rfl rfl rfl;have Sr:Yf 1 [0] [tN j] (Y5 [tN 0] 1)=some [tN j]:=rfl;have a3:Z0 (.int .i64 (.ofNat j)) (.int .i64 (.ofNat 1))=some (.int .i64 (.ofNat (j+1))):=X9 (by omega)
     cases hb:Vx w gl j with
     |true=>
      rw [hb] at hS hAi Tm;have hS:L2=(s++[j])++Gc (Vx w gl) (N - (j+1)) (j+1):=by rw [hS,List.append_assoc];rfl
      have Ag:∀ {β:Type} {H:TH} (k:TV->TH->Option β),X6 0 H 3 1 8 (Xj 3 1 (s.map tN)) (.row .full (.own 3) 1 [tN j]) k=k (Xj 3 1 ((s++[j]).map tN)) H:=λk=>Zhu (by omega) k
      simp only [VV,g1,g3s,g3,g4,g5,g6,g7,Jj,Dn,Ql,Xo hj,st3,Tm,lj,Sr,Ag,a3];exact .fin (.inl ⟨rfl,N - (j+1),by omega,j+1,s++[j],a,rfl,⟨rfl,rfl⟩,rfl,rfl,rfl,rfl,rfl,rfl,by omega,e0,e1,e2,hnoE,hj,rfl,by rw [List.length_append];show s.length+1<=_;omega,by omega,hS,hAi⟩)
     |false=>
      rw [hb] at hS hAi Tm;have hAi:air=(a++[j])++Gc (λk=>!Vx w gl k) (N - (j+1)) (j+1):=by rw [hAi,List.append_assoc];rfl
      have Ag:∀ {β:Type} {H:TH} (k:TV->TH->Option β),X6 0 H 3 1 8 (Xj 3 1 (a.map tN)) (.row .full (.own 3) 1 [tN j]) k=k (Xj 3 1 ((a++[j]).map tN)) H:=λk=>Zhu (by omega) k
      simp only [VV,g1,g3s,g3,g4,g5,g6,g7,Jj,Dn,Ql,Xo hj,st3,Tm,lj,Sr,Ag,a3];exact .fin (.inl ⟨rfl,N - (j+1),by omega,j+1,s,a++[j],rfl,⟨rfl,rfl⟩,rfl,rfl,rfl,rfl,rfl,rfl,by omega,e0,e1,e2,hnoE,hj,rfl,by omega,by rw [List.length_append];show a.length+1<=_;omega,hS,hAi⟩)
   ·rintro S H1 ⟨g4,g6,g7,k1⟩
    have hrs:Xj 3 1 (L2.map tN)=.row .Jf (.own 3) 1 (L2.map tN):=by
     cases L2 with
     |nil=>exact absurd rfl hsne
     |cons=>rfl
    have hra:Xj 3 1 (air.map tN)=.row .Jf (.own 3) 1 (air.map tN):=by
     cases air with
     |nil=>exact absurd rfl hane
     |cons=>rfl
    rw [hrs] at g6;rw [hra] at g7;have j1:∀ {β:Type} (k:TV->TH->Option β),Xd TC (tc (d+4)) 0 (.fn (.func 141) [] [.ptr 1 0]) [.row .Jf .set 1 (L2.map tN)] H1 k=k (tB (G3 (w+2) L2)) H1:=λk=>Yo rfl (jc (d+1) 0 (by omega) (by omega) k1 hsne (by omega) hslt)
    have j2:∀ {β:Type} (k:TV->TH->Option β),Xd TC (tc (d+4)) 0 (.fn (.func 141) [] [.ptr 1 0]) [.row .Jf .set 1 (air.map tN)] H1 k=k (tB (G3 (w+2) air)) H1:=λk=>Yo rfl (jc (d+1) 0 (by omega) (by omega) k1 hane (by omega) halt)
    cases hs1:G3 (w+2) L2 with
    |true=>
     rw [hs1] at j1;simp only [VV,g4,g6,g7,j1,Bool.not_true,Bool.not_false,j2];exact .fin ⟨rfl,rfl⟩
    |false=>
     rw [hs1] at j1;simp only [VV,g4,g6,g7,j1,Bool.not_false];exact .fin ⟨rfl,rfl⟩
 obtain ⟨e,S,H1,h1,rfl,h2⟩:=key;show ∃ H',Za (C67 (tc (d+4)) 0 0 (tS w h c n sp,Zk,Zk,Zk,Zk,Zk,Zk,Zk,Zk,Zk,Zk,Zk,Zk,Zk,Zk,()) []) _=some (_,H');rw [h1];simp only [Yy,Jm,h2,Wj Vw X8];exact ⟨_,rfl⟩
theorem Zew (d:Nat) {w h n:Nat} {c:Cp} {sp:List Nat} {H:TH} (ok:Kd w h sp) (hn:sp≠[]->n=1) :
  Zm (tc (d+5)) 67 [tS w h c n sp] H=some (tB (Mf w h (Vk w h sp))):=by
 obtain ⟨H',hr⟩:=Zj6 d (c:=c) ok hn;exact Yc (ws:=[tS w h c n sp]) (a:=false) rfl (by cases c <;> rfl) hr L7
end
end Go.Proofs.YtgemobbfikjmoaaGreatDoor
namespace Go.Proofs.YtgemobbfikjmoaaGreatDoor
open Go Go.Ev
set_option maxRecDepth 100000
noncomputable section
theorem Zde:fk 142:=by
 intro d Zh H bo outs l hbo Oc hlen;have h:=sa d Zh (l:=l) hbo Oc hlen;rw [Y4 (F:=F133) (by kernel_rfl)] at h
 rw [Y4 (F:=F142) (by kernel_rfl)]
 exact h
def E7 (w h:Nat) (sp:List Nat):List (List (Nat×Nat)):=Gi (Ka w h sp) (Vk w h sp) 0 0 []
theorem Zmn (d:Nat) {w h n:Nat} {c:Cp} {sp:List Nat} (ok:Kd w h sp) (hn:sp≠[]->n=1) (hO:(E7 w h sp).length < 80000) :
  tc (d+20) 0 68 [tS w h c n sp] []=some (rS 1 ((E7 w h sp).map rQ),[]):=by
 rw [Y4 (F:=F68) (by kernel_rfl)]
 obtain ⟨f,hf⟩:∃ f,f=E7 w h sp:=⟨_,rfl⟩;rw [<- hf] at hO ⊢;obtain ⟨A,hA⟩:∃ A:TH,A=Zv [] (.cells [tN w,tN h,.row c .set n (sp.map tN)]):=⟨_,rfl⟩;obtain ⟨B,hB⟩:∃ B:TH,B=Zv A (.cells [Vv []]):=⟨_,rfl⟩;have nA:Zb A=1:=by rw [hA];rfl
 have a0:A[0]? = some (.cells [tN w,tN h,.row c .set n (sp.map tN)]):=by rw [hA];rfl
 have b0:B[0]? = some (.cells [tN w,tN h,.row c .set n (sp.map tN)]):=by rw [hB];exact Qm a0
 have b1:B[1]? = some (.cells [Vv []]):=by rw [hB,<- nA];exact Qf
 have hnil:Kc.cells [Xp]=.cells [Vv []]:=rfl;have Us:Z2 Vj [tN w,tN h,.row c .set n (sp.map tN)]=true:=rfl;have lA:∀ {β:Type} (k:TV->TH->Option β),loadT .settle 0 0 true 3 B (.ptr 0 0) k=k (tS w h c n sp) B:=λk=>Xw b0 (by simp) rfl
 obtain ⟨D,hD⟩:∃ D,D=B.set 1 (.cells [Vv f]):=⟨_,rfl⟩
 have Xn:∀ {β:Type} (k:TV->TH->Option β),Qo (tc (d+19)) 0 132 [tS w h c n sp,tN 0,.fn (.func 142) [] [.ptr 1 0]] B k=k (.Xh []) D:=λk=>by
  refine Xx rfl ?_;have:=Zpj Zde d 0 (c:=c) (outs:=[]) (idle:=0) ok hn b1 (Nat.zero_le _) (by omega) (by show 0+(E7 w h sp).length < 90000;rw [<- hf];omega)
  rw [hD,hf];exact this
 have d1:D[1]? = some (.cells [Vv f]):=by rw [hD];exact Jv b1
 have ls:∀ {β:Type} (k:TV->TH->Option β),loadT .settle 0 0 false 1 D (.ptr 1 0) k=k (rS 1 (f.map rQ)) (D.set 1 (.cells [rS 1 (f.map rQ)])):=λk=>by rw [Znx d1]
 show Za (C68 (tc (d+19)) 0 0 (tS w h c n sp,Zk,Zk,Zk,()) []) _=_;simp only [C68,VV,show Zb ([]:TH)=0 from rfl,Us,<- hA,hnil,nA,<- hB,lA,Xn,ls];rw [Z6 Lp,Yh,List.take_zero]
theorem Zis (d:Nat) {w h n:Nat} {c:Cp} {sp:List Nat} {H:TH} (ok:Kd w h sp) (hn:sp≠[]->n=1) (hO:(E7 w h sp).length < 80000) :
  Zm (tc (d+20)) 68 [tS w h c n sp] H=some (rS 1 ((E7 w h sp).map rQ)):=
 Yc (ws:=[tS w h c n sp]) (H':=[]) (a:=false) rfl (by cases c <;> rfl) (Zmn d ok hn hO) (by cases E7 w h sp <;> rfl)
end
end Go.Proofs.YtgemobbfikjmoaaGreatDoor
namespace Go.Proofs.YtgemobbfikjmoaaGreatDoor
open Go Go.Ev
set_option maxRecDepth 100000
noncomputable section
def V6 (w h:Nat) (sp:List Nat):List Nat:=V2 Nat.blt (sp.map (Br w h)) []
abbrev toF:TV:=.fn (.func 82) [] [.ptr 1 0]
def Lg (a b th dd w h:Nat) (sp:List Nat) (r:TV):TH:=
 [.cells [tK .u8 a,tK .u8 b,tK .u8 th,tK .u16 dd],.cells [tN w,tN h,rS 1 (sp.map tN)],.cells [toF],.cells [tN h,tN w,r]]
section
variable {a b th dd w h:Nat} {sp:List Nat}
theorem Zjt (l:List Nat):∃ o:TV,Xs o=false/\∀ {β:Type} (k:TV->TH->Option β),loadT .take 0 0 false 1 (Lg a b th dd w h sp (Xj 3 1 (l.map tN))) (.ptr 3 (0+2)) k=k (Xj 3 1 (l.map tN)) (Lg a b th dd w h sp o):=by
 cases l with
 |nil=>exact ⟨Xj 3 1 [],rfl,λk=>rfl⟩
 |cons x l=>exact ⟨Zk,rfl,λk=>rfl⟩
theorem Zeo {o:TV} (l:List Nat):storeT 0 0 1 (Lg a b th dd w h sp o) (.ptr 3 (0+2)) (Xj 3 1 (l.map tN))=some (Lg a b th dd w h sp (Xj 3 1 (l.map tN))):=by
 rw [Qy (off:=0+2) (n:=1) (cs:=[tN h,tN w,o]) (x:=Xj 3 1 (l.map tN)) rfl (Nat.zero_le _) yg (.inr (Nat.zero_le _)) (by rw [Io];rfl) (Nat.le_refl 3),Io]
 rfl
theorem kf {w h:Nat} {r:TV} (hr:Xs r=false):X3 (.cells [tN w,tN h,r])=true:=by
 show cond (!Xs (tN w)) (cond (!Xs (tN h)) (cond (!Xs r) true false) false) false=true;rw [hr];rfl
theorem C4 {r:TV} (hr:Xs r=false):Z2 X3 (Lg a b th dd w h sp r)=true:=by
 show cond (X3 (.cells [tK .u8 a,tK .u8 b,tK .u8 th,tK .u16 dd])) (cond (X3 (.cells [tN w,tN h,rS 1 (sp.map tN)])) (cond (X3 (.cells [toF])) (cond (X3 (.cells [tN h,tN w,r])) true false) false) false) false=true;rw [kf hr,kf (r:=rS 1 (sp.map tN)) rfl];rfl
structure MirOk (a b th dd w h:Nat) (sp:List Nat) (M:TH) (X:TV) (c:Cp) (n:Nat):Prop where
 s:M[1]? = some (.cells [tN w,tN h,rS 1 (sp.map tN)])
 f:M[2]? = some (.cells [toF])
 m:M[3]? = some (.cells [tN h,tN w,X])
 no:Z2 X3 M=true
 own:Xs X=false
 set:V3 X=X
 inT:∀ M',(∀ i,i < Zb M->M'[i]? = M[i]?)->inT M' (.agg [tN h,tN w,X])=some (tS h w c n (V6 w h sp))
 sz:V6 w h sp≠[]->n=1
 len:4<=Zb M
theorem Zho {len:Nat} (h:len < 90000):Ms len (Xk+1) 1=true/\Nat.beq len (Xk+1)=false:=by
 have hu:=Lc;refine ⟨?_,Wm (by omega)⟩
 unfold Ms;rw [Nat.ble_eq_true_of_le (by omega),Uj (show Xk+1=Nat.add Xk 1 from rfl)]
 show Nat.blt len Xk=true;rw [Nat.blt_eq];omega
theorem rows_N {H:TH} {b:Nat} {ys:List Nat} (hb:H[b]? = some (.cells (ys.map tN))):Un H b 0 ys.length 1 false=some (ys.map tN):=by
 unfold Un Yx;rw [Xq,hb];show Zp (Nat.ble (0+ys.length * 1) (Zb (ys.map tN))) (Zp (Z2 Qv (Vi (ys.map tN) 0 (ys.length * 1))) (qq false 1 ys.length (La (ys.map tN) 0)))=_
 have e:Vi (ys.map tN) 0 (ys.length * 1)=ys.map tN:=by
  unfold Vi;rw [Yh,Jq,List.drop_zero,Nat.mul_one,List.take_of_length_le (by simp)]
 rw [e,Zz,Nat.ble_eq_true_of_le (by simp),Ye,Zcu,Jq,List.drop_zero,Zoy _ _ (by simp),List.take_of_length_le (by simp)];rfl
theorem Zl2 (d:Nat) (hl:sp.length<=12) :
  ∃ M X c n,MirOk a b th dd w h sp M X c n /\
   ∀ {β:Type} (k:TV->TH->Option β),loadT (.W8 1 false) 0 0 false 1 (Lg a b th dd w h sp (Xj 3 1 ((sp.map (Br w h)).map tN))) (.ptr 3 (0+2)) (λt H=>Xb 1 false t H λc H=>Qo (tc (d+5)) 0 83 [c] H k)=k (.Xh []) M:=by
 obtain ⟨l,iw⟩:∃ l,l=sp.map (Br w h):=⟨_,rfl⟩;have hlen:l.length=sp.length:=by rw [iw,List.length_map]
 rw [<- iw];have hm:V6 w h sp=V2 Nat.blt l []:=by unfold V6;rw [<- iw]
 cases l with
 |nil=>
  have hm:V6 w h sp=[]:=hm;refine ⟨Lg a b th dd w h sp Xp,Xp,.nil,0,⟨rfl,rfl,rfl,C4 rfl,rfl,rfl,λM' _=>by rw [hm];rfl,λh=>absurd hm h,Nat.le_refl 4⟩,λk=>?_⟩
  have e0:∀ {β:Type} (k:TV->TH->Option β),loadT (.W8 1 false) 0 0 false 1 (Lg a b th dd w h sp (Xj 3 1 (([]:List Nat).map tN))) (.ptr 3 (0+2)) k=k Xp (Lg a b th dd w h sp Xp):=λk=>rfl;rw [e0,si];exact Xx rfl (Zl1 d 0)
 |cons x l=>
  have hL:(V6 w h sp).length=l.length+1:=by rw [hm,yj];simp
  have hlen:l.length+1=sp.length:=hlen;obtain ⟨V,hV⟩:∃ V:TV,V=.vec 4 0 (l.length+1) (Xk+1) 1 false:=⟨_,rfl⟩;obtain ⟨M0,hM0⟩:∃ M0,M0=Zv (Lg a b th dd w h sp V) (.cells ((x::l).map tN)):=⟨_,rfl⟩;obtain ⟨M,hM⟩:∃ M,M=Zv (Lg a b th dd w h sp V) (.cells ((V6 w h sp).map tN)):=⟨_,rfl⟩;have hV1:Xs V=false:=by rw [hV];rfl
  have h4:M0[4]? = some (.cells ((x::l).map tN)):=by rw [hM0];rfl
  have Ut:M0.set 4 (.cells ((V6 w h sp).map tN))=M:=by rw [hM0,hM];rfl
  refine ⟨M,V,.Jf,1,⟨by rw [hM];rfl,by rw [hM];rfl,by rw [hM];rfl,?_,hV1,by rw [hV];rfl,λM' hM'=>?_,λ_=>rfl,by rw [hM];show 4<=5;omega⟩,λk=>?_⟩
  ·rw [hM];refine Jx (C4 hV1) ?_;show Z2 (λx=>!Xs x) ((V6 w h sp).map tN)=true;rw [Ye,List.all_map,List.all_eq_true];intro x _;rfl
  ·have hb:M'[4]? = some (.cells ((V6 w h sp).map tN)):=by rw [hM' 4 (by rw [hM];show 4 < 5;omega),hM];rfl
   have hr:=rows_N hb;rw [hL] at hr
   have hv:inC M' V=some (.row .Jf .set 1 ((V6 w h sp).map tN)):=by
    rw [hV];show Zf (Un M' 4 0 (l.length+1) 1 false) (λes=>Zp (Ms (l.length+1) (Xk+1) 1) (some (TV.row (cond (Nat.beq (l.length+1) (Xk+1)) .full .Jf) .set 1 es)))=_;rw [hr,(Zho (by omega)).1,(Zho (by omega)).2];rfl
   show Zf (Zf (some (tN h)) λy=>Zf (Zf (some (tN w)) λy=>Zf (Zf (inC M' V) λy=>Zf (some []) λl=>some (y::l)) λl=>some (y::l)) λl=>some (y::l)) (λds=>some (TV.agg ds))=_;rw [hv];rfl
  ·have hfl:Qi ((x::l).map tN)=(x::l).map tN:=Ze8 _;have e0:∀ {β:Type} (k:TV->TH->Option β),loadT (.W8 1 false) 0 0 false 1 (Lg a b th dd w h sp (Xj 3 1 ((x::l).map tN))) (.ptr 3 (0+2)) k=k (.vec 4 0 (Zb ((x::l).map tN)) (Xk+1) 1 false) (Zv (Lg a b th dd w h sp (.vec 4 0 (Zb ((x::l).map tN)) (Xk+1) 1 false)) (.cells (Qi ((x::l).map tN)))):=λk=>rfl;have hle:Zb ((x::l).map tN)=l.length+1:=by rw [Zz,List.length_map];rfl
   rw [e0,hfl,hle,<- hV,<- hM0];have e1:∀ {β:Type} (H:TH) (k:TV->TH->Option β),Xb 1 false V H k=k V H:=λH k=>by rw [hV];rfl
   rw [e1];refine Xx (by rw [hV];rfl) ?_
   rw [<- Ut,hm,hV];exact Zl0 d 0 h4 (Nat.zero_le _) rfl (by omega)
end
end
end Go.Proofs.YtgemobbfikjmoaaGreatDoor
namespace Go.Proofs.YtgemobbfikjmoaaGreatDoor
open Go Go.Ev
set_option maxRecDepth 100000
noncomputable section
def Zhx (w h:Nat) (sp:List Nat) (K:List Int) (v:List (Nat×Nat)):Prop:=
 v≠[]/\v.length<=12/\(∀ q∈v,q.1 < 16/\q.2 < 16)/\(∀ q∈Aa w h v,q.1 < 1000/\q.2 < 1000) /\
 ∃ r q,Fx w h sp v=some r/\Fx h w (V6 w h sp) (Aa w h v)=some q/\Fk ((w+1) * (h+1)) r.1/\Fk ((h+1) * (w+1)) q.1/\Av w h K r.1 q.1=true
set_option maxHeartbeats 8000000 in
theorem Zra {a b th dd one two w h m:Nat} {sp x y:List Nat} {r1 r2:(Nat×Nat)×Vl}
  (ha:a < 256) (hb:b < 256) (xr:th < 256) (hd:dd < 65536) (ho1:one < 256) (iv:two < 256) (hw:w=Vz a) (hh:h=Wi 16 a b) (fy:sp=badL 16 a b th dd)
  (ok2:Kd h w (V6 w h sp)) (hspl:sp.length<=12)
  (h1:Ib (Kb w h sp) w (Qs w h sp)=some m) (h2:Ib (Kb h w (V6 w h sp)) h (Qs h w (V6 w h sp))=some m)
  (h3:Kv (Kb w h sp) 17 (Qs w h sp) []=some r1) (h4:Kv (Kb h w (V6 w h sp)) 17 (Qs h w (V6 w h sp)) []=some r2) (h5:r1.1.2=r2.1.2)
  (hs1:∀ x∈Xu (Qs w h sp),(Ib (Kb w h sp) w (Iu (Qs w h sp) (2 ^ x))).isSome=true)
  (hs2:∀ x∈Xu (Qs h w (V6 w h sp)),(Ib (Kb h w (V6 w h sp)) h (Iu (Qs h w (V6 w h sp)) (2 ^ x))).isSome=true)
  (hx:x=Yj (Ig (Kb w h sp) w (Qs w h sp) m) (Xu (Qs w h sp))) (hy:y=Yj (Ig (Kb h w (V6 w h sp)) h (Qs h w (V6 w h sp)) m) (Xu (Qs h w (V6 w h sp))))
  (hxy:x.length=y.length) (hxc:∀ c∈x,c < w * h/\Yz (Br w h c) y=true) (xu:(E7 w h sp).length < 70000)
  (Hi:E7 w h sp=[]\/Mf w h (Vk w h sp)=true\/((Gk w h (Qs w h sp) (Kb w h sp)=true/\Gk h w (Qs h w (V6 w h sp)) (Kb h w (V6 w h sp))=true)/\Zak w h=true/\∃ K,∀ v∈E7 w h sp,Zhx w h sp K v))
  (Sm:∀ H,Zm (tc 85) 15 [] H=some (tB true)) :
  ∃ H',tc 86 0 14 [.agg [tK .u8 a,tK .u8 b,tK .u8 th,tK .u16 dd],tK .u8 one,tK .u8 two] []=some (tB true,H'):=by
 rw [Y4 (F:=F14) (by kernel_rfl)]
 have ok:Kd w h sp:=by rw [hw,hh,fy];exact Zg1 (by omega)
 have hspn:sp≠[]->zf 1 (sp.map tN)=1:=λDa=>ye (λe=>Da (List.map_eq_nil_iff.1 e));have w1:=ok.w1;have w8:=ok.w8;have y1:=ok.h1;have y8:=ok.h8;have Ca:=ok.Ca;have hsplt:∀ c∈sp,c < 16:=λc hc=>Nat.lt_of_lt_of_le (ok.lt c hc) Ca;have hxl:x.length<=64:=by rw [hx];exact Nat.le_trans (Bc ..) (K6 _)
 have hyl:y.length<=64:=by omega
 obtain ⟨al,Ze2⟩:∃ al,al=E7 w h sp:=⟨_,rfl⟩;obtain ⟨X0,hX0⟩:∃ X0,X0=rS 1 (sp.map tN):=⟨_,rfl⟩;have xst:Zr X0=X0:=by rw [hX0];rfl
 have xse:Zg X0=X0:=by rw [hX0];rfl
 have xln:Kn X0=some (tN sp.length):=by rw [hX0];show some (tN (Zb (sp.map tN)))=_;rw [Zz,List.length_map]
 have xix:∀ j (hj:j < sp.length),Qh 1 X0 (tN j)=some (.el .set (Zy (tN sp[j])) 0):=λj hj=>by
  have J8:(sp.map tN)[j]? = some (tN sp[j]):=by rw [List.getElem?_map,List.getElem?_eq_getElem hj];rfl
  have Ec:zf 1 (sp.map tN)=1:=ye (by intro h;rw [List.map_eq_nil_iff] at h;rw [h] at hj;simp at hj)
  rw [hX0];show Qh 1 (.row (om (sp.map tN)) .set (zf 1 (sp.map tN)) (sp.map tN)) (tN j)=_;rw [Ec,Qe J8];rfl
 obtain ⟨B1,ju⟩:∃ B,B=Zv ([]:TH) (.cells [tK .u8 a,tK .u8 b,tK .u8 th,tK .u16 dd]):=⟨_,rfl⟩;obtain ⟨B2,ay⟩:∃ B,B=Zv B1 (.cells [tN w,tN h,rS 1 (sp.map tN)]):=⟨_,rfl⟩;obtain ⟨B3,l6⟩:∃ B,B=Zv B2 (.cells [toF]):=⟨_,rfl⟩;have n1:Zb B1=1:=by rw [ju];rfl
 have n2:Zb B2=2:=by rw [ay,Qd,n1]
 have n3:Zb B3=3:=by rw [l6,Qd,n2]
 have ax:Zv B3 (.cells [tN h,tN w,Xp])=Lg a b th dd w h sp (Xj 3 1 (([]:List Nat).map tN)):=by rw [l6,ay,ju];rfl
 have b31:B3[1]? = some (.cells [tN w,tN h,X0]):=by rw [l6,ay,ju,hX0];rfl
 have l4:∀ {β:Type} (k:TV->TH->Option β),loadT .Xi 0 0 true 4 B1 (.ptr 0 0) k=k (.agg [tK .u8 a,tK .u8 b,tK .u8 th,tK .u16 dd]) B1:=λk=>
  Xw (cs:=[tK .u8 a,tK .u8 b,tK .u8 th,tK .u16 dd]) (by rw [ju];rfl) (by simp) rfl
 have mt:∀ H,Zm (tc 85) 54 [.agg [tK .u8 a,tK .u8 b,tK .u8 th,tK .u16 dd],tN 16] H=some (.agg [tN w,tN h,rS 1 (sp.map tN)]):=λH=>by
  rw [hw,hh,fy];exact Zjd 84 (K:=16) (by omega) ha hb xr hd
 have st1:storeT 0 0 3 (Zv B1 (.cells Uz)) (.ptr 1 0) (.agg [tN w,tN h,rS 1 (sp.map tN)])=some B2:=by
  have e:=Qy (Zh:=0) (base:=0) (off:=0) (n:=3) (x:=.agg [tN w,tN h,rS 1 (sp.map tN)]) (cs:=Uz) (H:=Zv B1 (.cells Uz)) (b:=Zb B1) Qf (by omega) rfl (.inr (by omega)) rfl (by decide)
  rw [n1] at e;have e2:=Wv (H:=B1) (o:=.cells Uz) (p:=.cells [tN w,tN h,rS 1 (sp.map tN)]);rw [n1] at e2;rw [e,Yb,Kr (cs:=Uz) (xs:=[tN w,tN h,rS 1 (sp.map tN)]) rfl,e2,ay]
 have st2:storeT 0 0 1 (Zv B2 (.cells [.v .nilFunc])) (.ptr 2 0) toF=some B3:=by
  have e:=Va (Zh:=0) (base:=0) (H:=B2) (x:=toF) (y:=toF) (z:=.v .nilFunc) (Nat.zero_le _) rfl (.inr (Nat.zero_le _)) rfl;rw [n2] at e;rw [l6];exact e
 have st3:storeT 0 0 3 (Zv B3 (.cells Uz)) (.ptr 3 0) (.agg [tN h,tN w,Xp])=some (Lg a b th dd w h sp (Xj 3 1 (([]:List Nat).map tN))):=by
  have e:=Qy (Zh:=0) (base:=0) (off:=0) (n:=3) (x:=.agg [tN h,tN w,Xp]) (cs:=Uz) (H:=Zv B3 (.cells Uz)) (b:=Zb B3) Qf (by omega) rfl (.inr (by omega)) rfl (by decide)
  rw [n3] at e;have e2:=Wv (H:=B3) (o:=.cells Uz) (p:=.cells [tN h,tN w,Xp]);rw [n3] at e2;rw [e,Yb,Kr (cs:=Uz) (xs:=[tN h,tN w,Xp]) rfl,e2,ax]
 have lw3:∀ {β:Type} (k:TV->TH->Option β),loadT .settle 0 0 false 1 B3 (.ptr 1 (0+0)) k=k (tN w) B3:=λk=>Zx b31 rfl rfl rfl;have lh3:∀ {β:Type} (k:TV->TH->Option β),loadT .settle 0 0 false 1 B3 (.ptr 1 (0+1)) k=k (tN h) B3:=λk=>Zx b31 rfl rfl rfl;have xv:Uk [(0,1,tN h),(1,1,tN w)] Uz=some (.agg [tN h,tN w,Xp]):=rfl;have Us:Z2 Vj [tK .u8 a,tK .u8 b,tK .u8 th,tK .u16 dd]=true:=rfl
 have lsp:∀ {β:Type} (r:TV) (k:TV->TH->Option β),loadT .settle 0 0 false 1 (Lg a b th dd w h sp r) (.ptr 1 (0+2)) k=k X0 (Lg a b th dd w h sp r):=λr k=>by
  rw [hX0];exact Zx (cs:=[tN w,tN h,rS 1 (sp.map tN)]) rfl rfl rfl rfl
 have key:Qg (C14 (tc 85) 0 0 (.agg [tK .u8 a,tK .u8 b,tK .u8 th,tK .u16 dd],tK .u8 one,tK .u8 two,Zk,Zk,Zk,Zk,Zk,Zk,Zk,Zk,Zk,Zk,Zk,Zk,Zk,Zk,Zk,Zk,Zk,Zk,Zk,Zk,Zk,Zk,Zk,Zk,Zk,Zk,Zk,Zk,Zk,Zk,Zk,Zk,Zk,Zk,Zk,Zk,()) [])
   λe S H1=>e=.ret/\S.2.2.2.2.1=tB true:=by
  have q0:Qn (.ofNat 0) (.ofNat 0)=true:=rfl;simp only [C14,VV,Us,show Zb ([]:TH)=0 from rfl,<- ju,l4,mt,n1,st1,n2,st2,lh3,lw3,xv,n3,st3,lsp,xln,xst]
  refine Qg.su (k:=sp.length) (λk S H1=>∃ j pre,S.2.1=tK .u8 one/\S.2.2.1=tK .u8 two/\S.2.2.2.2.2.1=.ptr 1 0/\S.2.2.2.2.2.2.1=.ptr 2 0/\S.2.2.2.2.2.2.2.1=.ptr 3 0/\S.2.2.2.2.2.2.2.2.2.2.2.2.2.2.2.2.2.2.2.2.2.2.2.2.2.2.2.2.1=X0/\S.2.2.2.2.2.2.2.2.2.2.2.2.2.2.2.2.2.2.2.2.2.2.2.2.2.2.2.2.2.1=tN sp.length/\S.2.2.2.2.2.2.2.2.2.2.2.2.2.2.2.2.2.2.2.2.2.2.2.2.2.2.2.2.2.2.1=tN j /\
    H1=Lg a b th dd w h sp (Xj 3 1 ((pre:List Nat).map tN))/\j<=sp.length/\k=sp.length - j/\pre.length=j/\sp.map (Br w h)=pre++(sp.drop j).map (Br w h))
   (λS H1=>S.2.1=tK .u8 one/\S.2.2.1=tK .u8 two/\S.2.2.2.2.2.1=.ptr 1 0/\S.2.2.2.2.2.2.1=.ptr 2 0/\S.2.2.2.2.2.2.2.1=.ptr 3 0/\H1=Lg a b th dd w h sp (Xj 3 1 ((sp.map (Br w h)).map tN))) (λ_ _=>False) ?_ (by rw [Yg];omega)
   ⟨0,[],rfl,rfl,rfl,rfl,rfl,rfl,rfl,rfl,rfl,Nat.zero_le _,rfl,rfl,rfl⟩ ?_ (λ_ _ h=>h.elim)
  ·rintro k S H1 ⟨j,pre,g1,g2,g5,g6,g7,g28,g29,g30,g31,hj,rfl,Ns,Ae⟩;rw [g31];rcases Nat.eq_or_lt_of_le hj with hj |hj
   ·rw [hj,List.drop_length] at Ae;have Ae:sp.map (Br w h)=pre:=by rw [Ae];exact List.append_nil _
    simp only [VV,g1,g2,g5,g6,g7,g28,g29,g30,xst,Ql,Kf (Nat.le_of_eq hj.symm)];exact .fin (.inr (.inl ⟨rfl,rfl,rfl,rfl,rfl,rfl,by rw [Ae]⟩))
   ·obtain ⟨c,hc⟩:∃ c,c=sp[j]:=⟨_,rfl⟩;have ar:c < 16:=by rw [hc];exact hsplt _ (List.getElem_mem hj)
    have xij:=xix j hj;rw [<- hc] at xij;rw [List.drop_eq_getElem_cons hj,<- hc,List.map_cons] at Ae;have Ae:sp.map (Br w h)=(pre++[Br w h c])++(sp.drop (j+1)).map (Br w h):=by rw [Ae,List.append_assoc];rfl
    obtain ⟨o,ho,ltk⟩:=Zjt (a:=a) (b:=b) (th:=th) (dd:=dd) (w:=w) (h:=h) (sp:=sp) pre;have lf:∀ {β:Type} (k:TV->TH->Option β),loadT .Xi 0 0 false 1 (Lg a b th dd w h sp o) (.ptr 2 0) k=k toF (Lg a b th dd w h sp o):=λk=>Zx (cs:=[toF]) rfl rfl rfl rfl;have hno:=C4 (a:=a) (b:=b) (th:=th) (dd:=dd) (w:=w) (h:=h) (sp:=sp) ho;have Xn:∀ {β:Type} (k:TV->TH->Option β),Xd TC (tc 85) (Zb (Lg a b th dd w h sp o)) toF [tN c] (Lg a b th dd w h sp o) k=k (tN (Br w h c)) (Lg a b th dd w h sp o):=λk=>Yo rfl (Zdh 84 _ w1 w8 y8 (by omega) rfl)
    have Sr:Yf 1 [0] [tN (Br w h c)] (Y5 [tN 0] 1)=some [tN (Br w h c)]:=rfl;have Ag:∀ {β:Type} {H:TH} (k:TV->TH->Option β),X6 0 H 3 1 8 (Xj 3 1 (pre.map tN)) (.row .full (.own 3) 1 [tN (Br w h c)]) k=k (Xj 3 1 ((pre++[Br w h c]).map tN)) H:=λk=>Zhu (by omega) k
    have sto:=Zeo (a:=a) (b:=b) (th:=th) (dd:=dd) (w:=w) (h:=h) (sp:=sp) (o:=o) (pre++[Br w h c]);have a3:Z0 (.int .i64 (.ofNat j)) (.int .i64 (.ofNat 1))=some (.int .i64 (.ofNat (j+1))):=X9 (by omega)
    simp only [VV,g1,g2,g5,g6,g7,g28,g29,g30,xst,Ql,Xo hj,xij,Ku (cs:=Zy (tN c)) (off:=0) rfl,ltk,lf,hno,Xn,Sr,Ag,sto,a3];exact .fin (.inl ⟨rfl,sp.length - (j+1),by omega,j+1,pre++[Br w h c],rfl,rfl,rfl,rfl,rfl,rfl,rfl,rfl,rfl,hj,rfl,by rw [List.length_append,Ns];rfl,Ae⟩)
  ·rintro S H1 ⟨g1,g2,g5,g6,g7,g8⟩;rw [g8];obtain ⟨M,XM,cm,nm,mok,hsort⟩:=Zl2 (a:=a) (b:=b) (th:=th) (dd:=dd) (w:=w) (h:=h) (sp:=sp) 80 hspl;obtain ⟨hM1,hM2,hM3,hnoM,hown,Ut,hinT,hszM,h4M⟩:=mok;rw [Zgi];refine Qg.sq (Q1:=λe S H2=>e=.normal/\S.2.1=tK .u8 one/\S.2.2.1=tK .u8 two/\S.2.2.2.2.2.1=.ptr 1 0/\S.2.2.2.2.2.2.1=.ptr 2 0/\S.2.2.2.2.2.2.2.1=.ptr 3 0/\H2=M) ?_ ?_ (λi S H h=>by cases h.1) (λS H h=>by cases h.1)
   ·simp only [VV,g1,g2,g5,g6,g7];rw [hsort];exact .fin ⟨rfl,rfl,rfl,rfl,rfl,rfl,rfl⟩
   ·rintro S H2 ⟨_,g1,g2,g5,g6,g7,g8⟩;rw [g8];have lS:∀ {β:Type} (md:Ld) (k:TV->TH->Option β),loadT md 0 0 true 3 M (.ptr 1 0) k=k (tS w h (om (sp.map tN)) (zf 1 (sp.map tN)) sp) M:=λmd k=>Xw hM1 (by simp) rfl
    have hany:[tN h,tN w,XM].any Xs=false:=by show (false || (false || (Xs XM || false)))=false;rw [hown];rfl
    have lM:∀ {β:Type} (md:Ld) (k:TV->TH->Option β),loadT md 0 0 true 3 M (.ptr 3 0) k=k (.agg [tN h,tN w,XM]) M:=λmd k=>Xw hM3 (by simp) hany
    have hin1:∀ M',(∀ i,i < Zb M->M'[i]? = M[i]?)->qm M' [.agg [tN h,tN w,XM]]=some [tS h w cm nm (V6 w h sp)]:=λM' hM'=>by
     show Zf (inT M' (.agg [tN h,tN w,XM])) (λy=>Zf (some []) λl=>some (y::l))=_;rw [hinT M' hM'];rfl
    have c1:∀ H,Zm (tc 85) 16 [tS w h (om (sp.map tN)) (zf 1 (sp.map tN)) sp] H=some (.Xh [tN m,tN 0]):=λH=>Zk8 63 ok hspn h1
    have c2:Zm (tc 85) 16 [.agg [tN h,tN w,XM]] M=some (.Xh [tN m,tN 0]):=
     Yc (hin1 M λ_ _=>rfl) rfl (Zc7 63 0 ok2 hszM (Nat.zero_le _) h2) rfl
    have c3:∀ H,Zm (tc 85) 21 [tS w h (om (sp.map tN)) (zf 1 (sp.map tN)) sp] H=some (.Xh [tN r1.1.2,tN 0]):=λH=>Zfx 64 ok hspn h3
    have c4:Zm (tc 85) 21 [.agg [tN h,tN w,XM]] M=some (.Xh [tN r1.1.2,tN 0]):=by
     rw [h5];exact Yc (hin1 M λ_ _=>rfl) rfl (pc 64 0 ok2 hszM (Nat.zero_le _) h4) rfl
    obtain ⟨ci,ni,c5,hni⟩:∃ ci ni,(∀ H,Zm (tc 85) 23 [tS w h (om (sp.map tN)) (zf 1 (sp.map tN)) sp] H=some (.Xh [.row ci .set ni (x.map tN),tN 0]))/\(x≠[]->ni=1):=by
     obtain ⟨ci,ni,q1,q2⟩:=Zk9 59 (H:=[]) (c:=om (sp.map tN)) ok hspn h1 hs1;rw [<- hx] at q1 q2;refine ⟨ci,ni,λH=>?_,q2⟩;rw [<- q1];rfl
    obtain ⟨cj,nj,c6,hnj⟩:∃ cj nj,Zm (tc 85) 23 [.agg [tN h,tN w,XM]] M=some (.Xh [.row cj .set nj (y.map tN),tN 0])/\(y≠[]->nj=1):=by
     obtain ⟨v,H',cj,nj,q1,q2,q3⟩:=Zc8 59 (c:=cm) ok2 hszM h2 hs2;rw [<- hy] at q2 q3;exact ⟨cj,nj,Yc (hin1 M λ_ _=>rfl) rfl q1 (q2 _),q3⟩
    have hT:∀ (c:Cp) (n:Nat) (es:List TV),Fv (.row c .set n es)=.row c .set n es:=λ_ _ _=>rfl;have em:Qn (.ofNat m) (.ofNat m)=true:=Nat.beq_refl m;have ec:Qn (.ofNat r1.1.2) (.ofNat r1.1.2)=true:=Nat.beq_refl _;have lx:Zb (x.map tN)=x.length:=by rw [Zz,List.length_map]
    have ly:Zb (y.map tN)=x.length:=by rw [Zz,List.length_map,hxy]
    have el:Qn (.ofNat x.length) (.ofNat x.length)=true:=Nat.beq_refl _;simp only [VV,g1,g2,g5,g6,g7,lS,lM,Ut,hT,c1,c2,c3,c4,c5,c6,vu,vt,j5,q0,em,ec,lx,ly,el,Bool.not_true,Bool.not_false]
    refine Qg.su (k:=x.length) (λk S H3=>∃ j,S.2.1=tK .u8 one/\S.2.2.1=tK .u8 two/\S.2.2.2.2.2.1=.ptr 1 0/\S.2.2.2.2.2.2.1=.ptr 2 0/\S.2.2.2.2.2.2.2.1=.ptr 3 0/\S.2.2.2.2.2.2.2.2.2.2.2.2.2.2.2.2.2.2.2.1=.row cj .set nj (y.map tN)/\S.2.2.2.2.2.2.2.2.2.2.2.2.2.2.2.2.2.2.2.2.2.2.2.2.2.2.2.2.2.2.2.2.2.1=.row ci .set ni (x.map tN)/\S.2.2.2.2.2.2.2.2.2.2.2.2.2.2.2.2.2.2.2.2.2.2.2.2.2.2.2.2.2.2.2.2.2.2.1=tN x.length/\S.2.2.2.2.2.2.2.2.2.2.2.2.2.2.2.2.2.2.2.2.2.2.2.2.2.2.2.2.2.2.2.2.2.2.2.1=tN j/\H3=M/\j<=x.length/\k=x.length - j)
     (λS H3=>S.2.1=tK .u8 one/\S.2.2.1=tK .u8 two/\S.2.2.2.2.2.1=.ptr 1 0/\S.2.2.2.2.2.2.1=.ptr 2 0/\S.2.2.2.2.2.2.2.1=.ptr 3 0/\H3=M) (λ_ _=>False) ?_ (by rw [Yg];omega)
     ⟨0,rfl,rfl,rfl,rfl,rfl,rfl,rfl,rfl,rfl,rfl,Nat.zero_le _,rfl⟩ ?_ (λ_ _ h=>h.elim)
    ·rintro k S H3 ⟨j,g1,g2,g5,g6,g7,ux,g33,g34,g35,g36,hj,rfl⟩;rw [g36];rcases Nat.eq_or_lt_of_le hj with hj |hj
     ·simp only [VV,g1,g2,g5,g6,g7,ux,g33,g34,g35,Ql,Kf (Nat.le_of_eq hj.symm)];exact .fin (.inr (.inl ⟨rfl,rfl,rfl,rfl,rfl,rfl,rfl⟩))
     ·obtain ⟨c,hc⟩:∃ c,c=x[j]:=⟨_,rfl⟩;obtain ⟨hcn,hcy⟩:=hxc c (by rw [hc];exact List.getElem_mem hj)
      have hxne:x≠[]:=λe=>by rw [e] at hj;simp at hj
      have hyne:y≠[]:=λe=>by rw [e] at hcy;cases hcy
      obtain rfl:ni=1:=hni hxne;obtain rfl:nj=1:=hnj hyne;have J8:(x.map tN)[j]? = some (tN c):=by rw [List.getElem?_map,List.getElem?_eq_getElem hj,hc];rfl
      have lw:∀ {β:Type} (k:TV->TH->Option β),loadT .Xi 0 0 false 1 M (.ptr 1 (0+0)) k=k (tN w) M:=λk=>Zx hM1 rfl rfl rfl;have lh:∀ {β:Type} (k:TV->TH->Option β),loadT .Xi 0 0 false 1 M (.ptr 1 (0+1)) k=k (tN h) M:=λk=>Zx hM1 rfl rfl rfl;have lf:∀ {β:Type} (k:TV->TH->Option β),loadT .Xi 0 0 false 1 M (.ptr 2 0) k=k toF M:=λk=>Zx hM2 rfl rfl rfl;have z1:Y2 (.int .i64 (.ofNat w)) (.int .i64 (.ofNat h))=some (.int .i64 (.ofNat (w * h))):=M7 (by omega)
      have Xn:∀ {β:Type} (k:TV->TH->Option β),Xd TC (tc 85) 0 toF [tN c] M k=k (tN (Br w h c)) M:=λk=>Yo rfl (Zdh 84 _ w1 w8 y8 (by omega) hM1)
      have hcn2:Zm (tc 85) 64 [.row cj .set 1 (y.map tN),tN (Br w h c)] M=some (tB true):=by
       rw [<- hcy];exact Yc (ws:=[.row cj .set 1 (y.map tN),tN (Br w h c)]) (H':=[]) rfl rfl (Gy 83 0 (λ_=>rfl) (by omega)) L7
      have b0:Nat.blt c 0=false:=Kf (Nat.zero_le _);have b1:Nat.blt c (w * h)=true:=Xo hcn;have a3:Z0 (.int .i64 (.ofNat j)) (.int .i64 (.ofNat 1))=some (.int .i64 (.ofNat (j+1))):=X9 (by omega)
      simp only [VV,g1,g2,g5,g6,g7,ux,g33,g34,g35,Ql,Hq,Xo hj,Qe J8,Ku (cs:=Zy (tN c)) (off:=0) rfl,b0,b1,lw,lh,z1,lf,Xn,hcn2,Bool.not_true,Bool.not_false,a3];exact .fin (.inl ⟨rfl,x.length - (j+1),by omega,j+1,rfl,rfl,rfl,rfl,rfl,rfl,rfl,rfl,rfl,rfl,hj,rfl⟩)
    ·rintro S H3 ⟨g1,g2,g5,g6,g7,g8⟩;rw [g8]
     have c7:∀ H,Zm (tc 85) 68 [tS w h (om (sp.map tN)) (zf 1 (sp.map tN)) sp] H=some (rS 1 (al.map rQ)):=λH=>by
      rw [Ze2];exact Zis 65 ok hspn (by omega)
     have c8:∀ H,Zm (tc 85) 67 [tS w h (om (sp.map tN)) (zf 1 (sp.map tN)) sp] H=some (tB (Mf w h (Vk w h sp))):=λH=>Zew 80 ok hspn;have lal:Zb (al.map rQ)=al.length:=by rw [Zz,List.length_map]
     rw [<- Ze2] at Hi xu;have e1:Qn (.ofNat al.length) (.ofNat 0)=Nat.beq al.length 0:=rfl;cases hhb:Mf w h (Vk w h sp) with
     |true=>
      rw [hhb] at c8;simp only [VV,g1,g2,g5,g6,g7,lS,c7,c8,Bool.not_false,Bool.not_true,Sm];exact .fin ⟨rfl,rfl⟩
     |false=>
      rw [hhb] at c8;rcases Hi with hnil |hbad |⟨⟨hwh1,hwh2⟩,Zon,K,hsaw⟩
      ·have e2:Nat.beq al.length 0=true:=by rw [hnil];rfl
       simp only [VV,g1,g2,g5,g6,g7,lS,c7,c8,Bool.not_false,Bool.not_true,lal,e1,e2,Sm];exact .fin ⟨rfl,rfl⟩
      ·rw [hhb] at hbad;cases hbad
      ·cases hz:Nat.beq al.length 0 with
       |true=>
        simp only [VV,g1,g2,g5,g6,g7,lS,c7,c8,Bool.not_false,Bool.not_true,lal,e1,hz,Sm];exact .fin ⟨rfl,rfl⟩
       |false=>
        have Zbx:0 < al.length:=by
         rcases Nat.eq_zero_or_pos al.length with h0 |h0
         ·rw [h0] at hz;cases hz
         ·exact h0
        have hrs:rS 1 (al.map rQ)=.row .Jf .set 1 (al.map rQ):=by
         cases al with
         |nil=>simp at Zbx
         |cons=>rfl
        rw [hrs] at c7;have hk1:one % al.length < al.length:=Nat.mod_lt _ Zbx;have hk2:two % al.length < al.length:=Nat.mod_lt _ Zbx;obtain ⟨v,hv⟩:∃ v,v=al[one % al.length]:=⟨_,rfl⟩;obtain ⟨u,hu⟩:∃ u,u=al[two % al.length]:=⟨_,rfl⟩;have Sr:(al.map rQ)[one % al.length]? = some (rQ v):=by rw [List.getElem?_map,List.getElem?_eq_getElem hk1,hv];rfl
        have hel2:(al.map rQ)[two % al.length]? = some (rQ u):=by rw [List.getElem?_map,List.getElem?_eq_getElem hk2,hu];rfl
        obtain ⟨v1,v2,v3,v4,rv,qv,v5,v6,v7,v8,v9⟩:=hsaw v (by rw [hv];exact List.getElem_mem hk1)
        obtain ⟨u1,u2,u3,u4,ru,qu,u5,u6,u7,u8,u9⟩:=hsaw u (by rw [hu];exact List.getElem_mem hk2)
        have hrv:rQ v=rB .Jf 2 v:=by
         cases v with
         |nil=>exact absurd rfl v1
         |cons=>rfl
        have hru:rQ u=rB .Jf 2 u:=by
         cases u with
         |nil=>exact absurd rfl u1
         |cons=>rfl
        rw [hrv] at Sr;rw [hru] at hel2;have z1:Ki .i64 (.int .u8 (.ofNat one))=some (.int .i64 (.ofNat one)):=vo .u8 (by omega)
        have z2:Ki .i64 (.int .u8 (.ofNat two))=some (.int .i64 (.ofNat two)):=vo .u8 (by omega)
        have z3:Y1 (.int .i64 (.ofNat one)) (.int .i64 (.ofNat al.length))=some (.int .i64 (.ofNat (one % al.length))):=Gu Zbx;have z4:Y1 (.int .i64 (.ofNat two)) (.int .i64 (.ofNat al.length))=some (.int .i64 (.ofNat (two % al.length))):=Gu Zbx
        have t1:∀ H,Zm (tc 85) 40 [tS w h (om (sp.map tN)) (zf 1 (sp.map tN)) sp,rB .Jf 2 v,rB .Jf 2 u] H=some (.Xh [tN (O9 rv.1 ru.1 / 4),tN 0]):=λH=>
         Zdf 0 ok hspn (λ_=>rfl) (λ_=>rfl) (by omega) (by omega) (λq hq=>by have:=v3 q hq;omega) (λq hq=>by have:=u3 q hq;omega) hwh1 v5 u5 v7 u7
        obtain ⟨bu,M1,m1,m2,m3,m4,m5,m6⟩:=ei 77 (Zb M) (c:=.Jf) (m:=2) (v:=u) (H:=M) w1 w8 y8 (Nat.le_refl _) u1 rfl u2 (λq hq=>by have:=u3 q hq;omega) hM1 hM2 hnoM
        obtain ⟨bv,M2,p1,p2,p3,p4,p5,p6⟩:=ei 77 (Zb M1) (c:=.Jf) (m:=2) (v:=v) (H:=M1) w1 w8 y8 (Nat.le_refl _) v1 rfl v2 (λq hq=>by have:=v3 q hq;omega) ((m3 _ (Uw hM1)).trans hM1) ((m3 _ (Uw hM2)).trans hM2) m4
        have k1:∀ {β:Type} (k:TV->TH->Option β),Xd TC (tc 85) (Zb M) (.fn (.func 84) [] [.ptr 2 0]) [rB .Jf 2 u] M k=k (.vec bu 0 u.length (Xk+2) 2 true) M1:=λk=>Yo rfl m1;have k2:∀ {β:Type} (k:TV->TH->Option β),Xd TC (tc 85) (Zb M1) (.fn (.func 84) [] [.ptr 2 0]) [rB .Jf 2 v] M1 k=k (.vec bv 0 v.length (Xk+2) 2 true) M2:=λk=>Yo rfl p1;have hbu:M2[bu]? = some (.cells (Qi ((Aa w h u).map tQ))):=(p3 _ (Uw m2)).trans m2
        have inV:∀ {b':Nat} {z:List (Nat×Nat)},z.length<=12->M2[b']? = some (.cells (Qi ((Aa w h z).map tQ)))->inC M2 (.vec b' 0 z.length (Xk+2) 2 true)=some (rB .Jf 2 (Aa w h z)):=λ{b' z} hz ur=>by
         have hu:=Lc;have hr:=Zmq ur;rw [km] at hr;show Zf (Un M2 b' 0 z.length 2 true) (λes=>Zp (Ms z.length (Xk+2) 2) (some (TV.row (cond (Nat.beq z.length (Xk+2)) .full .Jf) .set 2 es)))=_
         have q1:Ms z.length (Xk+2) 2=true:=by
          unfold Ms;rw [Nat.ble_eq_true_of_le (by omega),Uj (show Xk+2=Nat.add Xk 2 from rfl)]
          show Nat.blt z.length Xk=true;rw [Nat.blt_eq];omega
         have q2:Nat.beq z.length (Xk+2)=false:=Wm (by omega)
         rw [hr,q1,q2];rfl
        have hins:qm M2 [.agg [tN h,tN w,XM],.vec bu 0 u.length (Xk+2) 2 true,.vec bv 0 v.length (Xk+2) 2 true]=some [tS h w cm nm (V6 w h sp),rB .Jf 2 (Aa w h u),rB .Jf 2 (Aa w h v)]:=by
         show Zf (inT M2 (.agg [tN h,tN w,XM])) (λy=>Zf (Zf (inC M2 (.vec bu 0 u.length (Xk+2) 2 true)) λy=>Zf (Zf (inC M2 (.vec bv 0 v.length (Xk+2) 2 true)) λy=>Zf (some []) λl=>some (y::l)) λl=>some (y::l)) λl=>some (y::l))=_;rw [hinT M2 (λi hi=>(p3 i (by omega)).trans (m3 i hi)),inV u2 hbu,inV v2 p2];rfl
        have hsum:O9 qu.1 qv.1=O9 rv.1 ru.1:=Zdl (n:=(w+1) * (h+1)) Zon rfl v9 u9 v7.1 u7.1 (by rw [v8.1,Nat.mul_comm]) (by rw [u8.1,Nat.mul_comm])
        have t2:Zm (tc 85) 40 [.agg [tN h,tN w,XM],.vec bu 0 u.length (Xk+2) 2 true,.vec bv 0 v.length (Xk+2) 2 true] M2=some (.Xh [tN (O9 rv.1 ru.1 / 4),tN 0]):=by
         obtain ⟨H',hr⟩:=gq 0 (c:=cm) (ca:=.Jf) (cb:=.Jf) (ma:=2) (mb:=2) (a:=Aa w h u) (b:=Aa w h v) ok2 hszM (λ_=>rfl) (λ_=>rfl) (by rw [km];omega) (by rw [km];omega) (λq hq=>by have:=u4 q hq;omega) (λq hq=>by have:=v4 q hq;omega) hwh2 u6 v6 u8 v8
         rw [hsum] at hr;exact Yc hins rfl hr rfl
        have es:Qn (.ofNat (O9 rv.1 ru.1 / 4)) (.ofNat (O9 rv.1 ru.1 / 4))=true:=Nat.beq_refl _;simp only [VV,g1,g2,g5,g6,g7,lS,c7,c8,Bool.not_false,Bool.not_true,lal,e1,hz,z1,z2,z3,z4,Qe Sr,Qe hel2,Ku (cs:=Zy (rB .Jf 2 v)) (off:=0) rfl,Ku (cs:=Zy (rB .Jf 2 u)) (off:=0) rfl,t1,lM,Ut,hnoM,k1,m4,k2,t2,vu,vt,j5,q0,es,Sm];exact .fin ⟨rfl,rfl⟩
 obtain ⟨e,S,H1,g1,rfl,g2⟩:=key;show ∃ H',Za (C14 (tc 85) 0 0 (.agg [tK .u8 a,tK .u8 b,tK .u8 th,tK .u16 dd],tK .u8 one,tK .u8 two,Zk,Zk,Zk,Zk,Zk,Zk,Zk,Zk,Zk,Zk,Zk,Zk,Zk,Zk,Zk,Zk,Zk,Zk,Zk,Zk,Zk,Zk,Zk,Zk,Zk,Zk,Zk,Zk,Zk,Zk,Zk,Zk,Zk,Zk,Zk,Zk,()) []) _=some (tB true,H');rw [g1];simp only [Yy,Jm,g2,Wj Vw X8];exact ⟨_,rfl⟩
end
end Go.Proofs.YtgemobbfikjmoaaGreatDoor
namespace Go.Proofs.YtgemobbfikjmoaaGreatDoor
open Go Go.Ev
set_option maxRecDepth 100000
noncomputable section
def Li (X i:Nat):Nat:=Nat.mod (Nat.shiftRight X (Nat.mul 12 i)) 4096
theorem Nf (X i j:Nat):(Li X i).testBit j=(decide (j < 12) && X.testBit (12 * i+j)):=by
 show ((X >>> (12 * i)) % 2 ^ 12).testBit j=_;rw [Nat.testBit_mod_two_pow,Nat.testBit_shiftRight]
theorem dig_lt (X i:Nat):Li X i < 4096:=Nat.mod_lt _ (by decide)
theorem Zpp {X c t:Nat} (ht:t < 4096) (h0:Li X c=0):Li (Nat.lor X (Nat.shiftLeft t (Nat.mul 12 c))) c=t:=by
 refine Nat.eq_of_testBit_eq λj=>?_;have hx:=Nf X c j;rw [h0,Nat.zero_testBit] at hx;rw [Nf];show (decide (j < 12) && (X ||| (t <<< (12 * c))).testBit (12 * c+j))=_
 rw [Nat.testBit_or,Nat.testBit_shiftLeft]
 by_cases hj:j < 12
 ·rw [decide_eq_true hj,Bool.true_and] at hx;rw [decide_eq_true hj,<- hx,decide_eq_true (show 12 * c+j ≥ 12 * c by omega),show 12 * c+j - 12 * c=j by omega];simp
 ·rw [decide_eq_false hj,Nat.testBit_lt_two_pow (Nat.lt_of_lt_of_le ht (Nat.pow_le_pow_right (by decide) (show 12<=j by omega):2 ^ 12<=2 ^ j))];rfl
theorem oh {X c t i:Nat} (ht:t < 4096) (hi:i≠c):Li (Nat.lor X (Nat.shiftLeft t (Nat.mul 12 c))) i=Li X i:=by
 refine Nat.eq_of_testBit_eq λj=>?_;rw [Nf,Nf];show (decide (j < 12) && (X ||| (t <<< (12 * c))).testBit (12 * i+j))=_
 rw [Nat.testBit_or,Nat.testBit_shiftLeft]
 by_cases hj:j < 12
 ·rw [decide_eq_true hj]
  have e:(decide (12 * i+j ≥ 12 * c) && t.testBit (12 * i+j - 12 * c))=false:=by
   by_cases hge:12 * i+j ≥ 12 * c
   ·rw [Nat.testBit_lt_two_pow (Nat.lt_of_lt_of_le ht (Nat.pow_le_pow_right (by decide) (show 12<=12 * i+j - 12 * c by omega):2 ^ 12<=2 ^ (12 * i+j - 12 * c))),Bool.and_false]
   ·rw [decide_eq_false hge];rfl
  rw [e,Bool.or_false]
 ·rw [decide_eq_false hj];rfl
theorem ab (K c i:Nat):El (Nat.lor K (Nat.pow 2 c)) i=(El K i || decide (c=i)):=by
 rw [jg,jg];show (K ||| 2 ^ c).testBit i=_
 rw [Nat.testBit_or,Nat.testBit_two_pow]
def vj (X K i:Nat):Int:=cond (El K i) ((Li X i:Int) - 2048) 0
structure Du (n:Nat) (st:Ds) (X K:Nat):Prop where
 l1:st.1.length=n
 l2:st.2.length=n
 kn:∀ i,i < n->st.2[i]? = some (El K i)
 ht:∀ i,i < n->st.1[i]? = some (vj X K i)
 zr:∀ i,El K i=false->Li X i=0
theorem Du.put {n:Nat} {st:Ds} {X K c t:Nat} (h:Du n st X K) (hc:c < n) (hk:El K c=false) (ht:t < 4096) :
  Du n (st.1.set c ((t:Int) - 2048),st.2.set c true) (Nat.lor X (Nat.shiftLeft t (Nat.mul 12 c))) (Nat.lor K (Nat.pow 2 c)):=by
 refine ⟨by rw [List.length_set];exact h.l1,by rw [List.length_set];exact h.l2,λi hi=>?_,λi hi=>?_,λi hi=>?_⟩
 ·show (st.2.set c true)[i]? = _;rw [List.getElem?_set,ab]
  by_cases e:c=i
  ·subst e;rw [if_pos rfl,if_pos (by rw [h.l2];exact hc),decide_eq_true rfl,Bool.or_true]
  ·rw [if_neg e,h.kn i hi,decide_eq_false e,Bool.or_false]
 ·show (st.1.set c ((t:Int) - 2048))[i]? = _;unfold vj;rw [List.getElem?_set,ab]
  by_cases e:c=i
  ·subst e;rw [if_pos rfl,if_pos (by rw [h.l1];exact hc),decide_eq_true rfl,Bool.or_true,Zpp ht (h.zr c hk)];rfl
  ·rw [if_neg e,h.ht i hi,decide_eq_false e,Bool.or_false,oh ht (λe'=>e e'.symm)];rfl
 ·rw [ab,Bool.or_eq_false_iff] at hi;have e:i≠c:=λe=>by rw [e,decide_eq_true rfl] at hi;cases hi.2
  rw [oh ht e];exact h.zr i hi.1
def okN (n c t:Nat):Bool:=cond (Nat.blt c n) (cond (Nat.blt 1048 t) (Nat.blt t 3048) false) false
theorem Zd8 {n c t:Nat} (h:okN n c t=true):c < n/\1048 < t/\t < 3048:=by
 unfold okN at h;cases h1:Nat.blt c n with
 |false=>rw [h1] at h;cases h
 |true=>
  rw [h1] at h;cases h2:Nat.blt 1048 t with
  |false=>rw [h2] at h;cases h
  |true=>
   rw [h2] at h;have h:Nat.blt t 3048=true:=h;rw [Nat.blt_eq] at h h1 h2;exact ⟨h1,h2,h⟩
theorem Zgu {n c t:Nat} {st:Ds} {X K:Nat} (h:okN n c t=true) (hr:Du n st X K):okH n c ((t:Int) - 2048) st=true:=by
 obtain ⟨h1,h2,h3⟩:=Zd8 h;unfold okH;rw [Xo h1,hr.l1,hr.l2,Nat.beq_refl,V7,V7,decide_eq_true (show (t:Int) - 2048 < Int.ofNat 1000 by show (t:Int) - 2048 < 1000;omega),decide_eq_true (show Int.negSucc 1000 < (t:Int) - 2048 by show (-1001:Int) < (t:Int) - 2048;omega)]
 rfl
def upB (w c:Nat):Bool:=Nat.beq ((c % (w+1)+c / (w+1)) % 2) 0
def Zgm (w c t:Nat):Nat:=cond (upB w c) (Nat.succ t) (Nat.pred t)
def Zhh (w c t:Nat):Nat:=cond (upB w c) (Nat.pred t) (Nat.succ t)
theorem Zgl {w c t:Nat} (ht:1<=t):(t:Int) - 2048+Kw w c=((Zgm w c t:Nat):Int) - 2048:=by
 unfold Kw Zgm upB;cases Nat.beq ((c % (w+1)+c / (w+1)) % 2) 0 with
 |true=>show (t:Int) - 2048+1=((t+1:Nat):Int) - 2048;omega
 |false=>show (t:Int) - 2048+(-1)=((t - 1:Nat):Int) - 2048;omega
theorem Zhg {w c t:Nat} (ht:1<=t):(t:Int) - 2048 - Kw w c=((Zhh w c t:Nat):Int) - 2048:=by
 unfold Kw Zhh upB;cases Nat.beq ((c % (w+1)+c / (w+1)) % 2) 0 with
 |true=>show (t:Int) - 2048 - 1=((t - 1:Nat):Int) - 2048;omega
 |false=>show (t:Int) - 2048 - (-1)=((t+1:Nat):Int) - 2048;omega
abbrev Nv:=Nat×Nat
def mf (w h g:Nat) (bl:List (Nat×Nat)) (c:Nat) (down:Bool):Bool:=
 cond (Sj (Za5 (My w h g c down).1 (My w h g c down).2)) (!Iy (cr (My w h g c down)) bl) false
def gx (go:Nat->Nat->Nat->Nat->Option Nv) (w h g:Nat) (bl:List (Nat×Nat)) (to c:Nat) (down:Bool) (t X K:Nat):Option Nv:=
 cond (okN ((w+1) * (h+1)) to t) (cond (cond (El K to) false (mf w h g bl c down)) (go to t X K) (some (X,K))) none
def sf (b:Bool) (x:Option Nv) (X K:Nat):Option Nv:=cond b x (some (X,K))
def Zhq (x:Option Nv) (k:Nat->Nat->Option Nv):Option Nv:=match x with |none=>none |some p=>k p.1 p.2
def Zf4 (go:Nat->Nat->Nat->Nat->Option Nv) (w h g:Nat) (bl:List (Nat×Nat)) (c t X K:Nat):Option Nv:=
 Zhq (sf (Nat.blt (c % (w+1)) w) (gx go w h g bl (c+1) c false (Zgm w c t) X K) X K) λX K=>
 Zhq (sf (Nat.blt (c / (w+1)) h) (gx go w h g bl (c+w+1) c true (Zhh w c t) X K) X K) λX K=>
 Zhq (sf (Nat.blt 0 (c % (w+1))) (gx go w h g bl (c - 1) (c - 1) false (Zhh w (c - 1) t) X K) X K) λX K=>
 sf (Nat.blt 0 (c / (w+1))) (gx go w h g bl (c - w - 1) (c - w - 1) true (Zgm w (c - w - 1) t) X K) X K
def n9 (w h g:Nat) (bl:List (Nat×Nat)):Nat->Nat->Nat->Nat->Nat->Option Nv
 |0,_,_,_,_=>none
 |f+1,c,t,X,K=>cond (okN ((w+1) * (h+1)) c t) (Zf4 (n9 w h g bl f) w h g bl c t (Nat.lor X (Nat.shiftLeft t (Nat.mul 12 c))) (Nat.lor K (Nat.pow 2 c))) none
section
variable {w h g n:Nat} {bl:List (Nat×Nat)}
def GoR (n:Nat) (go:Nat->Nat->Nat->Nat->Option Nv) (goF:Nat->Int->Ds->Option Ds):Prop:=
 ∀ c t X K st p,El K c=false->Du n st X K->go c t X K=some p->∃ qg,goF c ((t:Int) - 2048) st=some qg/\Du n qg p.1 p.2
theorem Fs {go:Nat->Nat->Nat->Nat->Option Nv} {goF:Nat->Int->Ds->Option Ds} (hn:(w+1) * (h+1)=n) (Qx:GoR n go goF) {to c t X K:Nat} {down:Bool} {st:Ds} {p:Nv} (hr:Du n st X K)
  (hs:gx go w h g bl to c down t X K=some p):∃ qg,Wd goF w h g bl to c down ((t:Int) - 2048) st=some qg/\Du n qg p.1 p.2:=by
 unfold gx at hs;unfold Wd;rw [hn] at hs ⊢;cases ho:okN n to t with
 |false=>rw [ho] at hs;cases hs
 |true=>
  rw [ho] at hs;rw [Zgu ho hr];have hk:st.2[to]?.getD false=El K to:=by rw [hr.kn to (Zd8 ho).1];rfl
  have hf:mg w h g bl st.2 to c down=cond (El K to) false (mf w h g bl c down):=by
   unfold mg mf;rw [hk];cases Sj (Za5 (My w h g c down).1 (My w h g c down).2) <;> cases El K to <;> rfl
  rw [hf];have hs:cond (cond (El K to) false (mf w h g bl c down)) (go to t X K) (some (X,K))=some p:=hs;show ∃ qg,cond (cond (El K to) false (mf w h g bl c down)) (goF to ((t:Int) - 2048) st) (some st)=some qg/\Du n qg p.1 p.2;cases hkt:El K to with
  |true=>rw [hkt] at hs;cases hs;exact ⟨st,rfl,hr⟩
  |false=>
   rw [hkt] at hs;cases hfs:mf w h g bl c down with
   |false=>rw [hfs] at hs;cases hs;exact ⟨st,rfl,hr⟩
   |true=>rw [hfs] at hs;exact Qx to t X K st p hkt hr hs
theorem Fo {b:Bool} {x:Option Nv} {y:Option Ds} {X K:Nat} {st:Ds} {p:Nv} (hr:Du n st X K) (hx:∀ p,x=some p->∃ qg,y=some qg/\Du n qg p.1 p.2) (h:sf b x X K=some p) :
  ∃ qg,Gb b y st=some qg/\Du n qg p.1 p.2:=by
 cases b with
 |true=>exact hx p h
 |false=>cases h;exact ⟨st,rfl,hr⟩
theorem wc {x:Option Nv} {y:Option Ds} {k:Nat->Nat->Option Nv} {kF:Ds->Option Ds} {p:Nv} (hx:∀ p,x=some p->∃ qg,y=some qg/\Du n qg p.1 p.2)
  (hk:∀ X K st p,Du n st X K->k X K=some p->∃ qg,kF st=some qg/\Du n qg p.1 p.2) (h:Zhq x k=some p):∃ qg,P2 y kF=some qg/\Du n qg p.1 p.2:=by
 cases x with
 |none=>cases h
 |some q=>
  obtain ⟨qg,h1,h2⟩:=hx q rfl;rw [h1];exact hk q.1 q.2 qg p h2 h
theorem n8 (hn:(w+1) * (h+1)=n):∀ f,GoR n (n9 w h g bl f) (Wc w h g bl f)
 |0,_,_,_,_,_,_,_,_,h=>by cases h
 |f+1,c,t,X,K,st,p,hk,hr,hw=>by
  have ih:=n8 hn f;have hw:cond (okN ((w+1) * (h+1)) c t) (Zf4 (n9 w h g bl f) w h g bl c t (Nat.lor X (Nat.shiftLeft t (Nat.mul 12 c))) (Nat.lor K (Nat.pow 2 c))) none=some p:=hw;unfold Wc;rw [hn] at hw ⊢;cases ho:okN n c t with
  |false=>rw [ho] at hw;cases hw
  |true=>
   rw [ho] at hw;rw [Zgu ho hr];obtain ⟨o1,o2,o3⟩:=Zd8 ho;have hput:=hr.put (t:=t) o1 hk (by omega)
   have hw:Zf4 (n9 w h g bl f) w h g bl c t (Nat.lor X (Nat.shiftLeft t (Nat.mul 12 c))) (Nat.lor K (Nat.pow 2 c))=some p:=hw;unfold Zf4 at hw;rw [Zgl (by omega),Zhg (by omega),Zhg (by omega),Zgl (by omega)]
   exact wc (λp h1=>Fo hput (λp h2=>Fs hn ih hput h2) h1) (λX K st p hr1 h1=>wc (λp h1=>Fo hr1 (λp h2=>Fs hn ih hr1 h2) h1) (λX K st p hr2 h2=>
    wc (λp h1=>Fo hr2 (λp h2=>Fs hn ih hr2 h2) h1) (λX K st p hr3 h3=>Fo hr3 (λp h2=>Fs hn ih hr3 h2) h3) h2) h1) hw
end
theorem jf (i:Nat):El 0 i=false:=by rw [jg,Nat.zero_testBit]
theorem Zlc (n:Nat):Du n (ns n) 0 0:=by
 refine ⟨by show (List.replicate n _).length=n;simp,by show (List.replicate n _).length=n;simp,λi hi=>?_,λi hi=>?_,λi _=>?_⟩
 ·show (List.replicate n false)[i]? = _;rw [jf,List.getElem?_replicate,if_pos hi]
 ·show (List.replicate n (Int.ofNat 0))[i]? = _;unfold vj;rw [jf,List.getElem?_replicate,if_pos hi];rfl
 ·show Nat.mod (0 >>> (12 * i)) 4096=0;rw [Nat.zero_shiftRight]
def sawN (w h:Nat) (sp:List Nat) (bl:List (Nat×Nat)):Option Nv:=
 cond (Nat.beq (Mj w (w * h) (Qs w h sp) bl none 0).1 0) (cond (Nat.beq (Mj w (w * h) (Qs w h sp) bl none 0).2 (Qs w h sp)) (n9 w h (Qs w h sp) bl 40 (Ng w (Qs w h sp)) 2048 0 0) none) none
theorem Zgj {w h:Nat} {sp:List Nat} {bl:List (Nat×Nat)} {p:Nv} (hp:sawN w h sp bl=some p):∃ r,Fx w h sp bl=some r/\Du ((w+1) * (h+1)) r p.1 p.2:=by
 unfold sawN at hp;unfold Fx;cases h1:Nat.beq (Mj w (w * h) (Qs w h sp) bl none 0).1 0 with
 |false=>rw [h1] at hp;cases hp
 |true=>
  rw [h1] at hp;cases h2:Nat.beq (Mj w (w * h) (Qs w h sp) bl none 0).2 (Qs w h sp) with
  |false=>rw [h2] at hp;cases hp
  |true=>
   rw [h2] at hp;exact n8 rfl 40 _ _ _ _ _ p (jf _) (Zlc _) hp
theorem Zkv (X K i:Nat):-3000 < vj X K i/\vj X K i < 3000:=by
 unfold vj;have:=dig_lt X i;cases El K i with
 |true=>show -3000 < (Li X i:Int) - 2048/\(Li X i:Int) - 2048 < 3000;omega
 |false=>show (-3000:Int) < 0/\(0:Int) < 3000;omega
theorem Du.small {n:Nat} {st:Ds} {X K:Nat} (h:Du n st X K):Fk n st.1:=by
 refine ⟨h.l1,λx hx=>?_⟩;obtain ⟨i,hi,rfl⟩:=List.mem_iff_getElem.1 hx;have e:=h.ht i (by rw [<- h.l1];exact hi)
 rw [List.getElem?_eq_getElem hi] at e;have e:st.1[i]=vj X K i:=Option.some.inj e;rw [e];exact Zkv X K i
theorem Du.at {n:Nat} {st:Ds} {X K i:Nat} (h:Du n st X K) (hi:i < n):st.1.getD i 0=vj X K i:=by
 rw [List.getD_eq_getElem?_getD,h.ht i hi];rfl
theorem tr_lt {w h i:Nat} (hi:i < (w+1) * (h+1)):trC w h i < (h+1) * (w+1):=by
 unfold trC;have h1:i % (w+1) < w+1:=Nat.mod_lt _ (by omega)
 have h2:i / (w+1) < h+1:=by rw [Nat.div_lt_iff_lt_mul (by omega),Nat.mul_comm];exact hi
 have h3:(i % (w+1)+1) * (h+1)<=(w+1) * (h+1):=Nat.mul_le_mul_right _ h1;rw [Nat.add_mul] at h3;rw [Nat.mul_comm (h+1)];omega
def Zmp (w h:Nat) (p0 q0 p q:Nv):Bool:=
 Nat.beq p.2 p0.2 && (Nat.beq q.2 q0.2 && Nn (λi=>Nat.beq (Nat.add (Li p.1 i) (Li q.1 (trC w h i))) (Nat.add (Li p0.1 i) (Li q0.1 (trC w h i)))) (List.range ((w+1) * (h+1))))
def sumK (w h:Nat) (xs ys:List Int):List Int:=(List.range ((w+1) * (h+1))).map λi=>ys.getD (trC w h i) 0+xs.getD i 0
theorem Zcm {X X0 K i:Nat} (h:El K i=false->Li X i=0) (h0:El K i=false->Li X0 i=0):vj X K i - vj X0 K i=(Li X i:Int) - (Li X0 i:Int):=by
 unfold vj;cases hb:El K i with
 |true=>show (Li X i:Int) - 2048 - ((Li X0 i:Int) - 2048)=_;omega
 |false=>rw [h hb,h0 hb];rfl
theorem Zhv {α:Type} {p:α->Bool}:∀ {l:List α},(∀ x∈l,p x=true)->Nn p l=true
 |[],_=>rfl
 |x::l,h=>by
  show cond (p x) (Nn p l) false=true;rw [h x List.mem_cons_self];exact Zhv λy hy=>h y (List.mem_cons_of_mem _ hy)
theorem sr {w h:Nat} {p0 q0 p q:Nv} {r0 s0 r s:Ds} (h0:Du ((w+1) * (h+1)) r0 p0.1 p0.2) (k0:Du ((h+1) * (w+1)) s0 q0.1 q0.2) (h1:Du ((w+1) * (h+1)) r p.1 p.2) (k1:Du ((h+1) * (w+1)) s q.1 q.2)
  (hs:Zmp w h p0 q0 p q=true):Av w h (sumK w h r0.1 s0.1) r.1 s.1=true:=by
 unfold Zmp at hs;rw [Bool.and_eq_true,Bool.and_eq_true] at hs;obtain ⟨e1,e2,e3⟩:=hs;have e1:=Nat.eq_of_beq_eq_true e1;have e2:=Nat.eq_of_beq_eq_true e2;unfold Av;refine Zhv λi hi=>?_;have e:=Nat.eq_of_beq_eq_true (Wo e3 i hi);have e:Li p.1 i+Li q.1 (trC w h i)=Li p0.1 i+Li q0.1 (trC w h i):=e;rw [List.mem_range] at hi;have ht:=tr_lt hi
 have ek:(sumK w h r0.1 s0.1).getD i 0=s0.1.getD (trC w h i) 0+r0.1.getD i 0:=by
  unfold sumK;rw [List.getD_eq_getElem?_getD,List.getElem?_map,List.getElem?_range hi];rfl
 rw [ek,h0.at hi,h1.at hi,k0.at ht,k1.at ht,Dl];refine decide_eq_true ?_;have d1:=Zcm (X:=p.1) (X0:=p0.1) (K:=p0.2) (i:=i) (λhb=>h1.zr i (by rw [e1];exact hb)) (λhb=>h0.zr i hb)
 have d2:=Zcm (X:=q.1) (X0:=q0.1) (K:=q0.2) (i:=trC w h i) (λhb=>k1.zr _ (by rw [e2];exact hb)) (λhb=>k0.zr _ hb)
 rw [e1,e2];omega
end
end Go.Proofs.YtgemobbfikjmoaaGreatDoor
namespace Go.Proofs.YtgemobbfikjmoaaGreatDoor
open Go Go.Ev
set_option maxRecDepth 100000
inductive Tr where
 |nil |leaf (v:Nat×Nat) |node (l r:Tr)
noncomputable section
def Mr (n:Nat):Nat->Tr->Option (Nat×Nat):=
 Nat.rec (motive:=λ_=>Nat->Tr->Option (Nat×Nat)) (λ_ t=>Tr.casesOn (motive:=λ_=>Option (Nat×Nat)) t none (λv=>some v) (λ_ _=>none))
  (λ_ ih k t=>Tr.casesOn (motive:=λ_=>Option (Nat×Nat)) t none (λ_=>none) (λl r=>cond (Nat.beq (Nat.mod k 2) 1) (ih (Nat.div k 2) r) (ih (Nat.div k 2) l))) n
def Ef (n:Nat):Nat->Nat×Nat->Tr->Tr:=
 Nat.rec (motive:=λ_=>Nat->Nat×Nat->Tr->Tr) (λ_ v _=>.leaf v)
  (λ_ ih k v t=>Tr.casesOn (motive:=λ_=>Tr) t (cond (Nat.beq (Nat.mod k 2) 1) (.node .nil (ih (Nat.div k 2) v .nil)) (.node (ih (Nat.div k 2) v .nil) .nil)) (λ_=>cond (Nat.beq (Nat.mod k 2) 1) (.node .nil (ih (Nat.div k 2) v .nil)) (.node (ih (Nat.div k 2) v .nil) .nil))
   (λl r=>cond (Nat.beq (Nat.mod k 2) 1) (.node l (ih (Nat.div k 2) v r)) (.node (ih (Nat.div k 2) v l) r))) n
theorem get_nil:∀ n k,Mr n k .nil=none
 |0,_=>rfl
 |_+1,_=>rfl
theorem Zha {k j:Nat} (h:(Nat.beq (k % 2) 1)=(Nat.beq (j % 2) 1)) (h2:k / 2=j / 2):k=j:=by
 have e:∀ m:Nat,Nat.beq (m % 2) 1=true↔m % 2=1:=λm=>⟨Nat.eq_of_beq_eq_true,λh=>by rw [h];rfl⟩
 have hk:=e k;have hj:=e j;rw [h] at hk;have:=Nat.mod_lt k (show 0 < 2 by omega)
 have:=Nat.mod_lt j (show 0 < 2 by omega)
 by_cases hb:k % 2=1
 ·have:=hj.1 (hk.2 hb);omega
 ·have:¬ j % 2=1:=λh'=>hb (hk.1 (hj.2 h'));omega
theorem U7 (v:Nat×Nat):∀ (n k j:Nat) (t:Tr),k < 2 ^ n->j < 2 ^ n->Mr n j (Ef n k v t)=cond (Nat.beq j k) (some v) (Mr n j t)
 |0,k,j,t,hk,hj=>by
  have hk:k < 1:=hk;have hj:j < 1:=hj;obtain rfl:k=0:=by omega
  obtain rfl:j=0:=by omega
  rfl
 |n+1,k,j,t,hk,hj=>by
  rw [Nat.pow_succ] at hk hj;have ih:=λt=>U7 v n (k / 2) (j / 2) t (by omega) (by omega)
  have key:∀ l r:Tr,Mr (n+1) j (cond (Nat.beq (k % 2) 1) (.node l (Ef n (k / 2) v r)) (.node (Ef n (k / 2) v l) r))=cond (Nat.beq j k) (some v) (Mr (n+1) j (.node l r)):=λl r=>by
   have g:∀ a b:Tr,Mr (n+1) j (.node a b)=cond (Nat.beq (j % 2) 1) (Mr n (j / 2) b) (Mr n (j / 2) a):=λ_ _=>rfl;cases hk2:Nat.beq (k % 2) 1 <;> cases hj2:Nat.beq (j % 2) 1
   ·show Mr (n+1) j (.node (Ef n (k / 2) v l) r)=_;rw [g,g,hj2];show Mr n (j / 2) (Ef n (k / 2) v l)=cond (Nat.beq j k) (some v) (Mr n (j / 2) l);rw [ih]
    by_cases e:j=k
    ·rw [e,Nat.beq_refl,Nat.beq_refl]
    ·rw [Wm e,Wm (show j / 2≠k / 2 from λh=>e (Zha (by rw [hk2,hj2]) h))]
   ·show Mr (n+1) j (.node (Ef n (k / 2) v l) r)=_;rw [g,g,hj2,Wm (show j≠k from λh=>by rw [h,hk2] at hj2;cases hj2)];rfl
   ·show Mr (n+1) j (.node l (Ef n (k / 2) v r))=_;rw [g,g,hj2,Wm (show j≠k from λh=>by rw [h,hk2] at hj2;cases hj2)];rfl
   ·show Mr (n+1) j (.node l (Ef n (k / 2) v r))=_;rw [g,g,hj2];show Mr n (j / 2) (Ef n (k / 2) v r)=cond (Nat.beq j k) (some v) (Mr n (j / 2) r);rw [ih]
    by_cases e:j=k
    ·rw [e,Nat.beq_refl,Nat.beq_refl]
    ·rw [Wm e,Wm (show j / 2≠k / 2 from λh=>e (Zha (by rw [hk2,hj2]) h))]
  have gn:Mr (n+1) j (.node .nil .nil)=none:=by
   show cond (Nat.beq (j % 2) 1) (Mr n (j / 2) .nil) (Mr n (j / 2) .nil)=none;rw [get_nil];cases Nat.beq (j % 2) 1 <;> rfl
  cases t with
  |node l r=>exact key l r
  |nil=>have e:=key .nil .nil;rw [gn] at e;exact e
  |leaf u=>have e:=key .nil .nil;rw [gn] at e;exact e
theorem Za9 (v:Nat×Nat) (f:Nat):∀ (kn:Vl) (j:Nat),Ic (Rg kn f v) j=cond (Nat.beq j f) (some v) (Ic kn j)
 |[],j=>rfl
 |e::kn,j=>by
  show Ic (cond (Nat.beq f e.1) ((f,v)::kn) (e::Rg kn f v)) j=cond (Nat.beq j f) (some v) (cond (Nat.beq j e.1) (some e.2) (Ic kn j));cases hb:Nat.beq f e.1 with
  |true=>
   show cond (Nat.beq j f) (some v) (Ic kn j)=_;have he:=Nat.eq_of_beq_eq_true hb;cases hj:Nat.beq j f with
   |true=>rfl
   |false=>rw [<- he,hj];rfl
  |false=>
   show cond (Nat.beq j e.1) (some e.2) (Ic (Rg kn f v) j)=_;rw [Za9 v f kn j];cases hj:Nat.beq j f with
   |true=>
    have hj:=Nat.eq_of_beq_eq_true hj;rw [hj,hb];rfl
   |false=>rfl
def TrK (t:Tr) (kn:Vl):Prop:=∀ k,k < 65536->Mr 16 k t=Ic kn k
def goT (rec:Nat->Tr->Option ((Nat×Nat)×Tr)) (rest:Nat):List Nat->Nat×Nat->Tr->Option ((Nat×Nat)×Tr)
 |[],o,t=>some (o,t)
 |d::ds,o,t=>match rec (Iu rest (2 ^ d)) t with
  |none=>none
  |some (wi,t1)=>cond (Nat.blt wi.1 1000) (cond (Nat.blt o.1 (wi.1+1)) (goT rec rest ds (wi.1+1,wi.2) t1)
    (cond (Nat.beq (wi.1+1) o.1) (cond (Nat.blt (o.2+wi.2) 1000000) (goT rec rest ds (o.1,o.2+wi.2) t1) none) (goT rec rest ds o t1))) none
def R2 (Zq:List Nat):Nat->Nat->Tr->Option ((Nat×Nat)×Tr)
 |0,_,_=>none
 |f+1,free,t=>cond (Nat.beq free 0) (some ((0,1),t)) (match Mr 16 free t with
  |some v=>some (v,t)
  |none=>match R2 Zq f (Iu free (2 ^ low 64 free)) t with
   |none=>none
   |some (o,t1)=>match goT (R2 Zq f) (Iu free (2 ^ low 64 free)) (Xu (Nat.land (Zq[low 64 free]?.getD 0) (Iu free (2 ^ low 64 free)))) o t1 with
    |none=>none
    |some (o2,t2)=>some (o2,Ef 16 free o2 t2))
def RecR (r:Nat->Tr->Option ((Nat×Nat)×Tr)) (rG:Nat->Vl->Option ((Nat×Nat)×Vl)):Prop:=
 ∀ free t kn v t',free < 65536->TrK t kn->r free t=some (v,t')->∃ tx,rG free kn=some (v,tx)/\TrK t' tx
theorem bg {r:Nat->Tr->Option ((Nat×Nat)×Tr)} {rG:Nat->Vl->Option ((Nat×Nat)×Vl)} (hr:RecR r rG) {rest:Nat} (Hi:rest < 65536) :
  ∀ (ds:List Nat) (o:Nat×Nat) (t:Tr) (kn:Vl) (v:Nat×Nat) (t':Tr),TrK t kn->goT r rest ds o t=some (v,t')->∃ tx,qt rG rest ds o kn=some (v,tx)/\TrK t' tx
 |[],o,t,kn,v,t',ht,h=>by cases h;exact ⟨kn,rfl,ht⟩
 |d::ds,o,t,kn,v,t',ht,h=>by
  unfold goT at h;unfold qt;cases h1:r (Iu rest (2 ^ d)) t with
  |none=>rw [h1] at h;cases h
  |some p=>
   obtain ⟨wi,t1⟩:=p;rw [h1] at h;obtain ⟨By,g1,g2⟩:=hr _ _ kn wi t1 (Ff Hi) ht h1;rw [g1];have h:cond (Nat.blt wi.1 1000) (cond (Nat.blt o.1 (wi.1+1)) (goT r rest ds (wi.1+1,wi.2) t1) (cond (Nat.beq (wi.1+1) o.1) (cond (Nat.blt (o.2+wi.2) 1000000) (goT r rest ds (o.1,o.2+wi.2) t1) none) (goT r rest ds o t1))) none=some (v,t'):=h;show ∃ tx,cond (Nat.blt wi.1 1000) (cond (Nat.blt o.1 (wi.1+1)) (qt rG rest ds (wi.1+1,wi.2) By) (cond (Nat.beq (wi.1+1) o.1) (cond (Nat.blt (o.2+wi.2) 1000000) (qt rG rest ds (o.1,o.2+wi.2) By) none) (qt rG rest ds o By))) none=some (v,tx)/\TrK t' tx;cases c1:Nat.blt wi.1 1000 with
   |false=>rw [c1] at h;cases h
   |true=>
    rw [c1] at h;cases c2:Nat.blt o.1 (wi.1+1) with
    |true=>rw [c2] at h;exact bg hr Hi ds _ t1 By v t' g2 h
    |false=>
     rw [c2] at h;cases c3:Nat.beq (wi.1+1) o.1 with
     |false=>rw [c3] at h;exact bg hr Hi ds _ t1 By v t' g2 h
     |true=>
      rw [c3] at h;cases c4:Nat.blt (o.2+wi.2) 1000000 with
      |false=>rw [c4] at h;cases h
      |true=>rw [c4] at h;exact bg hr Hi ds _ t1 By v t' g2 h
theorem oo (Zq:List Nat):∀ f,RecR (R2 Zq f) (Kv Zq f)
 |0,_,_,_,_,_,_,_,h=>by cases h
 |f+1,free,t,kn,v,t',hf,ht,h=>by
  have ih:=oo Zq f;unfold R2 at h;unfold Kv;cases hz:Nat.beq free 0 with
  |true=>
   rw [hz] at h;have h:some (((0,1):Nat×Nat),t)=some (v,t'):=h;cases h;exact ⟨kn,rfl,ht⟩
  |false=>
   rw [hz] at h;rw [<- ht free hf];cases hg:Mr 16 free t with
   |some u=>
    rw [hg] at h;have h:some (u,t)=some (v,t'):=h;cases h;exact ⟨kn,rfl,ht⟩
   |none=>
    rw [hg] at h;cases h1:R2 Zq f (Iu free (2 ^ low 64 free)) t with
    |none=>simp only [h1,cond_false] at h;cases h
    |some p=>
     obtain ⟨o,t1⟩:=p;obtain ⟨By,g1,g2⟩:=ih _ _ kn o t1 (Ff hf) ht h1;simp only [h1,cond_false] at h;simp only [g1,cond_false];cases h2:goT (R2 Zq f) (Iu free (2 ^ low 64 free)) (Xu (Nat.land (Zq[low 64 free]?.getD 0) (Iu free (2 ^ low 64 free)))) o t1 with
     |none=>simp only [h2] at h;cases h
     |some p=>
      obtain ⟨o2,t2⟩:=p;obtain ⟨ja,k1,k2⟩:=bg ih (Ff hf) _ o t1 By o2 t2 g2 h2;simp only [h2] at h;simp only [k1];cases h;refine ⟨_,rfl,λk hk=>?_⟩;rw [U7 _ 16 _ _ _ hf hk,Za9,k2 k hk]
theorem ou {Zq:List Nat} {g:Nat} {p:(Nat×Nat)×Tr} (hg:g < 65536) (h:R2 Zq 17 g .nil=some p):∃ kn,Kv Zq 17 g []=some (p.1,kn):=by
 obtain ⟨kn,h1,_⟩:=oo Zq 17 g .nil [] p.1 p.2 hg (λk _=>get_nil 16 k) h;exact ⟨kn,h1⟩
end
end Go.Proofs.YtgemobbfikjmoaaGreatDoor
namespace Go.Proofs.YtgemobbfikjmoaaGreatDoor
open Go Go.Ev
set_option maxRecDepth 100000
noncomputable section
def Zhp (w h:Nat) (sp sq:List Nat) (v:List (Nat×Nat)) (k:Nv->Nv->Bool):Bool:=
 match sawN w h sp v with
 |none=>false
 |some p=>match sawN h w sq (Aa w h v) with
  |none=>false
  |some q=>k p q
theorem Zcx {w h:Nat} {sp sq:List Nat} {v:List (Nat×Nat)} {k:Nv->Nv->Bool} (hb:Zhp w h sp sq v k=true) :
  ∃ p q r s,Fx w h sp v=some r/\Fx h w sq (Aa w h v)=some s/\Du ((w+1) * (h+1)) r p.1 p.2/\Du ((h+1) * (w+1)) s q.1 q.2/\k p q=true:=by
 unfold Zhp at hb;split at hb
 ·cases hb
 rename_i p hp;split at hb
 ·cases hb
 rename_i q hq;obtain ⟨r,r1,r2⟩:=Zgj hp;obtain ⟨s,s1,s2⟩:=Zgj hq;exact ⟨p,q,r,s,r1,s1,r2,s2,hb⟩
def sawB (w h:Nat) (sp sq:List Nat) (p0 q0:Nv) (v:List (Nat×Nat)):Bool:=
 Nat.blt 0 v.length && (Nat.blt v.length 13 && (Nn (λq=>Nat.blt q.1 16 && Nat.blt q.2 16) v && (Nn (λq=>Nat.blt q.1 1000 && Nat.blt q.2 1000) (Aa w h v) && Zhp w h sp sq v (Zmp w h p0 q0))))
theorem Zqw {w h:Nat} {sp:List Nat} {p0 q0:Nv} {r0 s0:Ds} {v:List (Nat×Nat)} (h0:Du ((w+1) * (h+1)) r0 p0.1 p0.2) (k0:Du ((h+1) * (w+1)) s0 q0.1 q0.2) (hb:sawB w h sp (V6 w h sp) p0 q0 v=true) :
  Zhx w h sp (sumK w h r0.1 s0.1) v:=by
 unfold sawB at hb;simp only [Bool.and_eq_true,Nat.blt_eq] at hb;obtain ⟨b1,b2,b3,b4,b5⟩:=hb;obtain ⟨p,q,r,s,c1,c2,c3,c4,c5⟩:=Zcx b5;refine ⟨λe=>by rw [e] at b1;simp at b1,by omega,λq hq=>?_,λq hq=>?_,r,s,c1,c2,c3.small,c4.small,sr h0 k0 c3 c4 c5⟩
 ·have:=Wo b3 q hq;simp only [Bool.and_eq_true,Nat.blt_eq] at this;exact this
 ·have:=Wo b4 q hq;simp only [Bool.and_eq_true,Nat.blt_eq] at this;exact this
def allK (w h:Nat) (sp sq:List Nat) (v:List (Nat×Nat)) (l:List (List (Nat×Nat))):Bool:=
 Zhp w h sp sq v λp0 q0=>Nn (sawB w h sp sq p0 q0) l
theorem Zsc {w h:Nat} {sp:List Nat} {v:List (Nat×Nat)} {l:List (List (Nat×Nat))} (hb:allK w h sp (V6 w h sp) v l=true):∃ K,∀ v∈l,Zhx w h sp K v:=by
 unfold allK at hb;obtain ⟨p,q,r,s,_,_,c3,c4,c5⟩:=Zcx hb;exact ⟨_,λv hv=>Zqw c3 c4 (Wo c5 v hv)⟩
def Zmu (w h:Nat) (sp sq:List Nat):List (List (Nat×Nat))->Bool
 |[]=>true
 |v::l=>Nat.blt l.length 60000 && cond (Gk w h (Qs w h sp) (Kb w h sp)) (Gk h w (Qs h w sq) (Kb h w sq) && (Zak w h && allK w h sp sq v (v::l))) (Mf w h (Vk w h sp))
theorem Zmt {w h:Nat} {sp:List Nat} (hb:Zmu w h sp (V6 w h sp) (E7 w h sp)=true) :
  (E7 w h sp).length < 70000/\(E7 w h sp=[]\/Mf w h (Vk w h sp)=true\/((Gk w h (Qs w h sp) (Kb w h sp)=true/\Gk h w (Qs h w (V6 w h sp)) (Kb h w (V6 w h sp))=true)/\Zak w h=true/\∃ K,∀ v∈E7 w h sp,Zhx w h sp K v)):=by
 cases ha:E7 w h sp with
 |nil=>exact ⟨by show 0 < 70000;omega,.inl rfl⟩
 |cons v l=>
  rw [ha] at hb;unfold Zmu at hb;rw [Bool.and_eq_true,Nat.blt_eq] at hb;obtain ⟨b1,b2⟩:=hb;refine ⟨by show l.length+1 < 70000;omega,.inr ?_⟩
  cases hw:Gk w h (Qs w h sp) (Kb w h sp) with
  |false=>rw [hw] at b2;exact .inl b2
  |true=>
   rw [hw] at b2;simp only [cond_true,Bool.and_eq_true] at b2;obtain ⟨c1,c2,c3⟩:=b2;exact .inr ⟨⟨rfl,c1⟩,c2,Zsc c3⟩
def someB (Zq:List Nat) (w g:Nat):Bool:=Nn (λc=>(Ib Zq w (Iu g (2 ^ c))).isSome) (Xu g)
def mirD (w h:Nat) (sp sq x y:List Nat):Bool:=
 Nat.blt sp.length 13 && (Nn (λc=>Nat.blt c (h * w)) sq && (ascB sq && (someB (Kb w h sp) w (Qs w h sp) && (someB (Kb h w sq) h (Qs h w sq) && (Nat.beq x.length y.length && (Nn (λc=>Nat.blt c (w * h) && Yz (Br w h c) y) x && Zmu w h sp sq (E7 w h sp)))))))
def Ui (w h:Nat) (sp:List Nat):Bool:=
 match Ib (Kb w h sp) w (Qs w h sp) with
 |none=>false
 |some m=>match Ib (Kb h w (V6 w h sp)) h (Qs h w (V6 w h sp)) with
  |none=>false
  |some m2=>match R2 (Kb w h sp) 17 (Qs w h sp) .nil with
   |none=>false
   |some r1=>match R2 (Kb h w (V6 w h sp)) 17 (Qs h w (V6 w h sp)) .nil with
    |none=>false
    |some r2=>Nat.beq m m2 && (Nat.beq r1.1.2 r2.1.2 && mirD w h sp (V6 w h sp) (Yj (Ig (Kb w h sp) w (Qs w h sp) m) (Xu (Qs w h sp))) (Yj (Ig (Kb h w (V6 w h sp)) h (Qs h w (V6 w h sp)) m) (Xu (Qs h w (V6 w h sp)))))
end
end Go.Proofs.YtgemobbfikjmoaaGreatDoor
