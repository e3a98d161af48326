/- What the functions that SawMirrored calls answer, part two.
   Conditions: none beyond the given statement's own. -/
import Derived.Test.YtgemobbfikjmoaaGreatDoorPaF
set_option linter.unusedVariables false
set_option linter.unusedSimpArgs false
set_option linter.defProp false
namespace Go.Ev
noncomputable section
theorem Qg.su {σ:Type} {f g:Z4 σ} {id fuel k:Nat} {S:σ} {H:TH} {Q:Ex->σ->TH->Prop} (I:Nat->σ->TH->Prop) (X R:σ->TH->Prop)
  (im:∀ k S H,I k S H->Qg (f S H) λe S' H'=>(e=.normal/\∃ k',k' < k/\I k' S' H')\/(e=.exit id/\X S' H')\/(e=.ret/\R S' H'))
  (hk:k < fuel) (h0:I k S H) (hn:∀ S H,X S H->Qg (g S H) Q) (hr:∀ S H,R S H->Q .ret S H):Qg (sqR (blR id (Ym f fuel S H)) g) Q:=by
 have h:=Qg.loop (Q:=λe S H=>(e=.exit id/\X S H)\/(e=.ret/\R S H)) I (λk S H hi=>(im k S H hi).mono λe S' H' hq=>by
  rcases hq with ⟨a,b⟩ |⟨a,b⟩ |⟨a,b⟩
  ·exact .inl ⟨a,b⟩
  ·exact .inr ⟨by rw [a];simp,.inl ⟨a,b⟩⟩
  ·exact .inr ⟨by rw [a];simp,.inr ⟨a,b⟩⟩) fuel k S H hk h0
 obtain ⟨e,S1,H1,h1,h2⟩:=h;rw [h1];rcases h2 with ⟨rfl,h2⟩ |⟨rfl,h2⟩
 ·rw [Zp1,Nat.beq_refl];exact hn _ _ h2
 ·exact ⟨_,_,_,rfl,hr _ _ h2⟩
theorem Zbb {β:Type} {Zh base b e n:Nat} {l:List TV} {H:TH} {k:TV->TH->Option β} (hb:H[b]? = some (.cells [Xj e n l])):loadT .Xi Zh base false 1 H (.ptr b 0) k=k (.row (om l) (lfB l) (zf n l) l) H:=by
 show K1 (Yx H b λcs=>Zf (nth cs 0) λx=>Mc .Xi Zh base H b cs 0 x Qr) k=_;unfold Yx;rw [Xq,hb];cases l <;> rfl
theorem Ey {H H':TH} {n b:Nat} (h:X7 H n=H') (hb:b < n):H[b]? = H'[b]?:=by
 rw [<- h,Yh,List.getElem?_take,if_pos hb]
theorem O8 {H H':TH} {n b:Nat} {o:Kc} (h:X7 H n=H'):X7 (H.set b o) n=H'.set b o:=by
 rw [<- h,Yh,Yh,List.take_set]
theorem Ju {H H':TH} {n:Nat} {o:Kc} (h:X7 H n=H') (hn:n<=Zb H):X7 (Zv H o) n=H':=by
 rw [Yh] at *;show List.take n (H++[o])=H';rw [Zz] at hn;rw [List.take_append_of_le_length hn,h]
theorem Uv {H:TH} {b:Nat} {o:Kc} (h:H[b]? = some o):H.set b o=H:=by
 obtain ⟨_,h6⟩:=List.getElem?_eq_some_iff.1 h;rw [<- h6];exact List.set_getElem_self ..
theorem Fq {H:TH} {b:Nat} {o:Kc}:X7 (H.set b o) (Zb H)=H.set b o:=by
 have:Zb (H.set b o)=Zb H:=Ks;rw [<- this];exact Xc
theorem Uw {H:TH} {b:Nat} {o:Kc} (h:H[b]? = some o):b < Zb H:=by rw [Zz];exact (List.getElem?_eq_some_iff.1 h).1
end
end Go.Ev
namespace Go.Proofs.YtgemobbfikjmoaaGreatDoor
open Go Go.Ev
set_option maxRecDepth 100000
noncomputable section
abbrev rQ (l:List (Nat×Nat)):TV:=rS 2 (l.map tQ)
def Bu (k:Nat×Nat->List (List (Nat×Nat))) (c used:Nat):List (Nat×Nat)->List (List (Nat×Nat))
 |[]=>[]
 |b::bs=>cond (cond (Nat.beq b.1 c) (!El used b.2) false) (k b++Bu k c used bs) (Bu k c used bs)
def Gi (all:List (Nat×Nat)):List Nat->Nat->Nat->List (Nat×Nat)->List (List (Nat×Nat))
 |[],left,_,l=>cond (Nat.beq left 0) [l] []
 |c::cs,left,used,l=>cond (El used c) (Gi all cs left used l)
   (Bu (λb=>Gi all cs left (Nat.lor (Nat.lor used (2 ^ c)) (2 ^ b.2)) (l++[b])) c used all++cond (Nat.blt 0 left) (Gi all cs (left - 1) used l) [])
structure I4 (bc bv bp ba bo gv:Nat) (cells:List Nat) (all:List (Nat×Nat)) (H:TH):Prop where
 c:H[bc]? = some (.cells [Xj 3 1 (cells.map tN)])
 v:H[bv]? = some (.cells [.fn (.func gv) [] [.ptr bo 0]])
 p:H[bp]? = some (.cells [.fn (.func 175) [] [.ptr bc 0,.ptr bv 0,.ptr bp 0,.ptr ba 0]])
 a:H[ba]? = some (.cells [rQ all])
 n:bc≠bo/\bv≠bo/\bp≠bo/\ba≠bo
section
variable {bc bv bp ba bo gv:Nat} {cells:List Nat} {all:List (Nat×Nat)} {H H1:TH} {o:Kc}
theorem I4.set (h:I4 bc bv bp ba bo gv cells all H):I4 bc bv bp ba bo gv cells all (H.set bo o):=
 ⟨(Vg h.n.1).trans h.c,(Vg h.n.2.1).trans h.v,(Vg h.n.2.2.1).trans h.p,(Vg h.n.2.2.2).trans h.a,h.n⟩
theorem I4.of (h:I4 bc bv bp ba bo gv cells all H) {n:Nat} (hn:n=Zb H) (ht:X7 H1 n=H):I4 bc bv bp ba bo gv cells all H1:=by
 subst hn;exact ⟨(Ey ht (Uw h.c)).trans h.c,(Ey ht (Uw h.v)).trans h.v,(Ey ht (Uw h.p)).trans h.p,(Ey ht (Uw h.a)).trans h.a,h.n⟩
end
abbrev Vv (ls:List (List (Nat×Nat))):TV:=Xj 31 1 (ls.map rQ)
def fk (gv:Nat):Prop:=∀ (d Zh:Nat) {H:TH} {bo:Nat} {outs:List (List (Nat×Nat))} {l:List (Nat×Nat)},H[bo]? = some (.cells [Vv outs])->Zh<=bo->outs.length < 90000 ->
 tc (d+1) Zh gv [rQ l,.ptr bo 0] H=some (.Xh [],H.set bo (.cells [Vv (outs++[l])]))
theorem clip_Q {l:List (Nat×Nat)} {p:Nat×Nat} (h:l.length < 90000) :
  ∃ x,Ao 2 (rQ l) none (some (tN (Zb (l.map tQ)))) (some (tN (Zb (l.map tQ))))=some x/\(∀ y z o o' h1 h2 h3 h4 es,Tb [hdX (.ptr y o) h1,hdX (.ptr z o') h2] [hdX x h3,hdX (.row .full (.own 71) 2 es) h4]=true) /\
   ∀ {β:Type} {Zh:Nat} {H:TH} (k:TV->TH->Option β),X6 Zh H 71 2 16 x (.row .full (.own 71) 2 [tQ p]) k=k (Xj 71 2 ((l++[p]).map tQ)) H:=by
 have hu:=Lc;cases l with
 |nil=>
  refine ⟨Xp,?_,λ_ _ _ _ _ _ _ _ _=>rfl,λk=>Zc5 (pre:=[]) (by simp) k⟩
  show Zf (Zp true (Zp true (Zp true (Zp true (Zp (Nat.blt 0 Xk) (some (0,0,0))))))) (λ_=>some Xp)=_;rw [(by rw [Nat.blt_eq];omega:Nat.blt 0 Xk=true)];rfl
 |cons q l=>
  refine ⟨.row .full .set 2 ((q::l).map tQ),?_,λ_ _ _ _ _ _ _ _ _=>rfl,λ{β Zh H} k=>?_⟩
  ·obtain ⟨es,he⟩:∃ es,es=(q::l).map tQ:=⟨_,rfl⟩;have hl:Zb es=l.length+1:=by rw [Zz,he,List.length_map];rfl
   show Ao 2 (.row .Jf .set 2 ((q::l).map tQ)) none (some (tN (Zb ((q::l).map tQ)))) (some (tN (Zb ((q::l).map tQ))))=_;rw [<- he];show Zp (Nat.beq 2 2) (Zp (Nat.ble 0 (Zb es)) (Zp (Nat.ble (Zb es) (Zb es)) (Zp (Nat.blt (Zb es) Xk) (Zp true (Zp (Nat.ble (Zb es) (Zb es)) (Zp (Nat.ble (Zb es) (Zb es)) (some (TV.row (cond (Nat.beq (Zb es) (Zb es)) .full .Jf) .set 2 (Vi es 0 (Nat.sub (Zb es) 0))))))))))=_
   have e1:Nat.blt (Zb es) Xk=true:=by
                          rw [Nat.blt_eq,hl];have:l.length+1 < 90000:=h;omega
   have e2:Vi es 0 (Nat.sub (Zb es) 0)=es:=by
    show Vi es 0 (Zb es)=es;unfold Vi;rw [Yh,Jq,List.drop_zero,Zz,List.take_length]
   rw [e1,Nat.ble_eq_true_of_le (Nat.le_refl _),Nat.ble_eq_true_of_le (Nat.zero_le _),e2];show some (TV.row (cond (Nat.beq (Zb es) (Zb es)) .full .Jf) .set 2 es)=_;rw [Nat.beq_refl];rfl
  ·show K1 (Zp true (Zp (roomFor 16 (Zb ((q::l).map tQ)+1)) (Qr (.row .Jf (.own 71) 2 ((q::l).map tQ++[tQ p])) H))) k=_;have h2:l.length+1 < 90000:=h
   have hr:roomFor 16 (Zb ((q::l).map tQ)+1)=true:=by
    rw [Zz,List.length_map];refine Zms ?_;show l.length+1+1 < 200000;omega
   rw [hr,List.map_append];rfl
theorem bitU {d c:Nat} (hc:c<=64) (hd:d < 65536) :
  K7 (.int .u64 (.ofNat d)) (.int .i64 (.ofNat c))=some (.int .u64 (.ofNat (d / 2 ^ c)))/\Km (.int .u64 (.ofNat (d / 2 ^ c))) (.int .u64 (.ofNat 1))=some (.int .u64 (.ofNat (Nat.land (d / 2 ^ c) 1))) /\
  Qn (.ofNat (Nat.land (d / 2 ^ c) 1)) (.ofNat 1)=El d c/\Qn (.ofNat (Nat.land (d / 2 ^ c) 1)) (.ofNat 0)=!El d c:=by
 have h1:d / 2 ^ c < 65536:=Nat.lt_of_le_of_lt (Nat.div_le_self ..) hd;refine ⟨Zgf hc,Cl (by omega) (by omega),rfl,?_⟩
 show Nat.beq (Nat.land (d / 2 ^ c) 1) 0=!Nat.beq (Nat.land (d / 2 ^ c) 1) 1;have e:Nat.land (d / 2 ^ c) 1=d / 2 ^ c % 2:=Nat.and_one_is_mod _;rw [e];rcases Nat.mod_two_eq_zero_or_one (d / 2 ^ c) with h |h <;> rw [h] <;> rfl
theorem Zq1 {gv:Nat} (hv:fk gv) {bc bv bp ba bo:Nat} {cells:List Nat} {all:List (Nat×Nat)} (ar:∀ x∈cells,x < 16) (ha16:∀ b∈all,b.2 < 16) (xu:all.length < 90000) (Tm:cells.length < 90000) (Zh:Nat) (Oc:Zh<=bo) :
  ∀ (n d i left used:Nat) (l:List (Nat×Nat)) (outs:List (List (Nat×Nat))) (H:TH),i+n=cells.length->I4 bc bv bp ba bo gv cells all H->H[bo]? = some (.cells [Vv outs])->Zh<=Zb H ->
   used < 65536->left < 90000->l.length+n < 90000->outs.length+(Gi all (cells.drop i) left used l).length < 90000 ->
   tc (d+n+2) Zh 175 [tN i,tN left,tU used,rQ l,.ptr bc 0,.ptr bv 0,.ptr bp 0,.ptr ba 0] H=some (.Xh [],H.set bo (.cells [Vv (outs++Gi all (cells.drop i) left used l)])):=by
 intro n
 induction n with
 |zero=>
  intro d i left used l outs H hi pb hbo htH hus hle hl hO;rw [Y4 (F:=F175) (by kernel_rfl)]
  have hi:i=cells.length:=hi;subst hi;rw [List.drop_length] at hO ⊢;have lc:∀ {β:Type} (k:TV->TH->Option β),loadT .Xi Zh (Zb H) false 1 H (.ptr bc 0) k=k (.row (om (cells.map tN)) (lfB (cells.map tN)) (zf 1 (cells.map tN)) (cells.map tN)) H:=λk=>Zbb pb.c;have lv:∀ {β:Type} (k:TV->TH->Option β),loadT .Xi Zh (Zb H) false 1 H (.ptr bv 0) k=k (.fn (.func gv) [] [.ptr bo 0]) H:=λk=>Zx pb.v rfl rfl rfl
  have Xn:∀ {β:Type} (k:TV->TH->Option β),Xd TC (tc (d+0+1)) Zh (.fn (.func gv) [] [.ptr bo 0]) [rQ l] H k=k (.Xh []) (H.set bo (.cells [Vv (outs++[l])])):=λk=>
   Yo rfl (hv d Zh hbo Oc (by omega))
  show Za (Zda (tc (d+0+1)) Zh (Zb H) (tN cells.length,tN left,tU used,rQ l,.ptr bc 0,.ptr bv 0,.ptr bp 0,.ptr ba 0,Zk,Zk,Zk,Zk,Zk,Zk,Zk,Zk,Zk,Zk,Zk,()) H) _=_;cases h0:Nat.beq left 0 with
  |true=>
   have hz:Gi all [] left used l=[l]:=by show cond (Nat.beq left 0) [l] []=_;rw [h0];rfl
   simp only [Zda,VV,lc,lv,Zz (cells.map tN),List.length_map,show Qn (.ofNat cells.length) (.ofNat cells.length)=true from Nat.beq_refl _,show Qn (.ofNat left) (.ofNat 0)=true from h0,Xn,hz];rw [Z6 rfl,Fq]
  |false=>
   have hz:Gi all [] left used l=[]:=by show cond (Nat.beq left 0) [l] []=_;rw [h0];rfl
   simp only [Zda,VV,lc,lv,Zz (cells.map tN),List.length_map,show Qn (.ofNat cells.length) (.ofNat cells.length)=true from Nat.beq_refl _,show Qn (.ofNat left) (.ofNat 0)=false from h0,Xn,hz];rw [Z6 rfl,Xc,List.append_nil,Uv hbo]
 |succ n ih=>
  intro d i left used l outs H hi pb hbo htH hus hle hl hO;have hil:i < cells.length:=by omega
  rw [Y4 (F:=F175) (by kernel_rfl)]
  obtain ⟨c,hc⟩:∃ c,c=cells[i]:=⟨_,rfl⟩;have hc16':c < 16:=by rw [hc];exact ar _ (List.getElem_mem hil)
  have hdrop:cells.drop i=c::cells.drop (i+1):=by rw [hc];exact List.drop_eq_getElem_cons hil
  rw [hdrop] at hO ⊢;obtain ⟨k,hk⟩:∃ k,k=λb:Nat×Nat=>Gi all (cells.drop (i+1)) left (Nat.lor (Nat.lor used (2 ^ c)) (2 ^ b.2)) (l++[b]):=⟨_,rfl⟩;have Ze0:Gi all (c::cells.drop (i+1)) left used l=cond (El used c) (Gi all (cells.drop (i+1)) left used l) (Bu k c used all++cond (Nat.blt 0 left) (Gi all (cells.drop (i+1)) (left - 1) used l) []):=by rw [hk];rfl
  rw [Ze0] at hO ⊢;have Pq:=Uw hbo;have Da:cells.map tN≠[]:=by intro h;rw [List.map_eq_nil_iff] at h;rw [h] at hil;simp at hil
  have lc:∀ {β:Type} {H1:TH} (_:I4 bc bv bp ba bo gv cells all H1) (k:TV->TH->Option β),loadT .Xi Zh (Zb H) false 1 H1 (.ptr bc 0) k=k (.row (om (cells.map tN)) (lfB (cells.map tN)) (zf 1 (cells.map tN)) (cells.map tN)) H1:=λ{β} {H1} pb k=>Zbb pb.c;have lp:∀ {β:Type} {H1:TH} (_:I4 bc bv bp ba bo gv cells all H1) (k:TV->TH->Option β),loadT .Xi Zh (Zb H) false 1 H1 (.ptr bp 0) k=k (.fn (.func 175) [] [.ptr bc 0,.ptr bv 0,.ptr bp 0,.ptr ba 0]) H1:=λ{β} {H1} pb k=>Zx pb.p rfl rfl rfl;have la:∀ {β:Type} {H1:TH} (_:I4 bc bv bp ba bo gv cells all H1) (k:TV->TH->Option β),loadT .settle Zh (Zb H) false 1 H1 (.ptr ba 0) k=k (rQ all) H1:=λ{β} {H1} pb k=>Zx pb.a rfl rfl rfl;have hcel:(cells.map tN)[i]? = some (tN c):=by rw [List.getElem?_map,List.getElem?_eq_getElem hil,hc];rfl
  have Ec:zf 1 (cells.map tN)=1:=ye Da;obtain ⟨b1,b2,b3,b4⟩:=bitU (show c<=64 by omega) hus
  have hne2:Qn (.ofNat i) (.ofNat cells.length)=false:=Wm (by omega)
  have add1:Z0 (.int .i64 (.ofNat i)) (.int .i64 (.ofNat 1))=some (.int .i64 (.ofNat (i+1))):=X9 (by omega)
  have hpbx:∀ {H1:TH} {outs:List (List (Nat×Nat))},X7 H1 (Zb H)=H.set bo (.cells [Vv outs])->I4 bc bv bp ba bo gv cells all H1:=by
   intro H1 outs ht;have:=pb.set (o:=.cells [Vv outs]);exact ⟨(Ey ht (Uw pb.c)).trans this.c,(Ey ht (Uw pb.v)).trans this.v,(Ey ht (Uw pb.p)).trans this.p,(Ey ht (Uw pb.a)).trans this.a,this.n⟩
  have Tf:∀ {H1:TH} {x:TV} {o:Kc},X7 H1 (Zb H)=H.set bo o->X7 (H1.set bo (.cells [x])) (Zb H)=H.set bo (.cells [x]):=λht=>by rw [O8 ht,List.set_set]
  have Xn:∀ {β:Type} {H1:TH} {left used:Nat} {l:List (Nat×Nat)} {outs:List (List (Nat×Nat))} (_:X7 H1 (Zb H)=H.set bo (.cells [Vv outs])) (_:Zb H<=Zb H1) (_:used < 65536) (_:left < 90000) (_:l.length+n < 90000) (_:outs.length+(Gi all (cells.drop (i+1)) left used l).length < 90000) (kk:TV->TH->Option β),
    Xd TC (tc (d+(n+1)+1)) Zh (.fn (.func 175) [] [.ptr bc 0,.ptr bv 0,.ptr bp 0,.ptr ba 0]) [tN (i+1),tN left,tU used,rQ l] H1 kk=kk (.Xh []) (H1.set bo (.cells [Vv (outs++Gi all (cells.drop (i+1)) left used l)])):=by
   intro β H1 left used l outs ht hg h1 h2 h3 h4 kk;refine Yo rfl ?_;exact ih d (i+1) left used l outs H1 (by omega) (hpbx ht) ((Ey ht Pq).trans (Jv hbo)) (by omega) h1 h2 h3 h4
  have key:Qg (Zda (tc (d+(n+1)+1)) Zh (Zb H) (tN i,tN left,tU used,rQ l,.ptr bc 0,.ptr bv 0,.ptr bp 0,.ptr ba 0,Zk,Zk,Zk,Zk,Zk,Zk,Zk,Zk,Zk,Zk,Zk,()) H)
    λe S H1=>(e=.normal\/e=.ret)/\X7 H1 (Zb H)=H.set bo (.cells [Vv (outs++cond (El used c) (Gi all (cells.drop (i+1)) left used l) (Bu k c used all++cond (Nat.blt 0 left) (Gi all (cells.drop (i+1)) (left - 1) used l) []))]):=by
   have start:X7 H (Zb H)=H.set bo (.cells [Vv outs]):=by rw [Xc,Uv hbo]
   have hset1:Zg (.row (om (cells.map tN)) (lfB (cells.map tN)) (zf 1 (cells.map tN)) (cells.map tN))=.row (om (cells.map tN)) (lfB (cells.map tN)) (zf 1 (cells.map tN)) (cells.map tN):=Zmi;cases hb:El used c with
   |true=>
    rw [hb] at hO;have hc1:=λ{β:Type} (kk:TV->TH->Option β)=>Xn start (Nat.le_refl _) hus hle (by omega) hO kk
    simp only [Zda,VV,lc pb,lp pb,la pb,Zz (cells.map tN),List.length_map,Ec,Qe hcel,hne2,b1,b2,b3,hb,add1,hc1];exact .fin ⟨.inr rfl,Tf start⟩
   |false=>
    rw [hb] at hO;have hO:outs.length+(Bu k c used all++cond (Nat.blt 0 left) (Gi all (cells.drop (i+1)) (left - 1) used l) []).length < 90000:=hO;rw [List.length_append] at hO;simp only [Zda,VV,lc pb,lp pb,la pb,Zz (cells.map tN),Zz (all.map tQ),List.length_map,Ec,Qe hcel,hne2,b1,b2,b3,hb,add1]
    refine Qg.su (k:=all.length) (λm S H1=>∃ j F3,S.1=tN i/\S.2.1=tN left/\S.2.2.1=tU used/\S.2.2.2.1=rQ l/\S.2.2.2.2.1=.ptr bc 0/\S.2.2.2.2.2.1=.ptr bv 0/\S.2.2.2.2.2.2.1=.ptr bp 0/\S.2.2.2.2.2.2.2.1=.ptr ba 0/\S.2.2.2.2.2.2.2.2.1=tN c/\S.2.2.2.2.2.2.2.2.2.2.2.2.2.1=rQ all/\S.2.2.2.2.2.2.2.2.2.2.2.2.2.2.1=tN all.length/\S.2.2.2.2.2.2.2.2.2.2.2.2.2.2.2.1=tN j /\
      X7 H1 (Zb H)=H.set bo (.cells [Vv F3])/\Zb H<=Zb H1/\j<=all.length/\m=all.length - j/\outs++Bu k c used all=F3++Bu k c used (all.drop j))
     (λS H1=>S.1=tN i/\S.2.1=tN left/\S.2.2.1=tU used/\S.2.2.2.1=rQ l/\S.2.2.2.2.2.2.1=.ptr bp 0/\X7 H1 (Zb H)=H.set bo (.cells [Vv (outs++Bu k c used all)])/\Zb H<=Zb H1)
     (λ_ _=>False) ?_ (by rw [Yg];omega) ⟨0,outs,rfl,rfl,rfl,rfl,rfl,rfl,rfl,rfl,rfl,rfl,rfl,rfl,start,Nat.le_refl _,Nat.zero_le _,rfl,rfl⟩ ?_ (λ_ _ h=>h.elim)
    ·rintro m S H1 ⟨j,F3,s0,s1,s2,s3,s4,s5,s6,s7,s8,s13,s14,s15,ht,hg,hj,rfl,Qx⟩;rcases Nat.eq_or_lt_of_le hj with hj |hj
     ·rw [hj,List.drop_length] at Qx;have Qx:outs++Bu k c used all=F3++[]:=Qx;rw [List.append_nil] at Qx;simp only [VV,s0,s1,s2,s3,s4,s5,s6,s7,s8,s13,s14,s15,Ql,Kf (Nat.le_of_eq hj.symm)];exact .fin (.inr (.inl ⟨rfl,rfl,rfl,rfl,rfl,rfl,by rw [Qx];exact ht,hg⟩))
     ·obtain ⟨b,Hl⟩:∃ b,b=all[j]:=⟨_,rfl⟩;have Ze1:b.2 < 16:=by rw [Hl];exact ha16 _ (List.getElem_mem hj)
      have J8:(all.map tQ)[j]? = some (tQ b):=by rw [List.getElem?_map,List.getElem?_eq_getElem hj,Hl];rfl
      have hsza:zf 2 (all.map tQ)=2:=ye (by intro h;rw [List.map_eq_nil_iff] at h;rw [h] at hj;simp at hj)
      have hrA:TV.row (om (all.map tQ)) .set 2 (all.map tQ)=rQ all:=by show _=TV.row _ _ (zf 2 (all.map tQ)) _;rw [hsza]
      rw [List.drop_eq_getElem_cons hj,<- Hl] at Qx;have Qx:outs++Bu k c used all=F3++cond (cond (Nat.beq b.1 c) (!El used b.2) false) (k b++Bu k c used (all.drop (j+1))) (Bu k c used (all.drop (j+1))):=Qx;obtain ⟨D,hD⟩:∃ D,D=Zv H1 (.cells [tN b.1,tN b.2]):=⟨_,rfl⟩;have hDb:D[Zb H1]? = some (.cells [tN b.1,tN b.2]):=by rw [hD];exact Qf
      have htD:X7 D (Zb H)=H.set bo (.cells [Vv F3]):=by rw [hD];exact Ju ht hg
      have hgD:Zb H<=Zb D:=by rw [hD,Qd];omega
      have pD:=hpbx htD
      have sb:storeT Zh (Zb H) 2 (Zv H1 (.cells Vy)) (.ptr (Zb H1) 0) (.agg [tN b.1,tN b.2])=some D:=by
       rw [Qy (off:=0) (n:=2) (x:=.agg [tN b.1,tN b.2]) Qf (by omega) rfl (.inl rfl) rfl (by decide),Yb,Kr (cs:=Vy) (xs:=[tN b.1,tN b.2]) rfl,Wv,hD]
      have l1:∀ {β:Type} (k:TV->TH->Option β),loadT .Xi Zh (Zb H) false 1 D (.ptr (Zb H1) (0+0 * 1)) k=k (tN b.1) D:=λk=>Zx hDb rfl rfl rfl;have l2:∀ {β:Type} (k:TV->TH->Option β),loadT .Xi Zh (Zb H) false 1 D (.ptr (Zb H1) (0+1 * 1)) k=k (tN b.2) D:=λk=>Zx hDb rfl rfl rfl;have l3:∀ {β:Type} (k:TV->TH->Option β),loadT .settle Zh (Zb H) true 2 D (.ptr (Zb H1) 0) k=k (tQ b) D:=λk=>Xw hDb (by simp) rfl
      have i0:Qt 2 1 (.ptr (Zb H1) 0) (tN 0)=some (.ptr (Zb H1) (0+0 * 1)):=rfl;have i1:Qt 2 1 (.ptr (Zb H1) 0) (tN 1)=some (.ptr (Zb H1) (0+1 * 1)):=rfl;have a3:Z0 (.int .i64 (.ofNat j)) (.int .i64 (.ofNat 1))=some (.int .i64 (.ofNat (j+1))):=X9 (by omega)
      obtain ⟨g1,g2,_,g4⟩:=bitU (show b.2<=64 by omega) hus
      cases q1:Nat.beq b.1 c with
      |false=>
       rw [q1] at Qx;simp only [VV,s0,s1,s2,s3,s4,s5,s6,s7,s8,s13,s14,s15,Ql,Xo hj,hsza,Qe J8,sb,l1,l2,i0,i1,show Qn (.ofNat b.1) (.ofNat c)=false from q1,a3];exact .fin (.inl ⟨rfl,all.length - (j+1),by omega,j+1,F3,rfl,rfl,rfl,rfl,rfl,rfl,rfl,rfl,rfl,hrA,rfl,rfl,htD,hgD,hj,rfl,Qx⟩)
      |true=>
       cases q2:El used b.2 with
       |true=>
        rw [q1,q2] at Qx;simp only [VV,s0,s1,s2,s3,s4,s5,s6,s7,s8,s13,s14,s15,Ql,Xo hj,hsza,Qe J8,sb,l1,l2,i0,i1,show Qn (.ofNat b.1) (.ofNat c)=true from q1,a3,g1,g2,g4,q2,Bool.not_true];exact .fin (.inl ⟨rfl,all.length - (j+1),by omega,j+1,F3,rfl,rfl,rfl,rfl,rfl,rfl,rfl,rfl,rfl,hrA,rfl,rfl,htD,hgD,hj,rfl,Qx⟩)
       |false=>
        rw [q1,q2] at Qx;have Qx:outs++Bu k c used all=F3++(k b++Bu k c used (all.drop (j+1))):=Qx;have hlen:=congrArg List.length Qx;rw [List.length_append,List.length_append,List.length_append] at hlen;have hkb:k b=Gi all (cells.drop (i+1)) left (Nat.lor (Nat.lor used (2 ^ c)) (2 ^ b.2)) (l++[b]):=by rw [hk]
        rw [hkb] at hlen Qx;have p1:=fq hc16';have p2:=fq Ze1;have z1:Y8 (.int .u64 (.ofNat 1)) (.int .i64 (.ofNat c))=some (.int .u64 (.ofNat (2 ^ c))):=by rw [Mz (by omega) (by rw [Nat.one_mul];omega),Nat.one_mul]
        have z2:Y8 (.int .u64 (.ofNat 1)) (.int .i64 (.ofNat b.2))=some (.int .u64 (.ofNat (2 ^ b.2))):=by rw [Mz (by omega) (by rw [Nat.one_mul];omega),Nat.one_mul]
        have u1:Nat.lor used (2 ^ c) < 65536:=Nat.or_lt_two_pow (n:=16) hus p1;have u2:Nat.lor (Nat.lor used (2 ^ c)) (2 ^ b.2) < 65536:=Nat.or_lt_two_pow (n:=16) u1 p2;have z3:Ep (.int .u64 (.ofNat used)) (.int .u64 (.ofNat (2 ^ c)))=some (.int .u64 (.ofNat (Nat.lor used (2 ^ c)))):=uh (by omega) (by omega)
        have z4:Ep (.int .u64 (.ofNat (Nat.lor used (2 ^ c)))) (.int .u64 (.ofNat (2 ^ b.2)))=some (.int .u64 (.ofNat (Nat.lor (Nat.lor used (2 ^ c)) (2 ^ b.2)))):=uh (by omega) (by omega)
        obtain ⟨x,x1,x2,x3⟩:=clip_Q (l:=l) (p:=b) (by omega)
        have hc1:=λ{β:Type} (kk:TV->TH->Option β)=>Xn (β:=β) (l:=l++[b]) htD hgD u2 hle (by rw [List.length_append];show l.length+1+n < 90000;omega) (by omega) kk
        have Sr:Yf 2 [0] [tQ b] (Y5 [.agg Vy] 1)=some [tQ b]:=rfl;simp only [VV,s0,s1,s2,s3,s4,s5,s6,s7,s8,s13,s14,s15,Ql,Xo hj,hsza,Qe J8,sb,l1,l2,l3,i0,i1,show Qn (.ofNat b.1) (.ofNat c)=true from q1,a3,g1,g2,g4,q2,Bool.not_false,lp pD,add1,z1,z2,z3,z4,x1,Sr,x2,x3,hc1];exact .fin (.inl ⟨rfl,all.length - (j+1),by omega,j+1,_,rfl,rfl,rfl,rfl,rfl,rfl,rfl,rfl,rfl,hrA,rfl,rfl,Tf htD,by rw [Ks];exact hgD,hj,rfl,by rw [Qx,List.append_assoc]⟩)
    ·rintro S H1 ⟨s0,s1,s2,s3,s6,ht,hg⟩;cases q0:Nat.blt 0 left with
     |false=>
      simp only [VV,s0,s1,s2,s3,s6,Gg,q0];exact .fin ⟨.inl rfl,by rw [List.append_nil];exact ht⟩
     |true=>
      rw [q0] at hO;have hO:outs.length+((Bu k c used all).length+(Gi all (cells.drop (i+1)) (left - 1) used l).length) < 90000:=hO;rw [Nat.blt_eq] at q0;have hc1:=λ{β:Type} (kk:TV->TH->Option β)=>Xn (β:=β) (left:=left - 1) (l:=l) (used:=used) ht hg hus (by omega) (by omega) (by rw [List.length_append];omega) kk
      have hs1:Qq (.int .i64 (.ofNat left)) (.int .i64 (.ofNat 1))=some (.int .i64 (.ofNat (left - 1))):=Uc (by omega) (by omega)
      simp only [VV,s0,s1,s2,s3,s6,Gg,Xo q0,lp (hpbx ht),add1,hs1,hc1];exact .fin ⟨.inl rfl,by rw [Tf ht,List.append_assoc]⟩
  obtain ⟨e,S,H1,h1,h2,h3⟩:=key;show Za (Zda (tc (d+(n+1)+1)) Zh (Zb H) (tN i,tN left,tU used,rQ l,.ptr bc 0,.ptr bv 0,.ptr bp 0,.ptr ba 0,Zk,Zk,Zk,Zk,Zk,Zk,Zk,Zk,Zk,Zk,Zk,()) H) _=_;rw [h1];rcases h2 with rfl |rfl
  ·simp only [Yy,N4,W1,G0];rw [Z6 rfl,h3]
  ·simp only [Yy,Jm,W1,G0];rw [Z6 rfl,h3]
end
end Go.Proofs.YtgemobbfikjmoaaGreatDoor
namespace Go.Proofs.YtgemobbfikjmoaaGreatDoor
open Go Go.Ev
set_option maxRecDepth 100000
noncomputable section
theorem sa:fk 133:=by
 intro d Zh H bo outs l hbo Oc hlen;rw [Y4 (F:=F133) (by kernel_rfl)]
 have Pq:=Uw hbo
 have lt:∀ {β:Type} (k:TV->TH->Option β),loadT .take Zh (Zb H) false 1 H (.ptr bo 0) k=k (Vv outs) (H.set bo (.cells [Vv outs]))\/loadT .take Zh (Zb H) false 1 H (.ptr bo 0) k=k (Vv outs) (H.set bo (.cells [Zk])):=λk=>by
  show K1 (Yx H bo λcs=>Zf (nth cs 0) λx=>Mc .take Zh (Zb H) H bo cs 0 x Qr) k=_\/K1 (Yx H bo λcs=>Zf (nth cs 0) λx=>Mc .take Zh (Zb H) H bo cs 0 x Qr) k=_;unfold Yx;rw [Xq,hbo];cases outs with
  |nil=>refine .inl ?_;rw [Uv hbo];rfl
  |cons a outs=>
   refine .inr ?_;show K1 (Zp (Nat.ble Zh bo) (Qr (Vv (a::outs)) (Kg H bo (.cells [Zk])))) k=_;rw [Nat.ble_eq_true_of_le Oc,M3 hbo];rfl
 have hr:∀ (k:TV->TH->Option (Ex×(TV×TV×Unit)×TH)) (H1:TH),X6 Zh H1 31 1 24 (Vv outs) (.row .full (.own 31) 1 [rQ l]) k=k (Vv (outs++[l])) H1:=λk H1=>by
  have e:Vv (outs++[l])=Xj 31 1 (outs.map rQ++[rQ l]):=by
   show Xj _ _ ((outs++[l]).map rQ)=_;rw [List.map_append];rfl
  rw [Et,e];unfold roomFor
  have h1:Nat.ble (Nat.mul ((outs.map rQ).length+1) 24) xb=true:=Nat.ble_eq_true_of_le (by
                                                   rw [List.length_map];show (outs.length+1) * 24<=xb;have:(3200000:Nat)<=xb:=by decide
                                                   omega)
  have h2:Nat.blt ((outs.map rQ).length+1) xb=true:=by
                                 rw [Nat.blt_eq,List.length_map];have:(3200000:Nat)<=xb:=by decide
                                 omega
  rw [h1,h2];rfl
 have J8:Yf 1 [0] [rQ l] (Y5 [Xp] 1)=some [rQ l]:=rfl;show Za (C133 (tc d) Zh (Zb H) (rQ l,.ptr bo 0,()) H) _=_
 have go:∀ (o:List TV),(o=[Vv outs]\/o=[Zk])->storeT Zh (Zb H) 1 (H.set bo (.cells o)) (.ptr bo 0) (Vv (outs++[l]))=some (H.set bo (.cells [Vv (outs++[l])])):=λo ho=>by
  rw [Qy (off:=0) (cs:=o) (Jv hbo) Oc yg (.inl (by cases outs <;> rfl)) (by rw [Io];rfl) (by rcases ho with rfl |rfl <;> exact Nat.le_refl 1),Io]
  rcases ho with rfl |rfl <;> (rw [List.set_set];rfl)
 have tk:=Fq (H:=H) (b:=bo) (o:=.cells [Vv (outs++[l])])
 have key:∀ (k:TV->TH->Gz (TV×TV×Unit)),(∀ H1,(H1=H.set bo (.cells [Vv outs])\/H1=H.set bo (.cells [Zk]))->k (Vv outs) H1=some (.normal,(rQ l,.ptr bo 0,()),H.set bo (.cells [Vv (outs++[l])])))->loadT .take Zh (Zb H) false 1 H (.ptr bo 0) k=some (.normal,(rQ l,.ptr bo 0,()),H.set bo (.cells [Vv (outs++[l])])):=λk hk=>by
  rcases lt k with h |h
  ·rw [h];exact hk _ (.inl rfl)
  ·rw [h];exact hk _ (.inr rfl)
 simp only [C133,VV];rw [key]
 ·simp only [VV];rw [Z6 rfl,tk]
 ·intro H1 hH1;simp only [VV,J8,hr];rcases hH1 with rfl |rfl
  ·simp only [VV,go _ (.inl rfl)]
  ·simp only [VV,go _ (.inr rfl)]
theorem Va {Zh base:Nat} {H:TH} {x y z:TV} (ht:Zh<=Zb H) (hs:Yu x=true) (hl:Oq x=true\/base<=Zb H) (hx:Zy x=[y]):storeT Zh base 1 (Zv H (.cells [z])) (.ptr (Zb H) 0) x=some (Zv H (.cells [y])):=by
 rw [Qy (off:=0) (n:=1) (cs:=[z]) (x:=x) Qf ht hs hl (by rw [hx];rfl) (Nat.le_refl 1),hx,Kr (cs:=[z]) (xs:=[y]) rfl,Wv]
theorem Zcz {n:Nat}:∀ (l:List Nat) (lo:Nat),l.Pairwise (· < ·)->(∀ x∈l,lo<=x/\x < n)->l.length<=n - lo
 |[],_,_,_=>Nat.zero_le _
 |a::l,lo,hp,h=>by
  obtain ⟨h1,h2⟩:=List.pairwise_cons.1 hp;have ha:=h a (List.mem_cons_self ..);have ih:=Zcz l (a+1) h2 λx hx=>⟨h1 x hx,(h x (List.mem_cons_of_mem _ hx)).2⟩;show l.length+1<=n - lo;omega
theorem Zhs {n:Nat} {l:List Nat} (hp:l.Pairwise (· < ·)) (h:∀ x∈l,x < n):l.length<=n:=Zcz l 0 hp λx hx=>⟨Nat.zero_le _,h x hx⟩
theorem Zb5 {w h:Nat} {sp:List Nat} (ok:Kd w h sp):∀ x∈Vk w h sp,x < 16:=λx hx=>by
 have:=(Bg.1 hx).1;have:=ok.Ca;omega
theorem l7 {w h:Nat} {sp:List Nat} (ok:Kd w h sp):(Vk w h sp).length<=16:=Nat.le_trans (Bh sp _ _) ok.Ca
theorem Zpj {gv:Nat} (hv:fk gv) (d Zh:Nat) {w h n idle bo:Nat} {c:Cp} {sp:List Nat} {outs:List (List (Nat×Nat))} {H:TH} (ok:Kd w h sp) (hn:sp≠[]->n=1) (hbo:H[bo]? = some (.cells [Vv outs])) (Oc:Zh<=bo) (hidle:idle < 90000)
  (hO:outs.length+(Gi (Ka w h sp) (Vk w h sp) idle 0 []).length < 90000) :
  tc (d+19) Zh 132 [tS w h c n sp,tN idle,.fn (.func gv) [] [.ptr bo 0]] H=some (.Xh [],H.set bo (.cells [Vv (outs++Gi (Ka w h sp) (Vk w h sp) idle 0 [])])):=by
 have Pq:=Uw hbo;have Ca:=ok.Ca;have w8:=ok.w8;have w1:=ok.w1;have h8:=ok.h8;obtain ⟨prs,hprs⟩:∃ prs,prs=Ka w h sp:=⟨_,rfl⟩;obtain ⟨gl,hgl⟩:∃ gl,gl=Vk w h sp:=⟨_,rfl⟩;have hgl16:gl.length<=16:=by rw [hgl];exact l7 ok
 have hspl:sp.length < 90000:=by
  have h1:=Zhs ok.asc (λx hx=>Nat.lt_of_lt_of_le (ok.lt x hx) Ca);omega
 have hpr:∀ (d:Nat) (H:TH),Zm (tc (d+4)) 63 [tS w h c n sp] H=some (rQ prs):=λd H=>by
  rw [hprs];exact Zd2 d w1 (by omega) (by omega) hn hspl (o6 _ (Zi1 ok)) (by have:=dq ok;omega)
 have qo:∀ (d:Nat) (H:TH),Zm (tc (d+3)) 56 [tS w h c n sp] H=some (Xj 3 1 (gl.map tN)):=λd H=>by
  rw [hgl];exact St d (by omega) (by omega) hn hspl
 rw [<- hprs,<- hgl] at hO ⊢;rw [Y4 (F:=F132) (by kernel_rfl)]
 obtain ⟨B0,az⟩:∃ B,B=Zv H (.cells [tN w,tN h,.row c .set n (sp.map tN)]):=⟨_,rfl⟩;obtain ⟨B1,ju⟩:∃ B,B=Zv B0 (.cells [.fn (.func gv) [] [.ptr bo 0]]):=⟨_,rfl⟩;obtain ⟨B2,ay⟩:∃ B,B=Zv B1 (.cells [rQ prs]):=⟨_,rfl⟩;obtain ⟨B3,l6⟩:∃ B,B=Zv B2 (.cells [Xj 3 1 (gl.map tN)]):=⟨_,rfl⟩;obtain ⟨B4,ax⟩:∃ B,B=Zv B3 (.cells [.fn (.func 175) [] [.ptr (Zb B2) 0,.ptr (Zb B0) 0,.ptr (Zb B3) 0,.ptr (Zb B1) 0]]):=⟨_,rfl⟩;have n0:Zb B0=Zb H+1:=by rw [az];exact Qd
 have n1:Zb B1=Zb B0+1:=by rw [ju];exact Qd
 have n2:Zb B2=Zb B1+1:=by rw [ay];exact Qd
 have n3:Zb B3=Zb B2+1:=by rw [l6];exact Qd
 have n4:Zb B4=Zb B3+1:=by rw [ax];exact Qd
 have k0:B0[Zb H]? = some (.cells [tN w,tN h,.row c .set n (sp.map tN)]):=by rw [az];exact Qf
 have k01:B1[Zb H]? = some (.cells [tN w,tN h,.row c .set n (sp.map tN)]):=by rw [ju];exact Qm k0
 have k02:B2[Zb H]? = some (.cells [tN w,tN h,.row c .set n (sp.map tN)]):=by rw [ay];exact Qm k01
 have o0:B0[bo]? = some (.cells [Vv outs]):=by rw [az];exact Qm hbo
 have o1:B1[bo]? = some (.cells [Vv outs]):=by rw [ju];exact Qm o0
 have o2:B2[bo]? = some (.cells [Vv outs]):=by rw [ay];exact Qm o1
 have o3:B3[bo]? = some (.cells [Vv outs]):=by rw [l6];exact Qm o2
 have o4:B4[bo]? = some (.cells [Vv outs]):=by rw [ax];exact Qm o3
 have v1:B1[Zb B0]? = some (.cells [.fn (.func gv) [] [.ptr bo 0]]):=by rw [ju];exact Qf
 have v2:B2[Zb B0]? = some (.cells [.fn (.func gv) [] [.ptr bo 0]]):=by rw [ay];exact Qm v1
 have v3:B3[Zb B0]? = some (.cells [.fn (.func gv) [] [.ptr bo 0]]):=by rw [l6];exact Qm v2
 have v4:B4[Zb B0]? = some (.cells [.fn (.func gv) [] [.ptr bo 0]]):=by rw [ax];exact Qm v3
 have a2:B2[Zb B1]? = some (.cells [rQ prs]):=by rw [ay];exact Qf
 have a3:B3[Zb B1]? = some (.cells [rQ prs]):=by rw [l6];exact Qm a2
 have a4:B4[Zb B1]? = some (.cells [rQ prs]):=by rw [ax];exact Qm a3
 have c3:B3[Zb B2]? = some (.cells [Xj 3 1 (gl.map tN)]):=by rw [l6];exact Qf
 have c4:B4[Zb B2]? = some (.cells [Xj 3 1 (gl.map tN)]):=by rw [ax];exact Qm c3
 have p4:B4[Zb B3]? = some (.cells [.fn (.func 175) [] [.ptr (Zb B2) 0,.ptr (Zb B0) 0,.ptr (Zb B3) 0,.ptr (Zb B1) 0]]):=by rw [ax];exact Qf
 have pb:I4 (Zb B2) (Zb B0) (Zb B3) (Zb B1) bo gv gl prs B4:=⟨c4,v4,p4,a4,by omega⟩
 have t4:X7 B4 (Zb H)=H:=by
  rw [ax];refine Ju ?_ (by omega)
  rw [l6];refine Ju ?_ (by omega)
  rw [ay];refine Ju ?_ (by omega)
  rw [ju];refine Ju ?_ (by omega)
  rw [az];exact Jt
 have lA1:∀ {β:Type} (k:TV->TH->Option β),loadT .Xi Zh (Zb H) true 3 B1 (.ptr (Zb H) 0) k=k (tS w h c n sp) B1:=λk=>Xw k01 (by simp) rfl
 have lA2:∀ {β:Type} (k:TV->TH->Option β),loadT .Xi Zh (Zb H) true 3 B2 (.ptr (Zb H) 0) k=k (tS w h c n sp) B2:=λk=>Xw k02 (by simp) rfl
 have s2:storeT Zh (Zb H) 1 (Zv B1 (.cells [Xp])) (.ptr (Zb B1) 0) (rQ prs)=some B2:=by rw [ay];exact Va (by omega) rfl (.inl rfl) rfl
 have s3:storeT Zh (Zb H) 1 (Zv B2 (.cells [Xp])) (.ptr (Zb B2) 0) (Xj 3 1 (gl.map tN))=some B3:=by rw [l6];exact Va (by omega) yg (.inr (by omega)) Io
 have s4:storeT Zh (Zb H) 1 (Zv B3 (.cells [.v .nilFunc])) (.ptr (Zb B3) 0) (.fn (.func 175) [] [.ptr (Zb B2) 0,.ptr (Zb B0) 0,.ptr (Zb B3) 0,.ptr (Zb B1) 0])=some B4:=by
  conv=>rhs;rw [ax]
  exact Va (by omega) rfl (.inr (by omega)) rfl
 have l4:∀ {β:Type} (k:TV->TH->Option β),loadT .Xi Zh (Zb H) false 1 B4 (.ptr (Zb B3) 0) k=k (.fn (.func 175) [] [.ptr (Zb B2) 0,.ptr (Zb B0) 0,.ptr (Zb B3) 0,.ptr (Zb B1) 0]) B4:=λk=>Zx p4 rfl rfl rfl
 have Xn:∀ {β:Type} (k:TV->TH->Option β),Xd TC (tc (d+18)) Zh (.fn (.func 175) [] [.ptr (Zb B2) 0,.ptr (Zb B0) 0,.ptr (Zb B3) 0,.ptr (Zb B1) 0]) [tN 0,tN idle,.v (.int .u64 (.ofNat 0)),Xp] B4 k=k (.Xh []) (B4.set bo (.cells [Vv (outs++Gi prs gl idle 0 [])])):=λk=>by
  refine Yo rfl ?_;have:=Zq1 hv (λx hx=>Zb5 ok x (hgl ▸ hx)) (λb hb=>(Zm3 ok b (hprs ▸ hb)).2) (by rw [hprs];have:=dq ok;omega) (by omega) Zh Oc gl.length (d+(16 - gl.length)) 0 idle 0 [] outs B4 (by omega) pb o4 (by omega) (by decide) hidle (by simp;omega) (by rw [List.drop_zero];exact hO)
  rw [show d+(16 - gl.length)+gl.length+2=d+18 by omega,List.drop_zero] at this
  exact this
 have Us:Yu (tS w h c n sp)=true:=by cases c <;> rfl
 show Za (C132 (tc (d+18)) Zh (Zb H) (tS w h c n sp,tN idle,.fn (.func gv) [] [.ptr bo 0],Zk,Zk,Zk,Zk,Zk,()) H) _=_;simp only [C132,VV,<- az,<- ju,lA1,lA2,hpr (d+14),qo (d+15),s2,s3,s4,l4,Xn];rw [Z6 rfl,O8 t4]
theorem Znx {β:Type} {Zh base b e n:Nat} {l:List TV} {H:TH} {k:TV->TH->Option β} (hb:H[b]? = some (.cells [Xj e n l])):loadT .settle Zh base false 1 H (.ptr b 0) k=k (rS n l) (H.set b (.cells [rS n l])):=by
 show K1 (Yx H b λcs=>Zf (nth cs 0) λx=>Mc .settle Zh base H b cs 0 x Qr) k=_;unfold Yx;rw [Xq,hb];cases l with
 |nil=>
  have:H.set b (.cells [Xp])=H:=Uv hb;show k Xp H=k Xp (H.set b (.cells [Xp]));rw [this]
 |cons x l=>
  show k (rS n (x::l)) (Kg H b (.cells [rS n (x::l)]))=_;rw [M3 hb]
end
end Go.Proofs.YtgemobbfikjmoaaGreatDoor
namespace Go.Ev
noncomputable section
theorem yc {β:Type} {n b off:Nat} {ag:Bool} {H:TH} {k:TV->TH->Option β}:Xb n ag (.ptr b off) H k=k (.ptr b off) H:=(rfl)
end
end Go.Ev
namespace Go.Proofs.YtgemobbfikjmoaaGreatDoor
open Go Go.Ev
set_option maxRecDepth 100000
noncomputable section
def tM (x:Nat):TV:=match x with |0=>tI (.negSucc 0) |c+1=>tN c
def goF (rec:Nat->Nat->List Nat->Option (Bool×Nat×List Nat)) (c:Nat):List Nat->Nat->List Nat->Option (Bool×Nat×List Nat)
 |[],s,m=>some (false,s,m)
 |d::ds,s,m=>cond (El s d) (goF rec c ds s m)
   (match m[d]?.getD 0 with
   |0=>some (true,Nat.lor s (2 ^ d),m.set d (c+1))
   |e+1=>match rec e (Nat.lor s (2 ^ d)) m with
    |none=>none
    |some (true,s2,m2)=>some (true,s2,m2.set d (c+1))
    |some (false,s2,m2)=>goF rec c ds s2 m2)
def Bq (Zq:List Nat) (free:Nat):Nat->Nat->Nat->List Nat->Option (Bool×Nat×List Nat)
 |0,_,_,_=>none
 |f+1,c,s,m=>goF (Bq Zq free f) c (Xu (Nat.land (Zq[c]?.getD 0) free)) s m
def Ew (m:List Nat):Prop:=m.length=16/\∀ x∈m,x<=16
theorem Ew.set {m:List Nat} (h:Ew m) {d c:Nat} (hc:c < 16):Ew (m.set d (c+1)):=
 ⟨by rw [List.length_set];exact h.1,λx hx=>by
  rcases List.mem_or_eq_of_mem_set hx with hx |rfl
  ·exact h.2 x hx
  ·omega⟩
structure wm (bp bf bs bm bt w h g free:Nat) (Zq:List Nat) (H:TH):Prop where
 p:H[bp]? = some (.cells (Qz w h g Zq))
 f:H[bf]? = some (.cells [tU free])
 t:H[bt]? = some (.cells [.fn (.func 153) [] [.ptr bp 0,.ptr bf 0,.ptr bs 0,.ptr bm 0,.ptr bt 0]])
 n:bp≠bs/\bf≠bs/\bt≠bs/\bp≠bm/\bf≠bm/\bt≠bm/\bs≠bm
abbrev It (H:TH) (bs bm s:Nat) (m:List Nat):TH:=(H.set bs (.cells [tU s])).set bm (.cells (m.map tM))
theorem wm.Tf {bp bf bs bm bt w h g free:Nat} {Zq:List Nat} {H:TH} (b:wm bp bf bs bm bt w h g free Zq H) {s:Nat} {m:List Nat}:wm bp bf bs bm bt w h g free Zq (It H bs bm s m):=
 have g:∀ c,c≠bs->c≠bm->(It H bs bm s m)[c]? = H[c]?:=λc h1 h2=>(Vg h2).trans (Vg h1)
 ⟨(g _ b.n.1 b.n.2.2.2.1).trans b.p,(g _ b.n.2.1 b.n.2.2.2.2.1).trans b.f,(g _ b.n.2.2.1 b.n.2.2.2.2.2.1).trans b.t,b.n⟩
theorem Zb3 {H:TH} {bs bm s:Nat} {m:List Nat} {o:Kc} (hs:H[bs]? = some o) (hn:bs≠bm):(It H bs bm s m)[bs]? = some (.cells [tU s]):=(Vg hn).trans (Jv hs)
theorem Zov {H:TH} {bs bm s:Nat} {m:List Nat} {o:Kc} (hm:H[bm]? = some o) (hn:bs≠bm):(It H bs bm s m)[bm]? = some (.cells (m.map tM)):=Jv ((Vg (Ne.symm hn)).trans hm)
theorem Zhd {H:TH} {bs bm s s':Nat} {m m':List Nat} (hn:bs≠bm):It (It H bs bm s m) bs bm s' m'=It H bs bm s' m':=by
 unfold It;rw [List.set_comm _ _ hn.symm,List.set_set,List.set_set]
theorem Zr1 {H:TH} {bs bm s:Nat} {m:List Nat}:Zb (It H bs bm s m)=Zb H:=by rw [Ks,Ks]
theorem Zb2 {H:TH} {bs bm s:Nat} {m:List Nat} (hs:H[bs]? = some (.cells [tU s])) (hm:H[bm]? = some (.cells (m.map tM))):It H bs bm s m=H:=by
 unfold It;rw [Uv hs,Uv hm]
theorem Zhc {H:TH} {bs bm s s':Nat} {m:List Nat} (hn:bs≠bm):(It H bs bm s m).set bs (.cells [tU s'])=It H bs bm s' m:=by
 unfold It;rw [List.set_comm _ _ hn.symm,List.set_set]
theorem Zb1 {H:TH} {bs bm s:Nat} {m m':List Nat}:(It H bs bm s m).set bm (.cells (m'.map tM))=It H bs bm s m':=by
 unfold It;rw [List.set_set]
theorem load_M {β:Type} {md:Ld} {Zh base b d e:Nat} {m:List Nat} {H:TH} {k:TV->TH->Option β} (hb:H[b]? = some (.cells (m.map tM))) (he:m[d]? = some e):loadT md Zh base false 1 H (.ptr b (0+d * 1)) k=k (tM e) H:=by
 have:(m.map tM)[0+d * 1]? = some (tM e):=by rw [Nat.zero_add,Nat.mul_one,List.getElem?_map,he];rfl
 exact Zx hb this (by cases e <;> rfl) (by cases e <;> rfl)
theorem Zgd {Zh base b d c:Nat} {m:List Nat} {H:TH} (hb:H[b]? = some (.cells (m.map tM))) (ht:Zh<=b) (hd:d < m.length):storeT Zh base 1 H (.ptr b (0+d * 1)) (tN c)=some (H.set b (.cells ((m.set d (c+1)).map tM))):=by
 rw [Qy (off:=0+d * 1) (n:=1) (x:=tN c) hb ht rfl (.inl rfl) rfl (by rw [List.length_map];omega),V8,Nat.zero_add,Nat.mul_one,Gv _ _ _ (by rw [List.length_map];exact hd),List.map_set];rfl
theorem Zqi {bp bf bs bm bt w h g free Zh:Nat} {Zq:List Nat} (G4:Zq.length=16) (Kt:∀ x∈Zq,x < 65536) (Af:free < 65536) (htm:Zh<=bm) (fx:Zh<=bs) :
  ∀ (f d c s:Nat) (m:List Nat) (H:TH) (r:Bool×Nat×List Nat),wm bp bf bs bm bt w h g free Zq H->H[bs]? = some (.cells [tU s])->H[bm]? = some (.cells (m.map tM))->c < 16->s < 65536->Ew m->Bq Zq free f c s m=some r ->
   tc (d+f+3) Zh 153 [tN c,.ptr bp 0,.ptr bf 0,.ptr bs 0,.ptr bm 0,.ptr bt 0] H=some (tB r.1,It H bs bm r.2.1 r.2.2)/\r.2.1 < 65536/\Ew r.2.2:=by
 intro f
 induction f with
 |zero=>intro d c s m H r _ _ _ _ _ _ h;cases h
 |succ f ih=>
  intro d c s m H r tb ll hbm hc hs hm htry;have htry:goF (Bq Zq free f) c (Xu (Nat.land (Zq[c]?.getD 0) free)) s m=some r:=htry;have Da:=tb.n.2.2.2.2.2.2;obtain ⟨nc,hnc⟩:∃ nc,Zq[c]? = some nc:=⟨Zq[c],List.getElem?_eq_getElem (by omega)⟩
  have hnc':nc < 65536:=Kt nc (List.mem_of_getElem? hnc);rw [hnc] at htry;obtain ⟨l,hl⟩:∃ l,l=Xu (Nat.land nc free):=⟨_,rfl⟩;have Zg7:Nat.land nc free < 65536:=Nat.lt_of_le_of_lt Nat.and_le_left hnc';have Zey:∀ x∈l,x < 16:=λx hx=>R7 _ Zg7 x (hl ▸ hx);have iw:l.length < 90000:=by rw [hl];exact Nat.lt_of_le_of_lt (K6 _) (by decide)
  have htry:goF (Bq Zq free f) c l s m=some r:=by rw [hl];exact htry
  have key:Qg (C153 (tc (d+f+3)) Zh (Zb H) (tN c,.ptr bp 0,.ptr bf 0,.ptr bs 0,.ptr bm 0,.ptr bt 0,Zk,Zk,Zk,Zk,Zk,Zk,Zk,Zk,()) H)
    λe S H1=>e=.ret/\S.2.2.2.2.2.2.1=tB r.1/\H1=It H bs bm r.2.1 r.2.2/\r.2.1 < 65536/\Ew r.2.2:=by
   have l1:∀ {β:Type} (k:TV->TH->Option β),loadT .Xi Zh (Zb H) false 1 H (.ptr bp (0+3+c * 1)) k=k (tU nc) H:=λk=>Zx tb.p (Zaj hnc) rfl rfl;have l2:∀ {β:Type} (k:TV->TH->Option β),loadT .Xi Zh (Zb H) false 1 H (.ptr bf 0) k=k (tU free) H:=λk=>Zx tb.f rfl rfl rfl;have z1:Km (.int .u64 (.ofNat nc)) (.int .u64 (.ofNat free))=some (.int .u64 (.ofNat (Nat.land nc free))):=Cl (by omega) (by omega)
   have Ti:∀ H,Zm (tc (d+f+3)) 100 [tU (Nat.land nc free)] H=some (Xj 3 1 (l.map tN)):=λH=>by rw [hl];exact Lq (d+f) (by omega)
   have hi:Qt 16 1 (.ptr bp (0+3)) (tN c)=some (.ptr bp (0+3+c * 1)):=G9 hc;simp only [C153,VV,hi,l1,l2,z1,Ti]
   refine Qg.su (k:=l.length) (λk S H1=>∃ j s' m',S.1=tN c/\S.2.1=.ptr bp 0/\S.2.2.1=.ptr bf 0/\S.2.2.2.1=.ptr bs 0/\S.2.2.2.2.1=.ptr bm 0/\S.2.2.2.2.2.1=.ptr bt 0/\S.2.2.2.2.2.2.2.2.1=Xj 3 1 (l.map tN)/\S.2.2.2.2.2.2.2.2.2.1=tN l.length/\S.2.2.2.2.2.2.2.2.2.2.1=tN j /\
     H1=It H bs bm s' m'/\s' < 65536/\Ew m'/\j<=l.length/\k=l.length - j/\goF (Bq Zq free f) c (l.drop j) s' m'=some r)
    (λS H1=>H1=It H bs bm r.2.1 r.2.2/\r.1=false/\r.2.1 < 65536/\Ew r.2.2) (λS H1=>S.2.2.2.2.2.2.1=tB r.1/\H1=It H bs bm r.2.1 r.2.2/\r.2.1 < 65536/\Ew r.2.2) ?_ (by rw [Yg];omega)
    ⟨0,s,m,rfl,rfl,rfl,rfl,rfl,rfl,rfl,by rw [Zz,List.length_map],rfl,(Zb2 ll hbm).symm,hs,hm,Nat.zero_le _,rfl,htry⟩ ?_ ?_
   ·rintro k S H1 ⟨j,s',m',g0,g1,g2,g3,g4,g5,g8,g9,J9,rfl,hs',hm',hj,rfl,Qx⟩;rcases Nat.eq_or_lt_of_le hj with hj |hj
    ·rw [hj,List.drop_length] at Qx;have Qx:some (false,s',m')=some r:=Qx;cases Qx;simp only [VV,g0,g1,g2,g3,g4,g5,g8,g9,J9,Ql,Kf (Nat.le_of_eq hj.symm)];exact .fin (.inr (.inl ⟨rfl,rfl,by trivial,hs',hm'⟩))
    ·obtain ⟨d',hd'⟩:∃ d',d'=l[j]:=⟨_,rfl⟩;have hd16:d' < 16:=by rw [hd'];exact Zey _ (List.getElem_mem hj)
     have J8:(l.map tN)[j]? = some (tN d'):=by rw [List.getElem?_map,List.getElem?_eq_getElem hj,hd'];rfl
     have Is:Xj 3 1 (l.map tN)=.row .Jf (.own 3) 1 (l.map tN):=by
      cases hx:l.map tN with
      |nil=>rw [hx] at J8;cases J8
      |cons=>rfl
     rw [List.drop_eq_getElem_cons hj,<- hd'] at Qx;have a3:Z0 (.int .i64 (.ofNat j)) (.int .i64 (.ofNat 1))=some (.int .i64 (.ofNat (j+1))):=X9 (by omega)
     obtain ⟨b1,b2,b3,_⟩:=bitU (show d'<=64 by omega) hs'
     have ls:∀ {β:Type} (k:TV->TH->Option β),loadT .Xi Zh (Zb H) false 1 (It H bs bm s' m') (.ptr bs 0) k=k (tU s') (It H bs bm s' m'):=λk=>Zx (Zb3 ll Da) rfl rfl rfl;cases hin:El s' d' with
     |true=>
      have Qx:cond (El s' d') (goF (Bq Zq free f) c (l.drop (j+1)) s' m') _=some r:=Qx;rw [hin] at Qx;simp only [VV,g0,g1,g2,g3,g4,g5,g8,g9,J9,Ql,Xo hj,Is,Qe J8,Ku (cs:=Zy (tN d')) (off:=0) rfl,ls,b1,b2,b3,hin,a3,show Nat.beq 1 1=true from rfl];exact .fin (.inl ⟨rfl,l.length - (j+1),by omega,j+1,s',m',rfl,rfl,rfl,rfl,rfl,rfl,rfl,rfl,rfl,rfl,hs',hm',hj,rfl,Qx⟩)
     |false=>
      obtain ⟨e,he⟩:∃ e,m'[d']? = some e:=⟨m'[d']'(by have:=hm'.1;omega),List.getElem?_eq_getElem (by have:=hm'.1;omega)⟩
      have he16:e<=16:=hm'.2 e (List.mem_of_getElem? he);obtain ⟨s1,hs1⟩:∃ s1,s1=Nat.lor s' (2 ^ d'):=⟨_,rfl⟩;have p1:=fq hd16;have hs1':s1 < 65536:=by rw [hs1];exact Nat.or_lt_two_pow (n:=16) hs' p1
      have Qx:cond (El s' d') (goF (Bq Zq free f) c (l.drop (j+1)) s' m') (match m'[d']?.getD 0 with
       |0=>some (true,Nat.lor s' (2 ^ d'),m'.set d' (c+1))
       |e+1=>match Bq Zq free f e (Nat.lor s' (2 ^ d')) m' with
        |none=>none
        |some (true,s2,m2)=>some (true,s2,m2.set d' (c+1))
        |some (false,s2,m2)=>goF (Bq Zq free f) c (l.drop (j+1)) s2 m2)=some r:=Qx
      rw [hin,he,<- hs1] at Qx;have z1:Y8 (.int .u64 (.ofNat 1)) (.int .i64 (.ofNat d'))=some (.int .u64 (.ofNat (2 ^ d'))):=by rw [Mz (by omega) (by rw [Nat.one_mul];omega),Nat.one_mul]
      have z2:Ep (.int .u64 (.ofNat s')) (.int .u64 (.ofNat (2 ^ d')))=some (.int .u64 (.ofNat s1)):=by rw [hs1];exact uh (by omega) (by omega)
      have st:storeT Zh (Zb H) 1 (It H bs bm s' m') (.ptr bs 0) (tU s1)=some (It H bs bm s1 m'):=by
       rw [Qy (off:=0) (n:=1) (x:=tU s1) (Zb3 ll Da) fx rfl (.inl rfl) rfl (Nat.le_refl 1),V8,Kr (cs:=[tU s']) (xs:=[tU s1]) rfl,Zhc Da]
      have hm1:(It H bs bm s1 m')[bm]? = some (.cells (m'.map tM)):=Zov hbm Da;have lm:∀ {β:Type} (md:Ld) (k:TV->TH->Option β),loadT md Zh (Zb H) false 1 (It H bs bm s1 m') (.ptr bm (0+d' * 1)) k=k (tM e) (It H bs bm s1 m'):=λmd k=>load_M hm1 he;have lt:∀ {β:Type} (k:TV->TH->Option β),loadT .Xi Zh (Zb H) false 1 (It H bs bm s1 m') (.ptr bt 0) k=k (.fn (.func 153) [] [.ptr bp 0,.ptr bf 0,.ptr bs 0,.ptr bm 0,.ptr bt 0]) (It H bs bm s1 m'):=λk=>Zx tb.Tf.t rfl rfl rfl;have hi2:Qt 16 1 (.ptr bm 0) (tN d')=some (.ptr bm (0+d' * 1)):=G9 hd16;have hd'm:d' < m'.length:=by have:=hm'.1;omega
      cases e with
      |zero=>
       have Qx:some (true,s1,m'.set d' (c+1))=some r:=Qx;cases Qx;have hls:Xg (.int .i64 (.negSucc 0)) (.int .i64 (.ofNat 0))=some (.bool true):=rfl;have stm:storeT Zh (Zb H) 1 (It H bs bm s1 m') (.ptr bm (0+d' * 1)) (tN c)=some (It H bs bm s1 (m'.set d' (c+1))):=by rw [Zgd hm1 htm hd'm,Zb1]
       simp only [VV,g0,g1,g2,g3,g4,g5,g8,g9,J9,Ql,Xo hj,Is,Qe J8,Ku (cs:=Zy (tN d')) (off:=0) rfl,ls,b1,b2,b3,hin,z1,z2,st,hi2,lm,show tM 0=tI (.negSucc 0) from rfl,hls,Bool.not_true,yc,stm];exact .fin (.inr (.inr ⟨rfl,rfl,rfl,hs1',hm'.set hc⟩))
      |succ e=>
       have Qx:(match Bq Zq free f e s1 m' with
        |none=>none
        |some (true,s2,m2)=>some (true,s2,m2.set d' (c+1))
        |some (false,s2,m2)=>goF (Bq Zq free f) c (l.drop (j+1)) s2 m2)=some r:=Qx
       cases hr2:Bq Zq free f e s1 m' with
       |none=>rw [hr2] at Qx;cases Qx
       |some r2=>
        obtain ⟨q,s2,m2⟩:=r2;rw [hr2] at Qx;obtain ⟨i1,i2,i3⟩:=ih d e s1 m' (It H bs bm s1 m') (q,s2,m2) tb.Tf (Zb3 ll Da) hm1 (Nat.lt_of_succ_le he16) hs1' hm' hr2;have i2:s2 < 65536:=i2;have i3:Ew m2:=i3;have i1:tc (d+f+3) Zh 153 [tN e,.ptr bp 0,.ptr bf 0,.ptr bs 0,.ptr bm 0,.ptr bt 0] (It H bs bm s1 m')=some (tB q,It H bs bm s2 m2):=by rw [i1,Zhd Da]
        have Xn:∀ {β:Type} (k:TV->TH->Option β),Xd TC (tc (d+f+3)) Zh (.fn (.func 153) [] [.ptr bp 0,.ptr bf 0,.ptr bs 0,.ptr bm 0,.ptr bt 0]) [tN e] (It H bs bm s1 m') k=k (tB q) (It H bs bm s2 m2):=λk=>Yo rfl i1;have hm2:(It H bs bm s2 m2)[bm]? = some (.cells (m2.map tM)):=Zov hbm Da;have hd2m:d' < m2.length:=by rw [i3.1];exact hd16
        have hls:Nat.blt e 0=false:=Kf (Nat.zero_le _);cases q with
        |true=>
         have Qx:some (true,s2,m2.set d' (c+1))=some r:=Qx;cases Qx;have stm:storeT Zh (Zb H) 1 (It H bs bm s2 m2) (.ptr bm (0+d' * 1)) (tN c)=some (It H bs bm s2 (m2.set d' (c+1))):=by rw [Zgd hm2 htm hd2m,Zb1]
         simp only [VV,g0,g1,g2,g3,g4,g5,g8,g9,J9,Ql,Xo hj,Is,Qe J8,Ku (cs:=Zy (tN d')) (off:=0) rfl,ls,b1,b2,b3,hin,z1,z2,st,hi2,lm,show tM (e+1)=tN e from rfl,hls,Bool.not_false,lt,Xn,yc,stm];exact .fin (.inr (.inr ⟨rfl,rfl,rfl,i2,i3.set hc⟩))
        |false=>
         have Qx:goF (Bq Zq free f) c (l.drop (j+1)) s2 m2=some r:=Qx;simp only [VV,g0,g1,g2,g3,g4,g5,g8,g9,J9,Ql,Xo hj,Is,Qe J8,Ku (cs:=Zy (tN d')) (off:=0) rfl,ls,b1,b2,b3,hin,z1,z2,st,hi2,lm,show tM (e+1)=tN e from rfl,hls,Bool.not_false,lt,Xn,a3];exact .fin (.inl ⟨rfl,l.length - (j+1),by omega,j+1,s2,m2,rfl,rfl,rfl,rfl,rfl,rfl,rfl,rfl,rfl,rfl,i2,i3,hj,rfl,Qx⟩)
   ·rintro S H1 ⟨rfl,h1,h2,h3⟩;simp only [VV];exact .fin ⟨rfl,by rw [h1],rfl,h2,h3⟩
   ·rintro S H1 ⟨h1,h2,h3,h4⟩;exact ⟨rfl,h1,h2,h3,h4⟩
  obtain ⟨e,S,H1,h1,rfl,h2,rfl,h4,h5⟩:=key;refine ⟨?_,h4,h5⟩;rw [show d+(f+1)+3=d+f+3+1 by omega,Y4 (F:=F153) (by kernel_rfl)]
  show Za (C153 (tc (d+f+3)) Zh (Zb H) (tN c,.ptr bp 0,.ptr bf 0,.ptr bs 0,.ptr bm 0,.ptr bt 0,Zk,Zk,Zk,Zk,Zk,Zk,Zk,Zk,()) H) _=_;rw [h1];simp only [Yy,Jm,h2,Wj Vw X8];rw [show Zb H=Zb (It H bs bm r.2.1 r.2.2) from Zr1.symm,Xc]
end
end Go.Proofs.YtgemobbfikjmoaaGreatDoor
namespace Go.Proofs.YtgemobbfikjmoaaGreatDoor
open Go Go.Ev
set_option maxRecDepth 100000
noncomputable section
theorem Zof {H:TH}:∀ (l:List Nat),uj H (l.map tU)=some (l.map tU)
 |[]=>rfl
 |x::l=>by
  show Zf (uj H (l.map tU)) _=_;rw [Zof l];rfl
theorem Zer {H:TH} {w h g:Nat} {Zq:List Nat}:uj H (Qz w h g Zq)=some (Qz w h g Zq):=by
 show Zf (Zf (Zf (uj H (Zq.map tU)) _) _) _=_;rw [Zof];rfl
theorem Zfv {w h g:Nat} {Zq:List Nat}:Kk Np (Qz w h g Zq)=false:=by
 show Kk Np (Zq.map tU)=false;rw [xz,List.any_map,List.any_eq_false];intro x _ h;cases h
theorem Ek {H:TH} {w h g:Nat} {Zq:List Nat} {vs ws:List TV} (hv:qm H vs=some ws):qm H (.agg (Qz w h g Zq)::vs)=some (.agg (Qz w h g Zq)::ws):=by
 show Zf (Zf (uj H (Qz w h g Zq)) λds=>some (.agg ds)) (λy=>Zf (qm H vs) λl=>some (y::l))=_;rw [Zer,hv];rfl
theorem Eu {w h g:Nat} {Zq:List Nat} {vs:List TV} (hv:Kk No vs=false):Kk No (.agg (Qz w h g Zq)::vs)=false:=by
 show cond (Kk Np (Qz w h g Zq)) true (Kk No vs)=false;rw [Zfv,hv];rfl
def C2 (w c:Nat):Bool:=Nat.beq ((c % w+c / w) % 2) 1
theorem Zjk (d Zh:Nat) {w h g c:Nat} {Zq:List Nat} {H:TH} (hw:1<=w) (hc:c < 1000000):tc (d+1) Zh 154 [.agg (Qz w h g Zq),tN c] H=some (tB (C2 w c),H):=by
 rw [Y4 (F:=F154) (by kernel_rfl)]
 obtain ⟨B,hB⟩:∃ B,B=Zv H (.cells (Qz w h g Zq)):=⟨_,rfl⟩;have hb:B[Zb H]? = some (.cells (Qz w h g Zq)):=by rw [hB];exact Qf
 have l1:∀ {β:Type} (k:TV->TH->Option β),loadT .Xi Zh (Zb H) false 1 B (.ptr (Zb H) (0+0)) k=k (tN w) B:=λk=>Zx hb (B7 ..) rfl rfl;have h1:c % w<=c:=Nat.mod_le ..;have h2:c / w<=c:=Nat.div_le_self ..;have z1:Y1 (.int .i64 (.ofNat c)) (.int .i64 (.ofNat w))=some (.int .i64 (.ofNat (c % w))):=Gu hw;have z2:Jp (.int .i64 (.ofNat c)) (.int .i64 (.ofNat w))=some (.int .i64 (.ofNat (c / w))):=Pe hw (by omega)
 have z3:Z0 (.int .i64 (.ofNat (c % w))) (.int .i64 (.ofNat (c / w)))=some (.int .i64 (.ofNat (c % w+c / w))):=X9 (by omega)
 have z4:Y1 (.int .i64 (.ofNat (c % w+c / w))) (.int .i64 (.ofNat 2))=some (.int .i64 (.ofNat ((c % w+c / w) % 2))):=Gu (by decide)
 have z5:Qn (.ofNat ((c % w+c / w) % 2)) (.ofNat 1)=C2 w c:=rfl;have hs:Z2 Vj (Qz w h g Zq)=true:=Jn w h g Zq;show Za (C154 (tc d) Zh (Zb H) (.agg (Qz w h g Zq),tN c,Zk,Zk,()) H) _=_;have ht:X7 B (Zb H)=H:=by rw [hB];exact Jt
 simp only [C154,VV,hs,<- hB,l1,z1,z2,z3,z4,z5,Z6 X8,ht]
theorem Zek (d:Nat) {w h g c:Nat} {Zq:List Nat} {H:TH} (hw:1<=w) (hc:c < 1000000):Zm (tc (d+1)) 154 [.agg (Qz w h g Zq),tN c] H=some (tB (C2 w c)):=
 Yc (ws:=[.agg (Qz w h g Zq),tN c]) (H':=[]) (a:=false) (Ek rfl) (Eu rfl) (Zjk d 0 hw hc) L7
def Ab (Zq:List Nat) (free w:Nat):List Nat->Nat->List Nat->Option Nat
 |[],n,_=>some n
 |c::cs,n,m=>cond (C2 w c) (Ab Zq free w cs n m) (match Bq Zq free 17 c 0 m with
  |none=>none
  |some (true,_,m2)=>Ab Zq free w cs (n+1) m2
  |some (false,_,m2)=>Ab Zq free w cs n m2)
def Ib (Zq:List Nat) (w free:Nat):Option Nat:=Ab Zq free w (Xu free) 0 (List.replicate 16 0)
theorem Zmw {a b:TV} {j k:Nat}:Kl (List.replicate j a++List.replicate (k+1) b) (0+j * 1) [a]=List.replicate (j+1) a++List.replicate k b:=by
 rw [Nat.zero_add,Nat.mul_one,Gv _ _ _ (by simp),List.set_append_right _ _ (by simp),List.length_replicate,Nat.sub_self,List.replicate_succ (n:=k),List.replicate_succ' (n:=j),List.append_assoc];rfl
theorem K3 {β:Type} {md:Ld} {Zh base b w h g:Nat} {Zq:List Nat} {H:TH} {k:TV->TH->Option β} (hb:H[b]? = some (.cells (Qz w h g Zq))) (hn:Zq.length=16):loadT md Zh base true 19 H (.ptr b 0) k=k (.agg (Qz w h g Zq)) H:=by
 have hl:(Qz w h g Zq).length=19:=by rw [Ue,hn]
 rw [Xw hb (by omega) (by rw [List.drop_zero,List.take_of_length_le (by omega)];exact F2 ..),List.drop_zero,List.take_of_length_le (by omega)]
theorem Znk (d Zh:Nat) {w h g free n:Nat} {Zq:List Nat} {H:TH} (hw:1<=w) (G4:Zq.length=16) (Kt:∀ x∈Zq,x < 65536) (Af:free < 65536) (Oc:Zh<=Zb H) (Mg:Ib Zq w free=some n) :
  tc (d+21) Zh 95 [.agg (Qz w h g Zq),tU free] H=some (tN n,H):=by
 rw [Y4 (F:=F95) (by kernel_rfl)]
 obtain ⟨B0,az⟩:∃ B,B=Zv H (.cells (Qz w h g Zq)):=⟨_,rfl⟩;obtain ⟨B1,ju⟩:∃ B,B=Zv B0 (.cells [tU free]):=⟨_,rfl⟩;obtain ⟨B2,ay⟩:∃ B,B=Zv B1 (.cells ((List.replicate 16 0).map tM)):=⟨_,rfl⟩;obtain ⟨B3,l6⟩:∃ B,B=Zv B2 (.cells [tU 0]):=⟨_,rfl⟩;obtain ⟨B4,ax⟩:∃ B,B=Zv B3 (.cells [.fn (.func 153) [] [.ptr (Zb H) 0,.ptr (Zb B0) 0,.ptr (Zb B2) 0,.ptr (Zb B1) 0,.ptr (Zb B3) 0]]):=⟨_,rfl⟩;have n0:Zb B0=Zb H+1:=by rw [az];exact Qd
 have n1:Zb B1=Zb B0+1:=by rw [ju];exact Qd
 have n2:Zb B2=Zb B1+1:=by rw [ay];exact Qd
 have n3:Zb B3=Zb B2+1:=by rw [l6];exact Qd
 have n4:Zb B4=Zb B3+1:=by rw [ax];exact Qd
 have tb:wm (Zb H) (Zb B0) (Zb B2) (Zb B1) (Zb B3) w h g free Zq B4:=by
  refine ⟨?_,?_,by rw [ax];exact Qf,by omega⟩
  ·rw [ax];refine Qm ?_;rw [l6];refine Qm ?_;rw [ay];refine Qm ?_;rw [ju];refine Qm ?_;rw [az];exact Qf
  ·rw [ax];refine Qm ?_;rw [l6];refine Qm ?_;rw [ay];refine Qm ?_;rw [ju];exact Qf
 have ll:B4[Zb B2]? = some (.cells [tU 0]):=by rw [ax];refine Qm ?_;rw [l6];exact Qf
 have hbm:B4[Zb B1]? = some (.cells ((List.replicate 16 0).map tM)):=by rw [ax];refine Qm ?_;rw [l6];refine Qm ?_;rw [ay];exact Qf
 have t4:X7 B4 (Zb H)=H:=by
  rw [ax];refine Ju ?_ (by omega)
  rw [l6];refine Ju ?_ (by omega)
  rw [ay];refine Ju ?_ (by omega)
  rw [ju];refine Ju ?_ (by omega)
  rw [az];exact Jt
 have Da:=tb.n.2.2.2.2.2.2;have hs:Z2 Vj (Qz w h g Zq)=true:=Jn w h g Zq
 have key:Qg (C95 (tc (d+20)) Zh (Zb H) (.agg (Qz w h g Zq),tU free,Zk,Zk,Zk,Zk,Zk,Zk,Zk,Zk,Zk,Zk,Zk,Zk,Zk,Zk,Zk,Zk,Zk,()) H)
   λe S H1=>e=.ret/\S.2.2.2.2.1=tN n/\X7 H1 (Zb H)=H:=by
  simp only [C95,VV,hs,<- az,<- ju]
  refine Qg.su (k:=16) (λk S H1=>∃ j,S.2.2.1=.ptr (Zb H) 0/\S.2.2.2.1=.ptr (Zb B0) 0/\S.2.2.2.2.2.1=.ptr (Zb B1) 0/\S.2.2.2.2.2.2.2.2.2.2.2.1=tN j/\j+k=16/\H1=Zv B1 (.cells (List.replicate j (tI (.negSucc 0))++List.replicate k (tN 0))))
   (λS H1=>S.2.2.1=.ptr (Zb H) 0/\S.2.2.2.1=.ptr (Zb B0) 0/\S.2.2.2.2.2.1=.ptr (Zb B1) 0/\H1=B2) (λ_ _=>False) ?_ (by rw [Yg];omega) ⟨0,rfl,rfl,rfl,rfl,rfl,rfl⟩ ?_ (λ_ _ h=>h.elim)
  ·rintro k S H1 ⟨j,g2,g3,g5,Jj,hjk,rfl⟩;cases k with
   |zero=>
    have hj:j=16:=by omega
    subst hj;simp only [VV,g2,g3,g5,Jj,Ql,Kf (Nat.le_refl 16)];exact .fin (.inr (.inl ⟨rfl,rfl,rfl,rfl,ay.symm⟩))
   |succ k=>
    have st:storeT Zh (Zb H) 1 (Zv B1 (.cells (List.replicate j (tI (.negSucc 0))++List.replicate (k+1) (tN 0)))) (.ptr (Zb B1) (0+j * 1)) (tI (.negSucc 0))=some (Zv B1 (.cells (List.replicate (j+1) (tI (.negSucc 0))++List.replicate k (tN 0)))):=by
     rw [Qy (off:=0+j * 1) (n:=1) (x:=tI (.negSucc 0)) Qf (by omega) rfl (.inl rfl) rfl (by simp),V8,Zmw,Wv]
    simp only [VV,g2,g3,g5,Jj,Ql,Xo (show j < 16 by omega),yc,G9 (show j < 16 by omega),st,X9 (show j+1 < 9223372036854775808 by omega)]
    exact .fin (.inl ⟨rfl,k,by omega,j+1,rfl,rfl,rfl,rfl,by omega,rfl⟩)
  ·rintro S H1 ⟨g2,g3,g5,hH1⟩;rw [hH1];clear hH1;have s3:storeT Zh (Zb H) 1 (Zv B2 (.cells [tU 0])) (.ptr (Zb B2) 0) (tU 0)=some B3:=by rw [l6];exact Va (by omega) rfl (.inl rfl) rfl
   have s4:storeT Zh (Zb H) 1 (Zv B3 (.cells [.v .nilFunc])) (.ptr (Zb B3) 0) (.fn (.func 153) [] [.ptr (Zb H) 0,.ptr (Zb B0) 0,.ptr (Zb B2) 0,.ptr (Zb B1) 0,.ptr (Zb B3) 0])=some B4:=by
    conv=>rhs;rw [ax]
    exact Va (by omega) rfl (.inr (by omega)) rfl
   have lf:∀ {β:Type} (k:TV->TH->Option β),loadT .Xi Zh (Zb H) false 1 B4 (.ptr (Zb B0) 0) k=k (tU free) B4:=λk=>Zx tb.f rfl rfl rfl;have Ti:∀ H,Zm (tc (d+20)) 100 [tU free] H=some (Xj 3 1 ((Xu free).map tN)):=λH=>Lq (d+17) (by omega)
   simp only [VV,g2,g3,g5,s3,s4,lf,Ti];obtain ⟨l,hl⟩:∃ l,l=Xu free:=⟨_,rfl⟩;have Zey:∀ x∈l,x < 16:=λx hx=>R7 _ Af x (hl ▸ hx);have iw:l.length < 90000:=by rw [hl];exact Nat.lt_of_le_of_lt (K6 _) (by decide)
   have Mg:Ab Zq free w l 0 (List.replicate 16 0)=some n:=by rw [hl];exact Mg
   have hm0:Ew (List.replicate 16 0):=⟨rfl,λx hx=>by rw [(List.mem_replicate.1 hx).2];exact Nat.zero_le _⟩
   rw [<- hl]
   refine Qg.su (k:=l.length) (λk S H1=>∃ j n' s' m',S.2.2.1=.ptr (Zb H) 0/\S.2.2.2.2.2.2.2.1=tN n'/\S.2.2.2.2.2.2.2.2.1=.ptr (Zb B2) 0/\S.2.2.2.2.2.2.2.2.2.1=.ptr (Zb B3) 0/\S.2.2.2.2.2.2.2.2.2.2.2.2.2.1=Xj 3 1 (l.map tN)/\S.2.2.2.2.2.2.2.2.2.2.2.2.2.2.1=tN l.length/\S.2.2.2.2.2.2.2.2.2.2.2.2.2.2.2.1=tN j /\
     H1=It B4 (Zb B2) (Zb B1) s' m'/\s' < 65536/\Ew m'/\j<=l.length/\n'<=j/\k=l.length - j/\Ab Zq free w (l.drop j) n' m'=some n)
    (λS H1=>S.2.2.2.2.2.2.2.1=tN n/\X7 H1 (Zb H)=H) (λ_ _=>False) ?_ (by rw [Yg];omega)
    ⟨0,0,0,List.replicate 16 0,rfl,rfl,rfl,rfl,rfl,by show tN (Zb (l.map tN))=tN l.length;rw [Zz (l.map tN),List.length_map],rfl,(Zb2 ll hbm).symm,by decide,hm0,Nat.zero_le _,Nat.le_refl _,rfl,Mg⟩ ?_ (λ_ _ h=>h.elim)
   ·rintro k S H1 ⟨j,n',s',m',g2,g7,g8,g9,Em,Iz,Ra,rfl,hs',hm',hj,hnj,rfl,Qx⟩;rcases Nat.eq_or_lt_of_le hj with hj |hj
    ·rw [hj,List.drop_length] at Qx;have Qx:some n'=some n:=Qx;cases Qx;simp only [VV,g2,g7,g8,g9,Em,Iz,Ra,Ql,Kf (Nat.le_of_eq hj.symm)];exact .fin (.inr (.inl ⟨rfl,rfl,by rw [O8 (O8 t4)];rw [List.set_eq_of_length_le (by rw [List.length_set,<- Zz];omega),List.set_eq_of_length_le (by rw [<- Zz];omega)]⟩))
    ·obtain ⟨c,hc⟩:∃ c,c=l[j]:=⟨_,rfl⟩;have ar:c < 16:=by rw [hc];exact Zey _ (List.getElem_mem hj)
     have J8:(l.map tN)[j]? = some (tN c):=by rw [List.getElem?_map,List.getElem?_eq_getElem hj,hc];rfl
     have Is:Xj 3 1 (l.map tN)=.row .Jf (.own 3) 1 (l.map tN):=by
      cases hx:l.map tN with
      |nil=>rw [hx] at J8;cases J8
      |cons=>rfl
     rw [List.drop_eq_getElem_cons hj,<- hc] at Qx;have a3:Z0 (.int .i64 (.ofNat j)) (.int .i64 (.ofNat 1))=some (.int .i64 (.ofNat (j+1))):=X9 (by omega)
     have a4:Z0 (.int .i64 (.ofNat n')) (.int .i64 (.ofNat 1))=some (.int .i64 (.ofNat (n'+1))):=X9 (by omega)
     have lp:∀ {β:Type} (k:TV->TH->Option β),loadT .Xi Zh (Zb H) true 19 (It B4 (Zb B2) (Zb B1) s' m') (.ptr (Zb H) 0) k=k (.agg (Qz w h g Zq)) (It B4 (Zb B2) (Zb B1) s' m'):=λk=>K3 tb.Tf.p G4;have hli:∀ H,Zm (tc (d+20)) 154 [.agg (Qz w h g Zq),tN c] H=some (tB (C2 w c)):=λH=>Zek (d+19) hw (by omega)
     have Qx:cond (C2 w c) (Ab Zq free w (l.drop (j+1)) n' m') (match Bq Zq free 17 c 0 m' with
      |none=>none
      |some (true,_,m2)=>Ab Zq free w (l.drop (j+1)) (n'+1) m2
      |some (false,_,m2)=>Ab Zq free w (l.drop (j+1)) n' m2)=some n:=Qx
     cases Jo:C2 w c with
     |true=>
      rw [Jo] at Qx;simp only [VV,g2,g7,g8,g9,Em,Iz,Ra,Ql,Xo hj,Is,Qe J8,Ku (cs:=Zy (tN c)) (off:=0) rfl,lp,Xz,hli,Jo,a3,show Nat.beq 3 3=true from rfl];exact .fin (.inl ⟨rfl,l.length - (j+1),by omega,j+1,n',s',m',rfl,rfl,rfl,rfl,rfl,rfl,rfl,rfl,hs',hm',hj,by omega,rfl,Qx⟩)
     |false=>
      rw [Jo] at Qx;cases hr:Bq Zq free 17 c 0 m' with
      |none=>rw [hr] at Qx;cases Qx
      |some r=>
       obtain ⟨q,s2,m2⟩:=r;rw [hr] at Qx
       have st:storeT Zh (Zb H) 1 (It B4 (Zb B2) (Zb B1) s' m') (.ptr (Zb B2) 0) (tU 0)=some (It B4 (Zb B2) (Zb B1) 0 m'):=by
        rw [Qy (off:=0) (n:=1) (x:=tU 0) (Zb3 ll Da) (by omega) rfl (.inl rfl) rfl (Nat.le_refl 1),V8,Kr (cs:=[tU s']) (xs:=[tU 0]) rfl,Zhc Da]
       obtain ⟨i1,i2,i3⟩:=Zqi (Zh:=Zh) G4 Kt Af (by omega) (by omega) 17 d c 0 m' (It B4 (Zb B2) (Zb B1) 0 m') (q,s2,m2) tb.Tf (Zb3 ll Da) (Zov hbm Da) ar (by decide) hm' hr
       have i2:s2 < 65536:=i2;have i3:Ew m2:=i3;have lt:∀ {β:Type} (k:TV->TH->Option β),loadT .Xi Zh (Zb H) false 1 (It B4 (Zb B2) (Zb B1) 0 m') (.ptr (Zb B3) 0) k=k (.fn (.func 153) [] [.ptr (Zb H) 0,.ptr (Zb B0) 0,.ptr (Zb B2) 0,.ptr (Zb B1) 0,.ptr (Zb B3) 0]) (It B4 (Zb B2) (Zb B1) 0 m'):=λk=>Zx tb.Tf.t rfl rfl rfl
       have Xn:∀ {β:Type} (k:TV->TH->Option β),Xd TC (tc (d+20)) Zh (.fn (.func 153) [] [.ptr (Zb H) 0,.ptr (Zb B0) 0,.ptr (Zb B2) 0,.ptr (Zb B1) 0,.ptr (Zb B3) 0]) [tN c] (It B4 (Zb B2) (Zb B1) 0 m') k=k (tB q) (It B4 (Zb B2) (Zb B1) s2 m2):=λk=>by
        refine Yo rfl ?_;rw [Zhd Da] at i1;exact i1
       cases q with
       |true=>
        have Qx:Ab Zq free w (l.drop (j+1)) (n'+1) m2=some n:=Qx;simp only [VV,g2,g7,g8,g9,Em,Iz,Ra,Ql,Xo hj,Is,Qe J8,Ku (cs:=Zy (tN c)) (off:=0) rfl,lp,Xz,hli,Jo,st,lt,Xn,a3,a4];exact .fin (.inl ⟨rfl,l.length - (j+1),by omega,j+1,n'+1,s2,m2,rfl,rfl,rfl,rfl,rfl,rfl,rfl,rfl,i2,i3,hj,by omega,rfl,Qx⟩)
       |false=>
        have Qx:Ab Zq free w (l.drop (j+1)) n' m2=some n:=Qx;simp only [VV,g2,g7,g8,g9,Em,Iz,Ra,Ql,Xo hj,Is,Qe J8,Ku (cs:=Zy (tN c)) (off:=0) rfl,lp,Xz,hli,Jo,st,lt,Xn,a3,a4];exact .fin (.inl ⟨rfl,l.length - (j+1),by omega,j+1,n',s2,m2,rfl,rfl,rfl,rfl,rfl,rfl,rfl,rfl,i2,i3,hj,by omega,rfl,Qx⟩)
   ·rintro S H1 ⟨h1,h2⟩;simp only [VV,h1];exact .fin ⟨rfl,rfl,h2⟩
 obtain ⟨e,S,H1,h1,rfl,h2,h3⟩:=key;show Za (C95 (tc (d+20)) Zh (Zb H) (.agg (Qz w h g Zq),tU free,Zk,Zk,Zk,Zk,Zk,Zk,Zk,Zk,Zk,Zk,Zk,Zk,Zk,Zk,Zk,Zk,Zk,()) H) _=_;rw [h1];simp only [Yy,Jm,h2,Wj Vw X8,h3]
end
end Go.Proofs.YtgemobbfikjmoaaGreatDoor
namespace Go.Proofs.YtgemobbfikjmoaaGreatDoor
open Go Go.Ev
set_option maxRecDepth 100000
end Go.Proofs.YtgemobbfikjmoaaGreatDoor
namespace Go.Proofs.YtgemobbfikjmoaaGreatDoor
open Go Go.Ev
set_option maxRecDepth 100000
noncomputable section
theorem Ps {w h:Nat} {sp:List Nat} (ok:Kd w h sp):Qs w h sp < 65536:=by
 have:2 ^ (w * h)<=2 ^ 16:=Nat.pow_le_pow_right (by decide) ok.Ca
 have p1:0 < 2 ^ (w * h):=Nat.pow_pos (by decide)
 refine Aj _ _ ?_;show 2 ^ (w * h) - 1 < 65536;have:(2:Nat) ^ 16=65536:=rfl;omega
theorem Tw {Zh base w h g:Nat} {Zq:List Nat} {A:TH} (hn:Zq.length=16) (ht:Zh<=Zb A) (hb:base<=Zb A):storeT Zh base 19 (Zv A (.cells Xf)) (.ptr (Zb A) 0) (.agg (Qz w h g Zq))=some (Zv A (.cells (Qz w h g Zq))):=by
 have hl:(Qz w h g Zq).length=19:=by rw [Ue,hn]
 rw [Qy (off:=0) (n:=19) (x:=.agg (Qz w h g Zq)) Qf ht (Jn ..) (.inr hb) (by rw [Yb,hl]) (by decide),Yb,Kr (by rw [hl];rfl),Wv]
theorem Sf (d:Nat) {w h g free n:Nat} {Zq:List Nat} {H:TH} (hw:1<=w) (G4:Zq.length=16) (Kt:∀ x∈Zq,x < 65536) (Af:free < 65536) (Mg:Ib Zq w free=some n) :
  Zm (tc (d+21)) 95 [.agg (Qz w h g Zq),tU free] H=some (tN n):=
 Yc (ws:=[.agg (Qz w h g Zq),tU free]) (H':=[]) (a:=false) (Ek rfl) (Eu rfl) (Znk d 0 hw G4 Kt Af (Nat.zero_le _) Mg) L7
abbrev Kb (w h:Nat) (sp:List Nat):List Nat:=Ke w (Qs w h sp) (w * h)
section
variable {w h n:Nat} {c:Cp} {sp:List Nat}
theorem Zc7 (d Zh:Nat) {m:Nat} {H:TH} (ok:Kd w h sp) (hn:sp≠[]->n=1) (Oc:Zh<=Zb H) (Mg:Ib (Kb w h sp) w (Qs w h sp)=some m) :
  tc (d+22) Zh 16 [tS w h c n sp] H=some (.Xh [tN m,tN 0],H):=by
 rw [Y4 (F:=F16) (by kernel_rfl)]
 obtain ⟨A,hA⟩:∃ B,B=Zv H (.cells [tN w,tN h,.row c .set n (sp.map tN)]):=⟨_,rfl⟩;obtain ⟨gd,qo⟩:∃ gd,gd=Qs w h sp:=⟨_,rfl⟩;have uq:gd < 65536:=by rw [qo];exact Ps ok
 obtain ⟨Zq,Kt⟩:∃ Zq,Zq=Kb w h sp:=⟨_,rfl⟩;have G4:Zq.length=16:=by rw [Kt];exact V5 ..
 have ai:∀ x∈Zq,x < 65536:=by rw [Kt];exact Pl _ _ _ ok.Ca
 rw [<- Kt,<- qo] at Mg;have hpt:J3 w h sp=Qz w h gd Zq:=by rw [Kt,qo];rfl
 obtain ⟨B,hB⟩:∃ B,B=Zv A (.cells (Qz w h gd Zq)):=⟨_,rfl⟩;have nA:Zb A=Zb H+1:=by rw [hA];exact Qd
 have kA:A[Zb H]? = some (.cells [tN w,tN h,.row c .set n (sp.map tN)]):=by rw [hA];exact Qf
 have kB:B[Zb A]? = some (.cells (Qz w h gd Zq)):=by rw [hB];exact Qf
 have tB':X7 B (Zb H)=H:=by rw [hB];refine Ju ?_ (by omega);rw [hA];exact Jt
 have Us:Yu (tS w h c n sp)=true:=by cases c <;> rfl
 have lA:∀ {β:Type} (k:TV->TH->Option β),loadT .Xi Zh (Zb H) true 3 A (.ptr (Zb H) 0) k=k (tS w h c n sp) A:=λk=>Xw kA (by simp) rfl
 have lB:∀ {β:Type} (k:TV->TH->Option β),loadT .Xi Zh (Zb H) true 19 B (.ptr (Zb A) 0) k=k (.agg (Qz w h gd Zq)) B:=λk=>K3 kB G4;have lg:∀ {β:Type} (k:TV->TH->Option β),loadT .Xi Zh (Zb H) false 1 B (.ptr (Zb A) (0+2)) k=k (tU gd) B:=λk=>Zx kB (Tg ..) rfl rfl;have st:storeT Zh (Zb H) 19 (Zv A (.cells Xf)) (.ptr (Zb A) 0) (.agg (Qz w h gd Zq))=some B:=by rw [hB];exact Tw G4 (by omega) (by omega)
 have hld:∀ H,Zm (tc (d+21)) 94 [tS w h c n sp] H=some (.Xh [.agg (Qz w h gd Zq),tN 0]):=λH=>by rw [<- hpt];exact Bb (d+19) ok hn
 have hm:∀ H,Zm (tc (d+21)) 95 [.agg (Qz w h gd Zq),tU gd] H=some (tN m):=λH=>Sf d ok.w1 G4 ai uq Mg;show Za (C16 (tc (d+21)) Zh (Zb H) (tS w h c n sp,Zk,Zk,Zk,Zk,Zk,Zk,()) H) _=_;simp only [C16,VV,<- hA,lA,hld,Xz,st,show Qn (.ofNat 0) (.ofNat 0)=true from rfl,Bool.not_true,lB,lg,hm];rw [Z6 rfl,tB']
end
end
end Go.Proofs.YtgemobbfikjmoaaGreatDoor
namespace Go.Proofs.YtgemobbfikjmoaaGreatDoor
open Go Go.Ev
set_option maxRecDepth 100000
noncomputable section
theorem Ff {a b:Nat} (h:a < 65536):Iu a b < 65536:=Nat.lt_of_le_of_lt Nat.and_le_left h
theorem Zhu {β:Type} {Zh:Nat} {H:TH} {pre:List Nat} {x:Nat} (h:pre.length < 80000) (k:TV->TH->Option β) :
  X6 Zh H 3 1 8 (Xj 3 1 (pre.map tN)) (.row .full (.own 3) 1 [tN x]) k=k (Xj 3 1 ((pre++[x]).map tN)) H:=by
 rw [Et (dc (by rw [List.length_map];omega)),List.map_append];rfl
end
end Go.Proofs.YtgemobbfikjmoaaGreatDoor
namespace Go.Ev
end Go.Ev
namespace Go.Proofs.YtgemobbfikjmoaaGreatDoor
open Go Go.Ev
set_option maxRecDepth 100000
noncomputable section
theorem tm {s:Nat} (h:s≠0) (hs:s < 65536):low 64 s < 16:=by
 have:=zu h (show s < 2 ^ 64 by omega)
 exact R7 s hs _ (by rw [this];exact List.mem_cons_self ..)
end
end Go.Proofs.YtgemobbfikjmoaaGreatDoor
namespace Go.Proofs.YtgemobbfikjmoaaGreatDoor
open Go Go.Ev
set_option maxRecDepth 100000
noncomputable section
abbrev Vl:=List (Nat×Nat×Nat)
abbrev tY (v:Nat×Nat):TV:=.agg [tN v.1,tN v.2]
abbrev Bt (e:Nat×Nat×Nat):Value×TV:=(.int .u64 (.ofNat e.1),tY e.2)
def Ic:Vl->Nat->Option (Nat×Nat)
 |[],_=>none
 |e::kn,f=>cond (Nat.beq f e.1) (some e.2) (Ic kn f)
def Rg:Vl->Nat->Nat×Nat->Vl
 |[],f,v=>[(f,v)]
 |e::kn,f,v=>cond (Nat.beq f e.1) ((f,v)::kn) (e::Rg kn f v)
theorem Zo7 (f:Nat):∀ (kn:Vl) (i:Nat),(Ic kn f=none/\I9 (.int .u64 (.ofNat f)) (kn.map Bt) i=some none/\∀ v,Rg kn f v=kn++[(f,v)]) \/
  (∃ j v,Ic kn f=some v/\I9 (.int .u64 (.ofNat f)) (kn.map Bt) i=some (some (i+j,tY v))/\∀ v,Ty (kn.map Bt) j (.int .u64 (.ofNat f)) (tY v)=(Rg kn f v).map Bt)
 |[],i=>.inl ⟨rfl,rfl,λ_=>rfl⟩
 |e::kn,i=>by
  have hf:I9 (.int .u64 (.ofNat f)) ((e::kn).map Bt) i=(match some (Nat.beq f e.1) with
   |some true=>some (some (i,tY e.2))
   |some false=>I9 (.int .u64 (.ofNat f)) (kn.map Bt) (Nat.succ i)
   |none=>none):=rfl
  cases hb:Nat.beq f e.1 with
  |true=>
   refine .inr ⟨0,e.2,?_,?_,λv=>?_⟩
   ·show cond (Nat.beq f e.1) _ _=_;rw [hb];rfl
   ·rw [hf,hb];rfl
   ·show _=(cond (Nat.beq f e.1) ((f,v)::kn) (e::Rg kn f v)).map Bt;rw [hb];rfl
  |false=>
   rw [hb] at hf;have hf:I9 (.int .u64 (.ofNat f)) ((e::kn).map Bt) i=I9 (.int .u64 (.ofNat f)) (kn.map Bt) (i+1):=hf;have hu:∀ v,Rg (e::kn) f v=e::Rg kn f v:=λv=>by show cond (Nat.beq f e.1) _ _=_;rw [hb];rfl
   have hl:Ic (e::kn) f=Ic kn f:=by show cond (Nat.beq f e.1) _ _=_;rw [hb];rfl
   rcases Zo7 f kn (i+1) with ⟨h1,h2,h3⟩ |⟨j,v,h1,h2,h3⟩
   ·exact .inl ⟨hl.trans h1,hf.trans h2,λv=>by rw [hu,h3];rfl⟩
   ·refine .inr ⟨j+1,v,hl.trans h1,?_,λv=>?_⟩
    ·rw [hf,h2,show i+1+j=i+(j+1) by omega]
    ·rw [hu];show Bt e::Ty (kn.map Bt) j _ _=_;rw [h3];rfl
theorem look_K {H:TH} {b f:Nat} {kn:Vl} {z:TV} (hb:H[b]? = some (.map (kn.map Bt))):Ba H .int z (.map b) (tU f) true=some (match Ic kn f with |some v=>.Xh [tY v,tB true] |none=>.Xh [z,tB false]):=by
 show Zf (nth H b) (λo=>match o with |.map es=>Zf (I9 (.int .u64 (.ofNat f)) es 0) (λr=>match r with |some p=>some (okT true p.2 true) |none=>some (okT true z false)) |_=>none)=_
 rw [Xq,hb];show Zf (I9 (.int .u64 (.ofNat f)) (kn.map Bt) 0) _=_;rcases Zo7 f kn 0 with ⟨h1,h2,_⟩ |⟨j,v,h1,h2,_⟩
 ·rw [h2,h1];rfl
 ·rw [h2,h1];rfl
theorem upd_K {H:TH} {Zh b f:Nat} {kn:Vl} {v:Nat×Nat} (hb:H[b]? = some (.map (kn.map Bt))) (ht:Zh<=b):xe Zh H .int (.map b) (tU f) (tY v)=some (H.set b (.map ((Rg kn f v).map Bt))):=by
 show Zp (Nat.ble Zh b) (Zf (nth H b) (λo=>match o with |.map es=>Zf (I9 (.int .u64 (.ofNat f)) es 0) (λr=>match r with |some p=>some (Kg H b (.map (Ty es p.1 (.int .u64 (.ofNat f)) (tY v)))) |none=>some (Kg H b (.map (List.append es [(.int .u64 (.ofNat f),tY v)])))) |_=>none))=_
 rw [Nat.ble_eq_true_of_le ht,Xq,hb];show Zf (I9 (.int .u64 (.ofNat f)) (kn.map Bt) 0) _=_;rcases Zo7 f kn 0 with ⟨_,h2,h3⟩ |⟨j,v',_,h2,h3⟩
 ·rw [h2,h3];show some (Kg H b (.map (kn.map Bt++[Bt (f,v)])))=_;rw [M3 hb,List.map_append];rfl
 ·rw [h2];show some (Kg H b (.map (Ty (kn.map Bt) (0+j) _ (tY v))))=_;rw [Nat.zero_add,h3,M3 hb]
end
end Go.Proofs.YtgemobbfikjmoaaGreatDoor
namespace Go.Ev
noncomputable section
theorem Lr {b:Nat}:Zc (.map b)=.map b:=(rfl)
theorem Ls {b:Nat}:Ze (.map b)=.map b:=(rfl)
end
end Go.Ev
namespace Go.Proofs.YtgemobbfikjmoaaGreatDoor
open Go Go.Ev
set_option maxRecDepth 100000
noncomputable section
def qt (rec:Nat->Vl->Option ((Nat×Nat)×Vl)) (rest:Nat):List Nat->Nat×Nat->Vl->Option ((Nat×Nat)×Vl)
 |[],o,kn=>some (o,kn)
 |d::ds,o,kn=>match rec (Iu rest (2 ^ d)) kn with
  |none=>none
  |some (wi,By)=>cond (Nat.blt wi.1 1000) (cond (Nat.blt o.1 (wi.1+1)) (qt rec rest ds (wi.1+1,wi.2) By)
    (cond (Nat.beq (wi.1+1) o.1) (cond (Nat.blt (o.2+wi.2) 1000000) (qt rec rest ds (o.1,o.2+wi.2) By) none) (qt rec rest ds o By))) none
def Kv (Zq:List Nat):Nat->Nat->Vl->Option ((Nat×Nat)×Vl)
 |0,_,_=>none
 |f+1,free,kn=>cond (Nat.beq free 0) (some ((0,1),kn)) (match Ic kn free with
  |some v=>some (v,kn)
  |none=>match Kv Zq f (Iu free (2 ^ low 64 free)) kn with
   |none=>none
   |some (o,By)=>match qt (Kv Zq f) (Iu free (2 ^ low 64 free)) (Xu (Nat.land (Zq[low 64 free]?.getD 0) (Iu free (2 ^ low 64 free)))) o By with
    |none=>none
    |some (o2,ja)=>some (o2,Rg ja free o2))
structure wz (bm:Nat) (pl:List TV) (H:TH) (kn:Vl) (H1:TH):Prop where
 m:X7 H1 (Zb H)=H.set bm (.map (kn.map Bt))
 p:H1[Zb H]? = some (.cells pl)
 r:∃ x y,H1[Zb H+1]? = some (.cells [x,y])
 l:Zb H+2<=Zb H1
section
variable {bm:Nat} {pl:List TV} {H H1:TH} {kn:Vl} {o:Kc}
theorem wz.push (h:wz bm pl H kn H1) (o:Kc):wz bm pl H kn (Zv H1 o):=
 ⟨Ju h.m (by have:=h.l;omega),Qm h.p,let ⟨x,y,e⟩:=h.r;⟨x,y,Qm e⟩,by rw [Qd];have:=h.l;omega⟩
theorem wz.Tf (h:wz bm pl H kn H1) (hb:bm < Zb H) (tx:Vl):wz bm pl H tx (H1.set bm (.map (tx.map Bt))):=
 ⟨by rw [O8 h.m,List.set_set],(Vg (by omega)).trans h.p,let ⟨x,y,e⟩:=h.r;⟨x,y,(Vg (by omega)).trans e⟩,by rw [Ks];exact h.l⟩
theorem wz.own (h:wz bm pl H kn H1) {b:Nat} (hb:Zb H+2<=b) (o:Kc):wz bm pl H kn (H1.set b o):=
 ⟨by rw [<- h.m,Yh,Yh,List.take_set_of_le (by omega)],(Vg (by omega)).trans h.p,let ⟨x,y,e⟩:=h.r;⟨x,y,(Vg (by omega)).trans e⟩,by rw [Ks];exact h.l⟩
theorem wz.map (h:wz bm pl H kn H1) (hb:bm < Zb H):H1[bm]? = some (.map (kn.map Bt)):=by
 have hl:bm < H.length:=by rw [<- Zz];exact hb
 exact (Ey h.m hb).trans (List.getElem?_set_self hl)
end
theorem Cx (w h g:Nat) (Zq:List Nat):Z2 Qv (Qz w h g Zq)=true:=by
 show Z2 Qv (Zq.map tU)=true;rw [Ye,List.all_map,List.all_eq_true];intro x _;rfl
theorem Ax {Zh base b:Nat} {H:TH} {x y a c:TV} (hb:H[b]? = some (.cells [x,y])) (ht:Zh<=b) (Hl:base<=b) (hs:Z2 Vj [a,c]=true):storeT Zh base 2 H (.ptr b 0) (.agg [a,c])=some (H.set b (.cells [a,c])):=by
 rw [Qy (off:=0) (n:=2) (x:=.agg [a,c]) hb ht hs (.inr Hl) rfl (Nat.le_refl 2),Yb,Kr (cs:=[x,y]) (xs:=[a,c]) rfl]
theorem Zh1 {Zh base b:Nat} {H:TH} {x y a:TV} (hb:H[b]? = some (.cells [x,y])) (ht:Zh<=b) (Hl:base<=b) (hs:Yu a=true) (hc:Zy a=[a]):storeT Zh base 1 H (.ptr b (0+0)) a=some (H.set b (.cells [a,y])):=by
 rw [Qy (off:=0+0) (n:=1) (x:=a) hb ht hs (.inr Hl) (by rw [hc];rfl) (by show 0+0+1<=2;omega),hc];rfl
theorem Zh0 {Zh base b:Nat} {H:TH} {x y a:TV} (hb:H[b]? = some (.cells [x,y])) (ht:Zh<=b) (Hl:base<=b) (hs:Yu a=true) (hc:Zy a=[a]):storeT Zh base 1 H (.ptr b (0+1)) a=some (H.set b (.cells [x,a])):=by
 rw [Qy (off:=0+1) (n:=1) (x:=a) hb ht hs (.inr Hl) (by rw [hc];rfl) (by show 0+1+1<=2;omega),hc];rfl
theorem Cu {Zh base:Nat} {A:TH} {v:Nat×Nat} (ht:Zh<=Zb A) (hb:base<=Zb A):storeT Zh base 2 (Zv A (.cells Gr)) (.ptr (Zb A) 0) (tY v)=some (Zv A (.cells [tN v.1,tN v.2])):=
 (Ax (x:=tN 0) (y:=tN 0) Qf ht hb rfl).trans (by rw [Wv])
theorem Zcq {w h g bm Zh:Nat} {Zq:List Nat} (G4:Zq.length=16) (Kt:∀ x∈Zq,x < 65536) (htm:Zh<=bm) :
  ∀ (f d free:Nat) (kn:Vl) (H:TH) (r:(Nat×Nat)×Vl),H[bm]? = some (.map (kn.map Bt))->free < 65536->Kv Zq f free kn=some r ->
   tc (d+f+3) Zh 98 [.agg (Qz w h g Zq),tU free,.map bm] H=some (tY r.1,H.set bm (.map (r.2.map Bt))):=by
 intro f
 induction f with
 |zero=>intro d free kn H r _ _ h;cases h
 |succ f ih=>
  intro d free kn H r hbm Af Qx;have Pq:=Uw hbm;obtain ⟨A,hA⟩:∃ B,B=Zv H (.cells (Qz w h g Zq)):=⟨_,rfl⟩;obtain ⟨B,hB⟩:∃ B,B=Zv A (.cells Gr):=⟨_,rfl⟩;have nA:Zb A=Zb H+1:=by rw [hA];exact Qd
  have nB:Zb B=Zb H+2:=by rw [hB,Qd,nA]
  have cB:wz bm (Qz w h g Zq) H kn B:=by
   refine ⟨?_,?_,⟨tN 0,tN 0,?_⟩,by omega⟩
   ·rw [Uv hbm,hB];refine Ju ?_ (by omega);rw [hA];exact Jt
   ·rw [hB];refine Qm ?_;rw [hA];exact Qf
   ·rw [hB,<- nA];exact Qf
  have hs:Z2 Vj (Qz w h g Zq)=true:=Jn w h g Zq;have lp:∀ {β:Type} {H1:TH} {kn:Vl} (_:wz bm (Qz w h g Zq) H kn H1) (k:TV->TH->Option β),loadT .settle Zh (Zb H) true 19 H1 (.ptr (Zb H) 0) k=k (.agg (Qz w h g Zq)) H1:=λc k=>K3 c.p G4;have htz:∀ {s:Nat} (_:s≠0) (_:s < 65536) (H:TH),Zm (tc (d+f+3)) 156 [tU s] H=some (tN (low 64 s)):=λh0 hs H=>pe (d+f+1) h0 (by omega)
  have Ti:∀ {s:Nat} (_:s < 65536) (H:TH),Zm (tc (d+f+3)) 100 [tU s] H=some (Xj 3 1 ((Xu s).map tN)):=λhs H=>Lq (d+f) (by omega)
  have fin:∀ {v:Nat×Nat} {kn:Vl} {H1:TH},wz bm (Qz w h g Zq) H kn H1->wz bm (Qz w h g Zq) H kn (H1.set (Zb H+1) (.cells [tN v.1,tN v.2]))/\(H1.set (Zb H+1) (.cells [tN v.1,tN v.2]))[Zb H+1]? = some (.cells [tN v.1,tN v.2]) /\
    storeT Zh (Zb H) 2 H1 (.ptr (Zb H+1) 0) (tY v)=some (H1.set (Zb H+1) (.cells [tN v.1,tN v.2])):=λ{v kn H1} c=>by
   obtain ⟨x,y,e⟩:=c.r;exact ⟨⟨by rw [<- c.m,Yh,Yh,List.take_set_of_le (by omega)],(Vg (by omega)).trans c.p,⟨_,_,Jv e⟩,by rw [Ks];exact c.l⟩,Jv e,Ax e (by omega) (by omega) rfl⟩
  have key:Qg (C98 (tc (d+f+3)) Zh (Zb H) (.agg (Qz w h g Zq),tU free,.map bm,Zk,Zk,Zk,Zk,Zk,Zk,Zk,Zk,Zk,Zk,Zk,Zk,Zk,Zk,Zk,Zk,Zk,()) H)
    λe S H1=>e=.ret/\S.2.2.2.2.1=.ptr (Zb H+1) 0/\H1[Zb H+1]? = some (.cells [tN r.1.1,tN r.1.2])/\X7 H1 (Zb H)=H.set bm (.map (r.2.map Bt)):=by
   by_cases hz:free=0
   ·subst hz;have Qx:some ((0,1),kn)=some r:=Qx;cases Qx;obtain ⟨f1,f2,f3⟩:=fin (v:=(0,1)) cB;have xv:Uk [(0,1,tN 0),(1,1,tN 1)] Gr=some (tY (0,1)):=rfl;simp only [C98,VV,hs,<- hA,<- hB,nA,show Qn (.ofNat 0) (.ofNat 0)=true from rfl,xv,f3];exact .fin ⟨rfl,rfl,f2,f1.m⟩
   ·have hz2:Qn (.ofNat free) (.ofNat 0)=false:=Wm hz;obtain ⟨c,hc⟩:∃ c,c=low 64 free:=⟨_,rfl⟩;have ar:c < 16:=by rw [hc];exact tm hz Af
    obtain ⟨fr,hfr⟩:∃ fr,fr=Iu free (2 ^ c):=⟨_,rfl⟩;have hfr16:fr < 65536:=by rw [hfr];exact Ff Af
    obtain ⟨nc,hnc⟩:∃ nc,Zq[c]? = some nc:=⟨Zq[c],List.getElem?_eq_getElem (by omega)⟩
    have hnc':nc < 65536:=Kt nc (List.mem_of_getElem? hnc);have Zg7:Nat.land nc fr < 65536:=Nat.lt_of_le_of_lt Nat.and_le_left hnc';obtain ⟨l,hl⟩:∃ l,l=Xu (Nat.land nc fr):=⟨_,rfl⟩;have Zey:∀ x∈l,x < 16:=λx hx=>R7 _ Zg7 x (hl ▸ hx);have iw:l.length < 90000:=by rw [hl];exact Nat.lt_of_le_of_lt (K6 _) (by decide)
    have Qx:cond (Nat.beq free 0) (some ((0,1),kn)) (match Ic kn free with
     |some v=>some (v,kn)
     |none=>match Kv Zq f (Iu free (2 ^ low 64 free)) kn with
      |none=>none
      |some (o,By)=>match qt (Kv Zq f) (Iu free (2 ^ low 64 free)) (Xu (Nat.land (Zq[low 64 free]?.getD 0) (Iu free (2 ^ low 64 free)))) o By with
       |none=>none
       |some (o2,ja)=>some (o2,Rg ja free o2))=some r:=Qx
    rw [Wm hz,<- hc,<- hfr,hnc] at Qx
    have Qx:(match Ic kn free with
     |some v=>some (v,kn)
     |none=>match Kv Zq f fr kn with
      |none=>none
      |some (o,By)=>match qt (Kv Zq f) fr (Xu (Nat.land nc fr)) o By with
       |none=>none
       |some (o2,ja)=>some (o2,Rg ja free o2))=some r:=Qx
    rw [<- hl] at Qx;have aj:=look_K (f:=free) (z:=.agg Gr) (cB.map Pq);cases J7:Ic kn free with
    |some v=>
     rw [J7] at Qx aj;cases Qx;obtain ⟨D,hD⟩:∃ D,D=Zv B (.cells [tN v.1,tN v.2]):=⟨_,rfl⟩;have cD:wz bm (Qz w h g Zq) H kn D:=by rw [hD];exact cB.push _
     have kD:D[Zb B]? = some (.cells [tN v.1,tN v.2]):=by rw [hD];exact Qf
     have st:storeT Zh (Zb H) 2 (Zv B (.cells Gr)) (.ptr (Zb B) 0) (tY v)=some D:=by rw [hD];exact Cu (by omega) (by omega)
     have l5:∀ {β:Type} (k:TV->TH->Option β),loadT .settle Zh (Zb H) true 2 D (.ptr (Zb B) 0) k=k (tY v) D:=λk=>Xw kD (by simp) rfl
     obtain ⟨f1,f2,f3⟩:=fin (v:=v) cD;have aj:Ba B .int (.agg Gr) (.map bm) (tU free) true=some (.Xh [tY v,tB true]):=aj;simp only [C98,VV,hs,<- hA,<- hB,nA,hz2,Lr,Ls,aj,st,l5,f3];exact .fin ⟨rfl,rfl,f2,f1.m⟩
    |none=>
     rw [J7] at Qx aj;have aj:Ba B .int (.agg Gr) (.map bm) (tU free) true=some (.Xh [.agg Gr,tB false]):=aj;cases hr1:Kv Zq f fr kn with
     |none=>rw [hr1] at Qx;cases Qx
     |some r1=>
      obtain ⟨o,By⟩:=r1;rw [hr1] at Qx
      have Qx:(match qt (Kv Zq f) fr l o By with
       |none=>none
       |some (o2,ja)=>some (o2,Rg ja free o2))=some r:=Qx
      cases hr2:qt (Kv Zq f) fr l o By with
      |none=>rw [hr2] at Qx;cases Qx
      |some r2=>
       obtain ⟨o2,ja⟩:=r2;rw [hr2] at Qx;have Qx:some (o2,Rg ja free o2)=some r:=Qx;cases Qx;have p1:=fq ar;have z1:Y8 (.int .u64 (.ofNat 1)) (.int .i64 (.ofNat c))=some (.int .u64 (.ofNat (2 ^ c))):=by rw [Mz (by omega) (by rw [Nat.one_mul];omega),Nat.one_mul]
       have z2:Y6 (.int .u64 (.ofNat free)) (.int .u64 (.ofNat (2 ^ c)))=some (.int .u64 (.ofNat fr)):=by rw [hfr];exact P3 (by omega) (by omega)
       have z3:Km (.int .u64 (.ofNat nc)) (.int .u64 (.ofNat fr))=some (.int .u64 (.ofNat (Nat.land nc fr))):=Cl (by omega) (by omega)
       have hi:Qt 16 1 (.ptr (Zb H) (0+3)) (tN c)=some (.ptr (Zb H) (0+3+c * 1)):=G9 ar;have htz':=htz hz Af;rw [<- hc] at htz';have Zop:=Ti Zg7;rw [<- hl] at Zop;obtain ⟨D,hD⟩:∃ D,D=Zv B (.cells Gr):=⟨_,rfl⟩;have cD:wz bm (Qz w h g Zq) H kn D:=by rw [hD];exact cB.push _
       have nD:Zb D=Zb H+3:=by rw [hD,Qd,nB]
       have st:storeT Zh (Zb H) 2 D (.ptr (Zb B) 0) (.agg Gr)=some D:=by
        have hx:D[Zb B]? = some (.cells Gr):=by rw [hD];exact Qf
        exact (Ax (x:=tN 0) (y:=tN 0) (a:=tN 0) (c:=tN 0) hx (by omega) (by omega) rfl).trans (congrArg some (Uv hx))
       obtain ⟨E,hE⟩:∃ E,E=D.set bm (.map (By.map Bt)):=⟨_,rfl⟩;have cE:wz bm (Qz w h g Zq) H By E:=by rw [hE];exact cD.Tf Pq By
       have nE:Zb E=Zb H+3:=by rw [hE,Ks,nD]
       have call1:∀ {β:Type} (k:TV->TH->Option β),Qo (tc (d+f+3)) Zh 98 [.agg (Qz w h g Zq),tU fr,.map bm] D k=k (tY o) E:=λk=>by
        refine Xx (by show cond (Z2 Qv (Qz w h g Zq)) _ _=_;rw [Cx];rfl) ?_
        rw [hE];exact ih d fr kn D (o,By) (cD.map Pq) hfr16 hr1
       obtain ⟨G,hG⟩:∃ G,G=Zv E (.cells [tN o.1,tN o.2]):=⟨_,rfl⟩;have cG:wz bm (Qz w h g Zq) H By G:=by rw [hG];exact cE.push _
       have nG:Zb G=Zb H+4:=by rw [hG,Qd,nE]
       have stG:storeT Zh (Zb H) 2 (Zv E (.cells Gr)) (.ptr (Zb H+3) 0) (tY o)=some G:=by rw [<- nE,hG];exact Cu (by omega) (by omega)
       have hGo:G[Zb H+3]? = some (.cells [tN o.1,tN o.2]):=by rw [hG,<- nE];exact Qf
       have ln:∀ {β:Type} (k:TV->TH->Option β),loadT .Xi Zh (Zb H) false 1 G (.ptr (Zb H) (0+3+c * 1)) k=k (tU nc) G:=λk=>Zx cG.p (Zaj hnc) rfl rfl;simp only [C98,VV,hs,<- hA,<- hB,nA,hz2,Lr,Ls,aj,<- hD,st,htz',z1,z2,lp cD,Xz,call1,nE,stG,hi,ln,z3,Zop,show Ve V3 Gr=Gr from rfl]
       refine Qg.su (k:=l.length) (λm S H1=>∃ j o' tx,S.2.1=tU free/\S.2.2.1=.map bm/\S.2.2.2.1=.ptr (Zb H) 0/\S.2.2.2.2.1=.ptr (Zb H+1) 0/\S.2.2.2.2.2.2.2.2.1=tU fr/\S.2.2.2.2.2.2.2.2.2.1=.ptr (Zb H+3) 0/\S.2.2.2.2.2.2.2.2.2.2.2.2.2.2.1=Xj 3 1 (l.map tN)/\S.2.2.2.2.2.2.2.2.2.2.2.2.2.2.2.1=tN l.length/\S.2.2.2.2.2.2.2.2.2.2.2.2.2.2.2.2.1=tN j /\
         wz bm (Qz w h g Zq) H tx H1/\H1[Zb H+3]? = some (.cells [tN o'.1,tN o'.2])/\Zb H+4<=Zb H1/\j<=l.length/\m=l.length - j/\qt (Kv Zq f) fr (l.drop j) o' tx=some (o2,ja))
        (λS H1=>S.2.1=tU free/\S.2.2.1=.map bm/\S.2.2.2.2.1=.ptr (Zb H+1) 0/\S.2.2.2.2.2.2.2.2.2.1=.ptr (Zb H+3) 0/\wz bm (Qz w h g Zq) H ja H1/\H1[Zb H+3]? = some (.cells [tN o2.1,tN o2.2])) (λ_ _=>False) ?_ (by rw [Yg];omega)
        ⟨0,o,By,rfl,rfl,rfl,rfl,rfl,rfl,rfl,by show tN (Zb (l.map tN))=tN l.length;rw [Zz (l.map tN),List.length_map],rfl,cG,hGo,by omega,Nat.zero_le _,rfl,hr2⟩ ?_ (λ_ _ h=>h.elim)
       ·rintro m S H1 ⟨j,o',tx,g1,g2,g3,g4,g8,g9,Iz,Ra,Nt,c1,ho,hg4,hj,rfl,Qx⟩;rcases Nat.eq_or_lt_of_le hj with hj |hj
        ·rw [hj,List.drop_length] at Qx;have Qx:some (o',tx)=some (o2,ja):=Qx;cases Qx;simp only [VV,g1,g2,g3,g4,g8,g9,Iz,Ra,Nt,Ql,Kf (Nat.le_of_eq hj.symm)];exact .fin (.inr (.inl ⟨rfl,rfl,rfl,rfl,rfl,c1,ho⟩))
        ·obtain ⟨x,hx⟩:∃ x,x=l[j]:=⟨_,rfl⟩;have hx16:x < 16:=by rw [hx];exact Zey _ (List.getElem_mem hj)
         have J8:(l.map tN)[j]? = some (tN x):=by rw [List.getElem?_map,List.getElem?_eq_getElem hj,hx];rfl
         have Is:Xj 3 1 (l.map tN)=.row .Jf (.own 3) 1 (l.map tN):=by
          cases hx:l.map tN with
          |nil=>rw [hx] at J8;cases J8
          |cons=>rfl
         rw [List.drop_eq_getElem_cons hj,<- hx] at Qx
         have Qx:(match Kv Zq f (Iu fr (2 ^ x)) tx with
          |none=>none
          |some (wi,By)=>cond (Nat.blt wi.1 1000) (cond (Nat.blt o'.1 (wi.1+1)) (qt (Kv Zq f) fr (l.drop (j+1)) (wi.1+1,wi.2) By)
            (cond (Nat.beq (wi.1+1) o'.1) (cond (Nat.blt (o'.2+wi.2) 1000000) (qt (Kv Zq f) fr (l.drop (j+1)) (o'.1,o'.2+wi.2) By) none) (qt (Kv Zq f) fr (l.drop (j+1)) o' By))) none)=some (o2,ja):=Qx
         have q1:=fq hx16;have y1:Y8 (.int .u64 (.ofNat 1)) (.int .i64 (.ofNat x))=some (.int .u64 (.ofNat (2 ^ x))):=by rw [Mz (by omega) (by rw [Nat.one_mul];omega),Nat.one_mul]
         have y2:Y6 (.int .u64 (.ofNat fr)) (.int .u64 (.ofNat (2 ^ x)))=some (.int .u64 (.ofNat (Iu fr (2 ^ x)))):=P3 (by omega) (by omega)
         have a3:Z0 (.int .i64 (.ofNat j)) (.int .i64 (.ofNat 1))=some (.int .i64 (.ofNat (j+1))):=X9 (by omega)
         cases hr:Kv Zq f (Iu fr (2 ^ x)) tx with
         |none=>rw [hr] at Qx;cases Qx
         |some r1=>
          obtain ⟨⟨u,v⟩,kn3⟩:=r1;rw [hr] at Qx
          have Qx:cond (Nat.blt u 1000) (cond (Nat.blt o'.1 (u+1)) (qt (Kv Zq f) fr (l.drop (j+1)) (u+1,v) kn3)
            (cond (Nat.beq (u+1) o'.1) (cond (Nat.blt (o'.2+v) 1000000) (qt (Kv Zq f) fr (l.drop (j+1)) (o'.1,o'.2+v) kn3) none) (qt (Kv Zq f) fr (l.drop (j+1)) o' kn3))) none=some (o2,ja):=Qx
          cases hu:Nat.blt u 1000 with
          |false=>rw [hu] at Qx;cases Qx
          |true=>
           rw [hu] at Qx
           have Qx:cond (Nat.blt o'.1 (u+1)) (qt (Kv Zq f) fr (l.drop (j+1)) (u+1,v) kn3)
            (cond (Nat.beq (u+1) o'.1) (cond (Nat.blt (o'.2+v) 1000000) (qt (Kv Zq f) fr (l.drop (j+1)) (o'.1,o'.2+v) kn3) none) (qt (Kv Zq f) fr (l.drop (j+1)) o' kn3))=some (o2,ja):=Qx
           rw [Nat.blt_eq] at hu;obtain ⟨K,hK⟩:∃ K,K=H1.set bm (.map (kn3.map Bt)):=⟨_,rfl⟩;have cK:wz bm (Qz w h g Zq) H kn3 K:=by rw [hK];exact c1.Tf Pq kn3
           have oK:K[Zb H+3]? = some (.cells [tN o'.1,tN o'.2]):=by rw [hK];exact (Vg (by omega)).trans ho
           have nK:Zb K=Zb H1:=by rw [hK,Ks]
           have call2:∀ {β:Type} (k:TV->TH->Option β),Qo (tc (d+f+3)) Zh 98 [.agg (Qz w h g Zq),tU (Iu fr (2 ^ x)),.map bm] H1 k=k (tY (u,v)) K:=λk=>by
            refine Xx (by show cond (Z2 Qv (Qz w h g Zq)) _ _=_;rw [Cx];rfl) ?_
            rw [hK];exact ih d (Iu fr (2 ^ x)) tx H1 ((u,v),kn3) (c1.map Pq) (Ff hfr16) hr
           obtain ⟨M,hM⟩:∃ M,M=Zv K (.cells [tN u,tN v]):=⟨_,rfl⟩;have stM:storeT Zh (Zb H) 2 (Zv K (.cells Gr)) (.ptr (Zb K) 0) (tY (u,v))=some M:=by rw [hM];exact Cu (by omega) (by omega)
           have kM:M[Zb K]? = some (.cells [tN u,tN v]):=by rw [hM];exact Qf
           obtain ⟨N,hN⟩:∃ N,N=M.set (Zb K) (.cells [tN (u+1),tN v]):=⟨_,rfl⟩;have stN':storeT Zh (Zb H) 1 M (.ptr (Zb K) (0+0)) (tN (u+1))=some N:=by rw [hN];exact Zh1 kM (by omega) (by omega) rfl rfl
           have kN:N[Zb K]? = some (.cells [tN (u+1),tN v]):=by rw [hN];exact Jv kM
           have cN:wz bm (Qz w h g Zq) H kn3 N:=by rw [hN,hM];exact (cK.push _).own (by omega) _
           have oN:N[Zb H+3]? = some (.cells [tN o'.1,tN o'.2]):=by rw [hN,hM];exact (Vg (by omega)).trans (Qm oK)
           have nN:Zb N=Zb H1+1:=by rw [hN,Ks,hM,Qd,nK]
           have w1:∀ {β:Type} (k:TV->TH->Option β),loadT .Xi Zh (Zb H) false 1 M (.ptr (Zb K) (0+0)) k=k (tN u) M:=λk=>Zx kM rfl rfl rfl;have w2:∀ {β:Type} (k:TV->TH->Option β),loadT .Xi Zh (Zb H) false 1 N (.ptr (Zb K) (0+0)) k=k (tN (u+1)) N:=λk=>Zx kN rfl rfl rfl;have w3:∀ {β:Type} (k:TV->TH->Option β),loadT .Xi Zh (Zb H) false 1 N (.ptr (Zb H+3) (0+0)) k=k (tN o'.1) N:=λk=>Zx oN rfl rfl rfl;have w4:∀ {β:Type} (k:TV->TH->Option β),loadT .settle Zh (Zb H) true 2 N (.ptr (Zb K) 0) k=k (tY (u+1,v)) N:=λk=>Xw kN (by simp) rfl
           have w5:∀ {β:Type} (k:TV->TH->Option β),loadT .Xi Zh (Zb H) false 1 N (.ptr (Zb H+3) (0+1)) k=k (tN o'.2) N:=λk=>Zx oN rfl rfl rfl;have w6:∀ {β:Type} (k:TV->TH->Option β),loadT .Xi Zh (Zb H) false 1 N (.ptr (Zb K) (0+1)) k=k (tN v) N:=λk=>Zx kN rfl rfl rfl;have a4:Z0 (.int .i64 (.ofNat u)) (.int .i64 (.ofNat 1))=some (.int .i64 (.ofNat (u+1))):=X9 (by omega)
           cases hgt:Nat.blt o'.1 (u+1) with
           |true=>
            rw [hgt] at Qx;have st6:storeT Zh (Zb H) 2 N (.ptr (Zb H+3) 0) (tY (u+1,v))=some (N.set (Zb H+3) (.cells [tN (u+1),tN v])):=Ax oN (by omega) (by omega) rfl
            simp only [VV,g1,g2,g3,g4,g8,g9,Iz,Ra,Nt,Ql,Xo hj,Is,Qe J8,Ku (cs:=Zy (tN x)) (off:=0) rfl,lp c1,Xz,y1,y2,Lr,Ls,call2,stM,w1,a4,stN',w2,w3,Gg,hgt,w4,st6,a3];exact .fin (.inl ⟨rfl,l.length - (j+1),by omega,j+1,(u+1,v),kn3,rfl,rfl,rfl,rfl,rfl,rfl,rfl,rfl,rfl,cN.own (by omega) _,Jv oN,by rw [Ks];omega,hj,rfl,Qx⟩)
           |false=>
            rw [hgt] at Qx;have Qx:cond (Nat.beq (u+1) o'.1) (cond (Nat.blt (o'.2+v) 1000000) (qt (Kv Zq f) fr (l.drop (j+1)) (o'.1,o'.2+v) kn3) none) (qt (Kv Zq f) fr (l.drop (j+1)) o' kn3)=some (o2,ja):=Qx;cases heq:Nat.beq (u+1) o'.1 with
            |true=>
             rw [heq] at Qx;cases hv:Nat.blt (o'.2+v) 1000000 with
             |false=>rw [hv] at Qx;cases Qx
             |true=>
              rw [hv] at Qx;rw [Nat.blt_eq] at hv;have a5:Z0 (.int .i64 (.ofNat o'.2)) (.int .i64 (.ofNat v))=some (.int .i64 (.ofNat (o'.2+v))):=X9 (by omega)
              have st7:storeT Zh (Zb H) 1 N (.ptr (Zb H+3) (0+1)) (tN (o'.2+v))=some (N.set (Zb H+3) (.cells [tN o'.1,tN (o'.2+v)])):=Zh0 oN (by omega) (by omega) rfl rfl
              simp only [VV,g1,g2,g3,g4,g8,g9,Iz,Ra,Nt,Ql,Xo hj,Is,Qe J8,Ku (cs:=Zy (tN x)) (off:=0) rfl,lp c1,Xz,y1,y2,Lr,Ls,call2,stM,w1,a4,stN',w2,w3,Gg,hgt,show Qn (.ofNat (u+1)) (.ofNat o'.1)=true from heq,w5,w6,a5,st7,a3];exact .fin (.inl ⟨rfl,l.length - (j+1),by omega,j+1,(o'.1,o'.2+v),kn3,rfl,rfl,rfl,rfl,rfl,rfl,rfl,rfl,rfl,cN.own (by omega) _,Jv oN,by rw [Ks];omega,hj,rfl,Qx⟩)
            |false=>
             rw [heq] at Qx;simp only [VV,g1,g2,g3,g4,g8,g9,Iz,Ra,Nt,Ql,Xo hj,Is,Qe J8,Ku (cs:=Zy (tN x)) (off:=0) rfl,lp c1,Xz,y1,y2,Lr,Ls,call2,stM,w1,a4,stN',w2,w3,Gg,hgt,show Qn (.ofNat (u+1)) (.ofNat o'.1)=false from heq,a3];exact .fin (.inl ⟨rfl,l.length - (j+1),by omega,j+1,o',kn3,rfl,rfl,rfl,rfl,rfl,rfl,rfl,rfl,rfl,cN,oN,by omega,hj,rfl,Qx⟩)
       ·rintro S H1 ⟨g1,g2,g4,g9,c1,ho⟩;have l9:∀ {β:Type} (k:TV->TH->Option β),loadT .settle Zh (Zb H) true 2 H1 (.ptr (Zb H+3) 0) k=k (tY o2) H1:=λk=>Xw ho (by simp) rfl
        have up:=upd_K (f:=free) (v:=o2) (c1.map Pq) htm;have cU:=c1.Tf Pq (Rg ja free o2);have oU:(H1.set bm (.map ((Rg ja free o2).map Bt)))[Zb H+3]? = some (.cells [tN o2.1,tN o2.2]):=(Vg (by omega)).trans ho
        have l10:∀ {β:Type} (k:TV->TH->Option β),loadT .settle Zh (Zb H) true 2 (H1.set bm (.map ((Rg ja free o2).map Bt))) (.ptr (Zb H+3) 0) k=k (tY o2) (H1.set bm (.map ((Rg ja free o2).map Bt))):=λk=>Xw oU (by simp) rfl
        obtain ⟨f1,f2,f3⟩:=fin (v:=o2) cU;simp only [VV,g1,g2,g4,g9,l9,Lr,Ls,up,l10,f3];exact .fin ⟨rfl,rfl,f2,f1.m⟩
  obtain ⟨e,S,H1,h1,rfl,h2,h3,h4⟩:=key;rw [show d+(f+1)+3=d+f+3+1 by omega,Y4 (F:=F98) (by kernel_rfl)]
  show Za (C98 (tc (d+f+3)) Zh (Zb H) (.agg (Qz w h g Zq),tU free,.map bm,Zk,Zk,Zk,Zk,Zk,Zk,Zk,Zk,Zk,Zk,Zk,Zk,Zk,Zk,Zk,Zk,Zk,()) H) _=_;rw [h1];simp only [Yy,Jm,h2];rw [Xw h3 (by simp) rfl]
  show Zp true (some (Xm (Zb H) (tY r.1) H1))=_;rw [Z6 rfl,h4];rfl
end
end Go.Proofs.YtgemobbfikjmoaaGreatDoor
namespace Go.Ev
end Go.Ev
namespace Go.Proofs.YtgemobbfikjmoaaGreatDoor
open Go Go.Ev
set_option maxRecDepth 100000
noncomputable section
section
variable {w h n:Nat} {c:Cp} {sp:List Nat}
theorem pc (d Zh:Nat) {res:(Nat×Nat)×Vl} {H:TH} (ok:Kd w h sp) (hn:sp≠[]->n=1) (Oc:Zh<=Zb H) (jt:Kv (Kb w h sp) 17 (Qs w h sp) []=some res) :
  tc (d+21) Zh 21 [tS w h c n sp] H=some (.Xh [tN res.1.2,tN 0],H):=by
 rw [Y4 (F:=F21) (by kernel_rfl)]
 obtain ⟨A,hA⟩:∃ B,B=Zv H (.cells [tN w,tN h,.row c .set n (sp.map tN)]):=⟨_,rfl⟩;obtain ⟨gd,qo⟩:∃ gd,gd=Qs w h sp:=⟨_,rfl⟩;have uq:gd < 65536:=by rw [qo];exact Ps ok
 obtain ⟨Zq,Kt⟩:∃ Zq,Zq=Kb w h sp:=⟨_,rfl⟩;have G4:Zq.length=16:=by rw [Kt];exact V5 ..
 have ai:∀ x∈Zq,x < 65536:=by rw [Kt];exact Pl _ _ _ ok.Ca
 rw [<- Kt,<- qo] at jt;have hpt:J3 w h sp=Qz w h gd Zq:=by rw [Kt,qo];rfl
 obtain ⟨B,hB⟩:∃ B,B=Zv A (.cells (Qz w h gd Zq)):=⟨_,rfl⟩;have nA:Zb A=Zb H+1:=by rw [hA];exact Qd
 have nB:Zb B=Zb H+2:=by rw [hB,Qd,nA]
 have kA:A[Zb H]? = some (.cells [tN w,tN h,.row c .set n (sp.map tN)]):=by rw [hA];exact Qf
 have kB:B[Zb A]? = some (.cells (Qz w h gd Zq)):=by rw [hB];exact Qf
 have tB':X7 B (Zb H)=H:=by rw [hB];refine Ju ?_ (by omega);rw [hA];exact Jt
 obtain ⟨D,hD⟩:∃ D,D=Zv B (.map []):=⟨_,rfl⟩;have kD:D[Zb B]? = some (.map (([]:Vl).map Bt)):=by rw [hD];exact Qf
 have tD:X7 (D.set (Zb B) (.map (res.2.map Bt))) (Zb H)=H:=by
  have:X7 D (Zb H)=H:=by rw [hD];exact Ju tB' (by omega)
  rw [O8 this,List.set_eq_of_length_le (by rw [<- Zz];omega)]
 have Us:Yu (tS w h c n sp)=true:=by cases c <;> rfl
 have lA:∀ {β:Type} (k:TV->TH->Option β),loadT .Xi Zh (Zb H) true 3 A (.ptr (Zb H) 0) k=k (tS w h c n sp) A:=λk=>Xw kA (by simp) rfl
 have lB:∀ {β:Type} (k:TV->TH->Option β),loadT .settle Zh (Zb H) true 19 B (.ptr (Zb A) 0) k=k (.agg (Qz w h gd Zq)) B:=λk=>K3 kB G4;have lg:∀ {β:Type} (k:TV->TH->Option β),loadT .settle Zh (Zb H) false 1 B (.ptr (Zb A) (0+2)) k=k (tU gd) B:=λk=>Zx kB (Tg ..) rfl rfl;have st:storeT Zh (Zb H) 19 (Zv A (.cells Xf)) (.ptr (Zb A) 0) (.agg (Qz w h gd Zq))=some B:=by rw [hB];exact Tw G4 (by omega) (by omega)
 have hld:∀ H,Zm (tc (d+20)) 94 [tS w h c n sp] H=some (.Xh [.agg (Qz w h gd Zq),tN 0]):=λH=>by rw [<- hpt];exact Bb (d+18) ok hn
 have Xn:∀ {β:Type} (k:TV->TH->Option β),Qo (tc (d+20)) Zh 98 [.agg (Qz w h gd Zq),tU gd,.map (Zb B)] D k=k (tY res.1) (D.set (Zb B) (.map (res.2.map Bt))):=λk=>by
  refine Xx (by show cond (Z2 Qv (Qz w h gd Zq)) _ _=_;rw [Cx];rfl) ?_
  exact Zcq G4 ai (by omega) 17 d gd [] D res kD uq jt
 have hpart:yv false 1 (tY res.1) 1=some (tN res.1.2):=rfl;show Za (C21 (tc (d+20)) Zh (Zb H) (tS w h c n sp,Zk,Zk,Zk,Zk,Zk,Zk,()) H) _=_;simp only [C21,VV,<- hA,lA,hld,Xz,st,show Qn (.ofNat 0) (.ofNat 0)=true from rfl,Bool.not_true,lB,lg,<- hD,Xn,hpart];rw [Z6 rfl,tD]
end
end
end Go.Proofs.YtgemobbfikjmoaaGreatDoor
namespace Go.Proofs.YtgemobbfikjmoaaGreatDoor
open Go Go.Ev
set_option maxRecDepth 100000
noncomputable section
section
variable {w h n:Nat} {c:Cp} {sp:List Nat} {H:TH}
theorem Zk8 (d:Nat) {m:Nat} (ok:Kd w h sp) (hn:sp≠[]->n=1) (Mg:Ib (Kb w h sp) w (Qs w h sp)=some m):Zm (tc (d+22)) 16 [tS w h c n sp] H=some (.Xh [tN m,tN 0]):=
 Yc (ws:=[tS w h c n sp]) (H':=[]) (a:=false) rfl (by cases c <;> rfl) (Zc7 d 0 ok hn (Nat.zero_le _) Mg) rfl
theorem Zfx (d:Nat) {res:(Nat×Nat)×Vl} (ok:Kd w h sp) (hn:sp≠[]->n=1) (jt:Kv (Kb w h sp) 17 (Qs w h sp) []=some res):Zm (tc (d+21)) 21 [tS w h c n sp] H=some (.Xh [tN res.1.2,tN 0]):=
 Yc (ws:=[tS w h c n sp]) (H':=[]) (a:=false) rfl (by cases c <;> rfl) (pc d 0 ok hn (Nat.zero_le _) jt) rfl
end
end
end Go.Proofs.YtgemobbfikjmoaaGreatDoor
namespace Go.Proofs.YtgemobbfikjmoaaGreatDoor
open Go Go.Ev
set_option maxRecDepth 100000
noncomputable section
def aq (a:Nat):List Nat->Bool
 |[]=>true
 |b::_=>Nat.blt a b
def ascB:List Nat->Bool
 |[]=>true
 |a::l=>cond (aq a l) (ascB l) false
theorem Zht:∀ (l:List Nat),ascB l=true->l.Pairwise (· < ·)/\∀ a,aq a l=true->∀ x∈l,a < x
 |[],_=>⟨.nil,λ_ _ x hx=>by cases hx⟩
 |a::l,h=>by
  have h:cond (aq a l) (ascB l) false=true:=h;cases hm:aq a l with
  |false=>rw [hm] at h;cases h
  |true=>
   rw [hm] at h;obtain ⟨h1,h2⟩:=Zht l h;have ha:∀ x∈l,a < x:=h2 a hm;refine ⟨List.pairwise_cons.2 ⟨ha,h1⟩,λc hc x hx=>?_⟩
   have hca:c < a:=by
    have hc:Nat.blt c a=true:=hc
    rwa [Nat.blt_eq] at hc
   rcases List.mem_cons.1 hx with rfl |hx
   ·exact hca
   ·have:=ha x hx;omega
def Nn {α:Type} (p:α->Bool):List α->Bool
 |[]=>true
 |x::l=>cond (p x) (Nn p l) false
theorem Wo {α:Type} {p:α->Bool}:∀ {l:List α},Nn p l=true->∀ x∈l,p x=true
 |[],_,x,hx=>by cases hx
 |y::l,h,x,hx=>by
  have h:cond (p y) (Nn p l) false=true:=h;cases hp:p y with
  |false=>rw [hp] at h;cases h
  |true=>
   rw [hp] at h;rcases List.mem_cons.1 hx with rfl |hx
   ·exact hp
   ·exact Wo h x hx
end
end Go.Proofs.YtgemobbfikjmoaaGreatDoor
namespace Go.Proofs.YtgemobbfikjmoaaGreatDoor
open Go Go.Ev
set_option maxRecDepth 100000
noncomputable section
def Zdm:List Nat->List (List Nat)
 |[]=>[]
 |x::l=>[x]::(Zdm l++(Zdm l).map (x::·))
def Of (th:Nat):Nat->Nat->List Nat
 |0,_=>[]
 |k+1,j=>cond (Nat.beq ((th+5 * j) % 4) 0) (j::Of th k (j+1)) (Of th k (j+1))
theorem oz (th:Nat):∀ (k j:Nat),Of th k j=Of (th % 4) k j
 |0,_=>rfl
 |k+1,j=>by
  show cond (Nat.beq ((th+5 * j) % 4) 0) (j::Of th k (j+1)) (Of th k (j+1))=cond (Nat.beq ((th % 4+5 * j) % 4) 0) (j::Of (th % 4) k (j+1)) (Of (th % 4) k (j+1));rw [oz th k (j+1),show (th+5 * j) % 4=(th % 4+5 * j) % 4 by omega]
theorem Zcy (th d:Nat):∀ (k j:Nat),D8 th d k j=[]\/D8 th d k j∈Zdm (Of th k j)
 |0,_=>.inl rfl
 |k+1,j=>by
  have ih:=Zcy th d k (j+1);show cond (cond (El d j) (Nat.beq ((th+5 * j) % 4) 0) false) (j::D8 th d k (j+1)) (D8 th d k (j+1))=[]\/cond (cond (El d j) (Nat.beq ((th+5 * j) % 4) 0) false) (j::D8 th d k (j+1)) (D8 th d k (j+1))∈Zdm (cond (Nat.beq ((th+5 * j) % 4) 0) (j::Of th k (j+1)) (Of th k (j+1)));cases Nat.beq ((th+5 * j) % 4) 0 with
  |false=>
   cases El d j <;> exact ih
  |true=>
   show cond (cond (El d j) true false) (j::D8 th d k (j+1)) (D8 th d k (j+1))=[]\/cond (cond (El d j) true false) (j::D8 th d k (j+1)) (D8 th d k (j+1))∈[j]::(Zdm (Of th k (j+1))++(Zdm (Of th k (j+1))).map (j::·))
   cases El d j with
   |false=>
    rcases ih with h |h
    ·exact .inl h
    ·exact .inr (List.mem_cons_of_mem _ (List.mem_append_left _ h))
   |true=>
    rcases ih with h |h
    ·refine .inr ?_;show j::D8 th d k (j+1)∈_;rw [h];exact List.mem_cons_self
    ·exact .inr (List.mem_cons_of_mem _ (List.mem_append_right _ (List.mem_map_of_mem h)))
end
end Go.Proofs.YtgemobbfikjmoaaGreatDoor
namespace Go.Proofs.YtgemobbfikjmoaaGreatDoor
open Go Go.Ev
set_option maxRecDepth 100000
noncomputable section
theorem Po {b off len cap n:Nat} {ag:Bool}:Kn (.vec b off len cap n ag)=some (tN len):=(rfl)
theorem K8 {b off len cap n j:Nat} {ag:Bool} (h:j < len):Qh n (.vec b off len cap n ag) (tN j)=some (.ptr b (off+j * n)):=by
 show Zp (Nat.beq n n) (Zp (Nat.blt j len) (some (TV.ptr b (Nat.add off (Nat.mul j n)))))=_;rw [Nat.beq_refl,Xo h];rfl
section
variable {b off len cap n:Nat} {ag:Bool}
theorem Ih:Zc (.vec b off len cap n ag)=.vec b off len cap n ag:=(rfl)
theorem Ii:Ze (.vec b off len cap n ag)=.vec b off len cap n ag:=(rfl)
theorem Zgh:Zg (.vec b off len cap n ag)=.vec b off len cap n ag:=(rfl)
theorem Zbo:Qu (.vec b off len cap n ag)=.vec b off len cap n ag:=(rfl)
theorem Ny:Zr (.vec b off len cap n ag)=.vec b off len cap n ag:=(rfl)
theorem T5:pass (.vec b off len cap n ag)=true:=(rfl)
theorem Az:Qk (.vec b off len cap n ag)=true:=(rfl)
end
theorem Fp {β:Type} {n m:Nat} {ag ag':Bool} {b off len cap:Nat} {H:TH} {k:TV->TH->Option β}:Xb n ag (.vec b off len cap m ag') H k=k (.vec b off len cap m ag') H:=(rfl)
def Holds (H:TH) (b:Nat) (H':TH):Prop:=Zb H<=Zb H'/\∀ i,i < Zb H->i≠b->H'[i]? = H[i]?
theorem Holds.refl (H:TH) (b:Nat):Holds H b H:=⟨Nat.le_refl _,λ_ _ _=>rfl⟩
theorem Holds.set {H H':TH} {b:Nat} {o:Kc} (h:Holds H b H'):Holds H b (H'.set b o):=⟨by rw [Ks];exact h.1,λi h1 h2=>by rw [Vg h2];exact h.2 i h1 h2⟩
def Wx {α:Type} (p:α->Bool):List α->Nat->Option Nat
 |[],_=>none
 |y::ys,j=>cond (p y) (some j) (Wx p ys (j+1))
def Rs:Option Nat->Int
 |none=>.negSucc 0
 |some j=>.ofNat j
theorem Zes (call:Z3) (Zh:Nat) {b cap g:Nat} {m:List TV} (zs:List Nat) (p:Nat->Bool) {H:TH} (hb:H[b]? = some (.cells (zs.map tN))) (hlen:zs.length < 90000) (hm:Z2 pass m=true)
  (hp:∀ z∈zs,call Zh g ([tN z]++m) H=some (tB (p z),H)) :
  Zfw call Zh [.vec b 0 zs.length cap 1 false,.fn (.func g) [] m] H=some (tI (Rs (Wx p zs 0)),H):=by
 have key:Qg (Zf1 call Zh (Zb H) (.vec b 0 zs.length cap 1 false,.fn (.func g) [] m,Zk,Zk,Zk,Zk,Zk,Zk,()) H)
   λe S H1=>e=.ret/\S.2.2.1=tI (Rs (Wx p zs 0))/\H1=H:=by
  simp only [Zf1,VV,Ih,Ii,Po]
  refine Qg.su (k:=zs.length) (λk S H1=>∃ j,S.1=.vec b 0 zs.length cap 1 false/\S.2.1=.fn (.func g) [] m/\S.2.2.2.2.1=tN zs.length/\S.2.2.2.2.2.1=tN j/\H1=H/\j<=zs.length/\k=zs.length - j/\Wx p zs 0=Wx p (zs.drop j) j)
   (λ_ H1=>H1=H/\Wx p zs 0=none) (λS H1=>S.2.2.1=tI (Rs (Wx p zs 0))/\H1=H) ?_ (by rw [Yg];omega) ⟨0,rfl,rfl,rfl,rfl,rfl,Nat.zero_le _,rfl,rfl⟩ ?_ (λ_ _ h=>⟨rfl,h⟩)
  ·rintro k S H1 ⟨j,h0,h1,h4,h5,rfl,hj,rfl,Qx⟩;rcases Nat.eq_or_lt_of_le hj with hj |hj
   ·rw [hj,List.drop_length] at Qx;simp only [VV,h0,h1,h4,h5,Ql,Kf (Nat.le_of_eq hj.symm)];exact .fin (.inr (.inl ⟨rfl,rfl,Qx⟩))
   ·rw [List.drop_eq_getElem_cons hj] at Qx;have Qx:Wx p zs 0=cond (p zs[j]) (some j) (Wx p (zs.drop (j+1)) (j+1)):=Qx;have J8:(zs.map tN)[0+j * 1]? = some (tN zs[j]):=by rw [Nat.zero_add,Nat.mul_one,List.getElem?_map,List.getElem?_eq_getElem hj];rfl
    have Xn:∀ {β:Type} (k:TV->TH->Option β),Xd TC call Zh (.fn (.func g) [] m) [tN zs[j]] H1 k=k (tB (p zs[j])) H1:=λk=>
     Yo (by show Z2 pass (tN zs[j]::m)=true;rw [Vc,show pass (tN zs[j])=true from rfl];exact hm) (hp _ (List.getElem_mem hj))
    have hl:∀ {β:Type} (md:Ld) (k:TV->TH->Option β),loadT md Zh (Zb H1) false 1 H1 (.ptr b (0+j * 1)) k=k (tN zs[j]) H1:=λmd k=>Zx hb J8 rfl rfl;cases hpj:p zs[j] with
    |true=>
     rw [hpj] at Qx Xn;simp only [VV,h0,h1,h4,h5,Ql,Xo hj,Ih,Ii,K8 hj,hl,Xn];exact .fin (.inr (.inr ⟨rfl,by rw [Qx];rfl,rfl⟩))
    |false=>
     rw [hpj] at Qx Xn;simp only [VV,h0,h1,h4,h5,Ql,Xo hj,Ih,Ii,K8 hj,hl,Xn,X9 (show j+1 < 9223372036854775808 by omega)]
     exact .fin (.inl ⟨rfl,zs.length - (j+1),by omega,j+1,rfl,rfl,rfl,rfl,rfl,hj,rfl,Qx⟩)
  ·rintro S H1 ⟨rfl,h⟩;simp only [VV];exact .fin ⟨rfl,by rw [h];rfl,rfl⟩
 obtain ⟨e,S,H1,h1,rfl,h2,rfl⟩:=key;show Za (Zf1 call Zh (Zb H1) (.vec b 0 zs.length cap 1 false,.fn (.func g) [] m,Zk,Zk,Zk,Zk,Zk,Zk,()) H1) _=_;rw [h1];simp only [Yy,Jm,h2,Wj Vw X8,Xc]
end
end Go.Proofs.YtgemobbfikjmoaaGreatDoor
namespace Go.Proofs.YtgemobbfikjmoaaGreatDoor
open Go Go.Ev
set_option maxRecDepth 100000
noncomputable section
def Yj {α:Type} (p:α->Bool):List α->List α
 |[]=>[]
 |z::zs=>cond (p z) (Yj p zs) (z::Yj p zs)
theorem Bc {α:Type} (p:α->Bool):∀ l:List α,(Yj p l).length<=l.length
 |[]=>Nat.le_refl _
 |z::zs=>by
  have:=Bc p zs;show (cond (p z) (Yj p zs) (z::Yj p zs)).length<=zs.length+1;cases p z
  ·show (Yj p zs).length+1<=_;omega
  ·show (Yj p zs).length<=_;omega
theorem ib {α:Type} (p:α->Bool):∀ (a b:List α),Yj p (a++b)=Yj p a++Yj p b
 |[],_=>rfl
 |z::a,b=>by
  show cond (p z) (Yj p (a++b)) (z::Yj p (a++b))=cond (p z) (Yj p a) (z::Yj p a)++Yj p b;rw [ib p a b];cases p z <;> rfl
theorem ic {α:Type} {p:α->Bool}:∀ {l:List α},(∀ z∈l,p z=false)->Yj p l=l
 |[],_=>rfl
 |z::l,h=>by
  show cond (p z) (Yj p l) (z::Yj p l)=z::l;rw [h z List.mem_cons_self,ic λy hy=>h y (List.mem_cons_of_mem _ hy)];rfl
theorem ik {α:Type} {p:α->Bool}:∀ {l:List α} {j:Nat},Wx p l j=none->∀ z∈l,p z=false
 |[],_,_,z,hz=>by cases hz
 |y::l,j,h,z,hz=>by
  have h:cond (p y) (some j) (Wx p l (j+1))=none:=h;cases hy:p y with
  |true=>rw [hy] at h;cases h
  |false=>
   rw [hy] at h;rcases List.mem_cons.1 hz with rfl |hz
   ·exact hy
   ·exact ik h z hz
theorem ij {α:Type} {p:α->Bool}:∀ {l:List α} {j i:Nat},Wx p l j=some i->∃ k,i=j+k/\k < l.length/\(∀ z∈l.take k,p z=false)/\Yj p (l.take (k+1))=l.take k
 |[],_,_,h=>by cases h
 |y::l,j,i,h=>by
  have h:cond (p y) (some j) (Wx p l (j+1))=some i:=h;cases hy:p y with
  |true=>
   rw [hy] at h;cases h;refine ⟨0,rfl,Nat.succ_pos _,λz hz=>(by cases hz),?_⟩
   show cond (p y) [] [y]=[];rw [hy];rfl
  |false=>
   rw [hy] at h;obtain ⟨k,h1,h2,h3,h4⟩:=ij h;refine ⟨k+1,by omega,Nat.succ_lt_succ h2,λz hz=>?_,?_⟩
   ·rw [List.take_succ_cons] at hz;rcases List.mem_cons.1 hz with rfl |hz
    ·exact hy
    ·exact h3 z hz
   ·rw [List.take_succ_cons,List.take_succ_cons];show cond (p y) (Yj p (l.take (k+1))) (y::Yj p (l.take (k+1)))=_;rw [hy,h4];rfl
theorem cut_hi {b len cap n k:Nat} {ag:Bool} (hk:k<=len) (hc:cap=Xk+n):Ao n (.vec b 0 len cap n ag) none (some (tN k)) none=some (.vec b 0 k cap n ag):=by
 show Zp (Nat.beq n n) (cond (cond (Nat.ble Xk cap) true false) (Zf (some 0) λl=>Zf (some k) λh=>Zp (Nat.ble l h) (Zp (Nat.ble h len) (Zp (Nat.beq cap (Nat.add Xk n))
    (some (TV.vec b (Nat.add 0 (Nat.mul l n)) (Nat.sub h l) cap n ag))))) _)=_
 rw [Nat.beq_refl,hc,show Nat.ble Xk (Xk+n)=true from Nat.ble_eq_true_of_le (by omega)]
 show Zp (Nat.ble 0 k) (Zp (Nat.ble k len) (Zp (Nat.beq (Xk+n) (Xk+n)) (some (TV.vec b (0+0 * n) (k - 0) (Xk+n) n ag))))=_;rw [Nat.beq_refl,Nat.ble_eq_true_of_le hk,Nat.ble_eq_true_of_le (Nat.zero_le k),Nat.zero_mul];rfl
theorem cut_lo {b len cap n k:Nat} {ag:Bool} (hk:k<=len) (hc:cap=Xk+n):Ao n (.vec b 0 len cap n ag) (some (tN k)) none none=some (.vec b (0+k * n) (len - k) cap n ag):=by
 show Zp (Nat.beq n n) (cond (cond (Nat.ble Xk cap) true false) (Zf (some k) λl=>Zf (some len) λh=>Zp (Nat.ble l h) (Zp (Nat.ble h len) (Zp (Nat.beq cap (Nat.add Xk n))
    (some (TV.vec b (Nat.add 0 (Nat.mul l n)) (Nat.sub h l) cap n ag))))) _)=_
 rw [Nat.beq_refl,hc,show Nat.ble Xk (Xk+n)=true from Nat.ble_eq_true_of_le (by omega)]
 show Zp (Nat.ble k len) (Zp (Nat.ble len len) (Zp (Nat.beq (Xk+n) (Xk+n)) (some (TV.vec b (0+k * n) (len - k) (Xk+n) n ag))))=_;rw [Nat.beq_refl,Nat.ble_eq_true_of_le hk,Nat.ble_eq_true_of_le (Nat.le_refl len)];rfl
theorem Zkx {Zh b off len cap n:Nat} {ag:Bool} {H:TH} {z cs:List TV} (hb:H[b]? = some (.cells cs)) (ht:Zh<=b) (hz:z.length=n) (hl:off+len * n<=cs.length) :
  ∃ qw,Fg Zh H z (.vec b off len cap n ag)=some (H.set b (.cells qw))/\qw.length=cs.length/\qw.take off=cs.take off:=by
 show ∃ qw,cond (Nat.beq len 0) (some H) (Zp (Nat.ble Zh b) (Yx H b λcs=>Zp (Nat.ble (Nat.add off (Nat.mul len n)) (Zb cs)) (some (Kg H b (.cells (Kl cs off (Y5 z len)))))))=some (H.set b (.cells qw))/\_;cases h0:Nat.beq len 0 with
 |true=>
  refine ⟨cs,?_,rfl,rfl⟩;show some H=_;rw [Uv hb]
 |false=>
  refine ⟨Kl cs off (Y5 z len),?_,?_,?_⟩
  ·show Zp (Nat.ble Zh b) (Yx H b λcs=>Zp (Nat.ble (off+len * n) (Zb cs)) (some (Kg H b (.cells (Kl cs off (Y5 z len))))))=_;unfold Yx;rw [Nat.ble_eq_true_of_le ht,Xq,hb];show Zp (Nat.ble (off+len * n) (Zb cs)) (some (Kg H b (.cells (Kl cs off (Y5 z len)))))=_;rw [Zz,Nat.ble_eq_true_of_le hl,M3 hb];rfl
  ·rw [Ia _ _ _ (by rw [Di,hz];exact hl),List.length_append,List.length_append,List.length_take,List.length_drop,Di,hz];omega
  ·rw [Ia _ _ _ (by rw [Di,hz];exact hl),List.take_append_of_le_length (by rw [List.length_take];omega),List.take_take,Nat.min_self]
theorem pg {α:Type} {cs:List α} {k:Nat} {x:α} (h:k < cs.length):(cs.set k x).take (k+1)=cs.take k++[x]:=by
 rw [List.take_add_one,List.getElem?_set_self h,List.take_set_of_le (Nat.le_refl k)];rfl
theorem take_one {zs:List Nat} {j:Nat} (h:j < zs.length):zs.take (j+1)=zs.take j++[zs[j]]:=by
 rw [List.take_add_one,List.getElem?_eq_getElem h,Option.toList_some]
theorem Zcl (d Zh:Nat) {b cap g:Nat} {m:List TV} (zs:List Nat) (p:Nat->Bool) {H:TH} (hb:H[b]? = some (.cells (zs.map tN))) (Bz:cap=Xk+1) (ht:Zh<=b) (hlen:zs.length < 90000) (hm:Z2 pass m=true)
  (hp:∀ e,d<=e->∀ z∈zs,∀ H',Holds H b H'->tc e Zh g ([tN z]++m) H'=some (tB (p z),H')) :
  ∃ H' cs,tc (d+2) Zh 99 [.vec b 0 zs.length cap 1 false,.fn (.func g) [] m] H=some (.vec b 0 (Yj p zs).length cap 1 false,H')/\H'[b]? = some (.cells cs)/\Holds H b H'/\cs.take (Yj p zs).length=(Yj p zs).map tN/\cs.length=zs.length:=by
 rw [Y4 (F:=F99) (by kernel_rfl)]
 have hkl:=Bc p zs
 have Tm:∀ {β:Type} (k:TV->TH->Option β),Qo (tc (d+1)) Zh 138 [.vec b 0 zs.length cap 1 false,.fn (.func g) [] m] H k=k (tI (Rs (Wx p zs 0))) H:=λk=>
  Xx (by simp only [VV,T5]) ((Y4 (F:=Zfw) (by kernel_rfl) ..).trans (Zes _ _ zs p hb hlen hm λz hz=>hp _ (Nat.le_refl d) z hz H (Holds.refl _ _)))
 have key:Qg (C99 (tc (d+1)) Zh (Zb H) (.vec b 0 zs.length cap 1 false,.fn (.func g) [] m,Zk,Zk,Zk,Zk,Zk,Zk,Zk,()) H)
   λe S H1=>e=.ret/\S.2.2.1=.vec b 0 (Yj p zs).length cap 1 false/\∃ cs,H1[b]? = some (.cells cs)/\Holds H b H1/\cs.take (Yj p zs).length=(Yj p zs).map tN/\cs.length=zs.length:=by
  cases hi:Wx p zs 0 with
  |none=>
   have Ze2:=ic (ik hi);rw [hi] at Tm;simp only [C99,VV,Zgh,T5,Tm,show Qn (Rs none) (.negSucc 0)=true from rfl];exact .fin ⟨rfl,by rw [Ze2],zs.map tN,hb,Holds.refl _ _,by rw [Ze2,List.take_of_length_le (by rw [List.length_map];exact Nat.le_refl _)],List.length_map ..⟩
  |some i=>
   rw [hi] at Tm;obtain ⟨k,rfl,hk,hk1,hk2⟩:=ij hi;rw [Nat.zero_add] at Tm;have a1:Z0 (.int .i64 (.ofNat k)) (.int .i64 (.ofNat 1))=some (.int .i64 (.ofNat (k+1))):=X9 (by omega)
   simp only [C99,VV,Zgh,Ih,Ii,T5,Tm,show ∀ k:Nat,Qn (.ofNat k) (.negSucc 0)=false from λ_=>rfl,show Rs (some k)=.ofNat k from rfl,a1]
   refine Qg.su (k:=zs.length - (k+1)) (λf S H1=>∃ j cs,S.1=.vec b 0 zs.length cap 1 false/\S.2.1=.fn (.func g) [] m/\S.2.2.2.1=tN (Yj p (zs.take j)).length/\S.2.2.2.2.1=tN j/\j<=zs.length/\f=zs.length - j/\(Yj p (zs.take j)).length < j /\
     H1[b]? = some (.cells cs)/\Holds H b H1/\cs.length=zs.length/\cs.take (Yj p (zs.take j)).length=(Yj p (zs.take j)).map tN/\cs.drop j=(zs.drop j).map tN)
    (λS H1=>∃ cs,S.1=.vec b 0 zs.length cap 1 false/\S.2.2.2.1=tN (Yj p zs).length/\H1[b]? = some (.cells cs)/\Holds H b H1/\cs.length=zs.length/\cs.take (Yj p zs).length=(Yj p zs).map tN) (λ_ _=>False) ?_ (by rw [Yg];omega)
    ⟨k+1,zs.map tN,rfl,rfl,by rw [hk2,List.length_take,Nat.min_eq_left (by omega)],rfl,hk,rfl,by rw [hk2,List.length_take];omega,hb,Holds.refl _ _,List.length_map ..,by rw [hk2,List.length_take,Nat.min_eq_left (by omega),List.map_take],by rw [List.map_drop]⟩ ?_ (λ_ _ h=>h.elim)
   ·rintro f S H1 ⟨j,cs,h0,h1,h3,h4,hj,rfl,hkj,hc,hH,Tm,htk,hdr⟩;rcases Nat.eq_or_lt_of_le hj with hj |hj
    ·rw [hj,List.take_length] at htk h3;simp only [VV,h0,h1,h3,h4,Ih,Ii,Po,Ql,Kf (Nat.le_of_eq hj.symm)];exact .fin (.inr (.inl ⟨rfl,cs,rfl,rfl,hc,hH,Tm,htk⟩))
    ·have J8:cs[0+j * 1]? = some (tN zs[j]):=by
      have:(cs.drop j)[0]? = ((zs.drop j).map tN)[0]?:=by rw [hdr]
      rw [List.getElem?_drop,List.getElem?_map,List.getElem?_drop,Nat.add_zero,List.getElem?_eq_getElem hj] at this;rw [Nat.zero_add,Nat.mul_one,this];rfl
     have Xn:∀ {β:Type} (k:TV->TH->Option β),Xd TC (tc (d+1)) Zh (.fn (.func g) [] m) [tN zs[j]] H1 k=k (tB (p zs[j])) H1:=λk=>
      Yo (by show Z2 pass (tN zs[j]::m)=true;rw [Vc,show pass (tN zs[j])=true from rfl];exact hm) (hp (d+1) (Nat.le_succ d) _ (List.getElem_mem hj) _ hH)
     have hl:∀ {β:Type} (md:Ld) (k:TV->TH->Option β),loadT md Zh (Zb H) false 1 H1 (.ptr b (0+j * 1)) k=k (tN zs[j]) H1:=λmd k=>Zx hc J8 rfl rfl;have htj:Yj p (zs.take (j+1))=Yj p (zs.take j)++cond (p zs[j]) [] [zs[j]]:=by rw [take_one hj,ib];rfl
     have a2:Z0 (.int .i64 (.ofNat j)) (.int .i64 (.ofNat 1))=some (.int .i64 (.ofNat (j+1))):=X9 (by omega)
     have a3:Z0 (.int .i64 (.ofNat (Yj p (zs.take j)).length)) (.int .i64 (.ofNat 1))=some (.int .i64 (.ofNat ((Yj p (zs.take j)).length+1))):=X9 (by omega)
     cases hpj:p zs[j] with
     |true=>
      rw [hpj] at Xn htj;have htj:Yj p (zs.take (j+1))=Yj p (zs.take j):=by rw [htj];exact List.append_nil _
      simp only [VV,h0,h1,h3,h4,Ih,Ii,Po,Ql,Xo hj,Bool.not_true,Bool.not_false,K8 hj,hl,Xn,X9 (show j+1 < 9223372036854775808 by omega)]
      exact .fin (.inl ⟨rfl,zs.length - (j+1),by omega,j+1,cs,rfl,rfl,by rw [htj],rfl,hj,rfl,by rw [htj];omega,hc,hH,Tm,by rw [htj];exact htk,by rw [<- List.drop_drop,hdr,<- List.map_drop,List.drop_drop]⟩)
     |false=>
      rw [hpj] at Xn htj;have htj:Yj p (zs.take (j+1))=Yj p (zs.take j)++[zs[j]]:=htj
      have Us:storeT Zh (Zb H) 1 H1 (.ptr b (0+(Yj p (zs.take j)).length * 1)) (tN zs[j])=some (H1.set b (.cells (cs.set (Yj p (zs.take j)).length (tN zs[j])))):=by
       rw [Qy (n:=1) (x:=tN zs[j]) hc ht rfl (.inl rfl) rfl (by omega),V8,Nat.zero_add,Nat.mul_one,Gv _ _ _ (by omega)]
      simp only [VV,h0,h1,h3,h4,Ih,Ii,Ny,Po,Ql,Xo hj,K8 hj,K8 (show (Yj p (zs.take j)).length < zs.length by omega),Bool.not_true,Bool.not_false,hl,Xn,Fp,Us,X9 (show j+1 < 9223372036854775808 by omega),X9 (show (Yj p (zs.take j)).length+1 < 9223372036854775808 by omega)]
      refine .fin (.inl ⟨rfl,zs.length - (j+1),by omega,j+1,cs.set (Yj p (zs.take j)).length (tN zs[j]),rfl,rfl,?_,rfl,hj,rfl,?_,Jv hc,hH.set,by rw [List.length_set];exact Tm,?_,?_⟩)
      ·rw [htj,List.length_append];rfl
      ·rw [htj,List.length_append];show _+1 < _;omega
      ·rw [htj,List.length_append,show [zs[j]].length=1 from rfl,pg (by omega),htk,List.map_append];rfl
      ·rw [List.drop_set_of_lt (by omega),<- List.drop_drop,hdr,<- List.map_drop,List.drop_drop]
   ·rintro S H1 ⟨cs,h0,h3,hc,hH,Tm,htk⟩;obtain ⟨cs2,r1,r2,r3⟩:=Zkx (Zh:=Zh) (off:=0+(Yj p zs).length * 1) (len:=zs.length - (Yj p zs).length) (cap:=cap) (n:=1) (ag:=false) (z:=[tN 0]) hc ht rfl (by omega)
    simp only [VV,h0,h3,Ih,Ii,cut_lo hkl Bz,cut_hi hkl Bz,Fp,show ∀ (b off len cap n m:Nat) (ag:Bool),gj (.vec b off len cap n ag) m=Nat.beq n m from λ_ _ _ _ _ _ _=>rfl,show Nat.beq 1 1=true from rfl,r1];refine .fin ⟨rfl,rfl,cs2,Jv hc,hH.set,?_,by rw [r2,Tm]⟩
    rw [Nat.zero_add,Nat.mul_one] at r3;rw [r3,htk]
 obtain ⟨e,S,H1,h1,rfl,h2,cs,h3,h4,h5,h6⟩:=key;refine ⟨H1,cs,?_,h3,h4,h5,h6⟩;show Za (C99 (tc (d+1)) Zh (Zb H) (.vec b 0 zs.length cap 1 false,.fn (.func g) [] m,Zk,Zk,Zk,Zk,Zk,Zk,Zk,()) H) _=_;rw [h1];simp only [Yy,Jm,h2];rfl
end
end Go.Proofs.YtgemobbfikjmoaaGreatDoor
namespace Go.Proofs.YtgemobbfikjmoaaGreatDoor
open Go Go.Ev
set_option maxRecDepth 100000
noncomputable section
theorem Holds.push {H H':TH} {b:Nat} {o:Kc} (h:Holds H b H'):Holds H b (Zv H' o):=⟨by rw [Qd];have:=h.1;omega,λi h1 h2=>by
 rw [<- h.2 i h1 h2];show (H'++[o])[i]? = _;exact List.getElem?_append_left (by have:=h.1;rw [Zz,Zz] at this;rw [Zz] at h1;omega)⟩
end
end Go.Proofs.YtgemobbfikjmoaaGreatDoor
namespace Go.Proofs.YtgemobbfikjmoaaGreatDoor
open Go Go.Ev
set_option maxRecDepth 100000
noncomputable section
theorem Zbl {α:Type} (p:α->Bool):∀ (l:List α) (j:Nat),Vo (Rs (Wx p l j)) (.ofNat 0)=!Iy p l
 |[],_=>rfl
 |y::ys,j=>by
  have ih:=Zbl p ys (j+1);show Vo (Rs (cond (p y) (some j) (Wx p ys (j+1)))) (.ofNat 0)=!cond (p y) true (Iy p ys);cases p y with
  |true=>rfl
  |false=>exact ih
theorem geq_P {α:Type} (p:α->Bool) (l:List α):K0 (.int .i64 (Rs (Wx p l 0))) (.int .i64 (.ofNat 0))=some (.bool (Iy p l)):=by
 have h:K0 (.int .i64 (Rs (Wx p l 0))) (.int .i64 (.ofNat 0))=some (.bool (!Vo (Rs (Wx p l 0)) (.ofNat 0))):=rfl;rw [h,Zbl,Bool.not_not]
end
end Go.Proofs.YtgemobbfikjmoaaGreatDoor
namespace Go.Proofs.YtgemobbfikjmoaaGreatDoor
open Go Go.Ev
set_option maxRecDepth 100000
noncomputable section
theorem Zoy:∀ (k:Nat) (cs:List TV),k<=cs.length->qq false 1 k cs=some (cs.take k)
 |0,cs,_=>by rw [List.take_zero];rfl
 |k+1,[],h=>absurd h (by simp)
 |k+1,x::cs,h=>by
  show Zf (some x) (λy=>Zf (qq false 1 k (La (x::cs) 1)) λl=>some (y::l))=_;rw [Jq];show Zf (some x) (λy=>Zf (qq false 1 k cs) λl=>some (y::l))=_;rw [Zoy k cs (by simpa using h)];rfl
theorem Zcu (ys:List Nat):(ys.map tN).all Qv=true:=by
 rw [List.all_map,List.all_eq_true];intro x _;rfl
theorem Zpy {k n:Nat} (h:k < 90000):Ms k (Xk+n) n=true/\Nat.beq k (Xk+n)=false:=by
 have hu:=Lc;refine ⟨?_,Wm (by omega)⟩
 unfold Ms;rw [Nat.ble_eq_true_of_le (by omega),Uj (show Xk+n=Nat.add Xk n from rfl)]
 show Nat.blt k Xk=true;rw [Nat.blt_eq];omega
theorem Zm8 {H:TH} {b:Nat} {cs:List TV} {ys:List Nat} (hb:H[b]? = some (.cells cs)) (ht:cs.take ys.length=ys.map tN) (hk:ys.length<=cs.length) (hl:ys.length < 90000) :
  ∀ a,y9 a H (.vec b 0 ys.length (Xk+1) 1 false)=some (.row .Jf .set 1 (ys.map tN)):=by
 intro a;show Zf (Un H b 0 ys.length 1 false) (λes=>Zp (Ms ys.length (Xk+1) 1) (Zp (cond a (Z2 j7 es) true) (some (TV.row (cond (Nat.beq ys.length (Xk+1)) .full .Jf) .set 1 es))))=_
 have hr:Un H b 0 ys.length 1 false=some (ys.map tN):=by
  unfold Un Yx;rw [Xq,hb];show Zp (Nat.ble (0+ys.length * 1) (Zb cs)) (Zp (Z2 Qv (Vi cs 0 (ys.length * 1))) (qq false 1 ys.length (La cs 0)))=_;have e:Vi cs 0 (ys.length * 1)=ys.map tN:=by unfold Vi;rw [Yh,Jq,List.drop_zero,Nat.mul_one,ht]
  rw [e,Zz,Nat.ble_eq_true_of_le (by omega),Ye,Zcu,Jq,List.drop_zero,Zoy _ _ hk,ht];rfl
 have hf:Z2 j7 (ys.map tN)=true:=by rw [Ye,List.all_map,List.all_eq_true];intro x _;rfl
 rw [hr,(Zpy hl).1,(Zpy hl).2];show Zp (cond a (Z2 j7 (ys.map tN)) true) _=_;rw [hf];cases a <;> rfl
theorem Ze8:∀ l:List Nat,Qi (l.map tN)=l.map tN
 |[]=>rfl
 |x::l=>by
  show [tN x]++Qi (l.map tN)=_;rw [Ze8 l];rfl
def Ig (Zq:List Nat) (w g n c:Nat):Bool:=match Ib Zq w (Iu g (2 ^ c)) with
 |some m=>Nat.blt m n
 |none=>false
theorem Ziv (d Zh:Nat) {w h g n c bp bn:Nat} {Zq:List Nat} {H:TH} (hw:1<=w) (G4:Zq.length=16) (Kt:∀ x∈Zq,x < 65536) (hg:g < 65536) (hc:c < 16) (hp:H[bp]? = some (.cells (Qz w h g Zq))) (hn:H[bn]? = some (.cells [tN n]))
  (hs:(Ib Zq w (Iu g (2 ^ c))).isSome=true):tc (d+22) Zh 101 [tN c,.ptr bp 0,.ptr bn 0] H=some (tB (Ig Zq w g n c),H):=by
 rw [Y4 (F:=F101) (by kernel_rfl)]
 obtain ⟨m,hm⟩:=Option.isSome_iff_exists.1 hs;have p1:=fq hc;have z1:Y8 (.int .u64 (.ofNat 1)) (.int .i64 (.ofNat c))=some (.int .u64 (.ofNat (2 ^ c))):=by rw [Mz (by omega) (by rw [Nat.one_mul];omega),Nat.one_mul]
 have z2:Y6 (.int .u64 (.ofNat g)) (.int .u64 (.ofNat (2 ^ c)))=some (.int .u64 (.ofNat (Iu g (2 ^ c)))):=P3 (by omega) (by omega)
 have lB:∀ {β:Type} (k:TV->TH->Option β),loadT .Xi Zh (Zb H) true 19 H (.ptr bp 0) k=k (.agg (Qz w h g Zq)) H:=λk=>K3 hp G4;have lg:∀ {β:Type} (k:TV->TH->Option β),loadT .Xi Zh (Zb H) false 1 H (.ptr bp (0+2)) k=k (tU g) H:=λk=>Zx hp (Tg ..) rfl rfl;have ln:∀ {β:Type} (k:TV->TH->Option β),loadT .Xi Zh (Zb H) false 1 H (.ptr bn 0) k=k (tN n) H:=λk=>Zx hn rfl rfl rfl;have hmt:Zm (tc (d+21)) 95 [.agg (Qz w h g Zq),tU (Iu g (2 ^ c))] H=some (tN m):=Sf d hw G4 Kt (Ff hg) hm;have hl:Ig Zq w g n c=Nat.blt m n:=by unfold Ig;rw [hm]
 show Za (C101 (tc (d+21)) Zh (Zb H) (tN c,.ptr bp 0,.ptr bn 0,Zk,()) H) _=_;simp only [C101,VV,lB,lg,Xz,z1,z2,hmt,ln,Ql,hl,Z6 X8,Xc]
section
variable {w h n:Nat} {c:Cp} {sp:List Nat}
theorem Zc8 (d:Nat) {m:Nat} (ok:Kd w h sp) (hn:sp≠[]->n=1) (Mg:Ib (Kb w h sp) w (Qs w h sp)=some m) (hs:∀ x∈Xu (Qs w h sp),(Ib (Kb w h sp) w (Iu (Qs w h sp) (2 ^ x))).isSome=true) :
  ∃ v H' c' n',tc (d+26) 0 23 [tS w h c n sp] []=some (.Xh [v,tN 0],H')/\(∀ a,y7 a H' (.Xh [v,tN 0])=some (.Xh [.row c' .set n' ((Yj (Ig (Kb w h sp) w (Qs w h sp) m) (Xu (Qs w h sp))).map tN),tN 0]))/\(Yj (Ig (Kb w h sp) w (Qs w h sp) m) (Xu (Qs w h sp))≠[]->n'=1):=by
 obtain ⟨gd,qo⟩:∃ gd,gd=Qs w h sp:=⟨_,rfl⟩;have uq:gd < 65536:=by rw [qo];exact Ps ok
 obtain ⟨Zq,Kt⟩:∃ Zq,Zq=Kb w h sp:=⟨_,rfl⟩;have G4:Zq.length=16:=by rw [Kt];exact V5 ..
 have ai:∀ x∈Zq,x < 65536:=by rw [Kt];exact Pl _ _ _ ok.Ca
 obtain ⟨l,hl⟩:∃ l,l=Xu gd:=⟨_,rfl⟩;rw [<- Kt,<- qo] at Mg;rw [<- Kt,<- qo,<- hl] at hs;rw [<- Kt,<- qo,<- hl];have Zey:∀ x∈l,x < 16:=λx hx=>R7 _ uq x (hl ▸ hx);have iw:l.length < 80000:=by rw [hl];exact Nat.lt_of_le_of_lt (K6 _) (by decide)
 have hpt:J3 w h sp=Qz w h gd Zq:=by rw [Kt,qo];rfl
 obtain ⟨A,hA⟩:∃ B:TH,B=Zv [] (.cells [tN w,tN h,.row c .set n (sp.map tN)]):=⟨_,rfl⟩;obtain ⟨B,hB⟩:∃ B,B=Zv A (.cells (Qz w h gd Zq)):=⟨_,rfl⟩;obtain ⟨C,hC⟩:∃ C,C=Zv B (.cells [tN m]):=⟨_,rfl⟩;obtain ⟨D,hD⟩:∃ D,D=Zv C (.cells (l.map tN)):=⟨_,rfl⟩;have kA:A[Zb ([]:TH)]? = some (.cells [tN w,tN h,.row c .set n (sp.map tN)]):=by rw [hA];exact Qf
 have kB:B[Zb A]? = some (.cells (Qz w h gd Zq)):=by rw [hB];exact Qf
 have kC:C[Zb A]? = some (.cells (Qz w h gd Zq)):=by rw [hC];exact Qm kB
 have kCn:C[Zb B]? = some (.cells [tN m]):=by rw [hC];exact Qf
 have kD:D[Zb A]? = some (.cells (Qz w h gd Zq)):=by rw [hD];exact Qm kC
 have kDn:D[Zb B]? = some (.cells [tN m]):=by rw [hD];exact Qm kCn
 have kDl:D[Zb C]? = some (.cells (l.map tN)):=by rw [hD];exact Qf
 have nB:Zb B=Zb A+1:=by rw [hB];exact Qd
 have nC:Zb C=Zb B+1:=by rw [hC];exact Qd
 have nD:Zb D=Zb C+1:=by rw [hD];exact Qd
 have Us:Yu (tS w h c n sp)=true:=by cases c <;> rfl
 have lA:∀ {β:Type} (k:TV->TH->Option β),loadT .Xi 0 (Zb ([]:TH)) true 3 A (.ptr (Zb ([]:TH)) 0) k=k (tS w h c n sp) A:=λk=>Xw kA (by simp) rfl
 have lB:∀ {β:Type} (k:TV->TH->Option β),loadT .Xi 0 (Zb ([]:TH)) true 19 B (.ptr (Zb A) 0) k=k (.agg (Qz w h gd Zq)) B:=λk=>K3 kB G4;have lg:∀ {β:Type} (k:TV->TH->Option β),loadT .Xi 0 (Zb ([]:TH)) false 1 B (.ptr (Zb A) (0+2)) k=k (tU gd) B:=λk=>Zx kB (Tg ..) rfl rfl;have lg2:∀ {β:Type} (k:TV->TH->Option β),loadT .Xi 0 (Zb ([]:TH)) false 1 C (.ptr (Zb A) (0+2)) k=k (tU gd) C:=λk=>Zx kC (Tg ..) rfl rfl;have st:storeT 0 (Zb ([]:TH)) 19 (Zv A (.cells Xf)) (.ptr (Zb A) 0) (.agg (Qz w h gd Zq))=some B:=by rw [hB];exact Tw G4 (Nat.zero_le _) (Nat.zero_le _)
 have st2:storeT 0 (Zb ([]:TH)) 1 (Zv B (.cells [tN 0])) (.ptr (Zb B) 0) (tN m)=some C:=by rw [hC];exact Va (Nat.zero_le _) rfl (.inl rfl) rfl
 have hld:∀ H,Zm (tc (d+25)) 94 [tS w h c n sp] H=some (.Xh [.agg (Qz w h gd Zq),tN 0]):=λH=>by rw [<- hpt];exact Bb (d+23) ok hn
 have hm:∀ H,Zm (tc (d+25)) 95 [.agg (Qz w h gd Zq),tU gd] H=some (tN m):=λH=>Sf (d+4) ok.w1 G4 ai uq Mg;have Ti:∀ H,Zm (tc (d+25)) 100 [tU gd] H=some (Xj 3 1 (l.map tN)):=λH=>by rw [hl];exact Lq (d+22) (by omega)
 have hkl:=Bc (Ig Zq w gd m) l
 have main:∃ v H' c' n',tc (d+26) 0 23 [tS w h c n sp] []=some (.Xh [v,tN 0],H')/\(∀ a,y9 a H' v=some (.row c' .set n' ((Yj (Ig Zq w gd m) l).map tN)))/\(Yj (Ig Zq w gd m) l≠[]->n'=1)/\(∀ cs,v≠.agg cs):=by
  rw [Y4 (F:=F23) (by kernel_rfl)]
  cases hlc:l with
  |nil=>
   rw [hlc] at Ti
   have Tm:∀ {β:Type} (k:TV->TH->Option β),Qo (tc (d+25)) 0 99 [Xp,.fn (.func 101) [] [.ptr (Zb A) 0,.ptr (Zb B) 0]] C k=k Xp C:=λk=>by
    refine Xx rfl ?_;rw [Y4 (F:=F99) (by kernel_rfl)]
    have hi:∀ {β:Type} (k:TV->TH->Option β),Qo (tc (d+24)) 0 138 [Xp,.fn (.func 101) [] [.ptr (Zb A) 0,.ptr (Zb B) 0]] C k=k (tI (.negSucc 0)) C:=λk=>
     Xx rfl ((Y4 (F:=Zfw) (by kernel_rfl) ..).trans (zj (c:=.nil) (n:=0) (g:=101) (m:=[.ptr (Zb A) 0,.ptr (Zb B) 0]) _ _ [] (λh=>absurd rfl h) (λ_=>false) (by simp) rfl (λz hz=>by cases hz)))
    show Za (C99 (tc (d+24)) 0 (Zb C) (Xp,.fn (.func 101) [] [.ptr (Zb A) 0,.ptr (Zb B) 0],Zk,Zk,Zk,Zk,Zk,Zk,Zk,()) C) _=_;simp only [C99,VV,hi,show Qn (.negSucc 0) (.negSucc 0)=true from rfl,Z6 Lp,Xc]
   refine ⟨Xp,[],.nil,0,?_,λa=>(by cases a <;> rfl),λh=>absurd rfl h,λcs h=>(by cases h)⟩
   show Za (C23 (tc (d+25)) 0 (Zb ([]:TH)) (tS w h c n sp,Zk,Zk,Zk,Zk,Zk,Zk,Zk,()) []) _=_;simp only [C23,VV,Us,<- hA,lA,hld,Xz,st,show Qn (.ofNat 0) (.ofNat 0)=true from rfl,Bool.not_true,lB,lg,hm,st2,lg2,Ti,List.map_nil,Zmr,Tm];rw [Z6 rfl,Yh,show Zb ([]:TH)=0 from rfl,List.take_zero]
  |cons y l'=>
   rw [<- hlc];have Is:Xj 3 1 (l.map tN)=.row .Jf (.own 3) 1 (l.map tN):=by rw [hlc];rfl
   rw [Is] at Ti;have hfl:Qi (l.map tN)=l.map tN:=Ze8 l
   obtain ⟨H',cs,r1,r2,r3,r4,r5⟩:=Zcl (d+23) 0 (b:=Zb C) (cap:=Xk+1) (g:=101) (m:=[.ptr (Zb A) 0,.ptr (Zb B) 0]) l (Ig Zq w gd m) kDl rfl (Nat.zero_le _) (by omega) rfl
    (λe he z hz H2 hH2=>by
     obtain ⟨e',rfl⟩:∃ e',e=e'+22:=⟨e - 22,by omega⟩
     exact Ziv e' 0 ok.w1 G4 ai uq (Zey z hz) ((hH2.2 _ (by omega) (by omega)).trans kD) ((hH2.2 _ (by omega) (by omega)).trans kDn) (hs z hz))
   have Tm:∀ {β:Type} (k:TV->TH->Option β),Qo (tc (d+25)) 0 99 [.vec (Zb C) 0 l.length (Xk+1) 1 false,.fn (.func 101) [] [.ptr (Zb A) 0,.ptr (Zb B) 0]] D k=k (.vec (Zb C) 0 (Yj (Ig Zq w gd m) l).length (Xk+1) 1 false) H':=λk=>Xx rfl r1;refine ⟨.vec (Zb C) 0 (Yj (Ig Zq w gd m) l).length (Xk+1) 1 false,H',.Jf,1,?_,Zm8 r2 r4 (by omega) (by omega),λ_=>rfl,λcs h=>(by cases h)⟩
   show Za (C23 (tc (d+25)) 0 (Zb ([]:TH)) (tS w h c n sp,Zk,Zk,Zk,Zk,Zk,Zk,Zk,()) []) _=_;simp only [C23,VV,Us,<- hA,lA,hld,Xz,st,show Qn (.ofNat 0) (.ofNat 0)=true from rfl,Bool.not_true,lB,lg,hm,st2,lg2,Ti,Zz (l.map tN),List.length_map,hfl,<- hD,Tm];rfl
 obtain ⟨v,H',c',n',h1,h2,h3,h4⟩:=main;refine ⟨v,H',c',n',h1,λa=>?_,h3⟩
 have h5:p9 a H' v=y9 a H' v:=by
  cases v with
  |agg cs=>exact absurd rfl (h4 cs)
  |_=>rfl
 show Zf (Zf (p9 a H' v) λy=>Zf (Zf (some (tN 0)) λz=>Zf (some []) λl=>some (z::l)) λl=>some (y::l)) (λds=>some (TV.Xh ds))=_;rw [h5,h2];rfl
theorem Zk9 (d:Nat) {m:Nat} {H:TH} (ok:Kd w h sp) (hn:sp≠[]->n=1) (Mg:Ib (Kb w h sp) w (Qs w h sp)=some m) (hs:∀ x∈Xu (Qs w h sp),(Ib (Kb w h sp) w (Iu (Qs w h sp) (2 ^ x))).isSome=true) :
  ∃ c' n',Zm (tc (d+26)) 23 [tS w h c n sp] H=some (.Xh [.row c' .set n' ((Yj (Ig (Kb w h sp) w (Qs w h sp) m) (Xu (Qs w h sp))).map tN),tN 0])/\(Yj (Ig (Kb w h sp) w (Qs w h sp) m) (Xu (Qs w h sp))≠[]->n'=1):=by
 obtain ⟨v,H',c',n',h1,h2,h3⟩:=Zc8 d (c:=c) ok hn Mg hs;exact ⟨c',n',Yc (ws:=[tS w h c n sp]) (a:=false) rfl (by cases c <;> rfl) h1 (h2 false),h3⟩
end
end
end Go.Proofs.YtgemobbfikjmoaaGreatDoor
namespace Go.Proofs.YtgemobbfikjmoaaGreatDoor
open Go Go.Ev
set_option maxRecDepth 100000
noncomputable section
def P4 (t:Nat->Nat->List Nat->Bool) (w h th:Nat):Bool:=Nn (t w h) (Zdm (Of th (w * h) 0))
def Tn (t:Nat->Nat->List Nat->Bool) (w h:Nat):Bool:=t w h [] && (P4 t w h 0 && (P4 t w h 1 && (P4 t w h 2 && P4 t w h 3)))
theorem fg {t:Nat->Nat->List Nat->Bool} {w h:Nat} (a:t w h []=true) (b:P4 t w h 0=true) (c:P4 t w h 1=true) (d:P4 t w h 2=true) (e:P4 t w h 3=true):Tn t w h=true:=by
 unfold Tn;rw [a,b,c,d,e];rfl
theorem Zp9 {t:Nat->Nat->List Nat->Bool} {w h:Nat} (hq:Tn t w h=true) (th d:Nat):t w h (D8 th d (w * h) 0)=true:=by
 unfold Tn at hq;simp only [Bool.and_eq_true] at hq;obtain ⟨q,q0,q1,q2,q3⟩:=hq;rcases Zcy th d (w * h) 0 with e |e
 ·rw [e];exact q
 ·rw [oz] at e;have h4:th % 4 < 4:=Nat.mod_lt _ (by omega)
  generalize th % 4=s at e h4;rcases s with _ |_ |_ |_ |s
  ·exact Wo q0 _ e
  ·exact Wo q1 _ e
  ·exact Wo q2 _ e
  ·exact Wo q3 _ e
  ·omega
def wj (t:Nat->Nat->List Nat->Bool) (w:Nat):Nat->Bool
 |0=>true
 |k+1=>Tn t w (k+1) && wj t w k
theorem Lm {t:Nat->Nat->List Nat->Bool} {w:Nat}:∀ {k h:Nat},wj t w k=true->1<=h->h<=k->Tn t w h=true
 |0,h,_,h1,h2=>by omega
 |k+1,h,hk,h1,h2=>by
  have hk:(Tn t w (k+1) && wj t w k)=true:=hk;rw [Bool.and_eq_true] at hk;rcases Nat.eq_or_lt_of_le h2 with rfl |h2
  ·exact hk.1
  ·exact Lm hk.2 h1 (by omega)
end
end Go.Proofs.YtgemobbfikjmoaaGreatDoor
