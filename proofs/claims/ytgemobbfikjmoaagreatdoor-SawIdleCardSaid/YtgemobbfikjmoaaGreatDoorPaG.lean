/- What the functions that SawIdle calls answer, part two.
   Conditions: none beyond the given statement's own. -/
import Derived.Test.YtgemobbfikjmoaaGreatDoorPaF
set_option linter.unusedVariables false
set_option linter.unusedSimpArgs false
set_option linter.defProp false
namespace Go.Ev
noncomputable section
theorem EndsT.rng {σ:Type} {f g:Zaz σ} {id fuel k:Nat} {S:σ} {H:TH} {Q:Ex→σ→TH→Prop} (I:Nat→σ→TH→Prop) (X R:σ→TH→Prop)
  (hstep:∀ k S H,I k S H→EndsT (f S H) fun e S' H'=>(e=.normal∧∃ k',k' < k∧I k' S' H')∨(e=.exit id∧X S' H')∨(e=.ret∧R S' H'))
  (hk:k < fuel) (h0:I k S H) (hn:∀ S H,X S H→EndsT (g S H) Q) (hr:∀ S H,R S H→Q .ret S H):EndsT (sqR (blR id (Zdn f fuel S H)) g) Q:=by
 have h:=EndsT.loop (Q:=fun e S H=>(e=.exit id∧X S H)∨(e=.ret∧R S H)) I (fun k S H hi=>(hstep k S H hi).mono fun e S' H' hq=>by
  rcases hq with ⟨a,b⟩ |⟨a,b⟩ |⟨a,b⟩
  ·exact .inl ⟨a,b⟩
  ·exact .inr ⟨by rw [a];simp,.inl ⟨a,b⟩⟩
  ·exact .inr ⟨by rw [a];simp,.inr ⟨a,b⟩⟩) fuel k S H hk h0
 obtain ⟨e,S1,H1,h1,h2⟩:=h
 rw [h1]
 rcases h2 with ⟨rfl,h2⟩ |⟨rfl,h2⟩
 ·rw [blR_e,Nat.beq_refl]
  exact hn _ _ h2
 ·exact ⟨_,_,_,rfl,hr _ _ h2⟩
theorem load_own {β:Type} {tlo base b e n:Nat} {l:List TV} {H:TH} {k:TV→TH→Option β} (hb:H[b]? = some (.cells [Zcr e n l])):Zbg .lend tlo base false 1 H (.ptr b 0) k=k (.row (cpO l) (lfB l) (szO n l) l) H:=by
 show bindT (Zco H b fun cs=>Zaf (nth cs 0) fun x=>ldCell .lend tlo base H b cs 0 x Zbt) k=_
 unfold Zco
 rw [Zcb,hb]
 cases l <;> rfl
theorem take_at {H H':TH} {n b:Nat} (h:Zdg H n=H') (hb:b < n):H[b]? = H'[b]?:=by
 rw [← h,Zct,List.getElem?_take,if_pos hb]
theorem take_upd {H H':TH} {n b:Nat} {o:TObj} (h:Zdg H n=H'):Zdg (H.set b o) n=H'.set b o:=by
 rw [← h,Zct,Zct,List.take_set]
theorem take_more {H H':TH} {n:Nat} {o:TObj} (h:Zdg H n=H') (hn:n≤Zag H):Zdg (Zaq H o) n=H':=by
 rw [Zct] at *
 show List.take n (H++[o])=H'
 rw [Zat] at hn
 rw [List.take_append_of_le_length hn,h]
theorem box_same {H:TH} {b:Nat} {o:TObj} (h:H[b]? = some o):H.set b o=H:=by
 obtain ⟨_,h6⟩:=List.getElem?_eq_some_iff.1 h
 rw [← h6];exact List.set_getElem_self ..
theorem take_set_len {H:TH} {b:Nat} {o:TObj}:Zdg (H.set b o) (Zag H)=H.set b o:=by
 have:Zag (H.set b o)=Zag H:=lenG_set
 rw [← this];exact Zde
theorem box_lt {H:TH} {b:Nat} {o:TObj} (h:H[b]? = some o):b < Zag H:=by rw [Zat];exact (List.getElem?_eq_some_iff.1 h).1
end
end Go.Ev
namespace Go.Proofs.YtgemobbfikjmoaaGreatDoor
open Go Go.Ev
set_option maxRecDepth 100000
noncomputable section
abbrev rQ (l:List (Nat×Nat)):TV:=rS 2 (l.map tQ)
def putF (k:Nat×Nat→List (List (Nat×Nat))) (c used:Nat):List (Nat×Nat)→List (List (Nat×Nat))
 |[]=>[]
 |b::bs=>cond (cond (Nat.beq b.1 c) (!inB used b.2) false) (k b++putF k c used bs) (putF k c used bs)
def cutsF (all:List (Nat×Nat)):List Nat→Nat→Nat→List (Nat×Nat)→List (List (Nat×Nat))
 |[],left,_,l=>cond (Nat.beq left 0) [l] []
 |c::cs,left,used,l=>cond (inB used c) (cutsF all cs left used l)
   (putF (fun b=>cutsF all cs left (Nat.lor (Nat.lor used (2 ^ c)) (2 ^ b.2)) (l++[b])) c used all++cond (Nat.blt 0 left) (cutsF all cs (left - 1) used l) [])
structure PutBox (bc bv bp ba bo gv:Nat) (cells:List Nat) (all:List (Nat×Nat)) (H:TH):Prop where
 c:H[bc]? = some (.cells [Zcr 3 1 (cells.map tN)])
 v:H[bv]? = some (.cells [.fn (.func gv) [] [.ptr bo 0]])
 p:H[bp]? = some (.cells [.fn (.func 175) [] [.ptr bc 0,.ptr bv 0,.ptr bp 0,.ptr ba 0]])
 a:H[ba]? = some (.cells [rQ all])
 n:bc≠bo∧bv≠bo∧bp≠bo∧ba≠bo
section
variable {bc bv bp ba bo gv:Nat} {cells:List Nat} {all:List (Nat×Nat)} {H H1:TH} {o:TObj}
theorem PutBox.set (h:PutBox bc bv bp ba bo gv cells all H):PutBox bc bv bp ba bo gv cells all (H.set bo o):=
 ⟨(set_old h.n.1).trans h.c,(set_old h.n.2.1).trans h.v,(set_old h.n.2.2.1).trans h.p,(set_old h.n.2.2.2).trans h.a,h.n⟩
theorem PutBox.of (h:PutBox bc bv bp ba bo gv cells all H) {n:Nat} (hn:n=Zag H) (ht:Zdg H1 n=H):PutBox bc bv bp ba bo gv cells all H1:=by
 subst hn
 exact ⟨(take_at ht (box_lt h.c)).trans h.c,(take_at ht (box_lt h.v)).trans h.v,(take_at ht (box_lt h.p)).trans h.p,(take_at ht (box_lt h.a)).trans h.a,h.n⟩
end
abbrev rowL (ls:List (List (Nat×Nat))):TV:=Zcr 31 1 (ls.map rQ)
def Visits (gv:Nat):Prop:=∀ (d tlo:Nat) {H:TH} {bo:Nat} {outs:List (List (Nat×Nat))} {l:List (Nat×Nat)},H[bo]? = some (.cells [rowL outs])→tlo≤bo→outs.length < 90000 →
 tc (d+1) tlo gv [rQ l,.ptr bo 0] H=some (.tup [],H.set bo (.cells [rowL (outs++[l])]))
theorem clip_Q {l:List (Nat×Nat)} {p:Nat×Nat} (h:l.length < 90000) :
  ∃ x,cutT 2 (rQ l) none (some (tN (Zag (l.map tQ)))) (some (tN (Zag (l.map tQ))))=some x∧(∀ y z o o' h1 h2 h3 h4 es,apartT [hdX (.ptr y o) h1,hdX (.ptr z o') h2] [hdX x h3,hdX (.row .full (.own 71) 2 es) h4]=true) ∧
   ∀ {β:Type} {tlo:Nat} {H:TH} (k:TV→TH→Option β),Zcm tlo H 71 2 16 x (.row .full (.own 71) 2 [tQ p]) k=k (Zcr 71 2 ((l++[p]).map tQ)) H:=by
 have hu:=unk_big
 cases l with
 |nil=>
  refine ⟨nilT,?_,fun _ _ _ _ _ _ _ _ _=>rfl,fun k=>app_Q (pre:=[]) (by simp) k⟩
  show Zaf (Zap true (Zap true (Zap true (Zap true (Zap (Nat.blt 0 UNK) (some (0,0,0))))))) (fun _=>some nilT)=_
  rw [(by rw [Nat.blt_eq];omega:Nat.blt 0 UNK=true)];rfl
 |cons q l=>
  refine ⟨.row .full .set 2 ((q::l).map tQ),?_,fun _ _ _ _ _ _ _ _ _=>rfl,fun {β tlo H} k=>?_⟩
  ·obtain ⟨es,he⟩:∃ es,es=(q::l).map tQ:=⟨_,rfl⟩
   have hl:Zag es=l.length+1:=by rw [Zat,he,List.length_map];rfl
   show cutT 2 (.row .opn .set 2 ((q::l).map tQ)) none (some (tN (Zag ((q::l).map tQ)))) (some (tN (Zag ((q::l).map tQ))))=_
   rw [← he]
   show Zap (Nat.beq 2 2) (Zap (Nat.ble 0 (Zag es)) (Zap (Nat.ble (Zag es) (Zag es)) (Zap (Nat.blt (Zag es) UNK) (Zap true (Zap (Nat.ble (Zag es) (Zag es)) (Zap (Nat.ble (Zag es) (Zag es)) (some (TV.row (cond (Nat.beq (Zag es) (Zag es)) .full .opn) .set 2 (segG es 0 (Nat.sub (Zag es) 0))))))))))=_
   have e1:Nat.blt (Zag es) UNK=true:=by
                          rw [Nat.blt_eq,hl];have:l.length+1 < 90000:=h
                          omega
   have e2:segG es 0 (Nat.sub (Zag es) 0)=es:=by
    show segG es 0 (Zag es)=es
    unfold segG;rw [Zct,dropG_eq,List.drop_zero,Zat,List.take_length]
   rw [e1,Nat.ble_eq_true_of_le (Nat.le_refl _),Nat.ble_eq_true_of_le (Nat.zero_le _),e2]
   show some (TV.row (cond (Nat.beq (Zag es) (Zag es)) .full .opn) .set 2 es)=_
   rw [Nat.beq_refl];rfl
  ·show bindT (Zap true (Zap (Zcc 16 (Zag ((q::l).map tQ)+1)) (Zbt (.row .opn (.own 71) 2 ((q::l).map tQ++[tQ p])) H))) k=_
   have h2:l.length+1 < 90000:=h
   have hr:Zcc 16 (Zag ((q::l).map tQ)+1)=true:=by
    rw [Zat,List.length_map]
    refine room16 ?_
    show l.length+1+1 < 200000
    omega
   rw [hr,List.map_append];rfl
theorem bitU {d c:Nat} (hc:c≤64) (hd:d < 65536) :
  evShr (.int .u64 (.ofNat d)) (.int .i64 (.ofNat c))=some (.int .u64 (.ofNat (d / 2 ^ c)))∧evAnd (.int .u64 (.ofNat (d / 2 ^ c))) (.int .u64 (.ofNat 1))=some (.int .u64 (.ofNat (Nat.land (d / 2 ^ c) 1))) ∧
  Zca (.ofNat (Nat.land (d / 2 ^ c) 1)) (.ofNat 1)=inB d c∧Zca (.ofNat (Nat.land (d / 2 ^ c) 1)) (.ofNat 0)=!inB d c:=by
 have h1:d / 2 ^ c < 65536:=Nat.lt_of_le_of_lt (Nat.div_le_self ..) hd
 refine ⟨shr_u hc,and_u (by omega) (by omega),rfl,?_⟩
 show Nat.beq (Nat.land (d / 2 ^ c) 1) 0=!Nat.beq (Nat.land (d / 2 ^ c) 1) 1
 have e:Nat.land (d / 2 ^ c) 1=d / 2 ^ c % 2:=Nat.and_one_is_mod _
 rw [e]
 rcases Nat.mod_two_eq_zero_or_one (d / 2 ^ c) with h |h <;> rw [h] <;> rfl
theorem put_run {gv:Nat} (hv:Visits gv) {bc bv bp ba bo:Nat} {cells:List Nat} {all:List (Nat×Nat)} (hc16:∀ x∈cells,x < 16) (ha16:∀ b∈all,b.2 < 16) (hal:all.length < 90000) (hcl:cells.length < 90000) (tlo:Nat) (htl:tlo≤bo) :
  ∀ (n d i left used:Nat) (l:List (Nat×Nat)) (outs:List (List (Nat×Nat))) (H:TH),i+n=cells.length→PutBox bc bv bp ba bo gv cells all H→H[bo]? = some (.cells [rowL outs])→tlo≤Zag H →
   used < 65536→left < 90000→l.length+n < 90000→outs.length+(cutsF all (cells.drop i) left used l).length < 90000 →
   tc (d+n+2) tlo 175 [tN i,tN left,tU used,rQ l,.ptr bc 0,.ptr bv 0,.ptr bp 0,.ptr ba 0] H=some (.tup [],H.set bo (.cells [rowL (outs++cutsF all (cells.drop i) left used l)])):=by
 intro n
 induction n with
 |zero=>
  intro d i left used l outs H hi pb hbo htH hus hle hl hO
  rw [tc_f (F:=F175) (by kernel_rfl)]
  have hi:i=cells.length:=hi
  subst hi
  rw [List.drop_length] at hO ⊢
  have lc:∀ {β:Type} (k:TV→TH→Option β),Zbg .lend tlo (Zag H) false 1 H (.ptr bc 0) k=k (.row (cpO (cells.map tN)) (lfB (cells.map tN)) (szO 1 (cells.map tN)) (cells.map tN)) H:=fun k=>load_own pb.c
  have lv:∀ {β:Type} (k:TV→TH→Option β),Zbg .lend tlo (Zag H) false 1 H (.ptr bv 0) k=k (.fn (.func gv) [] [.ptr bo 0]) H:=fun k=>Zbf pb.v rfl rfl rfl
  have hcall:∀ {β:Type} (k:TV→TH→Option β),Zdc TC (tc (d+0+1)) tlo (.fn (.func gv) [] [.ptr bo 0]) [rQ l] H k=k (.tup []) (H.set bo (.cells [rowL (outs++[l])])):=fun k=>
   callFn_of rfl (hv d tlo hbo htl (by omega))
  show Zaa (C175 (tc (d+0+1)) tlo (Zag H) (tN cells.length,tN left,tU used,rQ l,.ptr bc 0,.ptr bv 0,.ptr bp 0,.ptr ba 0,Zao,Zao,Zao,Zao,Zao,Zao,Zao,Zao,Zao,Zao,Zao,()) H) _=_
  cases h0:Nat.beq left 0 with
  |true=>
   have hz:cutsF all [] left used l=[l]:=by show cond (Nat.beq left 0) [l] []=_;rw [h0];rfl
   simp only [C175,VV,lc,lv,Zat (cells.map tN),List.length_map,show Zca (.ofNat cells.length) (.ofNat cells.length)=true from Nat.beq_refl _,show Zca (.ofNat left) (.ofNat 0)=true from h0,hcall,hz]
   rw [Zbm rfl,take_set_len]
  |false=>
   have hz:cutsF all [] left used l=[]:=by show cond (Nat.beq left 0) [l] []=_;rw [h0];rfl
   simp only [C175,VV,lc,lv,Zat (cells.map tN),List.length_map,show Zca (.ofNat cells.length) (.ofNat cells.length)=true from Nat.beq_refl _,show Zca (.ofNat left) (.ofNat 0)=false from h0,hcall,hz]
   rw [Zbm rfl,Zde,List.append_nil,box_same hbo]
 |succ n ih=>
  intro d i left used l outs H hi pb hbo htH hus hle hl hO
  have hil:i < cells.length:=by omega
  rw [tc_f (F:=F175) (by kernel_rfl)]
  obtain ⟨c,hc⟩:∃ c,c=cells[i]:=⟨_,rfl⟩
  have hc16':c < 16:=by rw [hc];exact hc16 _ (List.getElem_mem hil)
  have hdrop:cells.drop i=c::cells.drop (i+1):=by rw [hc];exact List.drop_eq_getElem_cons hil
  rw [hdrop] at hO ⊢
  obtain ⟨k,hk⟩:∃ k,k=fun b:Nat×Nat=>cutsF all (cells.drop (i+1)) left (Nat.lor (Nat.lor used (2 ^ c)) (2 ^ b.2)) (l++[b]):=⟨_,rfl⟩
  have hcut:cutsF all (c::cells.drop (i+1)) left used l=cond (inB used c) (cutsF all (cells.drop (i+1)) left used l) (putF k c used all++cond (Nat.blt 0 left) (cutsF all (cells.drop (i+1)) (left - 1) used l) []):=by rw [hk];rfl
  rw [hcut] at hO ⊢
  have hbl:=box_lt hbo
  have hne:cells.map tN≠[]:=by intro h;rw [List.map_eq_nil_iff] at h;rw [h] at hil;simp at hil
  have lc:∀ {β:Type} {H1:TH} (_:PutBox bc bv bp ba bo gv cells all H1) (k:TV→TH→Option β),Zbg .lend tlo (Zag H) false 1 H1 (.ptr bc 0) k=k (.row (cpO (cells.map tN)) (lfB (cells.map tN)) (szO 1 (cells.map tN)) (cells.map tN)) H1:=fun {β} {H1} pb k=>load_own pb.c
  have lp:∀ {β:Type} {H1:TH} (_:PutBox bc bv bp ba bo gv cells all H1) (k:TV→TH→Option β),Zbg .lend tlo (Zag H) false 1 H1 (.ptr bp 0) k=k (.fn (.func 175) [] [.ptr bc 0,.ptr bv 0,.ptr bp 0,.ptr ba 0]) H1:=fun {β} {H1} pb k=>Zbf pb.p rfl rfl rfl
  have la:∀ {β:Type} {H1:TH} (_:PutBox bc bv bp ba bo gv cells all H1) (k:TV→TH→Option β),Zbg .settle tlo (Zag H) false 1 H1 (.ptr ba 0) k=k (rQ all) H1:=fun {β} {H1} pb k=>Zbf pb.a rfl rfl rfl
  have hcel:(cells.map tN)[i]? = some (tN c):=by rw [List.getElem?_map,List.getElem?_eq_getElem hil,hc];rfl
  have hsz:szO 1 (cells.map tN)=1:=szO_eq hne
  obtain ⟨b1,b2,b3,b4⟩:=bitU (show c≤64 by omega) hus
  have hne2:Zca (.ofNat i) (.ofNat cells.length)=false:=beqf (by omega)
  have add1:Zbe (.int .i64 (.ofNat i)) (.int .i64 (.ofNat 1))=some (.int .i64 (.ofNat (i+1))):=add_n (by omega)
  have hpbx:∀ {H1:TH} {outs:List (List (Nat×Nat))},Zdg H1 (Zag H)=H.set bo (.cells [rowL outs])→PutBox bc bv bp ba bo gv cells all H1:=by
   intro H1 outs ht
   have:=pb.set (o:=.cells [rowL outs])
   exact ⟨(take_at ht (box_lt pb.c)).trans this.c,(take_at ht (box_lt pb.v)).trans this.v,(take_at ht (box_lt pb.p)).trans this.p,(take_at ht (box_lt pb.a)).trans this.a,this.n⟩
  have upd:∀ {H1:TH} {x:TV} {o:TObj},Zdg H1 (Zag H)=H.set bo o→Zdg (H1.set bo (.cells [x])) (Zag H)=H.set bo (.cells [x]):=fun ht=>by rw [take_upd ht,List.set_set]
  have hcall:∀ {β:Type} {H1:TH} {left used:Nat} {l:List (Nat×Nat)} {outs:List (List (Nat×Nat))} (_:Zdg H1 (Zag H)=H.set bo (.cells [rowL outs])) (_:Zag H≤Zag H1) (_:used < 65536) (_:left < 90000) (_:l.length+n < 90000) (_:outs.length+(cutsF all (cells.drop (i+1)) left used l).length < 90000) (kk:TV→TH→Option β),
    Zdc TC (tc (d+(n+1)+1)) tlo (.fn (.func 175) [] [.ptr bc 0,.ptr bv 0,.ptr bp 0,.ptr ba 0]) [tN (i+1),tN left,tU used,rQ l] H1 kk=kk (.tup []) (H1.set bo (.cells [rowL (outs++cutsF all (cells.drop (i+1)) left used l)])):=by
   intro β H1 left used l outs ht hg h1 h2 h3 h4 kk
   refine callFn_of rfl ?_
   exact ih d (i+1) left used l outs H1 (by omega) (hpbx ht) ((take_at ht hbl).trans (set_get hbo)) (by omega) h1 h2 h3 h4
  have key:EndsT (C175 (tc (d+(n+1)+1)) tlo (Zag H) (tN i,tN left,tU used,rQ l,.ptr bc 0,.ptr bv 0,.ptr bp 0,.ptr ba 0,Zao,Zao,Zao,Zao,Zao,Zao,Zao,Zao,Zao,Zao,Zao,()) H)
    fun e S H1=>(e=.normal∨e=.ret)∧Zdg H1 (Zag H)=H.set bo (.cells [rowL (outs++cond (inB used c) (cutsF all (cells.drop (i+1)) left used l) (putF k c used all++cond (Nat.blt 0 left) (cutsF all (cells.drop (i+1)) (left - 1) used l) []))]):=by
   have start:Zdg H (Zag H)=H.set bo (.cells [rowL outs]):=by rw [Zde,box_same hbo]
   have hset1:Zak (.row (cpO (cells.map tN)) (lfB (cells.map tN)) (szO 1 (cells.map tN)) (cells.map tN))=.row (cpO (cells.map tN)) (lfB (cells.map tN)) (szO 1 (cells.map tN)) (cells.map tN):=setV_B
   cases hb:inB used c with
   |true=>
    rw [hb] at hO
    have hc1:=fun {β:Type} (kk:TV→TH→Option β)=>hcall start (Nat.le_refl _) hus hle (by omega) hO kk
    simp only [C175,VV,lc pb,lp pb,la pb,Zat (cells.map tN),List.length_map,hsz,Zbv hcel,hne2,b1,b2,b3,hb,add1,hc1]
    exact .fin ⟨.inr rfl,upd start⟩
   |false=>
    rw [hb] at hO
    have hO:outs.length+(putF k c used all++cond (Nat.blt 0 left) (cutsF all (cells.drop (i+1)) (left - 1) used l) []).length < 90000:=hO
    rw [List.length_append] at hO
    simp only [C175,VV,lc pb,lp pb,la pb,Zat (cells.map tN),Zat (all.map tQ),List.length_map,hsz,Zbv hcel,hne2,b1,b2,b3,hb,add1]
    refine EndsT.rng (k:=all.length) (fun m S H1=>∃ j outs',S.1=tN i∧S.2.1=tN left∧S.2.2.1=tU used∧S.2.2.2.1=rQ l∧S.2.2.2.2.1=.ptr bc 0∧S.2.2.2.2.2.1=.ptr bv 0∧S.2.2.2.2.2.2.1=.ptr bp 0∧S.2.2.2.2.2.2.2.1=.ptr ba 0∧S.2.2.2.2.2.2.2.2.1=tN c∧S.2.2.2.2.2.2.2.2.2.2.2.2.2.1=rQ all∧S.2.2.2.2.2.2.2.2.2.2.2.2.2.2.1=tN all.length∧S.2.2.2.2.2.2.2.2.2.2.2.2.2.2.2.1=tN j ∧
      Zdg H1 (Zag H)=H.set bo (.cells [rowL outs'])∧Zag H≤Zag H1∧j≤all.length∧m=all.length - j∧outs++putF k c used all=outs'++putF k c used (all.drop j))
     (fun S H1=>S.1=tN i∧S.2.1=tN left∧S.2.2.1=tU used∧S.2.2.2.1=rQ l∧S.2.2.2.2.2.2.1=.ptr bp 0∧Zdg H1 (Zag H)=H.set bo (.cells [rowL (outs++putF k c used all)])∧Zag H≤Zag H1)
     (fun _ _=>False) ?_ (by rw [Zdl];omega) ⟨0,outs,rfl,rfl,rfl,rfl,rfl,rfl,rfl,rfl,rfl,rfl,rfl,rfl,start,Nat.le_refl _,Nat.zero_le _,rfl,rfl⟩ ?_ (fun _ _ h=>h.elim)
    ·rintro m S H1 ⟨j,outs',s0,s1,s2,s3,s4,s5,s6,s7,s8,s13,s14,s15,ht,hg,hj,rfl,hgo⟩
     rcases Nat.eq_or_lt_of_le hj with hj |hj
     ·rw [hj,List.drop_length] at hgo
      have hgo:outs++putF k c used all=outs'++[]:=hgo
      rw [List.append_nil] at hgo
      simp only [VV,s0,s1,s2,s3,s4,s5,s6,s7,s8,s13,s14,s15,Zcg,blt_f (Nat.le_of_eq hj.symm)]
      exact .fin (.inr (.inl ⟨rfl,rfl,rfl,rfl,rfl,rfl,by rw [hgo];exact ht,hg⟩))
     ·obtain ⟨b,hbb⟩:∃ b,b=all[j]:=⟨_,rfl⟩
      have hb16:b.2 < 16:=by rw [hbb];exact ha16 _ (List.getElem_mem hj)
      have hel:(all.map tQ)[j]? = some (tQ b):=by rw [List.getElem?_map,List.getElem?_eq_getElem hj,hbb];rfl
      have hsza:szO 2 (all.map tQ)=2:=szO_eq (by intro h;rw [List.map_eq_nil_iff] at h;rw [h] at hj;simp at hj)
      have hrA:TV.row (cpO (all.map tQ)) .set 2 (all.map tQ)=rQ all:=by show _=TV.row _ _ (szO 2 (all.map tQ)) _;rw [hsza]
      rw [List.drop_eq_getElem_cons hj,← hbb] at hgo
      have hgo:outs++putF k c used all=outs'++cond (cond (Nat.beq b.1 c) (!inB used b.2) false) (k b++putF k c used (all.drop (j+1))) (putF k c used (all.drop (j+1))):=hgo
      obtain ⟨D,hD⟩:∃ D,D=Zaq H1 (.cells [tN b.1,tN b.2]):=⟨_,rfl⟩
      have hDb:D[Zag H1]? = some (.cells [tN b.1,tN b.2]):=by rw [hD];exact Zbh
      have htD:Zdg D (Zag H)=H.set bo (.cells [rowL outs']):=by rw [hD];exact take_more ht hg
      have hgD:Zag H≤Zag D:=by rw [hD,Zbp];omega
      have pD:=hpbx htD
      have sb:Zas tlo (Zag H) 2 (Zaq H1 (.cells zc71)) (.ptr (Zag H1) 0) (.agg [tN b.1,tN b.2])=some D:=by
       rw [Zcf (off:=0) (n:=2) (x:=.agg [tN b.1,tN b.2]) Zbh (by omega) rfl (.inl rfl) rfl (by decide),Zdr,over_all (cs:=zc71) (xs:=[tN b.1,tN b.2]) rfl,push_set,hD]
      have l1:∀ {β:Type} (k:TV→TH→Option β),Zbg .lend tlo (Zag H) false 1 D (.ptr (Zag H1) (0+0 * 1)) k=k (tN b.1) D:=fun k=>Zbf hDb rfl rfl rfl
      have l2:∀ {β:Type} (k:TV→TH→Option β),Zbg .lend tlo (Zag H) false 1 D (.ptr (Zag H1) (0+1 * 1)) k=k (tN b.2) D:=fun k=>Zbf hDb rfl rfl rfl
      have l3:∀ {β:Type} (k:TV→TH→Option β),Zbg .settle tlo (Zag H) true 2 D (.ptr (Zag H1) 0) k=k (tQ b) D:=fun k=>Zcw hDb (by simp) rfl
      have i0:Zbj 2 1 (.ptr (Zag H1) 0) (tN 0)=some (.ptr (Zag H1) (0+0 * 1)):=rfl
      have i1:Zbj 2 1 (.ptr (Zag H1) 0) (tN 1)=some (.ptr (Zag H1) (0+1 * 1)):=rfl
      have a3:Zbe (.int .i64 (.ofNat j)) (.int .i64 (.ofNat 1))=some (.int .i64 (.ofNat (j+1))):=add_n (by omega)
      obtain ⟨g1,g2,_,g4⟩:=bitU (show b.2≤64 by omega) hus
      cases q1:Nat.beq b.1 c with
      |false=>
       rw [q1] at hgo
       simp only [VV,s0,s1,s2,s3,s4,s5,s6,s7,s8,s13,s14,s15,Zcg,blt_t hj,hsza,Zbv hel,sb,l1,l2,i0,i1,show Zca (.ofNat b.1) (.ofNat c)=false from q1,a3]
       exact .fin (.inl ⟨rfl,all.length - (j+1),by omega,j+1,outs',rfl,rfl,rfl,rfl,rfl,rfl,rfl,rfl,rfl,hrA,rfl,rfl,htD,hgD,hj,rfl,hgo⟩)
      |true=>
       cases q2:inB used b.2 with
       |true=>
        rw [q1,q2] at hgo
        simp only [VV,s0,s1,s2,s3,s4,s5,s6,s7,s8,s13,s14,s15,Zcg,blt_t hj,hsza,Zbv hel,sb,l1,l2,i0,i1,show Zca (.ofNat b.1) (.ofNat c)=true from q1,a3,g1,g2,g4,q2,Bool.not_true]
        exact .fin (.inl ⟨rfl,all.length - (j+1),by omega,j+1,outs',rfl,rfl,rfl,rfl,rfl,rfl,rfl,rfl,rfl,hrA,rfl,rfl,htD,hgD,hj,rfl,hgo⟩)
       |false=>
        rw [q1,q2] at hgo
        have hgo:outs++putF k c used all=outs'++(k b++putF k c used (all.drop (j+1))):=hgo
        have hlen:=congrArg List.length hgo
        rw [List.length_append,List.length_append,List.length_append] at hlen
        have hkb:k b=cutsF all (cells.drop (i+1)) left (Nat.lor (Nat.lor used (2 ^ c)) (2 ^ b.2)) (l++[b]):=by rw [hk]
        rw [hkb] at hlen hgo
        have p1:=p16 hc16'
        have p2:=p16 hb16
        have z1:evShl (.int .u64 (.ofNat 1)) (.int .i64 (.ofNat c))=some (.int .u64 (.ofNat (2 ^ c))):=by rw [shl_u (by omega) (by rw [Nat.one_mul];omega),Nat.one_mul]
        have z2:evShl (.int .u64 (.ofNat 1)) (.int .i64 (.ofNat b.2))=some (.int .u64 (.ofNat (2 ^ b.2))):=by rw [shl_u (by omega) (by rw [Nat.one_mul];omega),Nat.one_mul]
        have u1:Nat.lor used (2 ^ c) < 65536:=Nat.or_lt_two_pow (n:=16) hus p1
        have u2:Nat.lor (Nat.lor used (2 ^ c)) (2 ^ b.2) < 65536:=Nat.or_lt_two_pow (n:=16) u1 p2
        have z3:evOr (.int .u64 (.ofNat used)) (.int .u64 (.ofNat (2 ^ c)))=some (.int .u64 (.ofNat (Nat.lor used (2 ^ c)))):=or_u (by omega) (by omega)
        have z4:evOr (.int .u64 (.ofNat (Nat.lor used (2 ^ c)))) (.int .u64 (.ofNat (2 ^ b.2)))=some (.int .u64 (.ofNat (Nat.lor (Nat.lor used (2 ^ c)) (2 ^ b.2)))):=or_u (by omega) (by omega)
        obtain ⟨x,x1,x2,x3⟩:=clip_Q (l:=l) (p:=b) (by omega)
        have hc1:=fun {β:Type} (kk:TV→TH→Option β)=>hcall (β:=β) (l:=l++[b]) htD hgD u2 hle (by rw [List.length_append];show l.length+1+n < 90000;omega) (by omega) kk
        have hel1:Zcx 2 [0] [tQ b] (repG [.agg zc71] 1)=some [tQ b]:=rfl
        simp only [VV,s0,s1,s2,s3,s4,s5,s6,s7,s8,s13,s14,s15,Zcg,blt_t hj,hsza,Zbv hel,sb,l1,l2,l3,i0,i1,show Zca (.ofNat b.1) (.ofNat c)=true from q1,a3,g1,g2,g4,q2,Bool.not_false,lp pD,add1,z1,z2,z3,z4,x1,hel1,x2,x3,hc1]
        exact .fin (.inl ⟨rfl,all.length - (j+1),by omega,j+1,_,rfl,rfl,rfl,rfl,rfl,rfl,rfl,rfl,rfl,hrA,rfl,rfl,upd htD,by rw [lenG_set];exact hgD,hj,rfl,by rw [hgo,List.append_assoc]⟩)
    ·rintro S H1 ⟨s0,s1,s2,s3,s6,ht,hg⟩
     cases q0:Nat.blt 0 left with
     |false=>
      simp only [VV,s0,s1,s2,s3,s6,gtr_n,q0]
      exact .fin ⟨.inl rfl,by rw [List.append_nil];exact ht⟩
     |true=>
      rw [q0] at hO
      have hO:outs.length+((putF k c used all).length+(cutsF all (cells.drop (i+1)) (left - 1) used l).length) < 90000:=hO
      rw [Nat.blt_eq] at q0
      have hc1:=fun {β:Type} (kk:TV→TH→Option β)=>hcall (β:=β) (left:=left - 1) (l:=l) (used:=used) ht hg hus (by omega) (by omega) (by rw [List.length_append];omega) kk
      have hs1:Zcl (.int .i64 (.ofNat left)) (.int .i64 (.ofNat 1))=some (.int .i64 (.ofNat (left - 1))):=sub_n (by omega) (by omega)
      simp only [VV,s0,s1,s2,s3,s6,gtr_n,blt_t q0,lp (hpbx ht),add1,hs1,hc1]
      exact .fin ⟨.inl rfl,by rw [upd ht,List.append_assoc]⟩
  obtain ⟨e,S,H1,h1,h2,h3⟩:=key
  show Zaa (C175 (tc (d+(n+1)+1)) tlo (Zag H) (tN i,tN left,tU used,rQ l,.ptr bc 0,.ptr bv 0,.ptr bp 0,.ptr ba 0,Zao,Zao,Zao,Zao,Zao,Zao,Zao,Zao,Zao,Zao,Zao,()) H) _=_
  rw [h1]
  rcases h2 with rfl |rfl
  ·simp only [bz_some,resE_n,allG_nil,nd_true]
   rw [Zbm rfl,h3]
  ·simp only [bz_some,resE_r,allG_nil,nd_true]
   rw [Zbm rfl,h3]
end
end Go.Proofs.YtgemobbfikjmoaaGreatDoor
namespace Go.Proofs.YtgemobbfikjmoaaGreatDoor
open Go Go.Ev
set_option maxRecDepth 100000
noncomputable section
theorem visits_best:Visits 133:=by
 intro d tlo H bo outs l hbo htl hlen
 rw [tc_f (F:=F133) (by kernel_rfl)]
 have hbl:=box_lt hbo
 have lt:∀ {β:Type} (k:TV→TH→Option β),Zbg .take tlo (Zag H) false 1 H (.ptr bo 0) k=k (rowL outs) (H.set bo (.cells [rowL outs]))∨Zbg .take tlo (Zag H) false 1 H (.ptr bo 0) k=k (rowL outs) (H.set bo (.cells [Zao])):=fun k=>by
  show bindT (Zco H bo fun cs=>Zaf (nth cs 0) fun x=>ldCell .take tlo (Zag H) H bo cs 0 x Zbt) k=_∨bindT (Zco H bo fun cs=>Zaf (nth cs 0) fun x=>ldCell .take tlo (Zag H) H bo cs 0 x Zbt) k=_
  unfold Zco
  rw [Zcb,hbo]
  cases outs with
  |nil=>refine .inl ?_;rw [box_same hbo];rfl
  |cons a outs=>
   refine .inr ?_
   show bindT (Zap (Nat.ble tlo bo) (Zbt (rowL (a::outs)) (setBox H bo (.cells [Zao])))) k=_
   rw [Nat.ble_eq_true_of_le htl,set_box hbo];rfl
 have hr:∀ (k:TV→TH→Option (Ex×(TV×TV×Unit)×TH)) (H1:TH),Zcm tlo H1 31 1 24 (rowL outs) (.row .full (.own 31) 1 [rQ l]) k=k (rowL (outs++[l])) H1:=fun k H1=>by
  have e:rowL (outs++[l])=Zcr 31 1 (outs.map rQ++[rQ l]):=by
   show Zcr _ _ ((outs++[l]).map rQ)=_
   rw [List.map_append];rfl
  rw [append_one,e]
  unfold Zcc
  have h1:Nat.ble (Nat.mul ((outs.map rQ).length+1) 24) BIG=true:=Nat.ble_eq_true_of_le (by
                                                   rw [List.length_map];show (outs.length+1) * 24≤BIG;have:(3200000:Nat)≤BIG:=by decide
                                                   omega)
  have h2:Nat.blt ((outs.map rQ).length+1) BIG=true:=by
                                 rw [Nat.blt_eq,List.length_map];have:(3200000:Nat)≤BIG:=by decide
                                 omega
  rw [h1,h2];rfl
 have hel:Zcx 1 [0] [rQ l] (repG [nilT] 1)=some [rQ l]:=rfl
 show Zaa (C133 (tc d) tlo (Zag H) (rQ l,.ptr bo 0,()) H) _=_
 have go:∀ (o:List TV),(o=[rowL outs]∨o=[Zao])→Zas tlo (Zag H) 1 (H.set bo (.cells o)) (.ptr bo 0) (rowL (outs++[l]))=some (H.set bo (.cells [rowL (outs++[l])])):=fun o ho=>by
  rw [Zcf (off:=0) (cs:=o) (set_get hbo) htl stor_O (.inl (by cases outs <;> rfl)) (by rw [cellsT_O];rfl) (by rcases ho with rfl |rfl <;> exact Nat.le_refl 1),cellsT_O]
  rcases ho with rfl |rfl <;> (rw [List.set_set];rfl)
 have tk:=take_set_len (H:=H) (b:=bo) (o:=.cells [rowL (outs++[l])])
 have key:∀ (k:TV→TH→RetT (TV×TV×Unit)),(∀ H1,(H1=H.set bo (.cells [rowL outs])∨H1=H.set bo (.cells [Zao]))→k (rowL outs) H1=some (.normal,(rQ l,.ptr bo 0,()),H.set bo (.cells [rowL (outs++[l])])))→Zbg .take tlo (Zag H) false 1 H (.ptr bo 0) k=some (.normal,(rQ l,.ptr bo 0,()),H.set bo (.cells [rowL (outs++[l])])):=fun k hk=>by
  rcases lt k with h |h
  ·rw [h];exact hk _ (.inl rfl)
  ·rw [h];exact hk _ (.inr rfl)
 simp only [C133,VV]
 rw [key]
 ·simp only [VV]
  rw [Zbm rfl,tk]
 ·intro H1 hH1
  simp only [VV,hel,hr]
  rcases hH1 with rfl |rfl
  ·simp only [VV,go _ (.inl rfl)]
  ·simp only [VV,go _ (.inr rfl)]
theorem store_new {tlo base:Nat} {H:TH} {x y z:TV} (ht:tlo≤Zag H) (hs:stor x=true) (hl:looseT x=true∨base≤Zag H) (hx:Zav x=[y]):Zas tlo base 1 (Zaq H (.cells [z])) (.ptr (Zag H) 0) x=some (Zaq H (.cells [y])):=by
 rw [Zcf (off:=0) (n:=1) (cs:=[z]) (x:=x) Zbh ht hs hl (by rw [hx];rfl) (Nat.le_refl 1),hx,over_all (cs:=[z]) (xs:=[y]) rfl,push_set]
theorem asc_len' {n:Nat}:∀ (l:List Nat) (lo:Nat),l.Pairwise (· < ·)→(∀ x∈l,lo≤x∧x < n)→l.length≤n - lo
 |[],_,_,_=>Nat.zero_le _
 |a::l,lo,hp,h=>by
  obtain ⟨h1,h2⟩:=List.pairwise_cons.1 hp
  have ha:=h a (List.mem_cons_self ..)
  have ih:=asc_len' l (a+1) h2 fun x hx=>⟨h1 x hx,(h x (List.mem_cons_of_mem _ hx)).2⟩
  show l.length+1≤n - lo
  omega
theorem asc_len {n:Nat} {l:List Nat} (hp:l.Pairwise (· < ·)) (h:∀ x∈l,x < n):l.length≤n:=asc_len' l 0 hp fun x hx=>⟨Nat.zero_le _,h x hx⟩
theorem goodL_lt {w h:Nat} {sp:List Nat} (ok:SlabOk w h sp):∀ x∈goodL w h sp,x < 16:=fun x hx=>by
 have:=(goodL_mem.1 hx).1
 have:=ok.n16
 omega
theorem goodL_len {w h:Nat} {sp:List Nat} (ok:SlabOk w h sp):(goodL w h sp).length≤16:=Nat.le_trans (goodF_len sp _ _) ok.n16
theorem each_run {gv:Nat} (hv:Visits gv) (d tlo:Nat) {w h n idle bo:Nat} {c:Cp} {sp:List Nat} {outs:List (List (Nat×Nat))} {H:TH} (ok:SlabOk w h sp) (hn:sp≠[]→n=1) (hbo:H[bo]? = some (.cells [rowL outs])) (htl:tlo≤bo) (hidle:idle < 90000)
  (hO:outs.length+(cutsF (Zci w h sp) (goodL w h sp) idle 0 []).length < 90000) :
  tc (d+19) tlo 132 [tS w h c n sp,tN idle,.fn (.func gv) [] [.ptr bo 0]] H=some (.tup [],H.set bo (.cells [rowL (outs++cutsF (Zci w h sp) (goodL w h sp) idle 0 [])])):=by
 have hbl:=box_lt hbo
 have n16:=ok.n16
 have w8:=ok.w8
 have w1:=ok.w1
 have h8:=ok.h8
 obtain ⟨prs,hprs⟩:∃ prs,prs=Zci w h sp:=⟨_,rfl⟩
 obtain ⟨gl,hgl⟩:∃ gl,gl=goodL w h sp:=⟨_,rfl⟩
 have hgl16:gl.length≤16:=by rw [hgl];exact goodL_len ok
 have hspl:sp.length < 90000:=by
  have h1:=asc_len ok.asc (fun x hx=>Nat.lt_of_lt_of_le (ok.lt x hx) n16)
  omega
 have hpr:∀ (d:Nat) (H:TH),Zah (tc (d+4)) 63 [tS w h c n sp] H=some (rQ prs):=fun d H=>by
  rw [hprs];exact pairs_tree d w1 (by omega) (by omega) hn hspl (asc_noAdj _ (pairs_asc ok)) (by have:=pairs_len ok;omega)
 have hgd:∀ (d:Nat) (H:TH),Zah (tc (d+3)) 56 [tS w h c n sp] H=some (Zcr 3 1 (gl.map tN)):=fun d H=>by
  rw [hgl];exact good_tree d (by omega) (by omega) hn hspl
 rw [← hprs,← hgl] at hO ⊢
 rw [tc_f (F:=F132) (by kernel_rfl)]
 obtain ⟨B0,hB0⟩:∃ B,B=Zaq H (.cells [tN w,tN h,.row c .set n (sp.map tN)]):=⟨_,rfl⟩
 obtain ⟨B1,hB1⟩:∃ B,B=Zaq B0 (.cells [.fn (.func gv) [] [.ptr bo 0]]):=⟨_,rfl⟩
 obtain ⟨B2,hB2⟩:∃ B,B=Zaq B1 (.cells [rQ prs]):=⟨_,rfl⟩
 obtain ⟨B3,hB3⟩:∃ B,B=Zaq B2 (.cells [Zcr 3 1 (gl.map tN)]):=⟨_,rfl⟩
 obtain ⟨B4,hB4⟩:∃ B,B=Zaq B3 (.cells [.fn (.func 175) [] [.ptr (Zag B2) 0,.ptr (Zag B0) 0,.ptr (Zag B3) 0,.ptr (Zag B1) 0]]):=⟨_,rfl⟩
 have n0:Zag B0=Zag H+1:=by rw [hB0];exact Zbp
 have n1:Zag B1=Zag B0+1:=by rw [hB1];exact Zbp
 have n2:Zag B2=Zag B1+1:=by rw [hB2];exact Zbp
 have n3:Zag B3=Zag B2+1:=by rw [hB3];exact Zbp
 have n4:Zag B4=Zag B3+1:=by rw [hB4];exact Zbp
 have k0:B0[Zag H]? = some (.cells [tN w,tN h,.row c .set n (sp.map tN)]):=by rw [hB0];exact Zbh
 have k01:B1[Zag H]? = some (.cells [tN w,tN h,.row c .set n (sp.map tN)]):=by rw [hB1];exact Zbi k0
 have k02:B2[Zag H]? = some (.cells [tN w,tN h,.row c .set n (sp.map tN)]):=by rw [hB2];exact Zbi k01
 have o0:B0[bo]? = some (.cells [rowL outs]):=by rw [hB0];exact Zbi hbo
 have o1:B1[bo]? = some (.cells [rowL outs]):=by rw [hB1];exact Zbi o0
 have o2:B2[bo]? = some (.cells [rowL outs]):=by rw [hB2];exact Zbi o1
 have o3:B3[bo]? = some (.cells [rowL outs]):=by rw [hB3];exact Zbi o2
 have o4:B4[bo]? = some (.cells [rowL outs]):=by rw [hB4];exact Zbi o3
 have v1:B1[Zag B0]? = some (.cells [.fn (.func gv) [] [.ptr bo 0]]):=by rw [hB1];exact Zbh
 have v2:B2[Zag B0]? = some (.cells [.fn (.func gv) [] [.ptr bo 0]]):=by rw [hB2];exact Zbi v1
 have v3:B3[Zag B0]? = some (.cells [.fn (.func gv) [] [.ptr bo 0]]):=by rw [hB3];exact Zbi v2
 have v4:B4[Zag B0]? = some (.cells [.fn (.func gv) [] [.ptr bo 0]]):=by rw [hB4];exact Zbi v3
 have a2:B2[Zag B1]? = some (.cells [rQ prs]):=by rw [hB2];exact Zbh
 have a3:B3[Zag B1]? = some (.cells [rQ prs]):=by rw [hB3];exact Zbi a2
 have a4:B4[Zag B1]? = some (.cells [rQ prs]):=by rw [hB4];exact Zbi a3
 have c3:B3[Zag B2]? = some (.cells [Zcr 3 1 (gl.map tN)]):=by rw [hB3];exact Zbh
 have c4:B4[Zag B2]? = some (.cells [Zcr 3 1 (gl.map tN)]):=by rw [hB4];exact Zbi c3
 have p4:B4[Zag B3]? = some (.cells [.fn (.func 175) [] [.ptr (Zag B2) 0,.ptr (Zag B0) 0,.ptr (Zag B3) 0,.ptr (Zag B1) 0]]):=by rw [hB4];exact Zbh
 have pb:PutBox (Zag B2) (Zag B0) (Zag B3) (Zag B1) bo gv gl prs B4:=⟨c4,v4,p4,a4,by omega⟩
 have t4:Zdg B4 (Zag H)=H:=by
  rw [hB4];refine take_more ?_ (by omega)
  rw [hB3];refine take_more ?_ (by omega)
  rw [hB2];refine take_more ?_ (by omega)
  rw [hB1];refine take_more ?_ (by omega)
  rw [hB0];exact take_push
 have lA1:∀ {β:Type} (k:TV→TH→Option β),Zbg .lend tlo (Zag H) true 3 B1 (.ptr (Zag H) 0) k=k (tS w h c n sp) B1:=fun k=>Zcw k01 (by simp) rfl
 have lA2:∀ {β:Type} (k:TV→TH→Option β),Zbg .lend tlo (Zag H) true 3 B2 (.ptr (Zag H) 0) k=k (tS w h c n sp) B2:=fun k=>Zcw k02 (by simp) rfl
 have s2:Zas tlo (Zag H) 1 (Zaq B1 (.cells [nilT])) (.ptr (Zag B1) 0) (rQ prs)=some B2:=by rw [hB2];exact store_new (by omega) rfl (.inl rfl) rfl
 have s3:Zas tlo (Zag H) 1 (Zaq B2 (.cells [nilT])) (.ptr (Zag B2) 0) (Zcr 3 1 (gl.map tN))=some B3:=by rw [hB3];exact store_new (by omega) stor_O (.inr (by omega)) cellsT_O
 have s4:Zas tlo (Zag H) 1 (Zaq B3 (.cells [.v .nilFunc])) (.ptr (Zag B3) 0) (.fn (.func 175) [] [.ptr (Zag B2) 0,.ptr (Zag B0) 0,.ptr (Zag B3) 0,.ptr (Zag B1) 0])=some B4:=by
  conv=>rhs;rw [hB4]
  exact store_new (by omega) rfl (.inr (by omega)) rfl
 have l4:∀ {β:Type} (k:TV→TH→Option β),Zbg .lend tlo (Zag H) false 1 B4 (.ptr (Zag B3) 0) k=k (.fn (.func 175) [] [.ptr (Zag B2) 0,.ptr (Zag B0) 0,.ptr (Zag B3) 0,.ptr (Zag B1) 0]) B4:=fun k=>Zbf p4 rfl rfl rfl
 have hcall:∀ {β:Type} (k:TV→TH→Option β),Zdc TC (tc (d+18)) tlo (.fn (.func 175) [] [.ptr (Zag B2) 0,.ptr (Zag B0) 0,.ptr (Zag B3) 0,.ptr (Zag B1) 0]) [tN 0,tN idle,.v (.int .u64 (.ofNat 0)),nilT] B4 k=k (.tup []) (B4.set bo (.cells [rowL (outs++cutsF prs gl idle 0 [])])):=fun k=>by
  refine callFn_of rfl ?_
  have:=put_run hv (fun x hx=>goodL_lt ok x (hgl ▸ hx)) (fun b hb=>(pairs_lt ok b (hprs ▸ hb)).2) (by rw [hprs];have:=pairs_len ok;omega) (by omega) tlo htl gl.length (d+(16 - gl.length)) 0 idle 0 [] outs B4 (by omega) pb o4 (by omega) (by decide) hidle (by simp;omega) (by rw [List.drop_zero];exact hO)
  rw [show d+(16 - gl.length)+gl.length+2=d+18 by omega,List.drop_zero] at this
  exact this
 have hst:stor (tS w h c n sp)=true:=by cases c <;> rfl
 show Zaa (C132 (tc (d+18)) tlo (Zag H) (tS w h c n sp,tN idle,.fn (.func gv) [] [.ptr bo 0],Zao,Zao,Zao,Zao,Zao,()) H) _=_
 simp only [C132,VV,← hB0,← hB1,lA1,lA2,hpr (d+14),hgd (d+15),s2,s3,s4,l4,hcall]
 rw [Zbm rfl,take_upd t4]
theorem load_set {β:Type} {tlo base b e n:Nat} {l:List TV} {H:TH} {k:TV→TH→Option β} (hb:H[b]? = some (.cells [Zcr e n l])):Zbg .settle tlo base false 1 H (.ptr b 0) k=k (rS n l) (H.set b (.cells [rS n l])):=by
 show bindT (Zco H b fun cs=>Zaf (nth cs 0) fun x=>ldCell .settle tlo base H b cs 0 x Zbt) k=_
 unfold Zco
 rw [Zcb,hb]
 cases l with
 |nil=>
  have:H.set b (.cells [nilT])=H:=box_same hb
  show k nilT H=k nilT (H.set b (.cells [nilT]))
  rw [this]
 |cons x l=>
  show k (rS n (x::l)) (setBox H b (.cells [rS n (x::l)]))=_
  rw [set_box hb]
theorem best_run (d tlo:Nat) {w h n m:Nat} {c:Cp} {sp:List Nat} {H:TH} (ok:SlabOk w h sp) (hn:sp≠[]→n=1) (htl:tlo≤Zag H) (hm:m < 80000) (hlow:∀ i,i < m→cutsF (Zci w h sp) (goodL w h sp) i 0 []=[]) (hne:cutsF (Zci w h sp) (goodL w h sp) m 0 []≠[])
  (hO:(cutsF (Zci w h sp) (goodL w h sp) m 0 []).length < 80000) :
  tc (d+20) tlo 55 [tS w h c n sp] H=some (rS 1 ((cutsF (Zci w h sp) (goodL w h sp) m 0 []).map rQ),H):=by
 rw [tc_f (F:=F55) (by kernel_rfl)]
 obtain ⟨f,hf⟩:∃ f,f=fun i=>cutsF (Zci w h sp) (goodL w h sp) i 0 []:=⟨_,rfl⟩
 have hf':∀ i,cutsF (Zci w h sp) (goodL w h sp) i 0 []=f i:=fun i=>by rw [hf]
 rw [hf'] at hne hO ⊢
 obtain ⟨B0,hB0⟩:∃ B,B=Zaq H (.cells [tN w,tN h,.row c .set n (sp.map tN)]):=⟨_,rfl⟩
 obtain ⟨B1,hB1⟩:∃ B,B=Zaq B0 (.cells [rowL []]):=⟨_,rfl⟩
 have n0:Zag B0=Zag H+1:=by rw [hB0];exact Zbp
 have n1:Zag B1=Zag B0+1:=by rw [hB1];exact Zbp
 have k0:B0[Zag H]? = some (.cells [tN w,tN h,.row c .set n (sp.map tN)]):=by rw [hB0];exact Zbh
 have k01:B1[Zag H]? = some (.cells [tN w,tN h,.row c .set n (sp.map tN)]):=by rw [hB1];exact Zbi k0
 have o1:B1[Zag B0]? = some (.cells [rowL []]):=by rw [hB1];exact Zbh
 have t1:Zdg B1 (Zag H)=H:=by
  rw [hB1];refine take_more ?_ (by omega)
  rw [hB0];exact take_push
 have hst:stor (tS w h c n sp)=true:=by cases c <;> rfl
 have hnil:TObj.cells [nilT]=.cells [rowL []]:=rfl
 have key:EndsT (C55 (tc (d+19)) tlo (Zag H) (tS w h c n sp,Zao,Zao,Zao,Zao,Zao,()) H) fun e S H1=>e=.ret∧S.2.2.1=rS 1 ((f m).map rQ)∧Zdg H1 (Zag H)=H:=by
  simp only [C55,VV,← hB0,hnil,← hB1]
  refine EndsT.rng (k:=m+1) (fun k S H1=>∃ i ls,S.2.1=.ptr (Zag H) 0∧S.2.2.2.1=.ptr (Zag B0) 0∧S.2.2.2.2.1=tN i∧H1=B1.set (Zag B0) (.cells [rowL ls])∧((ls=[]∧i≤m)∨(ls=f m∧i=m+1))∧k=m+1 - i)
   (fun S H1=>S.2.2.2.1=.ptr (Zag B0) 0∧H1=B1.set (Zag B0) (.cells [rowL (f m)])) (fun _ _=>False) ?_ (by rw [Zdl];omega) ⟨0,[],rfl,rfl,rfl,(box_same o1).symm,.inl ⟨rfl,Nat.zero_le _⟩,rfl⟩ ?_ (fun _ _ h=>h.elim)
  ·rintro k S H1 ⟨i,ls,s1,s3,s4,rfl,hor,rfl⟩
   have hb:(B1.set (Zag B0) (.cells [rowL ls]))[Zag B0]? = some (.cells [rowL ls]):=set_get o1
   have lo:∀ {β:Type} (k:TV→TH→Option β),Zbg .lend tlo (Zag H) false 1 (B1.set (Zag B0) (.cells [rowL ls])) (.ptr (Zag B0) 0) k=k (.row (cpO (ls.map rQ)) (lfB (ls.map rQ)) (szO 1 (ls.map rQ)) (ls.map rQ)) (B1.set (Zag B0) (.cells [rowL ls])):=fun k=>load_own hb
   rcases hor with ⟨rfl,hi⟩ |⟨rfl,rfl⟩
   ·have hk:(B1.set (Zag B0) (.cells [rowL []]))[Zag H]? = some (.cells [tN w,tN h,.row c .set n (sp.map tN)]):=(set_old (by omega)).trans k01
    have lA:∀ {β:Type} (k:TV→TH→Option β),Zbg .settle tlo (Zag H) true 3 (B1.set (Zag B0) (.cells [rowL []])) (.ptr (Zag H) 0) k=k (tS w h c n sp) (B1.set (Zag B0) (.cells [rowL []])):=fun k=>Zcw hk (by simp) rfl
    have hfi:(f i).length < 80000:=by
     rcases Nat.eq_or_lt_of_le hi with rfl |hi
     ·exact hO
     ·rw [← hf',hlow i hi];simp
    have hcall:∀ {β:Type} (k:TV→TH→Option β),Zbr (tc (d+19)) tlo 132 [tS w h c n sp,tN i,.fn (.func 133) [] [.ptr (Zag B0) 0]] (B1.set (Zag B0) (.cells [rowL []])) k=k (.tup []) (B1.set (Zag B0) (.cells [rowL (f i)])):=fun k=>by
     refine Zcy rfl ?_
     have:=each_run visits_best d tlo (c:=c) (outs:=[]) (idle:=i) ok hn hb (by omega) (by omega) (by rw [hf'];show 0+(f i).length < 90000;omega)
     rw [hf',List.set_set] at this
     exact this
    have hadd:Zbe (.int .i64 (.ofNat i)) (.int .i64 (.ofNat 1))=some (.int .i64 (.ofNat (i+1))):=add_n (by omega)
    simp only [VV,s1,s3,s4,lo,List.map_nil,show Zca (.ofNat (Zag ([]:List TV))) (.ofNat 0)=true from rfl,lA,hcall,hadd]
    refine .fin (.inl ⟨rfl,m+1 - (i+1),by omega,i+1,f i,rfl,rfl,rfl,rfl,?_,rfl⟩)
    rcases Nat.eq_or_lt_of_le hi with rfl |hi
    ·exact .inr ⟨rfl,rfl⟩
    ·exact .inl ⟨by rw [← hf'];exact hlow i hi,hi⟩
   ·have hl:Zca (.ofNat (Zag ((f m).map rQ))) (.ofNat 0)=false:=by
     rw [Zat,List.length_map]
     refine beqf fun e=>hne (List.length_eq_zero_iff.1 e)
    simp only [VV,s1,s3,s4,lo,hl]
    exact .fin (.inr (.inl ⟨rfl,rfl,rfl⟩))
  ·rintro S H1 ⟨s3,rfl⟩
   have hb:(B1.set (Zag B0) (.cells [rowL (f m)]))[Zag B0]? = some (.cells [rowL (f m)]):=set_get o1
   have ls:∀ {β:Type} (k:TV→TH→Option β),Zbg .settle tlo (Zag H) false 1 (B1.set (Zag B0) (.cells [rowL (f m)])) (.ptr (Zag B0) 0) k=k (rS 1 ((f m).map rQ)) (B1.set (Zag B0) (.cells [rS 1 ((f m).map rQ)])):=fun k=>by rw [load_set hb,List.set_set]
   simp only [VV,s3,ls]
   refine .fin ⟨rfl,rfl,?_⟩
   rw [take_upd t1,n0]
   exact List.set_eq_of_length_le (by rw [← Zat];omega)
 obtain ⟨e,S,H1,h1,rfl,h2,h3⟩:=key
 show Zaa (C55 (tc (d+19)) tlo (Zag H) (tS w h c n sp,Zao,Zao,Zao,Zao,Zao,()) H) _=_
 rw [h1]
 simp only [bz_some,resE_r,h2,fin_one resOk_set loose_set,h3]
end
end Go.Proofs.YtgemobbfikjmoaaGreatDoor
namespace Go.Ev
noncomputable section
theorem thaw_ptr {β:Type} {n b off:Nat} {ag:Bool} {H:TH} {k:TV→TH→Option β}:Zdf n ag (.ptr b off) H k=k (.ptr b off) H:=(rfl)
end
end Go.Ev
namespace Go.Proofs.YtgemobbfikjmoaaGreatDoor
open Go Go.Ev
set_option maxRecDepth 100000
noncomputable section
def tM (x:Nat):TV:=match x with |0=>tI (.negSucc 0) |c+1=>tN c
def goF (rec:Nat→Nat→List Nat→Option (Bool×Nat×List Nat)) (c:Nat):List Nat→Nat→List Nat→Option (Bool×Nat×List Nat)
 |[],s,m=>some (false,s,m)
 |d::ds,s,m=>cond (inB s d) (goF rec c ds s m)
   (match m[d]?.getD 0 with
   |0=>some (true,Nat.lor s (2 ^ d),m.set d (c+1))
   |e+1=>match rec e (Nat.lor s (2 ^ d)) m with
    |none=>none
    |some (true,s2,m2)=>some (true,s2,m2.set d (c+1))
    |some (false,s2,m2)=>goF rec c ds s2 m2)
def tryF (near:List Nat) (free:Nat):Nat→Nat→Nat→List Nat→Option (Bool×Nat×List Nat)
 |0,_,_,_=>none
 |f+1,c,s,m=>goF (tryF near free f) c (Zdh (Nat.land (near[c]?.getD 0) free)) s m
def MateOk (m:List Nat):Prop:=m.length=16∧∀ x∈m,x≤16
theorem MateOk.set {m:List Nat} (h:MateOk m) {d c:Nat} (hc:c < 16):MateOk (m.set d (c+1)):=
 ⟨by rw [List.length_set];exact h.1,fun x hx=>by
  rcases List.mem_or_eq_of_mem_set hx with hx |rfl
  ·exact h.2 x hx
  ·omega⟩
structure TryBox (bp bf bs bm bt w h g free:Nat) (near:List Nat) (H:TH):Prop where
 p:H[bp]? = some (.cells (plT w h g near))
 f:H[bf]? = some (.cells [tU free])
 t:H[bt]? = some (.cells [.fn (.func 153) [] [.ptr bp 0,.ptr bf 0,.ptr bs 0,.ptr bm 0,.ptr bt 0]])
 n:bp≠bs∧bf≠bs∧bt≠bs∧bp≠bm∧bf≠bm∧bt≠bm∧bs≠bm
abbrev h2m (H:TH) (bs bm s:Nat) (m:List Nat):TH:=(H.set bs (.cells [tU s])).set bm (.cells (m.map tM))
theorem TryBox.upd {bp bf bs bm bt w h g free:Nat} {near:List Nat} {H:TH} (b:TryBox bp bf bs bm bt w h g free near H) {s:Nat} {m:List Nat}:TryBox bp bf bs bm bt w h g free near (h2m H bs bm s m):=
 have g:∀ c,c≠bs→c≠bm→(h2m H bs bm s m)[c]? = H[c]?:=fun c h1 h2=>(set_old h2).trans (set_old h1)
 ⟨(g _ b.n.1 b.n.2.2.2.1).trans b.p,(g _ b.n.2.1 b.n.2.2.2.2.1).trans b.f,(g _ b.n.2.2.1 b.n.2.2.2.2.2.1).trans b.t,b.n⟩
theorem h2m_s {H:TH} {bs bm s:Nat} {m:List Nat} {o:TObj} (hs:H[bs]? = some o) (hn:bs≠bm):(h2m H bs bm s m)[bs]? = some (.cells [tU s]):=(set_old hn).trans (set_get hs)
theorem h2m_m {H:TH} {bs bm s:Nat} {m:List Nat} {o:TObj} (hm:H[bm]? = some o) (hn:bs≠bm):(h2m H bs bm s m)[bm]? = some (.cells (m.map tM)):=set_get ((set_old (Ne.symm hn)).trans hm)
theorem h2m_h2m {H:TH} {bs bm s s':Nat} {m m':List Nat} (hn:bs≠bm):h2m (h2m H bs bm s m) bs bm s' m'=h2m H bs bm s' m':=by
 unfold h2m
 rw [List.set_comm _ _ hn.symm,List.set_set,List.set_set]
theorem h2m_len {H:TH} {bs bm s:Nat} {m:List Nat}:Zag (h2m H bs bm s m)=Zag H:=by rw [lenG_set,lenG_set]
theorem h2m_self {H:TH} {bs bm s:Nat} {m:List Nat} (hs:H[bs]? = some (.cells [tU s])) (hm:H[bm]? = some (.cells (m.map tM))):h2m H bs bm s m=H:=by
 unfold h2m;rw [box_same hs,box_same hm]
theorem h2m_set {H:TH} {bs bm s s':Nat} {m:List Nat} (hn:bs≠bm):(h2m H bs bm s m).set bs (.cells [tU s'])=h2m H bs bm s' m:=by
 unfold h2m
 rw [List.set_comm _ _ hn.symm,List.set_set]
theorem h2m_setm {H:TH} {bs bm s:Nat} {m m':List Nat}:(h2m H bs bm s m).set bm (.cells (m'.map tM))=h2m H bs bm s m':=by
 unfold h2m
 rw [List.set_set]
theorem load_M {β:Type} {md:Ld} {tlo base b d e:Nat} {m:List Nat} {H:TH} {k:TV→TH→Option β} (hb:H[b]? = some (.cells (m.map tM))) (he:m[d]? = some e):Zbg md tlo base false 1 H (.ptr b (0+d * 1)) k=k (tM e) H:=by
 have:(m.map tM)[0+d * 1]? = some (tM e):=by rw [Nat.zero_add,Nat.mul_one,List.getElem?_map,he];rfl
 exact Zbf hb this (by cases e <;> rfl) (by cases e <;> rfl)
theorem store_M {tlo base b d c:Nat} {m:List Nat} {H:TH} (hb:H[b]? = some (.cells (m.map tM))) (ht:tlo≤b) (hd:d < m.length):Zas tlo base 1 H (.ptr b (0+d * 1)) (tN c)=some (H.set b (.cells ((m.set d (c+1)).map tM))):=by
 rw [Zcf (off:=0+d * 1) (n:=1) (x:=tN c) hb ht rfl (.inl rfl) rfl (by rw [List.length_map];omega),cellsT_v,Nat.zero_add,Nat.mul_one,over_one _ _ _ (by rw [List.length_map];exact hd),List.map_set];rfl
theorem try_run {bp bf bs bm bt w h g free tlo:Nat} {near:List Nat} (hnl:near.length=16) (hnear:∀ x∈near,x < 65536) (hfree:free < 65536) (htm:tlo≤bm) (hts:tlo≤bs) :
  ∀ (f d c s:Nat) (m:List Nat) (H:TH) (r:Bool×Nat×List Nat),TryBox bp bf bs bm bt w h g free near H→H[bs]? = some (.cells [tU s])→H[bm]? = some (.cells (m.map tM))→c < 16→s < 65536→MateOk m→tryF near free f c s m=some r →
   tc (d+f+3) tlo 153 [tN c,.ptr bp 0,.ptr bf 0,.ptr bs 0,.ptr bm 0,.ptr bt 0] H=some (tB r.1,h2m H bs bm r.2.1 r.2.2)∧r.2.1 < 65536∧MateOk r.2.2:=by
 intro f
 induction f with
 |zero=>intro d c s m H r _ _ _ _ _ _ h;cases h
 |succ f ih=>
  intro d c s m H r tb hbs hbm hc hs hm htry
  have htry:goF (tryF near free f) c (Zdh (Nat.land (near[c]?.getD 0) free)) s m=some r:=htry
  have hne:=tb.n.2.2.2.2.2.2
  obtain ⟨nc,hnc⟩:∃ nc,near[c]? = some nc:=⟨near[c],List.getElem?_eq_getElem (by omega)⟩
  have hnc':nc < 65536:=hnear nc (List.mem_of_getElem? hnc)
  rw [hnc] at htry
  obtain ⟨l,hl⟩:∃ l,l=Zdh (Nat.land nc free):=⟨_,rfl⟩
  have hland:Nat.land nc free < 65536:=Nat.lt_of_le_of_lt Nat.and_le_left hnc'
  have hl16:∀ x∈l,x < 16:=fun x hx=>bits_lt _ hland x (hl ▸ hx)
  have hll:l.length < 90000:=by rw [hl];exact Nat.lt_of_le_of_lt (ev_bits_length _) (by decide)
  have htry:goF (tryF near free f) c l s m=some r:=by rw [hl];exact htry
  have key:EndsT (C153 (tc (d+f+3)) tlo (Zag H) (tN c,.ptr bp 0,.ptr bf 0,.ptr bs 0,.ptr bm 0,.ptr bt 0,Zao,Zao,Zao,Zao,Zao,Zao,Zao,Zao,()) H)
    fun e S H1=>e=.ret∧S.2.2.2.2.2.2.1=tB r.1∧H1=h2m H bs bm r.2.1 r.2.2∧r.2.1 < 65536∧MateOk r.2.2:=by
   have l1:∀ {β:Type} (k:TV→TH→Option β),Zbg .lend tlo (Zag H) false 1 H (.ptr bp (0+3+c * 1)) k=k (tU nc) H:=fun k=>Zbf tb.p (plT_n hnc) rfl rfl
   have l2:∀ {β:Type} (k:TV→TH→Option β),Zbg .lend tlo (Zag H) false 1 H (.ptr bf 0) k=k (tU free) H:=fun k=>Zbf tb.f rfl rfl rfl
   have z1:evAnd (.int .u64 (.ofNat nc)) (.int .u64 (.ofNat free))=some (.int .u64 (.ofNat (Nat.land nc free))):=and_u (by omega) (by omega)
   have hlist:∀ H,Zah (tc (d+f+3)) 100 [tU (Nat.land nc free)] H=some (Zcr 3 1 (l.map tN)):=fun H=>by rw [hl];exact list_tree (d+f) (by omega)
   have hi:Zbj 16 1 (.ptr bp (0+3)) (tN c)=some (.ptr bp (0+3+c * 1)):=idxArr_ptr hc
   simp only [C153,VV,hi,l1,l2,z1,hlist]
   refine EndsT.rng (k:=l.length) (fun k S H1=>∃ j s' m',S.1=tN c∧S.2.1=.ptr bp 0∧S.2.2.1=.ptr bf 0∧S.2.2.2.1=.ptr bs 0∧S.2.2.2.2.1=.ptr bm 0∧S.2.2.2.2.2.1=.ptr bt 0∧S.2.2.2.2.2.2.2.2.1=Zcr 3 1 (l.map tN)∧S.2.2.2.2.2.2.2.2.2.1=tN l.length∧S.2.2.2.2.2.2.2.2.2.2.1=tN j ∧
     H1=h2m H bs bm s' m'∧s' < 65536∧MateOk m'∧j≤l.length∧k=l.length - j∧goF (tryF near free f) c (l.drop j) s' m'=some r)
    (fun S H1=>H1=h2m H bs bm r.2.1 r.2.2∧r.1=false∧r.2.1 < 65536∧MateOk r.2.2) (fun S H1=>S.2.2.2.2.2.2.1=tB r.1∧H1=h2m H bs bm r.2.1 r.2.2∧r.2.1 < 65536∧MateOk r.2.2) ?_ (by rw [Zdl];omega)
    ⟨0,s,m,rfl,rfl,rfl,rfl,rfl,rfl,rfl,by rw [Zat,List.length_map],rfl,(h2m_self hbs hbm).symm,hs,hm,Nat.zero_le _,rfl,htry⟩ ?_ ?_
   ·rintro k S H1 ⟨j,s',m',g0,g1,g2,g3,g4,g5,g8,g9,g10,rfl,hs',hm',hj,rfl,hgo⟩
    rcases Nat.eq_or_lt_of_le hj with hj |hj
    ·rw [hj,List.drop_length] at hgo
     have hgo:some (false,s',m')=some r:=hgo
     cases hgo
     simp only [VV,g0,g1,g2,g3,g4,g5,g8,g9,g10,Zcg,blt_f (Nat.le_of_eq hj.symm)]
     exact .fin (.inr (.inl ⟨rfl,rfl,by trivial,hs',hm'⟩))
    ·obtain ⟨d',hd'⟩:∃ d',d'=l[j]:=⟨_,rfl⟩
     have hd16:d' < 16:=by rw [hd'];exact hl16 _ (List.getElem_mem hj)
     have hel:(l.map tN)[j]? = some (tN d'):=by rw [List.getElem?_map,List.getElem?_eq_getElem hj,hd'];rfl
     have hro:Zcr 3 1 (l.map tN)=.row .opn (.own 3) 1 (l.map tN):=by
      cases hx:l.map tN with
      |nil=>rw [hx] at hel;cases hel
      |cons=>rfl
     rw [List.drop_eq_getElem_cons hj,← hd'] at hgo
     have a3:Zbe (.int .i64 (.ofNat j)) (.int .i64 (.ofNat 1))=some (.int .i64 (.ofNat (j+1))):=add_n (by omega)
     obtain ⟨b1,b2,b3,_⟩:=bitU (show d'≤64 by omega) hs'
     have ls:∀ {β:Type} (k:TV→TH→Option β),Zbg .lend tlo (Zag H) false 1 (h2m H bs bm s' m') (.ptr bs 0) k=k (tU s') (h2m H bs bm s' m'):=fun k=>Zbf (h2m_s hbs hne) rfl rfl rfl
     cases hin:inB s' d' with
     |true=>
      have hgo:cond (inB s' d') (goF (tryF near free f) c (l.drop (j+1)) s' m') _=some r:=hgo
      rw [hin] at hgo
      simp only [VV,g0,g1,g2,g3,g4,g5,g8,g9,g10,Zcg,blt_t hj,hro,Zbv hel,load_el (cs:=Zav (tN d')) (off:=0) rfl,ls,b1,b2,b3,hin,a3,show Nat.beq 1 1=true from rfl]
      exact .fin (.inl ⟨rfl,l.length - (j+1),by omega,j+1,s',m',rfl,rfl,rfl,rfl,rfl,rfl,rfl,rfl,rfl,rfl,hs',hm',hj,rfl,hgo⟩)
     |false=>
      obtain ⟨e,he⟩:∃ e,m'[d']? = some e:=⟨m'[d']'(by have:=hm'.1;omega),List.getElem?_eq_getElem (by have:=hm'.1;omega)⟩
      have he16:e≤16:=hm'.2 e (List.mem_of_getElem? he)
      obtain ⟨s1,hs1⟩:∃ s1,s1=Nat.lor s' (2 ^ d'):=⟨_,rfl⟩
      have p1:=p16 hd16
      have hs1':s1 < 65536:=by rw [hs1];exact Nat.or_lt_two_pow (n:=16) hs' p1
      have hgo:cond (inB s' d') (goF (tryF near free f) c (l.drop (j+1)) s' m') (match m'[d']?.getD 0 with
       |0=>some (true,Nat.lor s' (2 ^ d'),m'.set d' (c+1))
       |e+1=>match tryF near free f e (Nat.lor s' (2 ^ d')) m' with
        |none=>none
        |some (true,s2,m2)=>some (true,s2,m2.set d' (c+1))
        |some (false,s2,m2)=>goF (tryF near free f) c (l.drop (j+1)) s2 m2)=some r:=hgo
      rw [hin,he,← hs1] at hgo
      have z1:evShl (.int .u64 (.ofNat 1)) (.int .i64 (.ofNat d'))=some (.int .u64 (.ofNat (2 ^ d'))):=by rw [shl_u (by omega) (by rw [Nat.one_mul];omega),Nat.one_mul]
      have z2:evOr (.int .u64 (.ofNat s')) (.int .u64 (.ofNat (2 ^ d')))=some (.int .u64 (.ofNat s1)):=by rw [hs1];exact or_u (by omega) (by omega)
      have st:Zas tlo (Zag H) 1 (h2m H bs bm s' m') (.ptr bs 0) (tU s1)=some (h2m H bs bm s1 m'):=by
       rw [Zcf (off:=0) (n:=1) (x:=tU s1) (h2m_s hbs hne) hts rfl (.inl rfl) rfl (Nat.le_refl 1),cellsT_v,over_all (cs:=[tU s']) (xs:=[tU s1]) rfl,h2m_set hne]
      have hm1:(h2m H bs bm s1 m')[bm]? = some (.cells (m'.map tM)):=h2m_m hbm hne
      have lm:∀ {β:Type} (md:Ld) (k:TV→TH→Option β),Zbg md tlo (Zag H) false 1 (h2m H bs bm s1 m') (.ptr bm (0+d' * 1)) k=k (tM e) (h2m H bs bm s1 m'):=fun md k=>load_M hm1 he
      have lt:∀ {β:Type} (k:TV→TH→Option β),Zbg .lend tlo (Zag H) false 1 (h2m H bs bm s1 m') (.ptr bt 0) k=k (.fn (.func 153) [] [.ptr bp 0,.ptr bf 0,.ptr bs 0,.ptr bm 0,.ptr bt 0]) (h2m H bs bm s1 m'):=fun k=>Zbf tb.upd.t rfl rfl rfl
      have hi2:Zbj 16 1 (.ptr bm 0) (tN d')=some (.ptr bm (0+d' * 1)):=idxArr_ptr hd16
      have hd'm:d' < m'.length:=by have:=hm'.1;omega
      cases e with
      |zero=>
       have hgo:some (true,s1,m'.set d' (c+1))=some r:=hgo
       cases hgo
       have hls:Zcj (.int .i64 (.negSucc 0)) (.int .i64 (.ofNat 0))=some (.bool true):=rfl
       have stm:Zas tlo (Zag H) 1 (h2m H bs bm s1 m') (.ptr bm (0+d' * 1)) (tN c)=some (h2m H bs bm s1 (m'.set d' (c+1))):=by rw [store_M hm1 htm hd'm,h2m_setm]
       simp only [VV,g0,g1,g2,g3,g4,g5,g8,g9,g10,Zcg,blt_t hj,hro,Zbv hel,load_el (cs:=Zav (tN d')) (off:=0) rfl,ls,b1,b2,b3,hin,z1,z2,st,hi2,lm,show tM 0=tI (.negSucc 0) from rfl,hls,Bool.not_true,thaw_ptr,stm]
       exact .fin (.inr (.inr ⟨rfl,rfl,rfl,hs1',hm'.set hc⟩))
      |succ e=>
       have hgo:(match tryF near free f e s1 m' with
        |none=>none
        |some (true,s2,m2)=>some (true,s2,m2.set d' (c+1))
        |some (false,s2,m2)=>goF (tryF near free f) c (l.drop (j+1)) s2 m2)=some r:=hgo
       cases hr2:tryF near free f e s1 m' with
       |none=>rw [hr2] at hgo;cases hgo
       |some r2=>
        obtain ⟨q,s2,m2⟩:=r2
        rw [hr2] at hgo
        obtain ⟨i1,i2,i3⟩:=ih d e s1 m' (h2m H bs bm s1 m') (q,s2,m2) tb.upd (h2m_s hbs hne) hm1 (Nat.lt_of_succ_le he16) hs1' hm' hr2
        have i2:s2 < 65536:=i2
        have i3:MateOk m2:=i3
        have i1:tc (d+f+3) tlo 153 [tN e,.ptr bp 0,.ptr bf 0,.ptr bs 0,.ptr bm 0,.ptr bt 0] (h2m H bs bm s1 m')=some (tB q,h2m H bs bm s2 m2):=by rw [i1,h2m_h2m hne]
        have hcall:∀ {β:Type} (k:TV→TH→Option β),Zdc TC (tc (d+f+3)) tlo (.fn (.func 153) [] [.ptr bp 0,.ptr bf 0,.ptr bs 0,.ptr bm 0,.ptr bt 0]) [tN e] (h2m H bs bm s1 m') k=k (tB q) (h2m H bs bm s2 m2):=fun k=>callFn_of rfl i1
        have hm2:(h2m H bs bm s2 m2)[bm]? = some (.cells (m2.map tM)):=h2m_m hbm hne
        have hd2m:d' < m2.length:=by rw [i3.1];exact hd16
        have hls:Nat.blt e 0=false:=blt_f (Nat.zero_le _)
        cases q with
        |true=>
         have hgo:some (true,s2,m2.set d' (c+1))=some r:=hgo
         cases hgo
         have stm:Zas tlo (Zag H) 1 (h2m H bs bm s2 m2) (.ptr bm (0+d' * 1)) (tN c)=some (h2m H bs bm s2 (m2.set d' (c+1))):=by rw [store_M hm2 htm hd2m,h2m_setm]
         simp only [VV,g0,g1,g2,g3,g4,g5,g8,g9,g10,Zcg,blt_t hj,hro,Zbv hel,load_el (cs:=Zav (tN d')) (off:=0) rfl,ls,b1,b2,b3,hin,z1,z2,st,hi2,lm,show tM (e+1)=tN e from rfl,hls,Bool.not_false,lt,hcall,thaw_ptr,stm]
         exact .fin (.inr (.inr ⟨rfl,rfl,rfl,i2,i3.set hc⟩))
        |false=>
         have hgo:goF (tryF near free f) c (l.drop (j+1)) s2 m2=some r:=hgo
         simp only [VV,g0,g1,g2,g3,g4,g5,g8,g9,g10,Zcg,blt_t hj,hro,Zbv hel,load_el (cs:=Zav (tN d')) (off:=0) rfl,ls,b1,b2,b3,hin,z1,z2,st,hi2,lm,show tM (e+1)=tN e from rfl,hls,Bool.not_false,lt,hcall,a3]
         exact .fin (.inl ⟨rfl,l.length - (j+1),by omega,j+1,s2,m2,rfl,rfl,rfl,rfl,rfl,rfl,rfl,rfl,rfl,rfl,i2,i3,hj,rfl,hgo⟩)
   ·rintro S H1 ⟨rfl,h1,h2,h3⟩
    simp only [VV]
    exact .fin ⟨rfl,by rw [h1],rfl,h2,h3⟩
   ·rintro S H1 ⟨h1,h2,h3,h4⟩
    exact ⟨rfl,h1,h2,h3,h4⟩
  obtain ⟨e,S,H1,h1,rfl,h2,rfl,h4,h5⟩:=key
  refine ⟨?_,h4,h5⟩
  rw [show d+(f+1)+3=d+f+3+1 by omega,tc_f (F:=F153) (by kernel_rfl)]
  show Zaa (C153 (tc (d+f+3)) tlo (Zag H) (tN c,.ptr bp 0,.ptr bf 0,.ptr bs 0,.ptr bm 0,.ptr bt 0,Zao,Zao,Zao,Zao,Zao,Zao,Zao,Zao,()) H) _=_
  rw [h1]
  simp only [bz_some,resE_r,h2,fin_one resOk_v Zdq]
  rw [show Zag H=Zag (h2m H bs bm r.2.1 r.2.2) from h2m_len.symm,Zde]
end
end Go.Proofs.YtgemobbfikjmoaaGreatDoor
namespace Go.Proofs.YtgemobbfikjmoaaGreatDoor
open Go Go.Ev
set_option maxRecDepth 100000
noncomputable section
theorem insC_U {H:TH}:∀ (l:List Nat),insC H (l.map tU)=some (l.map tU)
 |[]=>rfl
 |x::l=>by
  show Zaf (insC H (l.map tU)) _=_
  rw [insC_U l];rfl
theorem insC_plate {H:TH} {w h g:Nat} {near:List Nat}:insC H (plT w h g near)=some (plT w h g near):=by
 show Zaf (Zaf (Zaf (insC H (near.map tU)) _) _) _=_
 rw [insC_U];rfl
theorem actC_plate {w h g:Nat} {near:List Nat}:anyG actC (plT w h g near)=false:=by
 show anyG actC (near.map tU)=false
 rw [anyG_eq,List.any_map,List.any_eq_false]
 intro x _ h;cases h
theorem ins_plate {H:TH} {w h g:Nat} {near:List Nat} {vs ws:List TV} (hv:insT H vs=some ws):insT H (.agg (plT w h g near)::vs)=some (.agg (plT w h g near)::ws):=by
 show Zaf (Zaf (insC H (plT w h g near)) fun ds=>some (.agg ds)) (fun y=>Zaf (insT H vs) fun l=>some (y::l))=_
 rw [insC_plate,hv];rfl
theorem act_plate {w h g:Nat} {near:List Nat} {vs:List TV} (hv:anyG actT vs=false):anyG actT (.agg (plT w h g near)::vs)=false:=by
 show cond (anyG actC (plT w h g near)) true (anyG actT vs)=false
 rw [actC_plate,hv];rfl
def lightB (w c:Nat):Bool:=Nat.beq ((c % w+c / w) % 2) 1
theorem light_run (d tlo:Nat) {w h g c:Nat} {near:List Nat} {H:TH} (hw:1≤w) (hc:c < 1000000):tc (d+1) tlo 154 [.agg (plT w h g near),tN c] H=some (tB (lightB w c),H):=by
 rw [tc_f (F:=F154) (by kernel_rfl)]
 obtain ⟨B,hB⟩:∃ B,B=Zaq H (.cells (plT w h g near)):=⟨_,rfl⟩
 have hb:B[Zag H]? = some (.cells (plT w h g near)):=by rw [hB];exact Zbh
 have l1:∀ {β:Type} (k:TV→TH→Option β),Zbg .lend tlo (Zag H) false 1 B (.ptr (Zag H) (0+0)) k=k (tN w) B:=fun k=>Zbf hb (plT_w ..) rfl rfl
 have h1:c % w≤c:=Nat.mod_le ..
 have h2:c / w≤c:=Nat.div_le_self ..
 have z1:evRem (.int .i64 (.ofNat c)) (.int .i64 (.ofNat w))=some (.int .i64 (.ofNat (c % w))):=rem_n hw
 have z2:evQuo (.int .i64 (.ofNat c)) (.int .i64 (.ofNat w))=some (.int .i64 (.ofNat (c / w))):=quo_n hw (by omega)
 have z3:Zbe (.int .i64 (.ofNat (c % w))) (.int .i64 (.ofNat (c / w)))=some (.int .i64 (.ofNat (c % w+c / w))):=add_n (by omega)
 have z4:evRem (.int .i64 (.ofNat (c % w+c / w))) (.int .i64 (.ofNat 2))=some (.int .i64 (.ofNat ((c % w+c / w) % 2))):=rem_n (by decide)
 have z5:Zca (.ofNat ((c % w+c / w) % 2)) (.ofNat 1)=lightB w c:=rfl
 have hs:Zbu storC (plT w h g near)=true:=plT_stor w h g near
 show Zaa (C154 (tc d) tlo (Zag H) (.agg (plT w h g near),tN c,Zao,Zao,()) H) _=_
 have ht:Zdg B (Zag H)=H:=by rw [hB];exact take_push
 simp only [C154,VV,hs,← hB,l1,z1,z2,z3,z4,z5,Zbm Zdq,ht]
theorem light_tree (d:Nat) {w h g c:Nat} {near:List Nat} {H:TH} (hw:1≤w) (hc:c < 1000000):Zah (tc (d+1)) 154 [.agg (plT w h g near),tN c] H=some (tB (lightB w c)):=
 Zdo (ws:=[.agg (plT w h g near),tN c]) (H':=[]) (a:=false) (ins_plate rfl) (act_plate rfl) (light_run d 0 hw hc) outR_v
def mostG (near:List Nat) (free w:Nat):List Nat→Nat→List Nat→Option Nat
 |[],n,_=>some n
 |c::cs,n,m=>cond (lightB w c) (mostG near free w cs n m) (match tryF near free 17 c 0 m with
  |none=>none
  |some (true,_,m2)=>mostG near free w cs (n+1) m2
  |some (false,_,m2)=>mostG near free w cs n m2)
def mostF (near:List Nat) (w free:Nat):Option Nat:=mostG near free w (Zdh free) 0 (List.replicate 16 0)
theorem rep_over {a b:TV} {j k:Nat}:overG (List.replicate j a++List.replicate (k+1) b) (0+j * 1) [a]=List.replicate (j+1) a++List.replicate k b:=by
 rw [Nat.zero_add,Nat.mul_one,over_one _ _ _ (by simp),List.set_append_right _ _ (by simp),List.length_replicate,Nat.sub_self,List.replicate_succ (n:=k),List.replicate_succ' (n:=j),List.append_assoc];rfl
theorem load_plate {β:Type} {md:Ld} {tlo base b w h g:Nat} {near:List Nat} {H:TH} {k:TV→TH→Option β} (hb:H[b]? = some (.cells (plT w h g near))) (hn:near.length=16):Zbg md tlo base true 19 H (.ptr b 0) k=k (.agg (plT w h g near)) H:=by
 have hl:(plT w h g near).length=19:=by rw [plT_len,hn]
 rw [Zcw hb (by omega) (by rw [List.drop_zero,List.take_of_length_le (by omega)];exact plT_own ..),List.drop_zero,List.take_of_length_le (by omega)]
theorem most_run (d tlo:Nat) {w h g free n:Nat} {near:List Nat} {H:TH} (hw:1≤w) (hnl:near.length=16) (hnear:∀ x∈near,x < 65536) (hfree:free < 65536) (htl:tlo≤Zag H) (hmost:mostF near w free=some n) :
  tc (d+21) tlo 95 [.agg (plT w h g near),tU free] H=some (tN n,H):=by
 rw [tc_f (F:=F95) (by kernel_rfl)]
 obtain ⟨B0,hB0⟩:∃ B,B=Zaq H (.cells (plT w h g near)):=⟨_,rfl⟩
 obtain ⟨B1,hB1⟩:∃ B,B=Zaq B0 (.cells [tU free]):=⟨_,rfl⟩
 obtain ⟨B2,hB2⟩:∃ B,B=Zaq B1 (.cells ((List.replicate 16 0).map tM)):=⟨_,rfl⟩
 obtain ⟨B3,hB3⟩:∃ B,B=Zaq B2 (.cells [tU 0]):=⟨_,rfl⟩
 obtain ⟨B4,hB4⟩:∃ B,B=Zaq B3 (.cells [.fn (.func 153) [] [.ptr (Zag H) 0,.ptr (Zag B0) 0,.ptr (Zag B2) 0,.ptr (Zag B1) 0,.ptr (Zag B3) 0]]):=⟨_,rfl⟩
 have n0:Zag B0=Zag H+1:=by rw [hB0];exact Zbp
 have n1:Zag B1=Zag B0+1:=by rw [hB1];exact Zbp
 have n2:Zag B2=Zag B1+1:=by rw [hB2];exact Zbp
 have n3:Zag B3=Zag B2+1:=by rw [hB3];exact Zbp
 have n4:Zag B4=Zag B3+1:=by rw [hB4];exact Zbp
 have tb:TryBox (Zag H) (Zag B0) (Zag B2) (Zag B1) (Zag B3) w h g free near B4:=by
  refine ⟨?_,?_,by rw [hB4];exact Zbh,by omega⟩
  ·rw [hB4];refine Zbi ?_;rw [hB3];refine Zbi ?_;rw [hB2];refine Zbi ?_;rw [hB1];refine Zbi ?_;rw [hB0];exact Zbh
  ·rw [hB4];refine Zbi ?_;rw [hB3];refine Zbi ?_;rw [hB2];refine Zbi ?_;rw [hB1];exact Zbh
 have hbs:B4[Zag B2]? = some (.cells [tU 0]):=by rw [hB4];refine Zbi ?_;rw [hB3];exact Zbh
 have hbm:B4[Zag B1]? = some (.cells ((List.replicate 16 0).map tM)):=by rw [hB4];refine Zbi ?_;rw [hB3];refine Zbi ?_;rw [hB2];exact Zbh
 have t4:Zdg B4 (Zag H)=H:=by
  rw [hB4];refine take_more ?_ (by omega)
  rw [hB3];refine take_more ?_ (by omega)
  rw [hB2];refine take_more ?_ (by omega)
  rw [hB1];refine take_more ?_ (by omega)
  rw [hB0];exact take_push
 have hne:=tb.n.2.2.2.2.2.2
 have hs:Zbu storC (plT w h g near)=true:=plT_stor w h g near
 have key:EndsT (C95 (tc (d+20)) tlo (Zag H) (.agg (plT w h g near),tU free,Zao,Zao,Zao,Zao,Zao,Zao,Zao,Zao,Zao,Zao,Zao,Zao,Zao,Zao,Zao,Zao,Zao,()) H)
   fun e S H1=>e=.ret∧S.2.2.2.2.1=tN n∧Zdg H1 (Zag H)=H:=by
  simp only [C95,VV,hs,← hB0,← hB1]
  refine EndsT.rng (k:=16) (fun k S H1=>∃ j,S.2.2.1=.ptr (Zag H) 0∧S.2.2.2.1=.ptr (Zag B0) 0∧S.2.2.2.2.2.1=.ptr (Zag B1) 0∧S.2.2.2.2.2.2.2.2.2.2.2.1=tN j∧j+k=16∧H1=Zaq B1 (.cells (List.replicate j (tI (.negSucc 0))++List.replicate k (tN 0))))
   (fun S H1=>S.2.2.1=.ptr (Zag H) 0∧S.2.2.2.1=.ptr (Zag B0) 0∧S.2.2.2.2.2.1=.ptr (Zag B1) 0∧H1=B2) (fun _ _=>False) ?_ (by rw [Zdl];omega) ⟨0,rfl,rfl,rfl,rfl,rfl,rfl⟩ ?_ (fun _ _ h=>h.elim)
  ·rintro k S H1 ⟨j,g2,g3,g5,g11,hjk,rfl⟩
   cases k with
   |zero=>
    have hj:j=16:=by omega
    subst hj
    simp only [VV,g2,g3,g5,g11,Zcg,blt_f (Nat.le_refl 16)]
    exact .fin (.inr (.inl ⟨rfl,rfl,rfl,rfl,hB2.symm⟩))
   |succ k=>
    have st:Zas tlo (Zag H) 1 (Zaq B1 (.cells (List.replicate j (tI (.negSucc 0))++List.replicate (k+1) (tN 0)))) (.ptr (Zag B1) (0+j * 1)) (tI (.negSucc 0))=some (Zaq B1 (.cells (List.replicate (j+1) (tI (.negSucc 0))++List.replicate k (tN 0)))):=by
     rw [Zcf (off:=0+j * 1) (n:=1) (x:=tI (.negSucc 0)) Zbh (by omega) rfl (.inl rfl) rfl (by simp),cellsT_v,rep_over,push_set]
    simp only [VV,g2,g3,g5,g11,Zcg,blt_t (show j < 16 by omega),thaw_ptr,idxArr_ptr (show j < 16 by omega),st,add_n (show j+1 < 9223372036854775808 by omega)]
    exact .fin (.inl ⟨rfl,k,by omega,j+1,rfl,rfl,rfl,rfl,by omega,rfl⟩)
  ·rintro S H1 ⟨g2,g3,g5,hH1⟩
   rw [hH1]
   clear hH1
   have s3:Zas tlo (Zag H) 1 (Zaq B2 (.cells [tU 0])) (.ptr (Zag B2) 0) (tU 0)=some B3:=by rw [hB3];exact store_new (by omega) rfl (.inl rfl) rfl
   have s4:Zas tlo (Zag H) 1 (Zaq B3 (.cells [.v .nilFunc])) (.ptr (Zag B3) 0) (.fn (.func 153) [] [.ptr (Zag H) 0,.ptr (Zag B0) 0,.ptr (Zag B2) 0,.ptr (Zag B1) 0,.ptr (Zag B3) 0])=some B4:=by
    conv=>rhs;rw [hB4]
    exact store_new (by omega) rfl (.inr (by omega)) rfl
   have lf:∀ {β:Type} (k:TV→TH→Option β),Zbg .lend tlo (Zag H) false 1 B4 (.ptr (Zag B0) 0) k=k (tU free) B4:=fun k=>Zbf tb.f rfl rfl rfl
   have hlist:∀ H,Zah (tc (d+20)) 100 [tU free] H=some (Zcr 3 1 ((Zdh free).map tN)):=fun H=>list_tree (d+17) (by omega)
   simp only [VV,g2,g3,g5,s3,s4,lf,hlist]
   obtain ⟨l,hl⟩:∃ l,l=Zdh free:=⟨_,rfl⟩
   have hl16:∀ x∈l,x < 16:=fun x hx=>bits_lt _ hfree x (hl ▸ hx)
   have hll:l.length < 90000:=by rw [hl];exact Nat.lt_of_le_of_lt (ev_bits_length _) (by decide)
   have hmost:mostG near free w l 0 (List.replicate 16 0)=some n:=by rw [hl];exact hmost
   have hm0:MateOk (List.replicate 16 0):=⟨rfl,fun x hx=>by rw [(List.mem_replicate.1 hx).2];exact Nat.zero_le _⟩
   rw [← hl]
   refine EndsT.rng (k:=l.length) (fun k S H1=>∃ j n' s' m',S.2.2.1=.ptr (Zag H) 0∧S.2.2.2.2.2.2.2.1=tN n'∧S.2.2.2.2.2.2.2.2.1=.ptr (Zag B2) 0∧S.2.2.2.2.2.2.2.2.2.1=.ptr (Zag B3) 0∧S.2.2.2.2.2.2.2.2.2.2.2.2.2.1=Zcr 3 1 (l.map tN)∧S.2.2.2.2.2.2.2.2.2.2.2.2.2.2.1=tN l.length∧S.2.2.2.2.2.2.2.2.2.2.2.2.2.2.2.1=tN j ∧
     H1=h2m B4 (Zag B2) (Zag B1) s' m'∧s' < 65536∧MateOk m'∧j≤l.length∧n'≤j∧k=l.length - j∧mostG near free w (l.drop j) n' m'=some n)
    (fun S H1=>S.2.2.2.2.2.2.2.1=tN n∧Zdg H1 (Zag H)=H) (fun _ _=>False) ?_ (by rw [Zdl];omega)
    ⟨0,0,0,List.replicate 16 0,rfl,rfl,rfl,rfl,rfl,by show tN (Zag (l.map tN))=tN l.length;rw [Zat (l.map tN),List.length_map],rfl,(h2m_self hbs hbm).symm,by decide,hm0,Nat.zero_le _,Nat.le_refl _,rfl,hmost⟩ ?_ (fun _ _ h=>h.elim)
   ·rintro k S H1 ⟨j,n',s',m',g2,g7,g8,g9,g13,g14,g15,rfl,hs',hm',hj,hnj,rfl,hgo⟩
    rcases Nat.eq_or_lt_of_le hj with hj |hj
    ·rw [hj,List.drop_length] at hgo
     have hgo:some n'=some n:=hgo
     cases hgo
     simp only [VV,g2,g7,g8,g9,g13,g14,g15,Zcg,blt_f (Nat.le_of_eq hj.symm)]
     exact .fin (.inr (.inl ⟨rfl,rfl,by rw [take_upd (take_upd t4)];rw [List.set_eq_of_length_le (by rw [List.length_set,← Zat];omega),List.set_eq_of_length_le (by rw [← Zat];omega)]⟩))
    ·obtain ⟨c,hc⟩:∃ c,c=l[j]:=⟨_,rfl⟩
     have hc16:c < 16:=by rw [hc];exact hl16 _ (List.getElem_mem hj)
     have hel:(l.map tN)[j]? = some (tN c):=by rw [List.getElem?_map,List.getElem?_eq_getElem hj,hc];rfl
     have hro:Zcr 3 1 (l.map tN)=.row .opn (.own 3) 1 (l.map tN):=by
      cases hx:l.map tN with
      |nil=>rw [hx] at hel;cases hel
      |cons=>rfl
     rw [List.drop_eq_getElem_cons hj,← hc] at hgo
     have a3:Zbe (.int .i64 (.ofNat j)) (.int .i64 (.ofNat 1))=some (.int .i64 (.ofNat (j+1))):=add_n (by omega)
     have a4:Zbe (.int .i64 (.ofNat n')) (.int .i64 (.ofNat 1))=some (.int .i64 (.ofNat (n'+1))):=add_n (by omega)
     have lp:∀ {β:Type} (k:TV→TH→Option β),Zbg .lend tlo (Zag H) true 19 (h2m B4 (Zag B2) (Zag B1) s' m') (.ptr (Zag H) 0) k=k (.agg (plT w h g near)) (h2m B4 (Zag B2) (Zag B1) s' m'):=fun k=>load_plate tb.upd.p hnl
     have hli:∀ H,Zah (tc (d+20)) 154 [.agg (plT w h g near),tN c] H=some (tB (lightB w c)):=fun H=>light_tree (d+19) hw (by omega)
     have hgo:cond (lightB w c) (mostG near free w (l.drop (j+1)) n' m') (match tryF near free 17 c 0 m' with
      |none=>none
      |some (true,_,m2)=>mostG near free w (l.drop (j+1)) (n'+1) m2
      |some (false,_,m2)=>mostG near free w (l.drop (j+1)) n' m2)=some n:=hgo
     cases hlt:lightB w c with
     |true=>
      rw [hlt] at hgo
      simp only [VV,g2,g7,g8,g9,g13,g14,g15,Zcg,blt_t hj,hro,Zbv hel,load_el (cs:=Zav (tN c)) (off:=0) rfl,lp,Zdi,hli,hlt,a3,show Nat.beq 3 3=true from rfl]
      exact .fin (.inl ⟨rfl,l.length - (j+1),by omega,j+1,n',s',m',rfl,rfl,rfl,rfl,rfl,rfl,rfl,rfl,hs',hm',hj,by omega,rfl,hgo⟩)
     |false=>
      rw [hlt] at hgo
      cases hr:tryF near free 17 c 0 m' with
      |none=>rw [hr] at hgo;cases hgo
      |some r=>
       obtain ⟨q,s2,m2⟩:=r
       rw [hr] at hgo
       have st:Zas tlo (Zag H) 1 (h2m B4 (Zag B2) (Zag B1) s' m') (.ptr (Zag B2) 0) (tU 0)=some (h2m B4 (Zag B2) (Zag B1) 0 m'):=by
        rw [Zcf (off:=0) (n:=1) (x:=tU 0) (h2m_s hbs hne) (by omega) rfl (.inl rfl) rfl (Nat.le_refl 1),cellsT_v,over_all (cs:=[tU s']) (xs:=[tU 0]) rfl,h2m_set hne]
       obtain ⟨i1,i2,i3⟩:=try_run (tlo:=tlo) hnl hnear hfree (by omega) (by omega) 17 d c 0 m' (h2m B4 (Zag B2) (Zag B1) 0 m') (q,s2,m2) tb.upd (h2m_s hbs hne) (h2m_m hbm hne) hc16 (by decide) hm' hr
       have i2:s2 < 65536:=i2
       have i3:MateOk m2:=i3
       have lt:∀ {β:Type} (k:TV→TH→Option β),Zbg .lend tlo (Zag H) false 1 (h2m B4 (Zag B2) (Zag B1) 0 m') (.ptr (Zag B3) 0) k=k (.fn (.func 153) [] [.ptr (Zag H) 0,.ptr (Zag B0) 0,.ptr (Zag B2) 0,.ptr (Zag B1) 0,.ptr (Zag B3) 0]) (h2m B4 (Zag B2) (Zag B1) 0 m'):=fun k=>Zbf tb.upd.t rfl rfl rfl
       have hcall:∀ {β:Type} (k:TV→TH→Option β),Zdc TC (tc (d+20)) tlo (.fn (.func 153) [] [.ptr (Zag H) 0,.ptr (Zag B0) 0,.ptr (Zag B2) 0,.ptr (Zag B1) 0,.ptr (Zag B3) 0]) [tN c] (h2m B4 (Zag B2) (Zag B1) 0 m') k=k (tB q) (h2m B4 (Zag B2) (Zag B1) s2 m2):=fun k=>by
        refine callFn_of rfl ?_
        rw [h2m_h2m hne] at i1
        exact i1
       cases q with
       |true=>
        have hgo:mostG near free w (l.drop (j+1)) (n'+1) m2=some n:=hgo
        simp only [VV,g2,g7,g8,g9,g13,g14,g15,Zcg,blt_t hj,hro,Zbv hel,load_el (cs:=Zav (tN c)) (off:=0) rfl,lp,Zdi,hli,hlt,st,lt,hcall,a3,a4]
        exact .fin (.inl ⟨rfl,l.length - (j+1),by omega,j+1,n'+1,s2,m2,rfl,rfl,rfl,rfl,rfl,rfl,rfl,rfl,i2,i3,hj,by omega,rfl,hgo⟩)
       |false=>
        have hgo:mostG near free w (l.drop (j+1)) n' m2=some n:=hgo
        simp only [VV,g2,g7,g8,g9,g13,g14,g15,Zcg,blt_t hj,hro,Zbv hel,load_el (cs:=Zav (tN c)) (off:=0) rfl,lp,Zdi,hli,hlt,st,lt,hcall,a3,a4]
        exact .fin (.inl ⟨rfl,l.length - (j+1),by omega,j+1,n',s2,m2,rfl,rfl,rfl,rfl,rfl,rfl,rfl,rfl,i2,i3,hj,by omega,rfl,hgo⟩)
   ·rintro S H1 ⟨h1,h2⟩
    simp only [VV,h1]
    exact .fin ⟨rfl,rfl,h2⟩
 obtain ⟨e,S,H1,h1,rfl,h2,h3⟩:=key
 show Zaa (C95 (tc (d+20)) tlo (Zag H) (.agg (plT w h g near),tU free,Zao,Zao,Zao,Zao,Zao,Zao,Zao,Zao,Zao,Zao,Zao,Zao,Zao,Zao,Zao,Zao,Zao,()) H) _=_
 rw [h1]
 simp only [bz_some,resE_r,h2,fin_one resOk_v Zdq,h3]
end
end Go.Proofs.YtgemobbfikjmoaaGreatDoor
namespace Go.Proofs.YtgemobbfikjmoaaGreatDoor
open Go Go.Ev
set_option maxRecDepth 100000
noncomputable section
def eqL {α:Type} (eq:α→α→Bool):List α→List α→Bool
 |[],[]=>true
 |a::l,b::m=>cond (eq a b) (eqL eq l m) false
 |_,_=>false
theorem eqL_len {α:Type} (eq:α→α→Bool):∀ (a b:List α),a.length≠b.length→eqL eq a b=false
 |[],[],h=>absurd rfl h
 |[],_::_,_=>rfl
 |_::_,[],_=>rfl
 |x::a,y::b,h=>by
  show cond (eq x y) (eqL eq a b) false=false
  rw [eqL_len eq a b fun e=>h (congrArg Nat.succ e)]
  cases eq x y <;> rfl
theorem same_run (d tlo:Nat) {n m:Nat} {c c':Cp} {xs ys:List Nat} {H:TH} (hn:xs≠[]→n=1) (hm:ys≠[]→m=1) (hlen:xs.length < 90000) :
  tc (d+1) tlo 27 [.row c .set n (xs.map tN),.row c' .set m (ys.map tN)] H=some (tB (eqL Nat.beq xs ys),H):=by
 rw [tc_f (F:=F27) (by kernel_rfl)]
 have key:EndsT (C27 (tc d) tlo (Zag H) (.row c .set n (xs.map tN),.row c' .set m (ys.map tN),Zao,Zao,Zao,Zao,Zao,()) H) fun e S H1=>e=.ret∧S.2.2.1=tB (eqL Nat.beq xs ys)∧H1=H:=by
  simp only [C27,VV,Zat (xs.map tN),Zat (ys.map tN),List.length_map]
  by_cases hl:xs.length=ys.length
  ·have he:Zca (.ofNat xs.length) (.ofNat ys.length)=true:=beqt hl
   simp only [VV,he,Bool.not_true]
   refine EndsT.rng (k:=xs.length) (fun k S H1=>∃ j,S.1=.row c .set n (xs.map tN)∧S.2.1=.row c' .set m (ys.map tN)∧S.2.2.2.1=tN j∧H1=H∧j≤xs.length∧k=xs.length - j∧eqL Nat.beq xs ys=eqL Nat.beq (xs.drop j) (ys.drop j))
    (fun S H1=>H1=H∧eqL Nat.beq xs ys=true) (fun S H1=>S.2.2.1=tB (eqL Nat.beq xs ys)∧H1=H) ?_ (by rw [Zdl];omega) ⟨0,rfl,rfl,rfl,rfl,Nat.zero_le _,rfl,rfl⟩ ?_ ?_
   ·rintro k S H1 ⟨j,g0,g1,g3,rfl,hj,rfl,hgo⟩
    rcases Nat.eq_or_lt_of_le hj with hj |hj
    ·rw [List.drop_eq_nil_of_le (Nat.le_of_eq hj.symm),List.drop_eq_nil_of_le (by omega)] at hgo
     simp only [VV,g0,g1,g3,Zat (xs.map tN),List.length_map,Zcg,blt_f (Nat.le_of_eq hj.symm)]
     exact .fin (.inr (.inl ⟨rfl,rfl,hgo⟩))
    ·have hj2:j < ys.length:=by omega
     have hn1:=hn (by intro h;rw [h] at hj;simp at hj)
     have hm1:=hm (by intro h;rw [h] at hj2;simp at hj2)
     subst hn1
     subst hm1
     rw [List.drop_eq_getElem_cons hj,List.drop_eq_getElem_cons hj2] at hgo
     have hgo:eqL Nat.beq xs ys=cond (Nat.beq xs[j] ys[j]) (eqL Nat.beq (xs.drop (j+1)) (ys.drop (j+1))) false:=hgo
     have e1:(xs.map tN)[j]? = some (tN xs[j]):=by rw [List.getElem?_map,List.getElem?_eq_getElem hj];rfl
     have e2:(ys.map tN)[j]? = some (tN ys[j]):=by rw [List.getElem?_map,List.getElem?_eq_getElem hj2];rfl
     have hi:Zca (.ofNat xs[j]) (.ofNat ys[j])=Nat.beq xs[j] ys[j]:=rfl
     have a1:Zbe (.int .i64 (.ofNat j)) (.int .i64 (.ofNat 1))=some (.int .i64 (.ofNat (j+1))):=add_n (by omega)
     simp only [VV,g0,g1,g3,Zat (xs.map tN),List.length_map,Zcg,blt_t hj,Zbv e1,Zbv e2,load_el (cs:=Zav (tN xs[j])) (off:=0) rfl,load_el (cs:=Zav (tN ys[j])) (off:=0) rfl,hi,a1]
     cases hb:Nat.beq xs[j] ys[j] with
     |true=>
      rw [hb] at hgo
      simp only [VV,Bool.not_true,a1]
      exact .fin (.inl ⟨rfl,xs.length - (j+1),by omega,j+1,rfl,rfl,rfl,rfl,hj,rfl,hgo⟩)
     |false=>
      rw [hb] at hgo
      simp only [VV,Bool.not_false]
      exact .fin (.inr (.inr ⟨rfl,congrArg tB hgo.symm,rfl⟩))
   ·rintro S H1 ⟨rfl,h⟩
    simp only [VV]
    exact .fin ⟨rfl,congrArg tB h.symm,rfl⟩
   ·rintro S H1 ⟨h1,rfl⟩
    exact ⟨rfl,h1,rfl⟩
  ·have he:Zca (.ofNat xs.length) (.ofNat ys.length)=false:=beqf hl
   simp only [VV,he,Bool.not_false]
   exact .fin ⟨rfl,congrArg tB (eqL_len _ _ _ hl).symm,rfl⟩
 obtain ⟨e,S,H1,h1,rfl,h2,rfl⟩:=key
 show Zaa (C27 (tc d) tlo (Zag H1) (.row c .set n (xs.map tN),.row c' .set m (ys.map tN),Zao,Zao,Zao,Zao,Zao,()) H1) _=_
 rw [h1]
 simp only [bz_some,resE_r,h2,fin_one resOk_v Zdq,Zde]
def beqQ (p q:Nat×Nat):Bool:=cond (Nat.beq p.1 q.1) (Nat.beq p.2 q.2) false
theorem alike_run (d tlo:Nat) {n m:Nat} {c c':Cp} {xs ys:List (Nat×Nat)} {H:TH} (hn:xs≠[]→n=2) (hm:ys≠[]→m=2) (hlen:xs.length < 90000) :
  tc (d+1) tlo 20 [.row c .set n (xs.map tQ),.row c' .set m (ys.map tQ)] H=some (tB (eqL beqQ xs ys),H):=by
 rw [tc_f (F:=F20) (by kernel_rfl)]
 have key:EndsT (C20 (tc d) tlo (Zag H) (.row c .set n (xs.map tQ),.row c' .set m (ys.map tQ),Zao,Zao,Zao,Zao,Zao,()) H) fun e S H1=>e=.ret∧S.2.2.1=tB (eqL beqQ xs ys)∧H1=H:=by
  simp only [C20,VV,Zat (xs.map tQ),Zat (ys.map tQ),List.length_map]
  by_cases hl:xs.length=ys.length
  ·have he:Zca (.ofNat xs.length) (.ofNat ys.length)=true:=beqt hl
   simp only [VV,he,Bool.not_true]
   refine EndsT.rng (k:=xs.length) (fun k S H1=>∃ j,S.1=.row c .set n (xs.map tQ)∧S.2.1=.row c' .set m (ys.map tQ)∧S.2.2.2.1=tN j∧H1=H∧j≤xs.length∧k=xs.length - j∧eqL beqQ xs ys=eqL beqQ (xs.drop j) (ys.drop j))
    (fun S H1=>H1=H∧eqL beqQ xs ys=true) (fun S H1=>S.2.2.1=tB (eqL beqQ xs ys)∧H1=H) ?_ (by rw [Zdl];omega) ⟨0,rfl,rfl,rfl,rfl,Nat.zero_le _,rfl,rfl⟩ ?_ ?_
   ·rintro k S H1 ⟨j,g0,g1,g3,rfl,hj,rfl,hgo⟩
    rcases Nat.eq_or_lt_of_le hj with hj |hj
    ·rw [List.drop_eq_nil_of_le (Nat.le_of_eq hj.symm),List.drop_eq_nil_of_le (by omega)] at hgo
     simp only [VV,g0,g1,g3,Zat (xs.map tQ),List.length_map,Zcg,blt_f (Nat.le_of_eq hj.symm)]
     exact .fin (.inr (.inl ⟨rfl,rfl,hgo⟩))
    ·have hj2:j < ys.length:=by omega
     have hn1:=hn (by intro h;rw [h] at hj;simp at hj)
     have hm1:=hm (by intro h;rw [h] at hj2;simp at hj2)
     subst hn1
     subst hm1
     rw [List.drop_eq_getElem_cons hj,List.drop_eq_getElem_cons hj2] at hgo
     have hgo:eqL beqQ xs ys=cond (beqQ xs[j] ys[j]) (eqL beqQ (xs.drop (j+1)) (ys.drop (j+1))) false:=hgo
     have e1:(xs.map tQ)[j]? = some (tQ xs[j]):=by rw [List.getElem?_map,List.getElem?_eq_getElem hj];rfl
     have e2:(ys.map tQ)[j]? = some (tQ ys[j]):=by rw [List.getElem?_map,List.getElem?_eq_getElem hj2];rfl
     have hi:(Zca (.ofNat xs[j].1) (.ofNat ys[j].1) && (Zca (.ofNat xs[j].2) (.ofNat ys[j].2) && true))=beqQ xs[j] ys[j]:=by
      show (Nat.beq xs[j].1 ys[j].1 && (Nat.beq xs[j].2 ys[j].2 && true))=cond (Nat.beq xs[j].1 ys[j].1) (Nat.beq xs[j].2 ys[j].2) false
      cases Nat.beq xs[j].1 ys[j].1 <;> cases Nat.beq xs[j].2 ys[j].2 <;> rfl
     have a1:Zbe (.int .i64 (.ofNat j)) (.int .i64 (.ofNat 1))=some (.int .i64 (.ofNat (j+1))):=add_n (by omega)
     simp only [VV,g0,g1,g3,Zat (xs.map tQ),List.length_map,Zcg,blt_t hj,Zbv e1,Zbv e2,hi,a1]
     cases hb:beqQ xs[j] ys[j] with
     |true=>
      rw [hb] at hgo
      simp only [VV,Bool.not_true,a1]
      exact .fin (.inl ⟨rfl,xs.length - (j+1),by omega,j+1,rfl,rfl,rfl,rfl,hj,rfl,hgo⟩)
     |false=>
      rw [hb] at hgo
      simp only [VV,Bool.not_false]
      exact .fin (.inr (.inr ⟨rfl,congrArg tB hgo.symm,rfl⟩))
   ·rintro S H1 ⟨rfl,h⟩
    simp only [VV]
    exact .fin ⟨rfl,congrArg tB h.symm,rfl⟩
   ·rintro S H1 ⟨h1,rfl⟩
    exact ⟨rfl,h1,rfl⟩
  ·have he:Zca (.ofNat xs.length) (.ofNat ys.length)=false:=beqf hl
   simp only [VV,he,Bool.not_false]
   exact .fin ⟨rfl,congrArg tB (eqL_len _ _ _ hl).symm,rfl⟩
 obtain ⟨e,S,H1,h1,rfl,h2,rfl⟩:=key
 show Zaa (C20 (tc d) tlo (Zag H1) (.row c .set n (xs.map tQ),.row c' .set m (ys.map tQ),Zao,Zao,Zao,Zao,Zao,()) H1) _=_
 rw [h1]
 simp only [bz_some,resE_r,h2,fin_one resOk_v Zdq,Zde]
end
end Go.Proofs.YtgemobbfikjmoaaGreatDoor
namespace Go.Proofs.YtgemobbfikjmoaaGreatDoor
open Go Go.Ev
set_option maxRecDepth 100000
noncomputable section
theorem fullM_lt {w h:Nat} {sp:List Nat} (ok:SlabOk w h sp):Zda w h sp < 65536:=by
 have:2 ^ (w * h)≤2 ^ 16:=Nat.pow_le_pow_right (by decide) ok.n16
 have p1:0 < 2 ^ (w * h):=Nat.pow_pos (by decide)
 refine goodM_lt _ _ ?_
 show 2 ^ (w * h) - 1 < 65536
 have:(2:Nat) ^ 16=65536:=rfl
 omega
theorem store_plate {tlo base w h g:Nat} {near:List Nat} {A:TH} (hn:near.length=16) (ht:tlo≤Zag A) (hb:base≤Zag A):Zas tlo base 19 (Zaq A (.cells Zdb)) (.ptr (Zag A) 0) (.agg (plT w h g near))=some (Zaq A (.cells (plT w h g near))):=by
 have hl:(plT w h g near).length=19:=by rw [plT_len,hn]
 rw [Zcf (off:=0) (n:=19) (x:=.agg (plT w h g near)) Zbh ht (plT_stor ..) (.inr hb) (by rw [Zdr,hl]) (by decide),Zdr,over_all (by rw [hl];rfl),push_set]
theorem most_tree (d:Nat) {w h g free n:Nat} {near:List Nat} {H:TH} (hw:1≤w) (hnl:near.length=16) (hnear:∀ x∈near,x < 65536) (hfree:free < 65536) (hmost:mostF near w free=some n) :
  Zah (tc (d+21)) 95 [.agg (plT w h g near),tU free] H=some (tN n):=
 Zdo (ws:=[.agg (plT w h g near),tU free]) (H':=[]) (a:=false) (ins_plate rfl) (act_plate rfl) (most_run d 0 hw hnl hnear hfree (Nat.zero_le _) hmost) outR_v
abbrev nearO (w h:Nat) (sp:List Nat):List Nat:=nearN w (Zda w h sp) (w * h)
section
variable {w h n:Nat} {c:Cp} {sp:List Nat}
theorem Most_run (d tlo:Nat) {m:Nat} {H:TH} (ok:SlabOk w h sp) (hn:sp≠[]→n=1) (htl:tlo≤Zag H) (hmost:mostF (nearO w h sp) w (Zda w h sp)=some m) :
  tc (d+22) tlo 16 [tS w h c n sp] H=some (.tup [tN m,tN 0],H):=by
 rw [tc_f (F:=F16) (by kernel_rfl)]
 obtain ⟨A,hA⟩:∃ B,B=Zaq H (.cells [tN w,tN h,.row c .set n (sp.map tN)]):=⟨_,rfl⟩
 obtain ⟨gd,hgd⟩:∃ gd,gd=Zda w h sp:=⟨_,rfl⟩
 have hg16:gd < 65536:=by rw [hgd];exact fullM_lt ok
 obtain ⟨near,hnear⟩:∃ near,near=nearO w h sp:=⟨_,rfl⟩
 have hnl:near.length=16:=by rw [hnear];exact nearN_len ..
 have hnlt:∀ x∈near,x < 65536:=by rw [hnear];exact nearN_lt _ _ _ ok.n16
 rw [← hnear,← hgd] at hmost
 have hpt:plateT w h sp=plT w h gd near:=by rw [hnear,hgd];rfl
 obtain ⟨B,hB⟩:∃ B,B=Zaq A (.cells (plT w h gd near)):=⟨_,rfl⟩
 have nA:Zag A=Zag H+1:=by rw [hA];exact Zbp
 have kA:A[Zag H]? = some (.cells [tN w,tN h,.row c .set n (sp.map tN)]):=by rw [hA];exact Zbh
 have kB:B[Zag A]? = some (.cells (plT w h gd near)):=by rw [hB];exact Zbh
 have tB':Zdg B (Zag H)=H:=by rw [hB];refine take_more ?_ (by omega);rw [hA];exact take_push
 have hst:stor (tS w h c n sp)=true:=by cases c <;> rfl
 have lA:∀ {β:Type} (k:TV→TH→Option β),Zbg .lend tlo (Zag H) true 3 A (.ptr (Zag H) 0) k=k (tS w h c n sp) A:=fun k=>Zcw kA (by simp) rfl
 have lB:∀ {β:Type} (k:TV→TH→Option β),Zbg .lend tlo (Zag H) true 19 B (.ptr (Zag A) 0) k=k (.agg (plT w h gd near)) B:=fun k=>load_plate kB hnl
 have lg:∀ {β:Type} (k:TV→TH→Option β),Zbg .lend tlo (Zag H) false 1 B (.ptr (Zag A) (0+2)) k=k (tU gd) B:=fun k=>Zbf kB (plT_g ..) rfl rfl
 have st:Zas tlo (Zag H) 19 (Zaq A (.cells Zdb)) (.ptr (Zag A) 0) (.agg (plT w h gd near))=some B:=by rw [hB];exact store_plate hnl (by omega) (by omega)
 have hld:∀ H,Zah (tc (d+21)) 94 [tS w h c n sp] H=some (.tup [.agg (plT w h gd near),tN 0]):=fun H=>by rw [← hpt];exact laid_tree (d+19) ok hn
 have hm:∀ H,Zah (tc (d+21)) 95 [.agg (plT w h gd near),tU gd] H=some (tN m):=fun H=>most_tree d ok.w1 hnl hnlt hg16 hmost
 show Zaa (C16 (tc (d+21)) tlo (Zag H) (tS w h c n sp,Zao,Zao,Zao,Zao,Zao,Zao,()) H) _=_
 simp only [C16,VV,← hA,lA,hld,Zdi,st,show Zca (.ofNat 0) (.ofNat 0)=true from rfl,Bool.not_true,lB,lg,hm]
 rw [Zbm rfl,tB']
end
end
end Go.Proofs.YtgemobbfikjmoaaGreatDoor
namespace Go.Proofs.YtgemobbfikjmoaaGreatDoor
open Go Go.Ev
set_option maxRecDepth 100000
noncomputable section
def barG (near:List Nat) (w:Nat):List Nat→Nat→List Nat→Option (List Nat)
 |[],_,out=>some out
 |c::cs,free,out=>match mostF near w (dif free (2 ^ c)) with
  |none=>none
  |some a=>match mostF near w free with
   |none=>none
   |some b=>cond (Nat.blt a b) (barG near w cs (dif free (2 ^ c)) (out++[c])) (barG near w cs free out)
theorem dif_lt {a b:Nat} (h:a < 65536):dif a b < 65536:=Nat.lt_of_le_of_lt Nat.and_le_left h
theorem app_I {β:Type} {tlo:Nat} {H:TH} {pre:List Nat} {x:Nat} (h:pre.length < 80000) (k:TV→TH→Option β) :
  Zcm tlo H 3 1 8 (Zcr 3 1 (pre.map tN)) (.row .full (.own 3) 1 [tN x]) k=k (Zcr 3 1 ((pre++[x]).map tN)) H:=by
 rw [append_one (room8 (by rw [List.length_map];omega)),List.map_append];rfl
section
variable {w h n:Nat} {c:Cp} {sp:List Nat}
theorem Bar_run (d tlo:Nat) {bar:List Nat} {H:TH} (ok:SlabOk w h sp) (hn:sp≠[]→n=1) (htl:tlo≤Zag H) (hbar:barG (nearO w h sp) w (Zdh (Zda w h sp)) (Zda w h sp) []=some bar) :
  tc (d+22) tlo 28 [tS w h c n sp] H=some (.tup [Zcr 3 1 (bar.map tN),tN 0],H):=by
 rw [tc_f (F:=F28) (by kernel_rfl)]
 obtain ⟨A,hA⟩:∃ B,B=Zaq H (.cells [tN w,tN h,.row c .set n (sp.map tN)]):=⟨_,rfl⟩
 obtain ⟨gd,hgd⟩:∃ gd,gd=Zda w h sp:=⟨_,rfl⟩
 have hg16:gd < 65536:=by rw [hgd];exact fullM_lt ok
 obtain ⟨near,hnear⟩:∃ near,near=nearO w h sp:=⟨_,rfl⟩
 have hnl:near.length=16:=by rw [hnear];exact nearN_len ..
 have hnlt:∀ x∈near,x < 65536:=by rw [hnear];exact nearN_lt _ _ _ ok.n16
 obtain ⟨l,hl⟩:∃ l,l=Zdh gd:=⟨_,rfl⟩
 rw [← hnear,← hgd,← hl] at hbar
 have hl16:∀ x∈l,x < 16:=fun x hx=>bits_lt _ hg16 x (hl ▸ hx)
 have hll:l.length < 80000:=by rw [hl];exact Nat.lt_of_le_of_lt (ev_bits_length _) (by decide)
 have hpt:plateT w h sp=plT w h gd near:=by rw [hnear,hgd];rfl
 obtain ⟨B,hB⟩:∃ B,B=Zaq A (.cells (plT w h gd near)):=⟨_,rfl⟩
 have nA:Zag A=Zag H+1:=by rw [hA];exact Zbp
 have kA:A[Zag H]? = some (.cells [tN w,tN h,.row c .set n (sp.map tN)]):=by rw [hA];exact Zbh
 have kB:B[Zag A]? = some (.cells (plT w h gd near)):=by rw [hB];exact Zbh
 have tB':Zdg B (Zag H)=H:=by rw [hB];refine take_more ?_ (by omega);rw [hA];exact take_push
 have hst:stor (tS w h c n sp)=true:=by cases c <;> rfl
 have lA:∀ {β:Type} (k:TV→TH→Option β),Zbg .lend tlo (Zag H) true 3 A (.ptr (Zag H) 0) k=k (tS w h c n sp) A:=fun k=>Zcw kA (by simp) rfl
 have lB:∀ {β:Type} (k:TV→TH→Option β),Zbg .lend tlo (Zag H) true 19 B (.ptr (Zag A) 0) k=k (.agg (plT w h gd near)) B:=fun k=>load_plate kB hnl
 have lg:∀ {β:Type} (md:Ld) (k:TV→TH→Option β),Zbg md tlo (Zag H) false 1 B (.ptr (Zag A) (0+2)) k=k (tU gd) B:=fun md k=>Zbf kB (plT_g ..) rfl rfl
 have st:Zas tlo (Zag H) 19 (Zaq A (.cells Zdb)) (.ptr (Zag A) 0) (.agg (plT w h gd near))=some B:=by rw [hB];exact store_plate hnl (by omega) (by omega)
 have hld:∀ H,Zah (tc (d+21)) 94 [tS w h c n sp] H=some (.tup [.agg (plT w h gd near),tN 0]):=fun H=>by rw [← hpt];exact laid_tree (d+19) ok hn
 have hm:∀ {free m:Nat} (_:free < 65536) (_:mostF near w free=some m) (H:TH),Zah (tc (d+21)) 95 [.agg (plT w h gd near),tU free] H=some (tN m):=fun hf hm H=>most_tree d ok.w1 hnl hnlt hf hm
 have hlist:∀ H,Zah (tc (d+21)) 100 [tU gd] H=some (Zcr 3 1 (l.map tN)):=fun H=>by rw [hl];exact list_tree (d+18) (by omega)
 have key:EndsT (C28 (tc (d+21)) tlo (Zag H) (tS w h c n sp,Zao,Zao,Zao,Zao,Zao,Zao,Zao,Zao,Zao,Zao,Zao,Zao,Zao,Zao,()) H) fun e S H1=>e=.ret∧S.2.2.1=Zcr 3 1 (bar.map tN)∧S.2.2.2.1=tN 0∧Zdg H1 (Zag H)=H:=by
  simp only [C28,VV,← hA,lA,hld,Zdi,st,show Zca (.ofNat 0) (.ofNat 0)=true from rfl,Bool.not_true,lg,hlist]
  refine EndsT.rng (k:=l.length) (fun k S H1=>∃ j free out,S.2.2.2.2.1=.ptr (Zag A) 0∧S.2.2.2.2.2.2.1=Zcr 3 1 (out.map tN)∧S.2.2.2.2.2.2.2.1=tU free∧S.2.2.2.2.2.2.2.2.2.2.1=Zcr 3 1 (l.map tN)∧S.2.2.2.2.2.2.2.2.2.2.2.1=tN l.length∧S.2.2.2.2.2.2.2.2.2.2.2.2.1=tN j∧H1=B∧free < 65536∧j≤l.length∧out.length≤j∧k=l.length - j∧barG near w (l.drop j) free out=some bar)
   (fun S H1=>S.2.2.2.2.2.2.1=Zcr 3 1 (bar.map tN)∧H1=B) (fun _ _=>False) ?_ (by rw [Zdl];omega)
   ⟨0,gd,[],rfl,rfl,rfl,rfl,by show tN (Zag (l.map tN))=tN l.length;rw [Zat (l.map tN),List.length_map],rfl,rfl,hg16,Nat.zero_le _,Nat.le_refl _,rfl,hbar⟩ ?_ (fun _ _ h=>h.elim)
  ·rintro k S H1 ⟨j,free,out,g4,g6,g7,g10,g11,g12,rfl,hfree,hj,hout,rfl,hgo⟩
   rcases Nat.eq_or_lt_of_le hj with hj |hj
   ·rw [hj,List.drop_length] at hgo
    have hgo:some out=some bar:=hgo
    cases hgo
    simp only [VV,g4,g6,g7,g10,g11,g12,Zcg,blt_f (Nat.le_of_eq hj.symm)]
    exact .fin (.inr (.inl ⟨rfl,rfl,rfl⟩))
   ·obtain ⟨x,hx⟩:∃ x,x=l[j]:=⟨_,rfl⟩
    have hx16:x < 16:=by rw [hx];exact hl16 _ (List.getElem_mem hj)
    have hel:(l.map tN)[j]? = some (tN x):=by rw [List.getElem?_map,List.getElem?_eq_getElem hj,hx];rfl
    have hro:Zcr 3 1 (l.map tN)=.row .opn (.own 3) 1 (l.map tN):=by
     cases hx:l.map tN with
     |nil=>rw [hx] at hel;cases hel
     |cons=>rfl
    rw [List.drop_eq_getElem_cons hj,← hx] at hgo
    have hgo:(match mostF near w (dif free (2 ^ x)) with
     |none=>none
     |some a=>match mostF near w free with
      |none=>none
      |some b=>cond (Nat.blt a b) (barG near w (l.drop (j+1)) (dif free (2 ^ x)) (out++[x])) (barG near w (l.drop (j+1)) free out))=some bar:=hgo
    have p1:=p16 hx16
    have z1:evShl (.int .u64 (.ofNat 1)) (.int .i64 (.ofNat x))=some (.int .u64 (.ofNat (2 ^ x))):=by rw [shl_u (by omega) (by rw [Nat.one_mul];omega),Nat.one_mul]
    have z2:Zdd (.int .u64 (.ofNat free)) (.int .u64 (.ofNat (2 ^ x)))=some (.int .u64 (.ofNat (dif free (2 ^ x)))):=andnot_u (by omega) (by omega)
    have a3:Zbe (.int .i64 (.ofNat j)) (.int .i64 (.ofNat 1))=some (.int .i64 (.ofNat (j+1))):=add_n (by omega)
    cases h1:mostF near w (dif free (2 ^ x)) with
    |none=>rw [h1] at hgo;cases hgo
    |some a=>
     rw [h1] at hgo
     cases h2:mostF near w free with
     |none=>rw [h2] at hgo;cases hgo
     |some b=>
      rw [h2] at hgo
      have hgo:cond (Nat.blt a b) (barG near w (l.drop (j+1)) (dif free (2 ^ x)) (out++[x])) (barG near w (l.drop (j+1)) free out)=some bar:=hgo
      have m1:=hm (dif_lt hfree) h1
      have m2:=hm hfree h2
      cases hb:Nat.blt a b with
      |true=>
       rw [hb] at hgo
       have happ:∀ {β:Type} {H:TH} (k:TV→TH→Option β),Zcm tlo H 3 1 8 (Zcr 3 1 (out.map tN)) (.row .full (.own 3) 1 [tN x]) k=k (Zcr 3 1 ((out++[x]).map tN)) H:=fun k=>app_I (by omega) k
       simp only [VV,g4,g6,g7,g10,g11,g12,Zcg,blt_t hj,hro,Zbv hel,load_el (cs:=Zav (tN x)) (off:=0) rfl,lB,Zdi,z1,z2,m1,m2,hb,show ∀ x:Nat,Zcx 1 [0] [tN x] (repG [tN 0] 1)=some [tN x] from fun x=>rfl,happ,a3]
       exact .fin (.inl ⟨rfl,l.length - (j+1),by omega,j+1,_,_,rfl,rfl,rfl,rfl,rfl,rfl,rfl,dif_lt hfree,hj,by rw [List.length_append];show out.length+1≤j+1;omega,rfl,hgo⟩)
      |false=>
       rw [hb] at hgo
       simp only [VV,g4,g6,g7,g10,g11,g12,Zcg,blt_t hj,hro,Zbv hel,load_el (cs:=Zav (tN x)) (off:=0) rfl,lB,Zdi,z1,z2,m1,m2,hb,a3]
       exact .fin (.inl ⟨rfl,l.length - (j+1),by omega,j+1,_,_,rfl,rfl,rfl,rfl,rfl,rfl,rfl,hfree,hj,by omega,rfl,hgo⟩)
  ·rintro S H1 ⟨h1,rfl⟩
   simp only [VV,h1]
   exact .fin ⟨rfl,rfl,rfl,tB'⟩
 obtain ⟨e,S,H1,h1,rfl,h2,h3,h4⟩:=key
 show Zaa (C28 (tc (d+21)) tlo (Zag H) (tS w h c n sp,Zao,Zao,Zao,Zao,Zao,Zao,Zao,Zao,Zao,Zao,Zao,Zao,Zao,Zao,()) H) _=_
 rw [h1]
 have hlo:loose (.tup [Zcr 3 1 (bar.map tN),tN 0])=true:=by cases bar <;> rfl
 simp only [bz_some,resE_r,h2,h3,allG_cons,allG_nil,resOk_v,resOk_O,cond_t,nd_true]
 rw [Zbm hlo,h4]
end
end
end Go.Proofs.YtgemobbfikjmoaaGreatDoor
namespace Go.Ev
noncomputable section
theorem EndsT.rngB {σ:Type} {f:Zaz σ} {id1 id2 fuel k:Nat} {S:σ} {H:TH} {Q:Ex→σ→TH→Prop} (hne:Nat.beq id1 id2=false) (I:Nat→σ→TH→Prop) (X Y:σ→TH→Prop)
  (hstep:∀ k S H,I k S H→EndsT (f S H) fun e S' H'=>(e=.normal∧∃ k',k' < k∧I k' S' H')∨(e=.exit id2∧X S' H')∨(e=.exit id1∧Y S' H'))
  (hk:k < fuel) (h0:I k S H) (hx:∀ S H,X S H→Q .normal S H) (hy:∀ S H,Y S H→Q .normal S H):EndsT (blR id1 (blR id2 (Zdn f fuel S H))) Q:=by
 have h:=EndsT.loop (Q:=fun e S H=>(e=.exit id2∧X S H)∨(e=.exit id1∧Y S H)) I (fun k S H hi=>(hstep k S H hi).mono fun e S' H' hq=>by
  rcases hq with ⟨a,b⟩ |⟨a,b⟩ |⟨a,b⟩
  ·exact .inl ⟨a,b⟩
  ·exact .inr ⟨by rw [a];simp,.inl ⟨a,b⟩⟩
  ·exact .inr ⟨by rw [a];simp,.inr ⟨a,b⟩⟩) fuel k S H hk h0
 obtain ⟨e,S1,H1,h1,h2⟩:=h
 rw [h1]
 rcases h2 with ⟨rfl,h2⟩ |⟨rfl,h2⟩
 ·rw [blR_e,Nat.beq_refl]
  exact ⟨_,_,_,rfl,hx _ _ h2⟩
 ·rw [blR_e,hne]
  show EndsT (blR id1 (some (.exit id1,S1,H1))) Q
  rw [blR_e,Nat.beq_refl]
  exact ⟨_,_,_,rfl,hy _ _ h2⟩
end
end Go.Ev
namespace Go.Proofs.YtgemobbfikjmoaaGreatDoor
open Go Go.Ev
set_option maxRecDepth 100000
noncomputable section
def seekF (near:List Nat) (w free left:Nat):List Nat→Option (Option Nat)
 |[]=>some none
 |d::ds=>match mostF near w (dif free (2 ^ d)) with
  |none=>none
  |some m=>cond (Nat.beq (m+1) left) (some (some d)) (seekF near w free left ds)
def firstG (near:List Nat) (w:Nat):Nat→Nat→Nat→List (Nat×Nat)→Option (List (Nat×Nat))
 |0,_,_,_=>none
 |f+1,free,left,out=>cond (Nat.beq free 0) (some out)
   (match seekF near w (dif free (2 ^ low 64 free)) left (Zdh (Nat.land (near[low 64 free]?.getD 0) (dif free (2 ^ low 64 free)))) with
   |none=>none
   |some none=>firstG near w f (dif free (2 ^ low 64 free)) left out
   |some (some d)=>firstG near w f (dif (dif free (2 ^ low 64 free)) (2 ^ d)) (left - 1) (out++[(low 64 free,d)]))
def firstF (near:List Nat) (w free:Nat):Option (List (Nat×Nat)):=match mostF near w free with
 |none=>none
 |some m=>firstG near w 20 free m []
theorem low_mem {s:Nat} (h:s≠0) (hs:s < 65536):low 64 s < 16:=by
 have:=ev_bits_low h (show s < 2 ^ 64 by omega)
 exact bits_lt s hs _ (by rw [this];exact List.mem_cons_self ..)
theorem subN1 {left m:Nat} (hl:left < 90000):∃ z,Zcl (.int .i64 (.ofNat left)) (.int .i64 (.ofNat 1))=some (.int .i64 z)∧Zca (.ofNat m) z=Nat.beq (m+1) left∧(1≤left→z=.ofNat (left - 1)):=by
 cases left with
 |zero=>exact ⟨.negSucc 0,rfl,rfl,fun h=>absurd h (by omega)⟩
 |succ l=>exact ⟨.ofNat l,by rw [sub_n (by omega) (by omega)];rfl,by show Nat.beq m l=Nat.beq (m+1) (l+1);rfl,fun _=>rfl⟩
theorem mostG_le' {near:List Nat} {free w:Nat}:∀ (l:List Nat) {n m:Nat} {mt:List Nat},mostG near free w l n mt=some m→m≤n+l.length
 |[],n,m,mt,h=>by
  have h:some n=some m:=h
  cases h;exact Nat.le_refl _
 |c::l,n,m,mt,h=>by
  have h:cond (lightB w c) (mostG near free w l n mt) (match tryF near free 17 c 0 mt with
   |none=>none
   |some (true,_,m2)=>mostG near free w l (n+1) m2
   |some (false,_,m2)=>mostG near free w l n m2)=some m:=h
  show m≤n+(l.length+1)
  cases hl:lightB w c with
  |true=>rw [hl] at h;have:=mostG_le' l h;omega
  |false=>
   rw [hl] at h
   cases hr:tryF near free 17 c 0 mt with
   |none=>rw [hr] at h;cases h
   |some r=>
    obtain ⟨q,s,m2⟩:=r
    rw [hr] at h
    cases q with
    |true=>have:=mostG_le' l (show mostG near free w l (n+1) m2=some m from h);omega
    |false=>have:=mostG_le' l (show mostG near free w l n m2=some m from h);omega
theorem mostG_le {near:List Nat} {w free m:Nat} (h:mostF near w free=some m):m≤64:=by
 have:=mostG_le' _ h
 have:=ev_bits_length free
 omega
theorem first_run (d tlo:Nat) {w h g free:Nat} {near:List Nat} {res:List (Nat×Nat)} {H:TH} (hw:1≤w) (hnl:near.length=16) (hnear:∀ x∈near,x < 65536) (hfree:free < 65536) (htl:tlo≤Zag H) (hfirst:firstF near w free=some res) :
  tc (d+22) tlo 97 [.agg (plT w h g near),tU free] H=some (Zcr 71 2 (res.map tQ),H):=by
 rw [tc_f (F:=F97) (by kernel_rfl)]
 obtain ⟨B,hB⟩:∃ B,B=Zaq H (.cells (plT w h g near)):=⟨_,rfl⟩
 have kB:B[Zag H]? = some (.cells (plT w h g near)):=by rw [hB];exact Zbh
 have tB':Zdg B (Zag H)=H:=by rw [hB];exact take_push
 have hs:Zbu storC (plT w h g near)=true:=plT_stor w h g near
 have lB:∀ {β:Type} (k:TV→TH→Option β),Zbg .lend tlo (Zag H) true 19 B (.ptr (Zag H) 0) k=k (.agg (plT w h g near)) B:=fun k=>load_plate kB hnl
 have hm:∀ {free m:Nat} (_:free < 65536) (_:mostF near w free=some m) (H:TH),Zah (tc (d+21)) 95 [.agg (plT w h g near),tU free] H=some (tN m):=fun hf hm H=>most_tree d hw hnl hnear hf hm
 have hlist:∀ {s:Nat} (_:s < 65536) (H:TH),Zah (tc (d+21)) 100 [tU s] H=some (Zcr 3 1 ((Zdh s).map tN)):=fun hs H=>list_tree (d+18) (by omega)
 have htz:∀ {s:Nat} (_:s≠0) (_:s < 65536) (H:TH),Zah (tc (d+21)) 156 [tU s] H=some (tN (low 64 s)):=fun h0 hs H=>tz_tree (d+19) h0 (by omega)
 unfold firstF at hfirst
 have key:EndsT (C97 (tc (d+21)) tlo (Zag H) (.agg (plT w h g near),tU free,Zao,Zao,Zao,Zao,Zao,Zao,Zao,Zao,Zao,Zao,Zao,Zao,()) H) fun e S H1=>e=.ret∧S.2.2.2.1=Zcr 71 2 (res.map tQ)∧Zdg H1 (Zag H)=H:=by
  cases hmost:mostF near w free with
  |none=>rw [hmost] at hfirst;cases hfirst
  |some left=>
   rw [hmost] at hfirst
   have hfirst:firstG near w 20 free left []=some res:=hfirst
   have hleft:left < 89000:=by
    have:=mostG_le hmost
    exact Nat.lt_of_le_of_lt this (by decide)
   simp only [C97,VV,hs,← hB,lB,Zdi,hm hfree hmost]
   refine EndsT.rng (k:=20) (fun k S H1=>∃ free left out,S.2.1=tU free∧S.2.2.1=.ptr (Zag H) 0∧S.2.2.2.2.1=Zcr 71 2 ((out:List (Nat×Nat)).map tQ)∧S.2.2.2.2.2.1=tN left∧H1=B∧free < 65536∧left < 89000∧out.length+k≤20∧firstG near w k free left out=some res)
    (fun S H1=>S.2.2.2.2.1=Zcr 71 2 (res.map tQ)∧H1=B) (fun _ _=>False) ?_ (by rw [Zdl];omega) ⟨free,left,[],rfl,rfl,rfl,rfl,rfl,hfree,hleft,by simp,hfirst⟩ ?_ (fun _ _ h=>h.elim)
   ·rintro k S H1 ⟨free,left,out,g1,g2,g4,g5,rfl,hfree,hleft,hout,hgo⟩
    cases k with
    |zero=>cases hgo
    |succ k=>
     by_cases hz:free=0
     ·subst hz
      have hgo:some out=some res:=hgo
      cases hgo
      simp only [VV,g1,g2,g4,g5,show Zca (.ofNat 0) (.ofNat 0)=true from rfl,Bool.not_true]
      exact .fin (.inr (.inl ⟨rfl,rfl,rfl⟩))
     ·have hz2:Zca (.ofNat free) (.ofNat 0)=false:=beqf hz
      obtain ⟨c,hc⟩:∃ c,c=low 64 free:=⟨_,rfl⟩
      have hc16:c < 16:=by rw [hc];exact low_mem hz hfree
      obtain ⟨fr,hfr⟩:∃ fr,fr=dif free (2 ^ c):=⟨_,rfl⟩
      have hfr16:fr < 65536:=by rw [hfr];exact dif_lt hfree
      obtain ⟨nc,hnc⟩:∃ nc,near[c]? = some nc:=⟨near[c],List.getElem?_eq_getElem (by omega)⟩
      have hnc':nc < 65536:=hnear nc (List.mem_of_getElem? hnc)
      have hland:Nat.land nc fr < 65536:=Nat.lt_of_le_of_lt Nat.and_le_left hnc'
      obtain ⟨l,hl⟩:∃ l,l=Zdh (Nat.land nc fr):=⟨_,rfl⟩
      have hl16:∀ x∈l,x < 16:=fun x hx=>bits_lt _ hland x (hl ▸ hx)
      have hll:l.length < 90000:=by rw [hl];exact Nat.lt_of_le_of_lt (ev_bits_length _) (by decide)
      have hgo:cond (Nat.beq free 0) (some out)
       (match seekF near w (dif free (2 ^ low 64 free)) left (Zdh (Nat.land (near[low 64 free]?.getD 0) (dif free (2 ^ low 64 free)))) with
       |none=>none
       |some none=>firstG near w k (dif free (2 ^ low 64 free)) left out
       |some (some d)=>firstG near w k (dif (dif free (2 ^ low 64 free)) (2 ^ d)) (left - 1) (out++[(low 64 free,d)]))=some res:=hgo
      rw [beqf hz,← hc,← hfr,hnc] at hgo
      have hgo:(match seekF near w fr left (Zdh (Nat.land nc fr)) with
       |none=>none
       |some none=>firstG near w k fr left out
       |some (some d)=>firstG near w k (dif fr (2 ^ d)) (left - 1) (out++[(c,d)]))=some res:=hgo
      rw [← hl] at hgo
      have p1:=p16 hc16
      have z1:evShl (.int .u64 (.ofNat 1)) (.int .i64 (.ofNat c))=some (.int .u64 (.ofNat (2 ^ c))):=by rw [shl_u (by omega) (by rw [Nat.one_mul];omega),Nat.one_mul]
      have z2:Zdd (.int .u64 (.ofNat free)) (.int .u64 (.ofNat (2 ^ c)))=some (.int .u64 (.ofNat fr)):=by rw [hfr];exact andnot_u (by omega) (by omega)
      have z3:evAnd (.int .u64 (.ofNat nc)) (.int .u64 (.ofNat fr))=some (.int .u64 (.ofNat (Nat.land nc fr))):=and_u (by omega) (by omega)
      have ln:∀ {β:Type} (k:TV→TH→Option β),Zbg .lend tlo (Zag H) false 1 H1 (.ptr (Zag H) (0+3+c * 1)) k=k (tU nc) H1:=fun k=>Zbf kB (plT_n hnc) rfl rfl
      have hi:Zbj 16 1 (.ptr (Zag H) (0+3)) (tN c)=some (.ptr (Zag H) (0+3+c * 1)):=idxArr_ptr hc16
      have htz':=htz hz hfree
      rw [← hc] at htz'
      have hlist':=hlist hland
      rw [← hl] at hlist'
      simp only [VV,g1,g2,g4,g5,hz2,Bool.not_false,htz',z1,z2,hi,ln,z3,hlist']
      refine EndsT.rngB (by rfl) (k:=l.length) (fun m S H2=>∃ j,S.2.1=tU fr∧S.2.2.1=.ptr (Zag H) 0∧S.2.2.2.2.1=Zcr 71 2 (out.map tQ)∧S.2.2.2.2.2.1=tN left∧S.2.2.2.2.2.2.1=tN c∧S.2.2.2.2.2.2.2.2.2.1=Zcr 3 1 (l.map tN)∧S.2.2.2.2.2.2.2.2.2.2.1=tN l.length∧S.2.2.2.2.2.2.2.2.2.2.2.1=tN j∧H2=H1∧j≤l.length∧m=l.length - j ∧
        (match seekF near w fr left (l.drop j) with
        |none=>none
        |some none=>firstG near w k fr left out
        |some (some d)=>firstG near w k (dif fr (2 ^ d)) (left - 1) (out++[(c,d)]))=some res)
       (fun S H2=>S.2.1=tU fr∧S.2.2.1=.ptr (Zag H) 0∧S.2.2.2.2.1=Zcr 71 2 (out.map tQ)∧S.2.2.2.2.2.1=tN left∧H2=H1∧firstG near w k fr left out=some res)
       (fun S H2=>∃ d,S.2.1=tU (dif fr (2 ^ d))∧S.2.2.1=.ptr (Zag H) 0∧S.2.2.2.2.1=Zcr 71 2 ((out++[(c,d)]).map tQ)∧S.2.2.2.2.2.1=tN (left - 1)∧H2=H1∧firstG near w k (dif fr (2 ^ d)) (left - 1) (out++[(c,d)])=some res) ?_ (by rw [Zdl];omega)
       ⟨0,rfl,rfl,rfl,rfl,rfl,rfl,by show tN (Zag (l.map tN))=tN l.length;rw [Zat (l.map tN),List.length_map],rfl,rfl,Nat.zero_le _,rfl,hgo⟩ ?_ ?_
      ·rintro m S H2 ⟨j,g1,g2,g4,g5,g6,g9,g10,g11,rfl,hj,rfl,hgo⟩
       rcases Nat.eq_or_lt_of_le hj with hj |hj
       ·rw [hj,List.drop_length] at hgo
        simp only [VV,g1,g2,g4,g5,g6,g9,g10,g11,Zcg,blt_f (Nat.le_of_eq hj.symm)]
        exact .fin (.inr (.inl ⟨rfl,rfl,rfl,rfl,rfl,rfl,hgo⟩))
       ·obtain ⟨x,hx⟩:∃ x,x=l[j]:=⟨_,rfl⟩
        have hx16:x < 16:=by rw [hx];exact hl16 _ (List.getElem_mem hj)
        have hel:(l.map tN)[j]? = some (tN x):=by rw [List.getElem?_map,List.getElem?_eq_getElem hj,hx];rfl
        have hro:Zcr 3 1 (l.map tN)=.row .opn (.own 3) 1 (l.map tN):=by
         cases hx:l.map tN with
         |nil=>rw [hx] at hel;cases hel
         |cons=>rfl
        rw [List.drop_eq_getElem_cons hj,← hx] at hgo
        have hsk:seekF near w fr left (x::l.drop (j+1))=(match mostF near w (dif fr (2 ^ x)) with
         |none=>none
         |some m=>cond (Nat.beq (m+1) left) (some (some x)) (seekF near w fr left (l.drop (j+1)))):=rfl
        rw [hsk] at hgo
        have q1:=p16 hx16
        have y1:evShl (.int .u64 (.ofNat 1)) (.int .i64 (.ofNat x))=some (.int .u64 (.ofNat (2 ^ x))):=by rw [shl_u (by omega) (by rw [Nat.one_mul];omega),Nat.one_mul]
        have y2:Zdd (.int .u64 (.ofNat fr)) (.int .u64 (.ofNat (2 ^ x)))=some (.int .u64 (.ofNat (dif fr (2 ^ x)))):=andnot_u (by omega) (by omega)
        have a3:Zbe (.int .i64 (.ofNat j)) (.int .i64 (.ofNat 1))=some (.int .i64 (.ofNat (j+1))):=add_n (by omega)
        have lB2:∀ {β:Type} (k:TV→TH→Option β),Zbg .lend tlo (Zag H) true 19 H2 (.ptr (Zag H) 0) k=k (.agg (plT w h g near)) H2:=fun k=>load_plate kB hnl
        cases h1:mostF near w (dif fr (2 ^ x)) with
        |none=>rw [h1] at hgo;cases hgo
        |some m=>
         rw [h1] at hgo
         have m1:=hm (dif_lt hfr16) h1
         have hgo:(match cond (Nat.beq (m+1) left) (some (some x)) (seekF near w fr left (l.drop (j+1))) with
          |none=>none
          |some none=>firstG near w k fr left out
          |some (some d)=>firstG near w k (dif fr (2 ^ d)) (left - 1) (out++[(c,d)]))=some res:=hgo
         obtain ⟨z,s1,s2,s3⟩:=subN1 (m:=m) (show left < 90000 by omega)
         cases hb:Nat.beq (m+1) left with
         |true=>
          rw [hb] at hgo
          rw [hb] at s2
          have hgo:firstG near w k (dif fr (2 ^ x)) (left - 1) (out++[(c,x)])=some res:=hgo
          have hl1:1≤left:=by have:=Nat.eq_of_beq_eq_true hb;omega
          have s3:=s3 hl1
          subst s3
          have hag:aggT [(0,1,tN c),(1,1,tN x)] zc71=some (tQ (c,x)):=rfl
          have hel1:Zcx 2 [0] [tQ (c,x)] (repG [.agg zc71] 1)=some [tQ (c,x)]:=rfl
          have happ:∀ {β:Type} {H:TH} (k:TV→TH→Option β),Zcm tlo H 71 2 16 (Zcr 71 2 (out.map tQ)) (.row .full (.own 71) 2 [tQ (c,x)]) k=k (Zcr 71 2 ((out++[(c,x)]).map tQ)) H:=fun k=>app_Q (by omega) k
          simp only [VV,g1,g2,g4,g5,g6,g9,g10,g11,Zcg,blt_t hj,hro,Zbv hel,load_el (cs:=Zav (tN x)) (off:=0) rfl,lB2,Zdi,y1,y2,m1,s1,s2,hag,hel1,happ]
          exact .fin (.inr (.inr ⟨rfl,x,rfl,rfl,rfl,rfl,rfl,hgo⟩))
         |false=>
          rw [hb] at hgo s2
          simp only [VV,g1,g2,g4,g5,g6,g9,g10,g11,Zcg,blt_t hj,hro,Zbv hel,load_el (cs:=Zav (tN x)) (off:=0) rfl,lB2,Zdi,y1,y2,m1,s1,s2,a3]
          exact .fin (.inl ⟨rfl,l.length - (j+1),by omega,j+1,rfl,rfl,rfl,rfl,rfl,rfl,rfl,rfl,rfl,hj,rfl,hgo⟩)
      ·rintro S H2 ⟨g1,g2,g4,g5,rfl,hgo⟩
       exact .inl ⟨rfl,k,by omega,fr,left,out,g1,g2,g4,g5,rfl,hfr16,hleft,by omega,hgo⟩
      ·rintro S H2 ⟨x,g1,g2,g4,g5,rfl,hgo⟩
       exact .inl ⟨rfl,k,by omega,_,_,_,g1,g2,g4,g5,rfl,dif_lt hfr16,by omega,by rw [List.length_append];show out.length+1+k≤20;omega,hgo⟩
   ·rintro S H1 ⟨h1,rfl⟩
    simp only [VV,h1]
    exact .fin ⟨rfl,rfl,tB'⟩
 obtain ⟨e,S,H1,h1,rfl,h2,h3⟩:=key
 show Zaa (C97 (tc (d+21)) tlo (Zag H) (.agg (plT w h g near),tU free,Zao,Zao,Zao,Zao,Zao,Zao,Zao,Zao,Zao,Zao,Zao,Zao,()) H) _=_
 rw [h1]
 simp only [bz_some,resE_r,h2,fin_one resOk_O loose_O,h3]
end
end Go.Proofs.YtgemobbfikjmoaaGreatDoor
namespace Go.Proofs.YtgemobbfikjmoaaGreatDoor
open Go Go.Ev
set_option maxRecDepth 100000
noncomputable section
theorem first_tree (d:Nat) {w h g free:Nat} {near:List Nat} {res:List (Nat×Nat)} {H:TH} (hw:1≤w) (hnl:near.length=16) (hnear:∀ x∈near,x < 65536) (hfree:free < 65536) (hfirst:firstF near w free=some res) :
  Zah (tc (d+22)) 97 [.agg (plT w h g near),tU free] H=some (Zcr 71 2 (res.map tQ)):=
 Zdo (ws:=[.agg (plT w h g near),tU free]) (H':=[]) (a:=false) (ins_plate rfl) (act_plate rfl) (first_run d 0 hw hnl hnear hfree (Nat.zero_le _) hfirst) outR_O
abbrev Known:=List (Nat×Nat×Nat)
abbrev tY (v:Nat×Nat):TV:=.agg [tN v.1,tN v.2]
abbrev tK' (e:Nat×Nat×Nat):Value×TV:=(.int .u64 (.ofNat e.1),tY e.2)
end
end Go.Proofs.YtgemobbfikjmoaaGreatDoor
namespace Go.Ev
end Go.Ev
namespace Go.Proofs.YtgemobbfikjmoaaGreatDoor
open Go Go.Ev
set_option maxRecDepth 100000
noncomputable section
structure CSt (bm:Nat) (pl:List TV) (H:TH) (kn:Known) (H1:TH):Prop where
 m:Zdg H1 (Zag H)=H.set bm (.map (kn.map tK'))
 p:H1[Zag H]? = some (.cells pl)
 r:∃ x y,H1[Zag H+1]? = some (.cells [x,y])
 l:Zag H+2≤Zag H1
section
variable {bm:Nat} {pl:List TV} {H H1:TH} {kn:Known} {o:TObj}
theorem CSt.push (h:CSt bm pl H kn H1) (o:TObj):CSt bm pl H kn (Zaq H1 o):=
 ⟨take_more h.m (by have:=h.l;omega),Zbi h.p,let ⟨x,y,e⟩:=h.r;⟨x,y,Zbi e⟩,by rw [Zbp];have:=h.l;omega⟩
theorem CSt.upd (h:CSt bm pl H kn H1) (hb:bm < Zag H) (kn':Known):CSt bm pl H kn' (H1.set bm (.map (kn'.map tK'))):=
 ⟨by rw [take_upd h.m,List.set_set],(set_old (by omega)).trans h.p,let ⟨x,y,e⟩:=h.r;⟨x,y,(set_old (by omega)).trans e⟩,by rw [lenG_set];exact h.l⟩
theorem CSt.own (h:CSt bm pl H kn H1) {b:Nat} (hb:Zag H+2≤b) (o:TObj):CSt bm pl H kn (H1.set b o):=
 ⟨by rw [← h.m,Zct,Zct,List.take_set_of_le (by omega)],(set_old (by omega)).trans h.p,let ⟨x,y,e⟩:=h.r;⟨x,y,(set_old (by omega)).trans e⟩,by rw [lenG_set];exact h.l⟩
theorem CSt.map (h:CSt bm pl H kn H1) (hb:bm < Zag H):H1[bm]? = some (.map (kn.map tK')):=by
 have hl:bm < H.length:=by rw [← Zat];exact hb
 exact (take_at h.m hb).trans (List.getElem?_set_self hl)
end
end
end Go.Proofs.YtgemobbfikjmoaaGreatDoor
namespace Go.Ev
end Go.Ev
namespace Go.Proofs.YtgemobbfikjmoaaGreatDoor
open Go Go.Ev
set_option maxRecDepth 100000
end Go.Proofs.YtgemobbfikjmoaaGreatDoor
namespace Go.Proofs.YtgemobbfikjmoaaGreatDoor
open Go Go.Ev
set_option maxRecDepth 100000
noncomputable section
section
variable {w h n:Nat} {c:Cp} {sp:List Nat} {H:TH}
theorem Most_tree (d:Nat) {m:Nat} (ok:SlabOk w h sp) (hn:sp≠[]→n=1) (hmost:mostF (nearO w h sp) w (Zda w h sp)=some m):Zah (tc (d+22)) 16 [tS w h c n sp] H=some (.tup [tN m,tN 0]):=
 Zdo (ws:=[tS w h c n sp]) (H':=[]) (a:=false) rfl (by cases c <;> rfl) (Most_run d 0 ok hn (Nat.zero_le _) hmost) rfl
theorem Bar_tree (d:Nat) {bar:List Nat} (ok:SlabOk w h sp) (hn:sp≠[]→n=1) (hbar:barG (nearO w h sp) w (Zdh (Zda w h sp)) (Zda w h sp) []=some bar):Zah (tc (d+22)) 28 [tS w h c n sp] H=some (.tup [Zcr 3 1 (bar.map tN),tN 0]):=
 Zdo (ws:=[tS w h c n sp]) (H':=[]) (a:=false) rfl (by cases c <;> rfl) (Bar_run d 0 ok hn (Nat.zero_le _) hbar) (by cases bar <;> rfl)
theorem best_tree (d:Nat) {m:Nat} (ok:SlabOk w h sp) (hn:sp≠[]→n=1) (hm:m < 80000) (hlow:∀ i,i < m→cutsF (Zci w h sp) (goodL w h sp) i 0 []=[]) (hne:cutsF (Zci w h sp) (goodL w h sp) m 0 []≠[])
  (hO:(cutsF (Zci w h sp) (goodL w h sp) m 0 []).length < 80000):Zah (tc (d+20)) 55 [tS w h c n sp] H=some (rS 1 ((cutsF (Zci w h sp) (goodL w h sp) m 0 []).map rQ)):=
 Zdo (ws:=[tS w h c n sp]) (H':=[]) (a:=false) rfl (by cases c <;> rfl) (best_run d 0 ok hn (Nat.zero_le _) hm hlow hne hO) (by cases cutsF (Zci w h sp) (goodL w h sp) m 0 [] <;> rfl)
end
theorem same_tree (d:Nat) {n m:Nat} {c c':Cp} {q q':Lf} {xs ys:List Nat} {H:TH} (hn:xs≠[]→n=1) (hm:ys≠[]→m=1) (hlen:xs.length < 90000):Zah (tc (d+1)) 27 [.row c q n (xs.map tN),.row c' q' m (ys.map tN)] H=some (tB (eqL Nat.beq xs ys)):=
 Zdo (ws:=[.row c .set n (xs.map tN),.row c' .set m (ys.map tN)]) (H':=[]) rfl rfl (same_run d 0 hn hm hlen) outR_v
theorem alike_tree (d:Nat) {n m:Nat} {c c':Cp} {q q':Lf} {xs ys:List (Nat×Nat)} {H:TH} (hn:xs≠[]→n=2) (hm:ys≠[]→m=2) (hlen:xs.length < 90000):Zah (tc (d+1)) 20 [.row c q n (xs.map tQ),.row c' q' m (ys.map tQ)] H=some (tB (eqL beqQ xs ys)):=
 Zdo (ws:=[.row c .set n (xs.map tQ),.row c' .set m (ys.map tQ)]) (H':=[]) rfl rfl (alike_run d 0 hn hm hlen) outR_v
end
end Go.Proofs.YtgemobbfikjmoaaGreatDoor
namespace Go.Proofs.YtgemobbfikjmoaaGreatDoor
open Go Go.Ev
set_option maxRecDepth 100000
noncomputable section
theorem eqL_refl:∀ l:List Nat,eqL Nat.beq l l=true
 |[]=>rfl
 |x::l=>by
  show cond (Nat.beq x x) (eqL Nat.beq l l) false=true
  rw [Nat.beq_refl,eqL_refl l];rfl
end
end Go.Proofs.YtgemobbfikjmoaaGreatDoor
namespace Go.Proofs.YtgemobbfikjmoaaGreatDoor
open Go Go.Ev
set_option maxRecDepth 100000
noncomputable section
def leastI (all:List (Nat×Nat)) (cells:List Nat):Nat→Nat→Option (Nat×List (List (Nat×Nat)))
 |0,_=>none
 |f+1,i=>match cutsF all cells i 0 [] with
  |[]=>leastI all cells f (i+1)
  |x::l=>some (i,x::l)
theorem leastI_ok {all:List (Nat×Nat)} {cells:List Nat}:∀ (f i:Nat) {r:Nat×List (List (Nat×Nat))},leastI all cells f i=some r→i≤r.1∧r.1 < i+f∧cutsF all cells r.1 0 []=r.2∧r.2≠[]∧∀ k,i≤k→k < r.1→cutsF all cells k 0 []=[]
 |0,_,_,h=>by cases h
 |f+1,i,r,h=>by
  cases hc:cutsF all cells i 0 [] with
  |nil=>
   have h:leastI all cells f (i+1)=some r:=by
    have h0:(match cutsF all cells i 0 [] with
     |[]=>leastI all cells f (i+1)
     |x::l=>some (i,x::l))=some r:=h
    rw [hc] at h0;exact h0
   obtain ⟨h1,h2,h3,h4,h5⟩:=leastI_ok f (i+1) h
   refine ⟨by omega,by omega,h3,h4,fun k hk1 hk2=>?_⟩
   rcases Nat.eq_or_lt_of_le hk1 with rfl |hk
   ·exact hc
   ·exact h5 k hk hk2
  |cons x l=>
   have h:some (i,x::l)=some r:=by
    have h0:(match cutsF all cells i 0 [] with
     |[]=>leastI all cells f (i+1)
     |x::l=>some (i,x::l))=some r:=h
    rw [hc] at h0;exact h0
   cases h
   exact ⟨Nat.le_refl _,by show i < i+(f+1);omega,hc,by simp,fun k h1 h2=>by have h2:k < i:=h2;omega⟩
def allB {α:Type} (p:α→Bool):List α→Bool
 |[]=>true
 |x::l=>cond (p x) (allB p l) false
theorem allB_ok {α:Type} {p:α→Bool}:∀ {l:List α},allB p l=true→∀ x∈l,p x=true
 |[],_,x,hx=>by cases hx
 |y::l,h,x,hx=>by
  have h:cond (p y) (allB p l) false=true:=h
  cases hp:p y with
  |false=>rw [hp] at h;cases h
  |true=>
   rw [hp] at h
   rcases List.mem_cons.1 hx with rfl |hx
   ·exact hp
   ·exact allB_ok h x hx
end
end Go.Proofs.YtgemobbfikjmoaaGreatDoor
namespace Go.Proofs.YtgemobbfikjmoaaGreatDoor
open Go Go.Ev
set_option maxRecDepth 100000
noncomputable section
theorem eqL_list:∀ {a b:List Nat},eqL Nat.beq a b=true→a=b
 |[],[],_=>rfl
 |[],_::_,h=>by cases h
 |_::_,[],h=>by cases h
 |x::a,y::b,h=>by
  have h:cond (Nat.beq x y) (eqL Nat.beq a b) false=true:=h
  cases hx:Nat.beq x y with
  |false=>rw [hx] at h;cases h
  |true=>
   rw [hx] at h
   rw [Nat.eq_of_beq_eq_true hx,eqL_list h]
def subN:List Nat→List (List Nat)
 |[]=>[]
 |x::l=>[x]::(subN l++(subN l).map (x::·))
def candF (th:Nat):Nat→Nat→List Nat
 |0,_=>[]
 |k+1,j=>cond (Nat.beq ((th+5 * j) % 4) 0) (j::candF th k (j+1)) (candF th k (j+1))
theorem candF_mod (th:Nat):∀ (k j:Nat),candF th k j=candF (th % 4) k j
 |0,_=>rfl
 |k+1,j=>by
  show cond (Nat.beq ((th+5 * j) % 4) 0) (j::candF th k (j+1)) (candF th k (j+1))=cond (Nat.beq ((th % 4+5 * j) % 4) 0) (j::candF (th % 4) k (j+1)) (candF (th % 4) k (j+1))
  rw [candF_mod th k (j+1),show (th+5 * j) % 4=(th % 4+5 * j) % 4 by omega]
theorem bad_subs (th d:Nat):∀ (k j:Nat),badF th d k j=[]∨badF th d k j∈subN (candF th k j)
 |0,_=>.inl rfl
 |k+1,j=>by
  have ih:=bad_subs th d k (j+1)
  show cond (cond (inB d j) (Nat.beq ((th+5 * j) % 4) 0) false) (j::badF th d k (j+1)) (badF th d k (j+1))=[]∨cond (cond (inB d j) (Nat.beq ((th+5 * j) % 4) 0) false) (j::badF th d k (j+1)) (badF th d k (j+1))∈subN (cond (Nat.beq ((th+5 * j) % 4) 0) (j::candF th k (j+1)) (candF th k (j+1)))
  cases Nat.beq ((th+5 * j) % 4) 0 with
  |false=>
   cases inB d j <;> exact ih
  |true=>
   show cond (cond (inB d j) true false) (j::badF th d k (j+1)) (badF th d k (j+1))=[]∨cond (cond (inB d j) true false) (j::badF th d k (j+1)) (badF th d k (j+1))∈[j]::(subN (candF th k (j+1))++(subN (candF th k (j+1))).map (j::·))
   cases inB d j with
   |false=>
    rcases ih with h |h
    ·exact .inl h
    ·exact .inr (List.mem_cons_of_mem _ (List.mem_append_left _ h))
   |true=>
    rcases ih with h |h
    ·refine .inr ?_
     show j::badF th d k (j+1)∈_
     rw [h];exact List.mem_cons_self
    ·exact .inr (List.mem_cons_of_mem _ (List.mem_append_right _ (List.mem_map_of_mem h)))
end
end Go.Proofs.YtgemobbfikjmoaaGreatDoor
