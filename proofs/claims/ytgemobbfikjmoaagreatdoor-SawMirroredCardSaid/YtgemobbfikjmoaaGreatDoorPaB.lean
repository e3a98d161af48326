/- An evaluator of the program's functions, and that the machine answers what it answers, part two.
   Conditions: none beyond the given statement's own. -/
import Derived.Test.YtgemobbfikjmoaaGreatDoorPaA
import Derived.ProofKit
import Derived.LaidMore
import Derived.OpenShut
set_option linter.unusedVariables false
set_option linter.unusedSimpArgs false
set_option linter.defProp false
namespace Go.Ev
section
variable {P:Program} {base:Nat} {W K:Nat->Prop} {ρ:Map} {H:AH} {w:World}
theorem jb {t:TypeId} {q:Wp} (h:M9 P t=some q) :
  match q with
  |.int=>∃ k,P.underlying t=some (.int k)
  |.ints n=>∃ e j kk,P.underlying t=some (.array n e)/\Y7 P e=some j/\intOf j.desc=some kk/\j.size=1:=by
 unfold M9 at h;obtain ⟨i,hi,hA⟩:=Zj h;obtain ⟨_,hu,_⟩:=Kq hi;split at hA
 ·rename_i k hd;cases hA;rw [hd] at hu;exact ⟨k,hu⟩
 ·rename_i n e hd;obtain ⟨j,hj,hB⟩:=Zj hA;obtain ⟨kk,hk,hC⟩:=Zj hB;obtain ⟨h1,hD⟩:=Zt hC;cases hD;rw [hd] at hu;exact ⟨e,j,kk,hu,hj,hk,Qb h1⟩
 ·cases hA
theorem Og {v:Value} (h:(Aq v).isSome=true):∃ k n,v=.int k n:=by
 unfold Aq at h;split at h
 ·exact ⟨_,_,rfl⟩
 ·cases h
theorem Rr {q:Wp} {k k':Value} (h:Ge q k=true) (hr:Qc ρ k k'):k'=k:=by
 unfold Ge at h;split at h
 ·cases hr;rfl
 ·rename_i n a;simp only [Bool.and_eq_true] at h;cases hr with
  |flat hf=>rfl
  |agg hl=>
   rename_i ds
   have:ds.toList=a.toList:=by
    apply List.ext_getElem?;intro i
    by_cases hi:i < a.toList.length
    ·have e:=List.getElem?_eq_getElem hi;obtain ⟨v',hv,hr⟩:=hl.get i _ e;obtain ⟨k,m,hk⟩:=Og (List.all_eq_true.1 h.2 _ (List.getElem_mem hi));rw [e,hv];rw [hk] at hr ⊢;cases hr;rfl
    ·have:=hl.length;rw [List.getElem?_eq_none (by omega),List.getElem?_eq_none (by omega)]
   exact congrArg Value.agg (Array.ext' this)
 ·cases h
theorem ug {e:TypeId} {j:S8} (he:Y7 P e=some j) (hs:j.size=1) {kk:IntKind} (hk:intOf j.desc=some kk) (em:Bool) (d:Nat) (a:Array Value) (w:World) :
  ∀ (m s:Nat),s+m<=a.size->(forIn (m:=Sem) (List.range' s m) () λi (_:Unit)=>do
    let s <- sizeOf e;let x <- part e a (i * s)
    Instr.checkKey em (d+1) e x
    pure (ForInStep.yield ())).run P w=.ok () w:=by
 intro m
 induction m with
 |zero=>intro s _;simp
 |succ m ih=>
  intro s h;have ha:s < a.size:=by omega
  have pa:=Ri he hk (cs:=a) (i:=s * 1) (v:=a[s]) (by rw [Nat.mul_one,Array.getElem?_eq_getElem ha]) w
  obtain ⟨_,hu,_⟩:=Kq he;have hd:∃ kk',j.desc=.int kk':=by cases hd:j.desc <;> simp [hd,intOf] at hk;exact ⟨_,rfl⟩
  obtain ⟨kk',hd⟩:=hd;rw [hd] at hu;rw [List.range'_succ,List.forIn_cons];have Ec:(sizeOf e).run P w=.ok 1 w:=by rw [run_sizeOf he,hs]
  simp only [Sem.run_bind,Ec,pa,Result.andThen_ok]
  have hc:(Instr.checkKey em (d+1) e a[s]).run P w=.ok () w:=by
   simp [Instr.checkKey,run_underlying hu]
  simp only [hc,Result.andThen_ok,Sem.run_pure];exact ih (s+1) (by omega)
theorem Iw {t:TypeId} {q:Wp} (hq:M9 P t=some q) {k:Value} (hk:Ge q k=true) (em:Bool) (d:Nat) (w:World):(Instr.checkKey em (d+2) t k).run P w=.ok () w:=by
 have hh:=jb hq;unfold Ge at hk;split at hk
 ·obtain ⟨kk,hu⟩:=hh;simp [Instr.checkKey,run_underlying hu]
 ·rename_i n a;obtain ⟨e,j,kk,hu,hj,hkk,hs⟩:=hh;simp only [Bool.and_eq_true] at hk;have hn:=Qb hk.1;have hl:=ug hj hs hkk em d a w n 0 (by omega)
  unfold Instr.checkKey;simp only [Sem.run_bind,run_underlying hu,Result.andThen_ok];simp only [Std.Legacy.Range.forIn_eq_forIn_range',Std.Legacy.Range.size,Nat.sub_zero,Nat.add_sub_cancel,Nat.div_one];rw [hl];rfl
 ·cases hk
inductive FRel (ρ:Map):Option (Nat×Value)->Option (Nat×Value)->Prop where
 |nil:FRel ρ none none
 |one {i:Nat} {v v':Value} (h:Qc ρ v v'):FRel ρ (some (i,v)) (some (i,v'))
theorem Ry {q:Wp} {k e:Value} {b:Bool} (hk:Ge q k=true) (h:Oe k e=some b) :
  (∃ kk x y,q=.int/\k=.int kk x/\e=.int kk y/\b=(x == y)) \/
  (∃ (n:Nat) (x y:Array Value),q=.ints n/\k=.agg x/\e=.agg y/\x.size=n/\y.size=n/\W9 x.toList y.toList=some b):=by
 unfold Oe at h;split at h
 ·obtain ⟨h1,h2⟩:=Zt h;cases Pp h1;cases h2;cases q with
  |int=>exact .inl ⟨_,_,_,rfl,rfl,rfl,by rw [Ij]⟩
  |ints n=>simp [Ge] at hk
 ·obtain ⟨h1,h2⟩:=Zt h;have h1:=Qb h1;cases q with
  |int=>simp [Ge] at hk
  |ints n=>
   simp only [Ge,Bool.and_eq_true] at hk;have:=Qb hk.1;exact .inr ⟨n,_,_,rfl,rfl,rfl,this,by omega,h2⟩
 ·cases h
theorem Zb8 {t:TypeId} {k0 kk:IntKind} {x:Int}:∀ {es Ed:List MapEntry} {i:Nat} {r:Option (Nat×Value)},Df ρ es Ed->Wk (.int kk x) es i=some r ->
  ∃ r',Instr.findNow (.int k0) (.int kk x) Ed i=some r'/\FRel ρ r r'
 |[],_,i,r,.nil,h=>by cases h;exact ⟨none,rfl,.nil⟩
 |e::es,_,i,r,.cons (e':=e') (l':=Ed) hk hv hb ht,h=>by
  unfold Wk at h;split at h
  ·rename_i he;rcases Ry (q:=.int) rfl he with ⟨kk',x',y,_,h1,h2,h3⟩ |⟨_,_,_,hq,_⟩
   ·cases h1;rw [h2] at hk;cases h;refine ⟨some (i,e'.val),?_,.one hv⟩;simp only [Instr.findNow];cases Sp:e'.key <;> rw [Sp] at hk <;> cases hk
    simp [Instr.sameNow,<- h3]
   ·cases hq
  ·rename_i he;rcases Ry (q:=.int) rfl he with ⟨kk',x',y,_,h1,h2,h3⟩ |⟨_,_,_,hq,_⟩
   ·cases h1;rw [h2] at hk;obtain ⟨r',h4,h5⟩:=Zb8 (t:=t) (k0:=k0) ht h;refine ⟨r',?_,h5⟩;simp only [Instr.findNow];cases Sp:e'.key <;> rw [Sp] at hk <;> cases hk
    simp only [Instr.sameNow,if_true,<- h3];exact h4
   ·cases hq
  ·cases h
theorem mi {t e:TypeId} {n:Nat} {j:S8} (ht:P.underlying t=some (.array n e)) (he:Y7 P e=some j) {kk:IntKind} (hk:intOf j.desc=some kk) (hs:j.size=1)
  {a:Array Value} (ha:Ge (.ints n) (.agg a)=true) (w:World):∀ {es Ed:List MapEntry} {i:Nat} {r:Option (Nat×Value)},Df ρ es Ed->Wk (.agg a) es i=some r ->
  ∃ r',(Instr.findAsking t (.agg a) Ed i).run P w=.ok r' w/\FRel ρ r r'
 |[],_,i,r,.nil,h=>by cases h;exact ⟨none,by simp [Instr.findAsking],.nil⟩
 |e0::es,_,i,r,.cons (e':=e') (l':=Ed) hke hv hb Oc,h=>by
  have key:∀ b,Oe (.agg a) e0.key=some b->(Op.equal t (.agg a) e'.key).run P w=.ok b w:=by
   intro b hb;rcases Ry ha hb with ⟨_,_,_,hq,_⟩ |⟨n',x,y,hq,h1,h2,h3,h4,h5⟩
   ·cases hq
   ·cases hq;cases h1;rw [h2] at hke
    have hy:e'.key=.agg y:=by
     cases Sp:e'.key <;> rw [Sp] at hke <;> cases hke
     ·rename_i hf;simp [flat] at hf
     ·rename_i hl;exact congrArg Value.agg (Array.ext' (Qc.ints hl (.inr h5)))
    rw [hy];exact Pd ht he hk hs 9998 a y h3 h4 h5 w
  unfold Wk at h;split at h
  ·rename_i ur;cases h;exact ⟨some (i,e'.val),by simp [Instr.findAsking,key _ ur],.one hv⟩
  ·rename_i ur;obtain ⟨r',h1,h2⟩:=mi ht he hk hs ha w Oc h;exact ⟨r',by simp [Instr.findAsking,key _ ur,h1],h2⟩
  ·cases h
theorem j8 {t:TypeId} {q:Wp} (hq:M9 P t=some q) {k:Value} (hk:Ge q k=true) (w:World) {es Ed:List MapEntry} {r:Option (Nat×Value)} (hr:Df ρ es Ed) (h:Wk k es 0=some r) :
  ∃ r',(Instr.findKey t k Ed).run P w=.ok r' w/\FRel ρ r r':=by
 have hh:=jb hq;cases q with
 |int=>
  obtain ⟨k0,hu⟩:=hh;unfold Ge at hk;split at hk
  ·obtain ⟨r',h1,h2⟩:=Zb8 (t:=t) (k0:=k0) hr h;exact ⟨r',by simp [Instr.findKey,run_underlying hu,h1],h2⟩
  ·contradiction
  ·cases hk
 |ints n=>
  obtain ⟨e,j,kk,hu,hj,hkk,hs⟩:=hh;have hk0:=hk;unfold Ge at hk;split at hk
  ·contradiction
  ·rename_i hq';cases hq';obtain ⟨r',h1,h2⟩:=mi hu hj hkk hs hk0 w hr h;cases Ed with
   |nil=>exact ⟨r',by simpa [Instr.findKey,run_underlying hu,Instr.findNow,Instr.findAsking] using h1,h2⟩
   |cons e' Ed=>exact ⟨r',by simp [Instr.findKey,run_underlying hu,Instr.findNow,Instr.sameNow,h1],h2⟩
  ·cases hk
theorem Znp (hH:Jd P base K ρ H w) {i:Nat} (hk:K i) {es:List MapEntry} {c:Nat} (hg:H.get i=some (.map es c)) {l:Loc} (hl:ρ i=some l) :
  ∃ Ed,w.heap[l.W5]? = some (.map Ed c)/\Df ρ es Ed.toList:=by
 obtain ⟨l',So,hf,_⟩:=hH.fit i _ hk hg;rw [hl] at So;cases So;exact hf
theorem run_getObj_map {w:World} {b c:Nat} {es:Array MapEntry} (h:w.heap[b]? = some (.map es c)):(getObj b).run P w=.ok (.map es c) w:=by
 simp [getObj,Sem.run,h]
theorem Qc.map_eq {i:Nat} {x':Value} (h:Qc ρ (.map (some i)) x'):∃ l,ρ i=some l/\x'=.map (some l.W5):=by
 cases h with
 |flat hf=>simp [Ev.flat] at hf
 |map h=>exact ⟨_,h,rfl⟩
theorem kp {d:TypeDesc} {p:TypeId×TypeId} (h:mapOf d=some p):d=.map p.1 p.2:=by
 cases d <;> simp [mapOf] at h
 rw [<- h]
theorem rh {β:Type} {t:TypeId} {x k:Value} {ok:Bool} {c:Value->Option β} {r:β} (h:kc P H t x k ok c=some r) :
  ∃ u,c u=some r/\∀ (ρ:Map) (K:Nat->Prop) (w:World) (x' k':Value),Jd P base K ρ H w->Qc ρ x x'->Qc ρ k k'->(∀ j∈Xl x,K j) ->
   ∃ u',(Instr.lookup t x' k' ok).run P w=.ok u' w/\Qc ρ u u':=by
 unfold kc at h;obtain ⟨i,hi,hA⟩:=Zj h;obtain ⟨p,hp,hB⟩:=Zj hA;obtain ⟨q,hq,hC⟩:=Zj hB;obtain ⟨j,hj,hD⟩:=Zj hC;obtain ⟨z,hz,hE⟩:=Zj hD;obtain ⟨u,hu,hF⟩:=Z5 hE;obtain ⟨_,ji,_⟩:=Kq hi;rw [kp hp] at ji;refine ⟨u,hF,λρ K w x' k' hH hx hkr hK=>?_⟩;unfold Hz at hu;obtain ⟨hk,hG⟩:=Zt hu;have Sp:=Rr hk hkr;rw [Sp];have hzr:Qc ρ z z:=Qc.plain (W2 hz).2;have pair:∀ {v v':Value} (b:Bool),Qc ρ v v'->Qc ρ (.tuple #[v,.bool b]) (.tuple #[v',.bool b]):=λb h=>.tuple (.cons h (.cons (.flat rfl) .nil));split at hG
 ·cases hG;cases hx;have hc:=Iw hq hk true 9998 w;obtain ⟨r',h1,h2⟩:=j8 (ρ:=ρ) hq hk w (es:=[]) (Ed:=[]) .nil rfl;cases h2;cases ok with
  |true=>
   refine ⟨.tuple #[z,.bool false],?_,pair false hzr⟩;simp [Instr.lookup,run_underlying ji,hc,h1,K2 hj hz]
  |false=>
   refine ⟨z,?_,hzr⟩;simp [Instr.lookup,run_underlying ji,hc,h1,K2 hj hz]
 ·rename_i b;obtain ⟨es,cl,hg,hI⟩:=Co hG;obtain ⟨rr,hr,hJ⟩:=Zj hI;obtain ⟨l,hl,rfl⟩:=hx.map_eq;obtain ⟨Ed,h3,h4⟩:=Znp hH (hK b (by simp [Xl])) hg hl
  have hc:=Iw hq hk Ed.isEmpty 9998 w;obtain ⟨r',h1,h2⟩:=j8 hq hk w h4 hr;cases h2 with
  |nil=>
   cases hJ;cases ok with
   |true=>
    refine ⟨.tuple #[z,.bool false],?_,pair false hzr⟩;simp [Instr.lookup,run_underlying ji,run_getObj_map h3,hc,h1,K2 hj hz]
   |false=>
    refine ⟨z,?_,hzr⟩;simp [Instr.lookup,run_underlying ji,run_getObj_map h3,hc,h1,K2 hj hz]
  |one hv=>
   cases hJ;cases ok with
   |true=>
    refine ⟨.tuple #[_,.bool true],?_,pair true hv⟩;simp [Instr.lookup,run_underlying ji,run_getObj_map h3,hc,h1]
   |false=>
    refine ⟨_,?_,hv⟩;simp [Instr.lookup,run_underlying ji,run_getObj_map h3,hc,h1]
 ·cases hG
theorem uf {v:Value} (h:flat v=true) (hi:(Aq v).isSome=true) (n:Nat):Instr.sameBits n v v=true:=by
 obtain ⟨k,m,rfl⟩:=Og hi;cases n <;> simp [Instr.sameBits]
theorem pn {q:Wp} {k:Value} (h:Ge q k=true):Instr.sameBits 10000 k k=true:=by
 unfold Ge at h;split at h
 ·simp [Instr.sameBits]
 ·rename_i n a;simp only [Bool.and_eq_true] at h;show Instr.sameBits (9999+1) (.agg a) (.agg a)=true
  have key:∀ l:List Value,(l.all λv=>(Aq v).isSome)=true->((l.zip l).all λp=>Instr.sameBits 9999 p.1 p.2)=true:=by
   intro l
   induction l with
   |nil=>intro _;rfl
   |cons v l ih=>
    intro hl;simp only [List.all_cons,Bool.and_eq_true] at hl;simp only [List.zip_cons_cons,List.all_cons,Bool.and_eq_true];obtain ⟨k,m,rfl⟩:=Og hl.1;exact ⟨uf rfl rfl _,ih hl.2⟩
  have:=key a.toList h.2;simp only [Instr.sameBits,beq_self_eq_true,Bool.true_and];exact this
 ·cases h
theorem Zcf {xs ys:List Value} (h:W9 xs ys=some true):xs=ys:=by
 induction xs generalizing ys with
 |nil=>
  cases ys with
  |nil=>rfl
  |cons y ys=>simp [W9] at h
 |cons x xs ih=>
  cases ys with
  |nil=>cases x <;> simp [W9] at h
  |cons y ys=>
   unfold W9 at h;split at h
   ·rename_i e;cases e
   ·rename_i h1 h2;cases h1;cases h2;obtain ⟨hk,h'⟩:=Zt h;cases Pp hk;obtain ⟨r',hr,h''⟩:=Zj h';injection h'' with h''
    simp only [Bool.and_eq_true] at h'';rw [Ij,beq_iff_eq] at h'';rw [h''.1,ih (by rw [hr,h''.2])]
   ·cases h
theorem mo {q:Wp} {k:Value} (hk:Ge q k=true):∀ {es Ed:List MapEntry} {i m:Nat} {v:Value},Df ρ es Ed->Wk k es i=some (some (m,v)) ->
  i<=m/\∃ e',Ed[m - i]? = some e'/\e'.key=k
 |[],_,i,m,v,.nil,h=>by cases h
 |e0::es,_,i,m,v,.cons (e':=e') (l':=Ed) hke hv hb ht,h=>by
  unfold Wk at h;split at h
  ·rename_i ur;cases h;refine ⟨Nat.le_refl _,e',by simp,?_⟩
   rcases Ry hk ur with ⟨kk,x,y,_,h1,h2,h3⟩ |⟨n,x,y,_,h1,h2,h3,h4,h5⟩
   ·have:x=y:=by simpa using h3.symm
    rw [h2,<- this,<- h1] at hke;exact Rr hk hke
   ·have:x=y:=Array.ext' (Zcf h5);rw [h2,<- this,<- h1] at hke;exact Rr hk hke
  ·obtain ⟨h1,e2,h2,h3⟩:=mo hk ht h;refine ⟨by omega,e2,?_,h3⟩
   rw [show m - i=(m - Nat.succ i)+1 from by omega,List.getElem?_cons_succ]
   exact h2
  ·cases h
theorem gz {k v k' v':Value} (hk:Qc ρ k k') (hv:Qc ρ v v'):∀ {es Ed:List MapEntry} (n:Nat),Df ρ es Ed->Df ρ (setAt es n k v) (Ed.modify n λe=>{ e with key:=k',val:=v' })
 |[],_,n,.nil=>by cases n <;> exact .nil
 |e::es,_,0,.cons Sp hv' hb ht=>.cons hk hv hb ht
 |e::es,_,n+1,.cons Sp hv' hb ht=>.cons Sp hv' hb (gz hk hv n ht)
theorem Df.append {a a' b b':List MapEntry} (h:Df ρ a a') (h':Df ρ b b'):Df ρ (a++b) (a'++b'):=by
 induction h with
 |nil=>exact h'
 |cons hk hv hb _ ih=>exact .cons hk hv hb ih
theorem yp {w:World} {b c:Nat} {es:Array MapEntry} (h:w.heap[b]? = some (.map es c)) (o:Obj):(setObj b o).run P w=.ok () { w with heap:=w.heap.setIfInBounds b o }:=by
 simp [setObj,Sem.run,h]
theorem Step.nv (hH:Jd P base K ρ H w) {i:Nat} (hk:K i) (hW:W i) {es:List MapEntry} {c:Nat} (hg:H.get i=some (.map es c)) {l:Loc} (hl:ρ i=some l)
  {es2:List MapEntry} {es2':Array MapEntry} {c2:Nat} (hr:Df ρ es2 es2'.toList) {w':World} (hw:w'.heap=w.heap.setIfInBounds l.W5 (.map es2' c2)) (Sq:Ln w w'):Step P base W K ρ H w ρ (H.set i (.map es2 c2)) w':=by
 have Jo:=(hH.Js i l hl).2;have hat:w'.heap[l.W5]? = some (.map es2' c2):=by rw [hw,Array.getElem?_setIfInBounds];simp [Jo]
 refine Step.write hH hk hg hl hW (by rw [hw];simp) (λb Da=>by rw [hw,Array.getElem?_setIfInBounds_ne (λe=>Da e.symm)]) ⟨es2',hat,hr⟩ (λc' e fz hc=>?_) Sq
 rw [hat] at hc;cases hc
theorem rf {β:Type} {lo:Nat} {t:TypeId} {x k v:Value} {c:AH->Option β} {r:β} (h:kb P lo H t x k v c=some r) :
  ∃ H',c H'=some r/\∀ (ρ:Map) (W K:Nat->Prop) (w:World) (x' k' v':Value),Jd P base K ρ H w->Qc ρ x x'->Qc ρ k k'->Qc ρ v v'->(∀ j∈Xl x,K j)->(∀ j∈Xl x,lo<=j->W j) ->
   ∃ w',(Instr.mapUpdate t x' k' v').run P w=.ok () w'/\Step P base W K ρ H w ρ H' w':=by
 unfold kb at h;obtain ⟨i,hi,hA⟩:=Zj h;obtain ⟨p,hp,hB⟩:=Zj hA;obtain ⟨q,hq,hC⟩:=Zj hB;obtain ⟨H',hu,hF⟩:=Z5 hC;obtain ⟨_,ji,_⟩:=Kq hi;rw [kp hp] at ji;refine ⟨H',hF,λρ W K w x' k' v' hH hx hkr hvr hK hW=>?_⟩;unfold Hw at hu;obtain ⟨hk,hG⟩:=Zt hu;have Sp:=Rr hk hkr;subst Sp;split at hG
 ·rename_i b;obtain ⟨J7,hG⟩:=Zt hG;have J7:=Qa J7;obtain ⟨es,cl,hg,hI⟩:=Co hG;obtain ⟨rr,hr,hJ⟩:=Zj hI;obtain ⟨l,hl,rfl⟩:=hx.map_eq;have hKb:=hK b (by simp [Xl])
  have hWb:=hW b (by simp [Xl]) J7
  obtain ⟨Ed,h3,h4⟩:=Znp hH hKb hg hl;have hc:=Iw hq hk false 9998 w;obtain ⟨r',h1,h2⟩:=j8 hq hk w h4 hr;cases h2 with
  |nil=>
   cases hJ;refine ⟨{ w with heap:=w.heap.setIfInBounds l.W5 (.map (Ed.push { key:=k',val:=v',born:=cl }) (cl+1)) },?_,?_⟩
   ·simp [Instr.mapUpdate,run_underlying ji,run_getObj_map h3,hc,h1,yp h3]
   ·exact Step.nv hH hKb hWb hg hl (by rw [Array.toList_push];exact h4.append (.cons hkr hvr rfl .nil)) rfl ⟨rfl,rfl⟩
  | @one m u u' hv=>
   cases hJ;obtain ⟨_,e',h5,h6⟩:=mo hk h4 hr;rw [Nat.sub_zero,Array.getElem?_toList] at h5;refine ⟨{ w with heap:=w.heap.setIfInBounds l.W5 (.map (Ed.modify m λe=>{ e with key:=k',val:=v' }) cl) },?_,?_⟩
   ·have hks:(Instr.keyThatStays k' k').run P w=.ok k' w:=by simp [Instr.keyThatStays,pn hk]
    simp [Instr.mapUpdate,run_underlying ji,run_getObj_map h3,hc,h1,h5,h6,hks,yp h3]
   ·exact Step.nv hH hKb hWb hg hl (by rw [Array.toList_modify];exact gz hkr hvr m h4) rfl ⟨rfl,rfl⟩
 ·cases hG
end
end Go.Ev
namespace Go.Ev
section
variable {P:Program} {base:Nat} {W K:Nat->Prop} {ρ:Map} {H:AH} {w:World}
theorem Zhi {E:Env} {ev:Operand->Value} (hE:∀ t v,X4 E t=some v->Qc ρ v (ev (.tmp t))) (hc:∀ v,ev (.const v)=v) (hg:∀ g,ev (.global g)=.pointer (some ⟨g,0,none⟩))
  (hf:∀ f,ev (.func f)=.func (.func f) #[] #[]) (Zg8:∀ g,g < P.globals.size->∃ l,ρ g=some l/\l.W5=g/\l.sh=0):qy P ρ E ev:=by
 intro x v h;cases x with
 |tmp t=>exact hE t v h
 |const c=>
  obtain ⟨hp,h'⟩:=Zt h;cases h';rw [hc];exact Qc.plain hp
 |global g=>
  obtain ⟨Jo,h'⟩:=Zt h;cases h';rw [Nat.blt_eq] at Jo;obtain ⟨l,h1,h2,h3⟩:=Zg8 g Jo;rw [hg];have:=Qc.ptr (ρ:=ρ) (off:=0) h1
  rwa [h2,h3] at this
 |func f=>
  cases h;rw [hf];exact .func .nil .nil
theorem Pu {E:Env} {ev:Operand->Value} (hX:qy P ρ E ev):∀ {xs:List Operand} {vs:List Value},Kz P E xs=some vs->Xt ρ vs (xs.map ev)
 |[],vs,h=>by cases h;exact .nil
 |x::xs,vs,h=>by
  obtain ⟨v,hv,h1⟩:=Zj h;obtain ⟨l,hl,h2⟩:=Zj h1;cases h2;exact .cons (hX _ _ hv) (Pu hX hl)
def wu (P:Program) (base:Nat) (W K:Nat->Prop) (ρ:Map) (H:AH) (w:World) (a:Act) (o:Oper) (v:Value) (H':AH):Prop:=
 ∀ (next:Act->World->Prop) (Q:Exit->Act->World->Prop),(∀ v' ρ' w',Qc ρ' v v'->Step P base W K ρ H w ρ' H' w'->next (a.put o.dst v') w')->o.wp P a w next Q
theorem wu.value {a:Act} {o:Oper} {v v':Value} {ρ':Map} {H':AH} {w':World} (hr:(execOp a.eval o).run P w=.ok (.value v') w') (hv:Qc ρ' v v') (hs:Step P base W K ρ H w ρ' H' w') :
  wu P base W K ρ H w a o v H':=by
 intro next Q hn
 unfold Oper.wp;rw [hr];exact hn _ _ _ hv hs
theorem wu.skip {a:Act} {o:Oper} {ρ':Map} {H':AH} {w':World} (hr:(execOp a.eval o).run P w=.ok .skip w') (hs:Step P base W K ρ H w ρ' H' w') :
  wu P base W K ρ H w a o undef H':=by
 intro next Q hn
 unfold Oper.wp;rw [hr];exact hn _ _ _ .undef hs
def I6 (P:Program) (base:Nat) (call:Jh):Prop:=
 ∀ lo f args H v H',base<=lo->call lo f args H=some (v,H') ->
  (∃ fn,P.funcs[f]? = some fn/\fn.body.isNone=false/\(fn.name == "runtime.NumGoroutine")=false) /\
  ∀ ρ w Lb,Jd P base (Js ρ) ρ H w->Xt ρ args Lb ->
   Calls P f Lb.toArray w λe w'=>∃ v' ρ',e=.returned v'/\Qc ρ' v v'/\Step P base (λi=>lo<=i) (Js ρ) ρ H w ρ' H' w'
def isWr:Class->Bool
 |.wr=>true
 |_=>false
def V1 (P:Program) (E:Env) (lo:Nat) (o:Op):Nat->Prop:=
 λi=>lo<=i/\(Ou (Yd o)=true\/(isWr (Yd o)=true/\∃ x∈Y9 o,∃ v,K9 P E x=some v/\i∈Xl v))
def Tu (P:Program) (E:Env) (ρ:Map) (o:Op) (K:Nat->Prop):Prop:=
 (∀ x∈Y9 o,∀ v,K9 P E x=some v->∀ i∈Xl v,K i)/\(Ou (Yd o)=true->K=Js ρ)
theorem Zkq {β:Type} {op:BinOp} {t:TypeId} {ox oy:Operand} {x y:Value} {k:Value->Option β} {r:β} (h:Zhl P op t x y k=some r) :
  ∃ u,k u=some r/\∀ (ρ:Map) (x' y':Value),Qc ρ x x'->Qc ρ y y'->∀ w:World,
   (eqGuard op t ox oy x' y').run P w=.ok () w/\(binOp op t x' y').run P w=.ok u w/\flat u=true:=by
 have same:∀ {ρ:Map} {x y x' y':Value},(∃ k a k' b,x=.int k a/\y=.int k' b)->Qc ρ x x'->Qc ρ y y'->x'=x/\y'=y:=by
  rintro ρ x y x' y' ⟨k,a,k',b,rfl,rfl⟩ hx hy;exact ⟨hx.int_eq,hy.int_eq⟩
 have i2:∀ {γ:Type} {x y:Value} {f:IntKind->Int->Int->Option γ} {u:γ},Dk x y f=some u->∃ k a k' b,x=.int k a/\y=.int k' b:=by
  intro γ x y f u hu;obtain ⟨k,a,b,rfl,rfl,_⟩:=J1 hu;exact ⟨k,a,k,b,rfl,rfl⟩
 have num:∀ {x y u:Value},(∃ k a k' b,x=.int k a/\y=.int k' b)->(∀ w:World,(binOp op t x y).run P w=.ok u w/\flat u=true)->∀ (ρ:Map) (x' y':Value),Qc ρ x x'->Qc ρ y y'->∀ w:World,
   (eqGuard op t ox oy x' y').run P w=.ok () w/\(binOp op t x' y').run P w=.ok u w/\flat u=true:=by
  rintro x y u hxy hr ρ x' y' hx hy w;obtain ⟨rfl,rfl⟩:=same hxy hx hy;obtain ⟨k,a,k',b,rfl,rfl⟩:=hxy;exact ⟨by rw [eqGuard_at_int];rfl,hr w⟩
 have shift:∀ {f:Value->Value->Option Value} {x y u:Value},(f=Y8\/f=K7)->f x y=some u->∃ k a k' b,x=.int k a/\y=.int k' b:=by
  rintro f x y u (rfl |rfl) hu
  ·unfold Y8 at hu;split at hu
   ·split at hu
    ·exact ⟨_,_,_,_,rfl,rfl⟩
    ·cases hu
   ·cases hu
  ·unfold K7 at hu;split at hu
   ·split at hu
    ·exact ⟨_,_,_,_,rfl,rfl⟩
    ·cases hu
   ·cases hu
 unfold Zhl at h;cases op with
 |add=>obtain ⟨u,hu,hk⟩:=Z5 h;exact ⟨u,hk,num (i2 hu) λw=>Zks w t hu⟩
 |sub=>obtain ⟨u,hu,hk⟩:=Z5 h;exact ⟨u,hk,num (i2 hu) λw=>Zkd w t hu⟩
 |mul=>obtain ⟨u,hu,hk⟩:=Z5 h;exact ⟨u,hk,num (i2 hu) λw=>Zkj w t hu⟩
 |quo=>obtain ⟨u,hu,hk⟩:=Z5 h;exact ⟨u,hk,num (i2 hu) λw=>Zkh w t hu⟩
 |rem=>obtain ⟨u,hu,hk⟩:=Z5 h;exact ⟨u,hk,num (i2 hu) λw=>Zkg w t hu⟩
 |and=>obtain ⟨u,hu,hk⟩:=Z5 h;exact ⟨u,hk,num (i2 hu) λw=>Zkr w t hu⟩
 |or=>obtain ⟨u,hu,hk⟩:=Z5 h;exact ⟨u,hk,num (i2 hu) λw=>Zpc w t hu⟩
 |xor=>obtain ⟨u,hu,hk⟩:=Z5 h;exact ⟨u,hk,num (i2 hu) λw=>Zkc w t hu⟩
 |andNot=>obtain ⟨u,hu,hk⟩:=Z5 h;exact ⟨u,hk,num (i2 hu) λw=>cp w t hu⟩
 |shl=>obtain ⟨u,hu,hk⟩:=Z5 h;exact ⟨u,hk,num (shift (.inl rfl) hu) λw=>Zkf w t hu⟩
 |shr=>obtain ⟨u,hu,hk⟩:=Z5 h;exact ⟨u,hk,num (shift (.inr rfl) hu) λw=>Zke w t hu⟩
 |lss=>obtain ⟨u,hu,hk⟩:=Z5 h;exact ⟨u,hk,num (i2 hu) λw=>Zkk w t hu⟩
 |leq=>obtain ⟨u,hu,hk⟩:=Z5 h;exact ⟨u,hk,num (i2 hu) λw=>Zkl w t hu⟩
 |gtr=>obtain ⟨u,hu,hk⟩:=Z5 h;exact ⟨u,hk,num (i2 hu) λw=>Zkm w t hu⟩
 |geq=>obtain ⟨u,hu,hk⟩:=Z5 h;exact ⟨u,hk,num (i2 hu) λw=>Zkn w t hu⟩
 |eql=>
  obtain ⟨q,hq,hA⟩:=Zj h;obtain ⟨u,hu,hk⟩:=Z5 hA;unfold Zpf at hu;obtain ⟨b,hb,hB⟩:=Zj hu;cases hB;refine ⟨_,hk,λρ x' y' hx hy w=>?_⟩;obtain ⟨h1,h2,_⟩:=mq hq hb hx hy w ox oy;exact ⟨h1 _,h2,rfl⟩
 |neq=>
  obtain ⟨q,hq,hA⟩:=Zj h;obtain ⟨u,hu,hk⟩:=Z5 hA;unfold Zpe at hu;obtain ⟨b,hb,hB⟩:=Zj hu;cases hB;refine ⟨_,hk,λρ x' y' hx hy w=>?_⟩;obtain ⟨h1,_,h2⟩:=mq hq hb hx hy w ox oy;exact ⟨h1 _,h2,rfl⟩
theorem Zpa {β:Type} {op:UnOp} {x:Value} {k:Value->Option β} {r:β} (h:evUn op x k=some r) :
  ∃ u,k u=some r/\∀ (ρ:Map) (x':Value),Qc ρ x x'->∀ w:World,(Op.unary op x').run P w=.ok u w/\flat u=true:=by
 unfold evUn at h;cases op with
 |neg=>
  obtain ⟨u,hu,hk⟩:=Z5 h;unfold Cg at hu;split at hu
  ·cases hu;refine ⟨_,hk,λρ x' hx w=>?_⟩;cases hx;simp [Op.unary,Op.intArith,Jk,flat];exact congrArg _ (Int.zero_sub _).symm
  ·cases hu
 |xor=>
  obtain ⟨u,hu,hk⟩:=Z5 h;unfold Zhk at hu;split at hu
  ·cases hu;refine ⟨_,hk,λρ x' hx w=>?_⟩;cases hx;refine ⟨?_,rfl⟩;rename_i k n _;have e:(cond k.signed (-1) k.max)=(if k.signed then -1 else k.max):=by cases k.signed <;> rfl
   simp only [Op.unary,Op.intBits,Sem.run_pure,Jk,Ga,e,BitVec.toNat_xor];rfl
  ·cases hu
 |not=>
  obtain ⟨u,hu,hk⟩:=Z5 h;unfold Gh at hu;split at hu
  ·cases hu;refine ⟨_,hk,λρ x' hx w=>?_⟩;cases hx;simp [Op.unary,flat]
  ·cases hu
 |plus=>cases h
end
end Go.Ev
namespace Go.Ev
section
variable {P:Program} {base:Nat} {W K:Nat->Prop} {ρ:Map} {H:AH} {w:World}
theorem Zcc {t:TypeId} {i:S8} (ht:Y7 P t=some i) {lo:Nat} {a x a' x':Value} {H':AH} (h:Hx lo H i.size a x=some H') (J7:base<=lo)
  (hH:Jd P base K ρ H w) (ha:Qc ρ a a') (hx:Qc ρ x x') (hK:∀ j∈Xl a,K j) (hW:∀ j∈Xl a,lo<=j->W j) :
  ∃ w',(Instr.storeAt t a' x').run P w=.ok () w'/\Step P base W K ρ H w ρ H' w':=by
 obtain ⟨j,off,rfl,hA⟩:=G6 h;unfold Pv at hA;obtain ⟨s,cs,e,hg,hB⟩:=U0 hA;obtain ⟨b1,hC⟩:=Zt hB;obtain ⟨b2,hD⟩:=Zt hC;obtain ⟨b3,hE⟩:=Zt hD;obtain ⟨b4,hF⟩:=Zt hE;cases hF;have b1:=Qa b1;have b2:=Qb b2;have b3:off+i.size<=s:=Qa b3;rw [K4] at b2;obtain ⟨l,hl,rfl⟩:=ha.T4;have hk:K j:=hK j (by simp [Xl])
 have hw:W j:=hW j (by simp [Xl]) b1
 have hr:=hx.cells;obtain ⟨w',h1,h2⟩:=Rh hH hk hw (Nat.le_trans J7 b1) hg hl off (vs:=cellsOf x) (Wq:=x'.cells.toList) (by omega) hr (Fj b4 hr)
 refine ⟨w',?_,h2⟩;have hs:x'.cells.size=i.size:=by rw [<- Array.length_toList,<- hr.length,b2]
 simp [Instr.storeAt,Instr.sureAddr,storeVar,run_sizeOf ht,hs,h1]
theorem Xt.two {x y:Value} {l:Array Value} (h:Xt ρ [x,y] l.toList):∃ x' y',l=#[x',y']/\Qc ρ x x'/\Qc ρ y y':=by
 obtain ⟨l⟩:=l;cases h with
 |cons h1 t=>cases t with
  |cons h2 t=>cases t;exact ⟨_,_,rfl,h1,h2⟩
theorem Xt.one {x:Value} {l:Array Value} (h:Xt ρ [x] l.toList):∃ x',l=#[x']/\Qc ρ x x':=by
 obtain ⟨l⟩:=l;cases h with
 |cons h1 t=>cases t;exact ⟨_,rfl,h1⟩
theorem Zdi {α:Type} {a:Array α} {x y:α} (h:a.toList=[x,y]):a=#[x,y]:=by
 obtain ⟨l⟩:=a;cases h;rfl
theorem Cs {α:Type} {a:Array α} {x:α} (h:a.toList=[x]):a=#[x]:=by
 obtain ⟨l⟩:=a;cases h;rfl
theorem Ik {E:Env} {o:Op} {x:Operand} {v:Value} (hK:Tu P E ρ o K) (hx:x∈Y9 o) (hv:K9 P E x=some v):∀ j∈Xl v,K j:=
 hK.1 x hx v hv
theorem Ho {E:Env} {o:Op} {lo:Nat} {x:Operand} {v:Value} (hw:isWr (Yd o)=true) (hx:x∈Y9 o) (hv:K9 P E x=some v):∀ j∈Xl v,lo<=j->V1 P E lo o j:=
 λ_ hj hl=>⟨hl,.inr ⟨hw,x,hx,v,hv,hj⟩⟩
theorem Zca {E:Env}:∀ {xs:List Operand} {vs:List Value},Kz P E xs=some vs->∀ v∈vs,∃ x∈xs,K9 P E x=some v
 |[],vs,h,v,hv=>by cases h;cases hv
 |x::xs,vs,h,v,hv=>by
  obtain ⟨u,hu,h1⟩:=Zj h;obtain ⟨l,hl,h2⟩:=Zj h1;cases h2;cases hv with
  |head=>exact ⟨x,by simp,hu⟩
  |tail _ hm=>
   obtain ⟨y,hy,h3⟩:=Zca hl v hm;exact ⟨y,List.mem_cons_of_mem _ hy,h3⟩
theorem Dh {b:Builtin} {ts:Array TypeId} {ty:TypeId} {cs:Array Bool} {args:Array Value} {v:Value} {w':World} {f:Array TypeId->TypeId->Array Value->Sem Value}
  (hf:∀ x,builtin b ts ty cs x=(do pure (.value (<- f ts ty x)))) (h:(f ts ty args).run P w=.ok v w'):(builtin b ts ty cs args).run P w=.ok (.value v) w':=by
 rw [hf];simp [h]
theorem rk {β:Type} {lo:Nat} {E:Env} {k:Value->AH->Option β} {r:β} (J7:base<=lo) {b:Builtin} {args:Array Operand} {ts:Array TypeId} {ty:TypeId} {cs:Array Bool}
  {vs:List Value} (fw:Kz P E args.toList=some vs) (h:U5 P lo H b ts.toList vs k=some r) :
  ∃ v H',k v H'=some r/\((Yd (.call ⟨.builtin b,args,ts⟩)).U2=false->makes (.call ⟨.builtin b,args,ts⟩)=false->H'=H)/\∀ (ρ:Map) (K:Nat->Prop) (w:World) (ev:Operand->Value),Jd P base K ρ H w->qy P ρ E ev->Tu P E ρ (.call ⟨.builtin b,args,ts⟩) K ->
   ∃ v' ρ' w',(builtin b ts ty cs (args.map ev)).run P w=.ok (.value v') w'/\Qc ρ' v v'/\Step P base (V1 P E lo (.call ⟨.builtin b,args,ts⟩)) K ρ H w ρ' H' w':=by
 have rel:∀ {ρ:Map} {ev:Operand->Value},qy P ρ E ev->Xt ρ vs (args.map ev).toList:=λhX=>by
  rw [Array.toList_map];exact Pu hX fw
 have hmem:=Zca fw;unfold U5 at h;split at h
 ·split at h
  ·rename_i st xt s x h1;have fx:=Zdi h1;obtain ⟨u,H',hk,hA⟩:=rm (ty:=ty) J7 h;refine ⟨u,H',hk,(by first |exact λ_ _=>rfl |exact λh1 _=>nomatch (show true=false from h1) |exact λ_ h2=>nomatch (show true=false from h2)),λρ K w ev hH hX hK=>?_⟩
   obtain ⟨s',x',ha,hs,hx⟩:=(rel hX).two;obtain ⟨xs,hxs,hes⟩:=hmem s (by simp)
   obtain ⟨xx,hxx,hex⟩:=hmem x (by simp)
   obtain ⟨u',w',ρ',h3,h4,h5⟩:=hA ρ (V1 P E lo (.call ⟨.builtin .append,args,ts⟩)) K w s' x' hH hs hx (Ik hK hxs hes) (Ik hK hxx hex) (Ho rfl hxs hes);exact ⟨u',ρ',w',Dh (f:=Builtin.append_) (λ_=>rfl) (by rw [ha,fx];exact h3),h4,h5⟩
  ·cases h
 ·split at h
  ·rename_i t x h1;have fx:=Cs h1;obtain ⟨u,hk,hA⟩:=Zi4 (base:=base) (ty:=ty) h;refine ⟨u,H,hk,(by first |exact λ_ _=>rfl |exact λh1 _=>nomatch (show true=false from h1) |exact λ_ h2=>nomatch (show true=false from h2)),λρ K w ev hH hX hK=>?_⟩
   obtain ⟨x',ha,hx⟩:=(rel hX).one;obtain ⟨xx,hxx,hex⟩:=hmem x (by simp)
   obtain ⟨u',h3,h4⟩:=hA ρ K w x' hH (Ik hK hxx hex) hx;exact ⟨u',ρ,w,Dh (f:=Builtin.len_) (λ_=>rfl) (by rw [ha,fx];exact h3),h4,Step.refl hH⟩
  ·cases h
 ·split at h
  ·rename_i t x h1;have fx:=Cs h1;obtain ⟨u,hk,hA⟩:=Zi5 (ty:=ty) h;refine ⟨u,H,hk,(by first |exact λ_ _=>rfl |exact λh1 _=>nomatch (show true=false from h1) |exact λ_ h2=>nomatch (show true=false from h2)),λρ K w ev hH hX hK=>?_⟩
   obtain ⟨x',ha,hx⟩:=(rel hX).one;obtain ⟨u',h3,h4⟩:=hA ρ w x' hx;exact ⟨u',ρ,w,Dh (f:=Builtin.cap_) (λ_=>rfl) (by rw [ha,fx];exact h3),h4,Step.refl hH⟩
  ·cases h
 ·split at h
  ·rename_i v Wq _ hvs0;obtain ⟨u,hk,hA⟩:=Rm (P:=P) h;refine ⟨u,H,hk,(by first |exact λ_ _=>rfl |exact λh1 _=>nomatch (show true=false from h1) |exact λ_ h2=>nomatch (show true=false from h2)),λρ K w ev hH hX hK=>?_⟩
   have hr:=rel hX;cases hl:(args.map ev).toList with
   |nil=>rw [hl] at hr;cases hr
   |cons v' l'=>
    rw [hl] at hr;cases hr with
    |cons h1 h2=>
     obtain ⟨u',h3,h4⟩:=hA ρ w v' l' h1 h2;refine ⟨u',ρ,w,Dh (f:=Builtin.min_) (λ_=>rfl) ?_,h4,Step.refl hH⟩;unfold Builtin.min_;rw [hl];exact h3
  ·cases h
 ·split at h
  ·rename_i v Wq _ hvs0;obtain ⟨u,hk,hA⟩:=Rm (P:=P) h;refine ⟨u,H,hk,(by first |exact λ_ _=>rfl |exact λh1 _=>nomatch (show true=false from h1) |exact λ_ h2=>nomatch (show true=false from h2)),λρ K w ev hH hX hK=>?_⟩
   have hr:=rel hX;cases hl:(args.map ev).toList with
   |nil=>rw [hl] at hr;cases hr
   |cons v' l'=>
    rw [hl] at hr;cases hr with
    |cons h1 h2=>
     obtain ⟨u',h3,h4⟩:=hA ρ w v' l' h1 h2;refine ⟨u',ρ,w,Dh (f:=Builtin.max_) (λ_=>rfl) ?_,h4,Step.refl hH⟩;unfold Builtin.max_;rw [hl];exact h3
  ·cases h
 ·split at h
  ·rename_i t x h1;have fx:=Cs h1;obtain ⟨H',hk,hA⟩:=Zau (ty:=ty) J7 h;refine ⟨.tuple #[],H',hk,(by first |exact λ_ _=>rfl |exact λh1 _=>nomatch (show true=false from h1) |exact λ_ h2=>nomatch (show true=false from h2)),λρ K w ev hH hX hK=>?_⟩
   obtain ⟨x',ha,hx⟩:=(rel hX).one;obtain ⟨xx,hxx,hex⟩:=hmem x (by simp)
   obtain ⟨w',h3,h4⟩:=hA ρ (V1 P E lo (.call ⟨.builtin .clear,args,ts⟩)) K w x' hH hx (Ik hK hxx hex) (Ho rfl hxx hex);exact ⟨.tuple #[],ρ,w',Dh (f:=Builtin.clear_) (λ_=>rfl) (by rw [ha,fx];exact h3),.tuple (by simpa using Xt.nil),h4⟩
  ·cases h
 ·cases h
end
end Go.Ev
namespace Go.Ev
section
variable {P:Program} {base:Nat} {ρ:Map} {H:AH} {w:World}
theorem Xt.array {l:List Value} {a:Array Value} (h:Xt ρ l a.toList):Xt ρ l a.toList:=h
theorem Gt {s:Sem Value} {w w':World} {v:Value} (h:s.run P w=.ok v w'):(do pure (Next.value (<- s)):Sem Next).run P w=.ok (.value v) w':=by
 simp [h]
theorem run_u {s:Sem Unit} {w w':World} (h:s.run P w=.ok () w'):(do s;pure Next.skip:Sem Next).run P w=.ok .skip w':=by
 simp [h]
theorem Qc.bj {fn:Fn} {f c:Array Value} {v':Value} (h:Qc ρ (.func fn f c) v'):∃ f' c',v'=.func fn f' c'/\Xt ρ f.toList f'.toList/\Xt ρ c.toList c'.toList:=by
 cases h with
 |flat h=>simp [Ev.flat] at h
 |func h h'=>exact ⟨_,_,rfl,h,h'⟩
theorem Qc.x8 {vs:Array Value} {v':Value} (h:Qc ρ (.tuple vs) v'):∃ Wq,v'=.tuple Wq/\Xt ρ vs.toList Wq.toList:=by
 cases h with
 |flat h=>simp [Ev.flat] at h
 |tuple h=>exact ⟨_,rfl,h⟩
theorem Qc.Bk {b:Bool} {v':Value} (h:Qc ρ (.bool b) v'):v'=.bool b:=by
 cases h;rfl
theorem dj {parts:Array (Nat×Operand)} {ev:Operand->Value}:(parts.map λ(i,x)=>(i,ev x))=(parts.toList.map λp=>(p.1,ev p.2)).toArray:=by
 obtain ⟨l⟩:=parts;simp
theorem Fy {g:FuncId} {fn:Func} (hfn:P.funcs[g]? = some fn) (Zbu:fn.body.isNone=false) (Zbr:(fn.name == "runtime.NumGoroutine")=false) (args:Array Value) (w:World) :
  (callFunc g args).run P w=.ok (.enter g args) w:=by
 have hp:(program).run P w=.ok P w:=rfl;unfold callFunc;rw [Sem.run_bind,hp];simp only [Result.andThen,hfn,Zbr,Zbu,Bool.false_eq_true,if_false];rfl
theorem Rv {E E':Env}:∀ {xs:List Operand},(∀ x∈xs,K9 P E x=K9 P E' x)->Kz P E xs=Kz P E' xs
 |[],_=>rfl
 |x::xs,h=>by
  unfold Kz;rw [h x (by simp),Rv λy hy=>h y (List.mem_cons_of_mem _ hy)]
theorem Rk {E E':Env} {place:Nat->Option (Nat×Nat)}:∀ {xs:List (Nat×Operand)},(∀ x∈xs.map (·.2),K9 P E x=K9 P E' x)->V4 P E place xs=V4 P E' place xs
 |[],_=>rfl
 |(i,x)::xs,h=>by
  unfold V4;rw [h x (by simp),Rk λy hy=>h y (by simp at hy ⊢;exact .inr hy)]
theorem R6 {E E':Env} {x:Option Operand} (h:∀ y,x=some y->K9 P E y=K9 P E' y):Dd P E x=Dd P E' x:=by
 cases x with
 |none=>rfl
 |some y=>
  show Zf (K9 P E y) _=Zf (K9 P E' y) _;rw [h y rfl]
theorem b9 {β:Type} {call:Jh} {lo:Nat} {E E':Env} {k:Value->AH->Option β} {o:Op} (h:∀ x∈o.operands,K9 P E x=K9 P E' x) :
  Uu P call lo E H o k=Uu P call lo E' H o k:=by
 cases o <;> unfold Uu <;> simp only [Op.operands] at h ⊢ <;> try rfl
 case build t parts=>
  have e:∀ place,V4 P E place parts.toList=V4 P E' place parts.toList:=λplace=>Rk λx hx=>h x (by simpa using hx)
  unfold F7;simp only [e]
 case buildSlice t n parts=>
  have e:∀ place,V4 P E place parts.toList=V4 P E' place parts.toList:=λplace=>Rk λx hx=>h x (by simpa using hx)
  unfold D0;simp only [e]
 case makeFunc fn first captured=>
  rw [Rv (xs:=first.toList) λx hx=>h x (by simp at hx ⊢;exact .inl hx),Rv (xs:=captured.toList) λx hx=>h x (by simp at hx ⊢;exact .inr hx)]
 case makeMap t r=>
  cases r with
  |none=>rfl
  |some x=>simp only;rw [h x (by simp)]
 case slice t x l hi mx=>
  unfold F5;rw [h x (by simp),R6 (x:=l) λy hy=>h y (by simp [hy]),R6 (x:=hi) λy hy=>h y (by simp [hy]),R6 (x:=mx) λy hy=>h y (by simp [hy])]
 case call c=>
  obtain ⟨callee,args,ts⟩:=c;rw [Rv (xs:=args.toList) λx hx=>h x (by simp [Call.operands];exact .inr (by simpa using hx))]
  cases callee with
  |value f=>simp only;rw [h f (by simp [Call.operands])]
  |invoke r name=>simp only;rw [h r (by simp [Call.operands])]
  |_=>rfl
 all_goals simp_all
theorem Qc.Hh {t:TypeId} {v v':Value} (h:Qc ρ (.iface t v) v'):∃ u,v'=.iface t u/\Qc ρ v u:=by
 cases h with
 |flat h=>simp [Ev.flat] at h
 |iface h=>exact ⟨_,rfl,h⟩
theorem cd {t:TypeId} {name:String} {g:FuncId} (h:Al P t name=some g) (n:Nat) (v:Value) (w:World):(method (n+1) t v name).run P w=.ok (g,v) w:=by
 obtain ⟨i,hi,hA⟩:=Zj h;obtain ⟨j,hj,hB⟩:=Zj hA;obtain ⟨hp,hC⟩:=Zt hB;obtain ⟨m,hm,hD⟩:=Zj hC;obtain ⟨hpath,hE⟩:=Zt hD;split at hE
 ·rename_i f hf;cases hE;obtain ⟨inf,hu,_⟩:=Kq hj;have hm':i.methods.find? (·.name == name)=some m:=by rw [<- Array.find?_toList];exact hm
  have hpn:m.path.toList=[]:=List.isEmpty_iff.1 hpath;unfold method;rw [Sem.run_bind,run_typeInfo hi];simp only [Result.andThen_ok,hm',hpn,follow,Sem.run_bind,Sem.run_pure,hf];unfold receiverAt;rw [Sem.run_bind,run_underlying hu];cases hd:j.desc <;> first |rfl |(rw [hd] at hp;cases hp)
 ·cases hE
theorem Zdw {a xt:TypeId} {ok:Bool} {i:S8} (hi:Y7 P a=some i) (hn:L9 i.desc=true) {z:Value} (hz:zeroOf i=some z) {x x' u:Value} (h:Nc a z x ok=some u) (hx:Qc ρ x x') (w:World) :
  ∃ u',(Instr.typeAssert x' xt a ok).run P w=.ok u' w/\Qc ρ u u':=by
 obtain ⟨inf,hu,_⟩:=Kq hi;have fu:=K2 hi hz w;have zr:Qc ρ (.tuple #[z,.bool false]) (.tuple #[z,.bool false]):=.tuple (.cons (Qc.plain (W2 hz).2) (.cons (.flat rfl) .nil));unfold Nc at h;split at h
 ·cases ok with
  |false=>cases h
  |true=>
   cases h;cases hx;refine ⟨_,?_,zr⟩;unfold Instr.typeAssert;simp only [Sem.run_bind,run_underlying hu,Result.andThen_ok];cases hd:i.desc <;> first |(simp [fu];done) |(rw [hd] at hn;cases hn)
 ·rename_i t v;obtain ⟨v',rfl,hv⟩:=hx.Hh
  by_cases ht:t=a
  ·rw [Uj ht] at h;cases h;subst ht;cases ok with
   |true=>
    refine ⟨.tuple #[v',.bool true],?_,.tuple (.cons hv (.cons (.flat rfl) .nil))⟩;unfold Instr.typeAssert;simp only [Sem.run_bind,run_underlying hu,Result.andThen_ok];cases hd:i.desc <;> first |(simp;done) |(rw [hd] at hn;cases hn)
   |false=>
    refine ⟨v',?_,hv⟩;unfold Instr.typeAssert;simp only [Sem.run_bind,run_underlying hu,Result.andThen_ok];cases hd:i.desc <;> first |(simp;done) |(rw [hd] at hn;cases hn)
  ·rw [Wm ht] at h;cases ok with
   |false=>cases h
   |true=>
    cases h;refine ⟨_,?_,zr⟩;unfold Instr.typeAssert;simp only [Sem.run_bind,run_underlying hu,Result.andThen_ok];cases hd:i.desc <;> first |(simp [ht,fu];done) |(rw [hd] at hn;cases hn)
 ·cases h
theorem Zki {β:Type} {call:Jh} {lo:Nat} {E:Env} {k:Value->AH->Option β} {r:β} (Xn:I6 P base call) (J7:base<=lo) (o:Oper)
  (h:Uu P call lo E H o.op k=some r) :
  ∃ v H',k v H'=some r/\((Yd o.op).U2=false->makes o.op=false->H'=H)/\∀ (ρ:Map) (K:Nat->Prop) (w:World) (a:Act),Jd P base K ρ H w->qy P ρ E a.eval->Tu P E ρ o.op K->wu P base (V1 P E lo o.op) K ρ H w a o v H':=by
 obtain ⟨dst,op,type,pos,after,guard⟩:=o;unfold Uu at h;cases op <;> simp only at h ⊢ <;> try (cases h;done)
 case move x=>
  obtain ⟨v,hv,hk⟩:=Zj h;exact ⟨v,H,hk,(by first |exact λ_ _=>rfl |exact λh1 _=>nomatch (show true=false from h1) |exact λ_ h2=>nomatch (show true=false from h2)),λρ K w a hH hX hK=>.value (v':=a.eval x) (by simp [execOp]) (hX _ _ hv) (Step.refl hH)⟩
 case assign x=>
  obtain ⟨v,hv,hk⟩:=Zj h;exact ⟨v,H,hk,(by first |exact λ_ _=>rfl |exact λh1 _=>nomatch (show true=false from h1) |exact λ_ h2=>nomatch (show true=false from h2)),λρ K w a hH hX hK=>.value (v':=a.eval x) (by simp [execOp]) (hX _ _ hv) (Step.refl hH)⟩
 case pick c x y=>
  obtain ⟨c0,hc,hA⟩:=Zj h;obtain ⟨x0,hx,hB⟩:=Zj hA;obtain ⟨y0,hy,hC⟩:=Zj hB;obtain ⟨v,hv,hk⟩:=Z5 hC;refine ⟨v,H,hk,(by first |exact λ_ _=>rfl |exact λh1 _=>nomatch (show true=false from h1) |exact λ_ h2=>nomatch (show true=false from h2)),λρ K w a hH hX hK=>?_⟩
  unfold Zpb at hv;split at hv
  ·rename_i t;cases hv;have h1:=(hX _ _ hc).Bk;cases t with
   |true=>exact .value (v':=a.eval x) (by simp [execOp,h1,asBool]) (hX _ _ hx) (Step.refl hH)
   |false=>exact .value (v':=a.eval y) (by simp [execOp,h1,asBool]) (hX _ _ hy) (Step.refl hH)
  ·cases hv
 case alloc e=>
  obtain ⟨i,hi,hA⟩:=Zj h;obtain ⟨z,hz,hk⟩:=Zj hA;refine ⟨_,_,hk,(by first |exact λ_ _=>rfl |exact λh1 _=>nomatch (show true=false from h1) |exact λ_ h2=>nomatch (show true=false from h2)),λρ K w a hH hX hK=>?_⟩
  obtain ⟨w',ρ',v',h1,h2,h3⟩:=Zce hH hi hz;exact .value (Gt h1) h2 h3
 case box e x=>
  obtain ⟨v,hv,hk⟩:=Zj h;refine ⟨_,_,hk,(by first |exact λ_ _=>rfl |exact λh1 _=>nomatch (show true=false from h1) |exact λ_ h2=>nomatch (show true=false from h2)),λρ K w a hH hX hK=>?_⟩
  obtain ⟨w',ρ',v',h1,h2,h3⟩:=Zkp hH e (hX _ _ hv);exact .value (Gt h1) h2 h3
 case build t parts=>
  obtain ⟨u,hk,hA⟩:=Zaw h;refine ⟨u,H,hk,(by first |exact λ_ _=>rfl |exact λh1 _=>nomatch (show true=false from h1) |exact λ_ h2=>nomatch (show true=false from h2)),λρ K w a hH hX hK=>?_⟩
  obtain ⟨u',h1,h2⟩:=hA ρ a.eval hX w;exact .value (Gt (by rw [dj];exact h1)) h2 (Step.refl hH)
 case buildSlice t len parts=>
  obtain ⟨u,H',hk,hA⟩:=Sa (base:=base) (W:=V1 P E lo (.buildSlice t len parts)) h;refine ⟨u,H',hk,(by first |exact λ_ _=>rfl |exact λh1 _=>nomatch (show true=false from h1) |exact λ_ h2=>nomatch (show true=false from h2)),λρ K w a hH hX hK=>?_⟩
  obtain ⟨u',w',ρ',h1,h2,h3⟩:=hA ρ K w a.eval hH hX;exact .value (Gt (by rw [dj];exact h1)) h2 h3
 case load t x=>
  obtain ⟨v,hv,hA⟩:=Zj h;obtain ⟨i,hi,hB⟩:=Zj hA;obtain ⟨u,hu,hk⟩:=Z5 hB;refine ⟨u,H,hk,(by first |exact λ_ _=>rfl |exact λh1 _=>nomatch (show true=false from h1) |exact λ_ h2=>nomatch (show true=false from h2)),λρ K w a hH hX hK=>?_⟩
  obtain ⟨u',h1,h2⟩:=vc hi hu (hX _ _ hv) hH (Ik hK (by simp [Y9]) hv)
  exact .value (Gt h1) h2 (Step.refl hH)
 case store t x y=>
  obtain ⟨v,hv,hA⟩:=Zj h;obtain ⟨u,hu,hB⟩:=Zj hA;obtain ⟨i,hi,hC⟩:=Zj hB;obtain ⟨H',hH',hk⟩:=Z5 hC;refine ⟨undef,H',hk,(by first |exact λ_ _=>rfl |exact λh1 _=>nomatch (show true=false from h1) |exact λ_ h2=>nomatch (show true=false from h2)),λρ K w a hH hX hK=>?_⟩
  obtain ⟨w',h1,h2⟩:=Zcc (W:=V1 P E lo (.store t x y)) hi hH' J7 hH (hX _ _ hv) (hX _ _ hu) (Ik hK (by simp [Y9]) hv) (Ho rfl (by simp [Y9]) hv)
  exact .skip (run_u h1) h2
 case nilCheck x=>
  obtain ⟨v,hv,hA⟩:=Zj h;obtain ⟨u,hu,hk⟩:=Z5 hA;refine ⟨u,H,hk,(by first |exact λ_ _=>rfl |exact λh1 _=>nomatch (show true=false from h1) |exact λ_ h2=>nomatch (show true=false from h2)),λρ K w a hH hX hK=>?_⟩
  unfold Zpd at hu;split at hu
  ·cases hu;have h1:=hX _ _ hv
   have h2:∃ q,a.eval x=.pointer (some q):=by
    generalize a.eval x=x' at h1;cases h1 with
    |flat h=>simp [Ev.flat] at h
    |ptr h=>exact ⟨_,rfl⟩
   obtain ⟨q,hq⟩:=h2;exact .value (v':=a.eval x) (by simp [execOp,hq]) h1 (Step.refl hH)
  ·cases hu
 case binOp op t x y yt=>
  obtain ⟨v,hv,hA⟩:=Zj h;obtain ⟨u,hu,hB⟩:=Zj hA;obtain ⟨b,hk,hC⟩:=Zkq (ox:=x) (oy:=y) hB;refine ⟨b,H,hk,(by first |exact λ_ _=>rfl |exact λh1 _=>nomatch (show true=false from h1) |exact λ_ h2=>nomatch (show true=false from h2)),λρ K w a hH hX hK=>?_⟩
  obtain ⟨h1,h2,h3⟩:=hC ρ _ _ (hX _ _ hv) (hX _ _ hu) w;exact .value (Gt (by simp [h1,h2])) (.flat h3) (Step.refl hH)
 case unOp op t x=>
  obtain ⟨v,hv,hA⟩:=Zj h;obtain ⟨b,hk,hC⟩:=Zpa (P:=P) hA;refine ⟨b,H,hk,(by first |exact λ_ _=>rfl |exact λh1 _=>nomatch (show true=false from h1) |exact λ_ h2=>nomatch (show true=false from h2)),λρ K w a hH hX hK=>?_⟩
  obtain ⟨h1,h2⟩:=hC ρ _ (hX _ _ hv) w;exact .value (Gt h1) (.flat h2) (Step.refl hH)
 case convert s d x=>
  obtain ⟨v,hv,hA⟩:=Zj h;obtain ⟨i,hi,hB⟩:=Zj hA;obtain ⟨j,hj,hC⟩:=Zj hB;obtain ⟨q,hq,hD⟩:=Zj hC;obtain ⟨u,hu,hk⟩:=Z5 hD;refine ⟨u,H,hk,(by first |exact λ_ _=>rfl |exact λh1 _=>nomatch (show true=false from h1) |exact λ_ h2=>nomatch (show true=false from h2)),λρ K w a hH hX hK=>?_⟩
  unfold Ki at hu;split at hu
  ·rename_i k0 n;cases hu;have h1:=(hX _ _ hv).int_eq;obtain ⟨_,h2,_⟩:=Kq hi;obtain ⟨_,h3,_⟩:=Kq hj
   have h4:j.desc=.int q:=by
    unfold intOf at hq;split at hq
    ·cases hq;assumption
    ·cases hq
   refine .value (v':=.int q (Jl q n)) (Gt ?_) (.flat rfl) (Step.refl hH);rw [h1,Jk];simp [Go.convert,underlying,h2,h3,h4,Conv.intToInt]
  ·cases hu
 case makeFunc fn first captured=>
  obtain ⟨f,hf,hA⟩:=Zj h;obtain ⟨c,hc,hk⟩:=Zj hA;refine ⟨_,H,hk,(by first |exact λ_ _=>rfl |exact λh1 _=>nomatch (show true=false from h1) |exact λ_ h2=>nomatch (show true=false from h2)),λρ K w a hH hX hK=>?_⟩
  refine .value (v':=.func fn (first.map a.eval) (captured.map a.eval)) (Gt rfl) (.func ?_ ?_) (Step.refl hH)
  ·rw [Array.toList_map];exact Pu hX hf
  ·rw [Array.toList_map];exact Pu hX hc
 case makeMap t x=>
  have key:∀ (ρ:Map) (K:Nat->Prop) (w:World),Jd P base K ρ H w->∃ ρ' w',(newObj (.map #[] 0)).run P w=.ok w.heap.size w' /\
    Qc ρ' (.map (some H.next)) (.map (some w.heap.size))/\Step P base (V1 P E lo (.makeMap t x)) K ρ H w ρ' (H.push (.map [] 0)) w':=by
   intro ρ K w hH;refine ⟨Tf ρ H.next ⟨w.heap.size,0,0⟩,{ w with heap:=w.heap.push (.map #[] 0) },rfl,?_,?_⟩
   ·exact Qc.map (l:=⟨w.heap.size,0,0⟩) (Jz _ _ _)
   ·refine Step.alloc hH (ob:=.map #[] 0) rfl _ rfl _ ?_ ?_ ⟨rfl,rfl⟩
    ·exact ⟨#[],by simp,by simpa using Df.nil⟩
    ·intro c e fz hc;simp at hc
  cases x with
  |none=>
   refine ⟨_,_,h,(by first |exact λ_ _=>rfl |exact λh1 _=>nomatch (show true=false from h1) |exact λ_ h2=>nomatch (show true=false from h2)),λρ K w a hH hX hK=>?_⟩
   obtain ⟨ρ',w',h1,h2,h3⟩:=key ρ K w hH;exact .value (Gt (by simp [Instr.makeMap,h1])) h2 h3
  |some x=>
   obtain ⟨v,hv,hA⟩:=Zj h;obtain ⟨i,hi,hB⟩:=Zj hA;obtain ⟨p,hp,hC⟩:=Zj hB;obtain ⟨q,hq,hk⟩:=Z5 hC;refine ⟨_,_,hk,(by first |exact λ_ _=>rfl |exact λh1 _=>nomatch (show true=false from h1) |exact λ_ h2=>nomatch (show true=false from h2)),λρ K w a hH hX hK=>?_⟩
   obtain ⟨ρ',w',h1,h2,h3⟩:=key ρ K w hH;obtain ⟨kk,n,rfl⟩:=Og (v:=v) (by rw [hq];rfl)
   have h4:=(hX _ _ hv).int_eq;obtain ⟨_,h5,_⟩:=Kq hi;rw [kp hp] at h5;exact .value (Gt (by simp [Instr.makeMap,underlying,h5,h4,asInt,asIntOf,h1])) h2 h3
 case makeSlice t x y=>
  obtain ⟨v,hv,hA⟩:=Zj h;obtain ⟨u,hu,hB⟩:=Zj hA;obtain ⟨b,H',hk,hC⟩:=qj (base:=base) (W:=V1 P E lo (.makeSlice t x y)) hB;refine ⟨b,H',hk,(by first |exact λ_ _=>rfl |exact λh1 _=>nomatch (show true=false from h1) |exact λ_ h2=>nomatch (show true=false from h2)),λρ K w a hH hX hK=>?_⟩
  obtain ⟨u',w',ρ',h1,h2,h3⟩:=hC ρ K w _ _ hH (hX _ _ hv) (hX _ _ hu);exact .value (Gt h1) h2 h3
 case slice t x l hi mx=>
  obtain ⟨v,hv,hA⟩:=Zj h;obtain ⟨b,hk,hC⟩:=Zar hA;refine ⟨b,H,hk,(by first |exact λ_ _=>rfl |exact λh1 _=>nomatch (show true=false from h1) |exact λ_ h2=>nomatch (show true=false from h2)),λρ K w a hH hX hK=>?_⟩
  obtain ⟨u',h1,h2⟩:=hC ρ a.eval _ hX (hX _ _ hv) w;exact .value (Gt h1) h2 (Step.refl hH)
 case fieldAddr t x f=>
  obtain ⟨v,hv,hA⟩:=Zj h;obtain ⟨b,hk,hC⟩:=ql hA;refine ⟨b,H,hk,(by first |exact λ_ _=>rfl |exact λh1 _=>nomatch (show true=false from h1) |exact λ_ h2=>nomatch (show true=false from h2)),λρ K w a hH hX hK=>?_⟩
  obtain ⟨u',h1,h2⟩:=hC ρ _ (hX _ _ hv) w;exact .value (Gt h1) h2 (Step.refl hH)
 case field t x f=>
  obtain ⟨v,hv,hA⟩:=Zj h;obtain ⟨b,hk,hC⟩:=Zat hA;refine ⟨b,H,hk,(by first |exact λ_ _=>rfl |exact λh1 _=>nomatch (show true=false from h1) |exact λ_ h2=>nomatch (show true=false from h2)),λρ K w a hH hX hK=>?_⟩
  obtain ⟨u',h1,h2⟩:=hC ρ _ (hX _ _ hv) w;exact .value (Gt h1) h2 (Step.refl hH)
 case indexAddr t x i=>
  obtain ⟨v,hv,hA⟩:=Zj h;obtain ⟨u,hu,hB⟩:=Zj hA;obtain ⟨b,hk,hC⟩:=qk hB;refine ⟨b,H,hk,(by first |exact λ_ _=>rfl |exact λh1 _=>nomatch (show true=false from h1) |exact λ_ h2=>nomatch (show true=false from h2)),λρ K w a hH hX hK=>?_⟩
  obtain ⟨u',h1,h2⟩:=hC ρ _ _ (hX _ _ hv) (hX _ _ hu) w;exact .value (Gt h1) h2 (Step.refl hH)
 case index t x i=>
  obtain ⟨v,hv,hA⟩:=Zj h;obtain ⟨u,hu,hB⟩:=Zj hA;obtain ⟨b,hk,hC⟩:=Zas hB;refine ⟨b,H,hk,(by first |exact λ_ _=>rfl |exact λh1 _=>nomatch (show true=false from h1) |exact λ_ h2=>nomatch (show true=false from h2)),λρ K w a hH hX hK=>?_⟩
  obtain ⟨u',h1,h2⟩:=hC ρ _ _ (hX _ _ hv) (hX _ _ hu) w;exact .value (Gt h1) h2 (Step.refl hH)
 case lookup t x key ok=>
  obtain ⟨v,hv,hA⟩:=Zj h;obtain ⟨u,hu,hB⟩:=Zj hA;obtain ⟨b,hk,hC⟩:=rh (base:=base) hB;refine ⟨b,H,hk,(by first |exact λ_ _=>rfl |exact λh1 _=>nomatch (show true=false from h1) |exact λ_ h2=>nomatch (show true=false from h2)),λρ K w a hH hX hK=>?_⟩
  obtain ⟨u',h1,h2⟩:=hC ρ K w _ _ hH (hX _ _ hv) (hX _ _ hu) (Ik hK (by simp [Y9]) hv)
  exact .value (Gt h1) h2 (Step.refl hH)
 case mapUpdate t m key x=>
  obtain ⟨v,hv,hA⟩:=Zj h;obtain ⟨u,hu,hB⟩:=Zj hA;obtain ⟨y,hy,hC⟩:=Zj hB;obtain ⟨H',hk,hD⟩:=rf (base:=base) hC;refine ⟨undef,H',hk,(by first |exact λ_ _=>rfl |exact λh1 _=>nomatch (show true=false from h1) |exact λ_ h2=>nomatch (show true=false from h2)),λρ K w a hH hX hK=>?_⟩
  obtain ⟨w',h1,h2⟩:=hD ρ (V1 P E lo (.mapUpdate t m key x)) K w _ _ _ hH (hX _ _ hv) (hX _ _ hu) (hX _ _ hy) (Ik hK (by simp [Y9]) hv) (Ho rfl (by simp [Y9]) hv)
  exact .skip (run_u h1) h2
 case extract x i=>
  obtain ⟨v,hv,hA⟩:=Zj h;obtain ⟨u,hu,hk⟩:=Z5 hA;refine ⟨u,H,hk,(by first |exact λ_ _=>rfl |exact λh1 _=>nomatch (show true=false from h1) |exact λ_ h2=>nomatch (show true=false from h2)),λρ K w a hH hX hK=>?_⟩
  unfold Zpg at hu;split at hu
  ·rename_i vs;rw [Xq] at hu;obtain ⟨Wq,h1,h2⟩:=(hX _ _ hv).x8;obtain ⟨u',h3,h4⟩:=h2.get _ _ hu;rw [Array.getElem?_toList] at h3;exact .value (v':=u') (Gt (by simp [Instr.extract,h1,h3])) h4 (Step.refl hH)
  ·cases hu
 case makeInterface t x=>
  obtain ⟨v,hv,hA⟩:=Zj h;obtain ⟨i,hi,hB⟩:=Zj hA;obtain ⟨hn,hk⟩:=Zt hB;refine ⟨_,H,hk,(by first |exact λ_ _=>rfl |exact λh1 _=>nomatch (show true=false from h1) |exact λ_ h2=>nomatch (show true=false from h2)),λρ K w a hH hX hK=>?_⟩
  obtain ⟨_,hu,_⟩:=Kq hi;refine .value (v':=.iface t (a.eval x)) (Gt ?_) (.iface (hX _ _ hv)) (Step.refl hH);unfold Instr.makeInterface;rw [Sem.run_bind,run_underlying hu];cases hd:i.desc <;> first |rfl |(rw [hd] at hn;cases hn)
 case typeAssert x xt t ok=>
  obtain ⟨v,hv,hA⟩:=Zj h;obtain ⟨i,hi,hB⟩:=Zj hA;obtain ⟨hn,hC⟩:=Zt hB;obtain ⟨z,hz,hD⟩:=Zj hC;obtain ⟨u,hu,hk⟩:=Z5 hD;refine ⟨u,H,hk,(by first |exact λ_ _=>rfl |exact λh1 _=>nomatch (show true=false from h1) |exact λ_ h2=>nomatch (show true=false from h2)),λρ K w a hH hX hK=>?_⟩
  obtain ⟨u',h1,h2⟩:=Zdw (xt:=xt) hi hn hz hu (hX _ _ hv) w;exact .value (Gt h1) h2 (Step.refl hH)
 case call c=>
  obtain ⟨callee,args,ts⟩:=c;obtain ⟨vs,fw,hA⟩:=Zj h;cases callee with
  |builtin b=>
   simp only at hA;obtain ⟨v,H',hk,Us,hB⟩:=rk (ty:=type) (cs:=args.map fun |.const _=>true |_=>false) J7 fw hA
   refine ⟨v,H',hk,Us,λρ K w a hH hX hK=>?_⟩;obtain ⟨v',ρ',w',h1,h2,h3⟩:=hB ρ K w a.eval hH hX hK;exact .value (v':=v') h1 h2 h3
  |value f=>
   obtain ⟨fv,hf,hB⟩:=Zj hA;unfold R5 at hB;split at hB
   ·rename_i g first captured
    obtain ⟨v,H',hr,hk⟩:=Lz hB;refine ⟨v,H',hk,(by first |exact λ_ _=>rfl |exact λh1 _=>nomatch (show true=false from h1) |exact λ_ h2=>nomatch (show true=false from h2)),λρ K w a hH hX hK=>?_⟩
    obtain ⟨⟨fn,hfn,Zbu,Zbr⟩,hC⟩:=Xn _ _ _ _ _ _ J7 hr;have hKd:K=Js ρ:=hK.2 rfl;subst hKd;obtain ⟨Ze9,S5,h1,h2,h3⟩:=(hX _ _ hf).bj
    have h4:Xt ρ (List.append first.toList (List.append vs captured.toList)) (Ze9++args.map a.eval++S5).toList:=by
     rw [Array.toList_append,Array.toList_append,Array.toList_map,List.append_assoc];exact h2.append ((Pu hX fw).append h3)
    have h5:=hC ρ w _ hH h4
    have Rt:(execOp a.eval ⟨dst,.call ⟨.value f,args,ts⟩,type,pos,after,guard⟩).run P w=.ok (.enter g (Ze9++args.map a.eval++S5)) w:=by
     have e:(execOp a.eval ⟨dst,.call ⟨.value f,args,ts⟩,type,pos,after,guard⟩).run P w=(callFunc g (Ze9++args.map a.eval++S5)).run P w:=by
      simp [execOp,resolve,h1,Deferred.ofValue,invoke]
     rw [e];exact Fy hfn Zbu Zbr _ w
    intro next Q hn
    unfold Oper.wp;rw [Rt,Oper.upon_enter];refine Calls.mono h5 λe w'=>?_;rintro ⟨v',ρ',rfl,h6,h7⟩;refine hn v' ρ' w' h6 (h7.wider λi hi=>⟨hi,.inl rfl⟩)
   ·cases hB
  |invoke x name=>
   obtain ⟨fv,hf,hB⟩:=Zj hA;unfold vy at hB;split at hB
   ·rename_i t v0;obtain ⟨g,hg,hB⟩:=Zj hB;obtain ⟨v,H',hr,hk⟩:=Lz hB;refine ⟨v,H',hk,(by first |exact λ_ _=>rfl |exact λh1 _=>nomatch (show true=false from h1) |exact λ_ h2=>nomatch (show true=false from h2)),λρ K w a hH hX hK=>?_⟩
    obtain ⟨⟨fn,hfn,Zbu,Zbr⟩,hC⟩:=Xn _ _ _ _ _ _ J7 hr;have hKd:K=Js ρ:=hK.2 rfl;subst hKd;obtain ⟨v0',h1,h2⟩:=(hX _ _ hf).Hh
    have h4:Xt ρ (v0::vs) (#[v0']++args.map a.eval).toList:=by
     rw [Array.toList_append,Array.toList_map];exact .cons h2 (Pu hX fw)
    have h5:=hC ρ w _ hH h4
    have Rt:(execOp a.eval ⟨dst,.call ⟨.invoke x name,args,ts⟩,type,pos,after,guard⟩).run P w=.ok (.enter g (#[v0']++args.map a.eval)) w:=by
     have e:(execOp a.eval ⟨dst,.call ⟨.invoke x name,args,ts⟩,type,pos,after,guard⟩).run P w=(callMethod (Value.iface t v0') name ((#[Value.iface t v0']++args.map a.eval).extract 1 (#[Value.iface t v0']++args.map a.eval).size)).run P w:=by
      have e0:(#[Value.iface t v0']++Array.map a.eval args)[0]? = some (Value.iface t v0'):=by rw [Array.getElem?_append_left (by simp)];rfl
      simp [execOp,resolve,h1,invoke,e0]
     rw [e];unfold callMethod;have hp:(program).run P w=.ok P w:=rfl;rw [Sem.run_bind,hp];simp only [Result.andThen_ok];obtain ⟨n,hn⟩:∃ n,P.types.size+Made.depth=n+1:=⟨P.types.size+(Made.depth - 1),rfl⟩;rw [Sem.run_bind,hn,cd hg];simp only [Result.andThen_ok];rw [Fy hfn Zbu Zbr];congr 2;simp only [Array.extract_append,Array.size_append,Array.size_map,List.size_toArray,List.length_cons,List.length_nil];apply Array.ext';simp;exact List.take_of_length_le (by simp)
    intro next Q hn
    unfold Oper.wp;rw [Rt,Oper.upon_enter];refine Calls.mono h5 λe w'=>?_;rintro ⟨v',ρ',rfl,h6,h7⟩;refine hn v' ρ' w' h6 (h7.wider λi hi=>⟨hi,.inl rfl⟩)
   ·cases hB
end
end Go.Ev
namespace Go.Ev
structure Mt (nt:Nat) (ρ:Map) (E:Env) (a:Act):Prop where
 size:nt<=a.tmps.size
 defs:a.defers=[]
 val:∀ t v,X4 E t=some v->Qc ρ v (a.eval (.tmp t))
def isOn (ops:List Oper) (E:Env) (o:Oper) (on:Bool):Prop:=
 (o.guard=none/\on=true)\/∃ g p d u,o.guard=some g/\ops[g.1]? = some p/\p.dst=some d/\X4 E d=some u/\on=isB u g.2
structure Nq (P:Program) (base lo nt:Nat) (ops:List Oper) (o:Oper) (E:Env) (H:AH) (v:Value) (E':Env) (H':AH) (on:Bool):Prop where
 env:E'=Bv E o.dst v
 bd:bound nt o.dst=true
 gd:isOn ops E o on
 off:on=false->v=undef/\H'=H
 still:(Yd o.op).U2=false->makes o.op=false->H'=H
 run:on=true->∀ (ρ:Map) (K:Nat->Prop) (w:World) (a:Act),Jd P base K ρ H w->(∀ t,.tmp t∈o.op.operands->∀ v,X4 E t=some v->Qc ρ v (a.eval (.tmp t)))->Tu P E ρ o.op K->wu P base (V1 P E lo o.op) K ρ H w a o v H'
section
variable {P:Program} {base nt:Nat} {K:Nat->Prop} {ρ:Map} {H:AH} {w:World}
def Fa (xs:List Operand) (t:Tmp):Bool:=xs.any fun |.tmp s=>Nat.beq s t |_=>false
theorem Zbv {xs:List Operand} {t:Tmp}:Fa xs t=true↔Operand.tmp t∈xs:=by
 unfold Fa;rw [List.any_eq_true];constructor
 ·rintro ⟨x,hx,h⟩;cases x with
  |tmp u=>rw [Qb h] at hx;exact hx
  |_=>cases h
 ·exact λh=>⟨_,h,Nat.beq_refl t⟩
def cutE (E:Env) (xs:List Operand):Env:=E.filter λp=>Fa xs p.1
theorem Ei (s t:Tmp) (v:Value) (E:Env):X4 ((s,v)::E) t=if s=t then some v else X4 E t:=by
 show cond (Nat.beq s t) _ _=_
 by_cases h:s=t
 ·rw [Uj h,if_pos h];rfl
 ·rw [Wm h,if_neg h];rfl
theorem Sg (xs:List Operand) (t:Tmp):∀ (E:Env),X4 (cutE E xs) t=cond (Fa xs t) (X4 E t) none
 |[]=>by cases h:Fa xs t <;> rfl
 |(s,v)::E=>by
  have ih:=Sg xs t E;unfold cutE at ih ⊢;rw [List.filter_cons,Ei]
  by_cases hs:s=t
  ·subst hs;rw [if_pos rfl];cases h:Fa xs s with
   |true=>simp only [if_true];rw [Ei,if_pos rfl];rfl
   |false=>rw [h] at ih;simpa using ih
  ·rw [if_neg hs,<- ih];split
   ·rw [Ei,if_neg hs]
   ·rfl
theorem Zr4 {E:Env} {xs:List Operand} {x:Operand} (h:x∈xs):K9 P E x=K9 P (cutE E xs) x:=by
 cases x with
 |tmp t=>show X4 E t=X4 (cutE E xs) t;rw [Sg,Zbv.2 h];rfl
 |_=>rfl
theorem Ah {o:Op} {x:Operand} (h:x∈Y9 o):x∈o.operands:=by
 unfold Y9 at h;split at h <;> simp [Op.operands,Call.operands] at h ⊢ <;> simp [h]
theorem wu.wider {W W':Nat->Prop} {a:Act} {o:Oper} {v:Value} {H':AH} (h:wu P base W K ρ H w a o v H') (hW:∀ i,W i->W' i):wu P base W' K ρ H w a o v H':=
 λnext Q hn=>h next Q λv' ρ' w' h1 h2=>hn v' ρ' w' h1 (h2.wider hW)
theorem Rx {β:Type} {call:Jh} {lo:Nat} {E:Env} {k:Value->AH->Option β} {r:β} (Xn:I6 P base call) (J7:base<=lo) (o:Oper)
  (h:Uu P call lo E H o.op k=some r) :
  ∃ v H',k v H'=some r/\((Yd o.op).U2=false->makes o.op=false->H'=H) /\
   ∀ (ρ:Map) (K:Nat->Prop) (w:World) (a:Act),Jd P base K ρ H w->(∀ t,.tmp t∈o.op.operands->∀ v,X4 E t=some v->Qc ρ v (a.eval (.tmp t)))->Tu P E ρ o.op K ->
    wu P base (V1 P E lo o.op) K ρ H w a o v H':=by
 have hc:∀ x∈o.op.operands,K9 P E x=K9 P (cutE E o.op.operands.toList) x:=λx hx=>Zr4 (by simpa using hx)
 rw [b9 hc] at h;obtain ⟨v,H',hk,Us,hr⟩:=Zki Xn J7 o h;refine ⟨v,H',hk,Us,λρ K w a hH hX hK=>?_⟩;refine wu.wider (hr ρ K w a hH ?_ ?_) ?_
 ·refine Zhi (λt v ht=>?_) (λ_=>rfl) (λ_=>rfl) (λ_=>rfl) hH.uv;rw [Sg] at ht;cases hm:Fa o.op.operands.toList t with
  |true=>rw [hm] at ht;exact hX t (by simpa using Zbv.1 hm) v ht
  |false=>rw [hm] at ht;cases ht
 ·exact ⟨λx hx v hv=>hK.1 x hx v (by rw [hc x (Ah hx)];exact hv),hK.2⟩
 ·rintro i ⟨h1,h2⟩;exact ⟨h1,h2.imp id λ⟨hw,x,hx,v,hv,hi⟩=>⟨hw,x,hx,v,by rw [hc x (Ah hx)];exact hv,hi⟩⟩
theorem Tk {β:Type} {call:Jh} {lo:Nat} {ops:List Oper} {E:Env} {k:Value->AH->Option β} {r:β} (Xn:I6 P base call) (J7:base<=lo) {o:Oper}
  (hb:bound nt o.dst=true) (h:Vn P call lo ops E H o k=some r):∃ v H' on,k v H'=some r/\Nq P base lo nt ops o E H v (Bv E o.dst v) H' on:=by
 unfold Vn at h;split at h
 ·rename_i hg;obtain ⟨v,H',hk,Us,hr⟩:=Rx Xn J7 o h;exact ⟨v,H',true,hk,rfl,hb,.inl ⟨hg,rfl⟩,λh=>(by cases h),Us,λ_=>hr⟩
 ·rename_i g hg;obtain ⟨p,hp,hA⟩:=Zj h;obtain ⟨d,hd,hB⟩:=Zj hA;obtain ⟨u,hu,hC⟩:=Zj hB;rw [Xq] at hp;obtain ⟨v,H',hD,hk⟩:=Lz hC;refine ⟨v,H',isB u g.2,hk,rfl,hb,.inr ⟨g,p,d,u,hg,hp,hd,hu,rfl⟩,λir=>?_,λh1 h2=>?_,λir=>?_⟩
  ·rw [ir] at hD;cases hD;exact ⟨rfl,rfl⟩
  ·cases ir:isB u g.2 with
   |false=>rw [ir] at hD;cases hD;rfl
   |true=>
    rw [ir] at hD;obtain ⟨v2,H2,hk2,Us,_⟩:=Rx Xn J7 o (k:=Zd3) hD;cases hk2;exact Us h1 h2
  ·rw [ir] at hD;obtain ⟨v2,H2,hk2,_,hr⟩:=Rx Xn J7 o (k:=Zd3) hD;cases hk2;exact hr
theorem zv {β:Type} {call:Jh} {lo:Nat} {ops:List Oper} {k:Env->AH->Option β} {r:β} (Xn:I6 P base call) (J7:base<=lo):∀ {rest:List Oper} {E:Env} {H:AH},
  ml P call lo nt ops rest E H k=some r->∃ (Es:Nat->Env) (Hs:Nat->AH) (vs:Nat->Value) (on:Nat->Bool),Es 0=E/\Hs 0=H /\
   (∀ i o,rest[i]? = some o->Nq P base lo nt ops o (Es i) (Hs i) (vs i) (Es (i+1)) (Hs (i+1)) (on i))/\k (Es rest.length) (Hs rest.length)=some r
 |[],E,H,h=>⟨λ_=>E,λ_=>H,λ_=>undef,λ_=>true,rfl,rfl,λi o h=>by simp at h,h⟩
 |o::rest,E,H,h=>by
  unfold ml at h;obtain ⟨hb,hA⟩:=Lk h;obtain ⟨v,H',on,hk,hf⟩:=Tk Xn J7 hb hA;obtain ⟨Es,Hs,vs,on',h1,h2,h3,h4⟩:=zv Xn J7 hk;refine ⟨fun |0=>E |i+1=>Es i,fun |0=>H |i+1=>Hs i,fun |0=>v |i+1=>vs i,fun |0=>on |i+1=>on' i,rfl,rfl,?_,h4⟩
  intro i o' ho;cases i with
  |zero=>
   simp at ho;subst ho;simp only [h1,h2];exact hf
  |succ i=>exact h3 i o' (by simpa using ho)
theorem Step.rdom {W:Nat->Prop} {ρ':Map} {H':AH} {w':World} (h:Step P base W K ρ H w ρ' H' w') (hH:Jd P base K ρ H w):Ext ρ ρ':=
 h.ext λi l hi=>(hH.Js i l hi).1
theorem zt {a:Act} {d:Tmp} {v:Value} (h:d < a.tmps.size):(a.put (some d) v).eval (.tmp d)=v:=by
 simp [Act.eval,Act.put,h]
theorem zq {a:Act} {d t:Tmp} {v:Value} (h:d≠t):(a.put (some d) v).eval (.tmp t)=a.eval (.tmp t):=by
 simp [Act.eval,Act.put,Array.getElem?_setIfInBounds_ne h]
theorem Zaf (a:Act) (d:Option Tmp) (v:Value):(a.put d v).tmps.size=a.tmps.size:=by
 cases d <;> simp [Act.put]
theorem Zag (a:Act) (d:Option Tmp) (v:Value):(a.put d v).defers=a.defers:=by
 cases d <;> rfl
theorem Rp {E:Env} {d:Option Tmp} {v:Value} {t:Tmp} (h:d≠some t):X4 (Bv E d v) t=X4 E t:=by
 cases d with
 |none=>rfl
 |some d=>
  have:Nat.beq d t=false:=Wm λe=>h (by rw [e])
  simp [Bv,X4,this]
theorem Rq {E:Env} {t:Tmp} {v:Value}:X4 (Bv E (some t) v) t=some v:=by
 simp [Bv,X4]
theorem Mt.put {E:Env} {a:Act} {d:Option Tmp} {v v':Value} {ρ':Map} (h:Mt nt ρ E a) (he:Ext ρ ρ') (hd:bound nt d=true) (hv:Qc ρ' v v'):Mt nt ρ' (Bv E d v) (a.put d v') where
 size:=by rw [Zaf];exact h.size
 defs:=by rw [Zag];exact h.defs
 val t u hu:=by
  by_cases e:d=some t
  ·subst e;rw [Rq] at hu;cases hu;rw [zt]
   ·exact hv
   ·exact Nat.lt_of_lt_of_le (by simpa [bound] using hd) h.size
  ·rw [Rp e] at hu
   have:(a.put d v').eval (.tmp t)=a.eval (.tmp t):=by
    cases d with
    |none=>rfl
    |some d=>exact zq λe'=>e (by rw [e'])
   rw [this];exact (h.val t u hu).mono he
theorem Mt.xrel {E:Env} {a:Act} (h:Mt nt ρ E a) (hH:Jd P base K ρ H w):qy P ρ E a.eval:=
 Zhi h.val (λ_=>rfl) (λ_=>rfl) (λ_=>rfl) hH.uv
theorem Zhz {ops:List Oper} {E:Env} {o:Oper} {on:Bool} (hg:isOn ops E o on) {a:Act}
  (hv:∀ d u,X4 E d=some u->(∃ p g,o.guard=some g/\ops[g.1]? = some p/\p.dst=some d)->Qc ρ u (a.eval (.tmp d))) :
  Region.wanted o (yielded ops.toArray a.tmps)=on:=by
 unfold Region.wanted;rcases hg with ⟨h1,rfl⟩ |⟨g,p,d,u,h1,h2,h3,h4,h5⟩
 ·rw [h1]
 ·rw [h1];obtain ⟨g1,g2⟩:=g;simp only at h2 h5 ⊢;have h6:=hv d u h4 ⟨p,_,h1,h2,h3⟩;unfold yielded;have h7:((ops.toArray[g1]?).bind (·.dst))=some d:=by simp [h2,h3]
  rw [h7];simp only [Option.bind_some];unfold Act.eval at h6;simp only [Array.getD_eq_getD_getElem?] at h6;subst h5;cases ht:a.tmps[d]? with
  |none=>
   rw [ht] at h6;simp only [Option.getD_none] at h6
   have:isB u g2=false:=by
    cases u <;> first |rfl |cases h6
   rw [this];rfl
  |some x=>
   rw [ht] at h6;simp only [Option.getD_some] at h6;cases h6 with
   |flat hf=>cases u <;> first |(simp [isB];done) |(simp [isB];rename_i b;cases b <;> cases g2 <;> rfl)
   |_=>simp [isB]
structure Pure (P:Program) (lo:Nat) (o:Oper) (E:Env) (H H':AH) (on:Bool):Prop where
 next:H.next<=H'.next
 alive:∀ i,i < H.next->H'.get i≠none->H.get i≠none
 Zs:∀ i,i < H.next->(on=true->¬ V1 P E lo o.op i)->H'.get i=H.get i
theorem Nq.wp {lo:Nat} {ops:List Oper} {o:Oper} {E E':Env} {H':AH} {v:Value} {on:Bool} (h:Nq P base lo nt ops o E H v E' H' on) {a:Act}
  (hH:Jd P base K ρ H w) (hX:∀ t,.tmp t∈o.op.operands->∀ v,X4 E t=some v->Qc ρ v (a.eval (.tmp t))) (hK:on=true->Tu P E ρ o.op K)
  {i:Nat} (ho:ops[i]? = some o) {next:Act->World->Prop} {Q:Exit->Act->World->Prop}
  (hn:∀ v' ρ' w',Qc ρ' v v'->Step P base (λi=>on=true/\V1 P E lo o.op i) K ρ H w ρ' H' w'->next (a.put o.dst v') w')
  (hv:∀ d u,X4 E d=some u->(∃ p g,o.guard=some g/\ops[g.1]? = some p/\p.dst=some d)->Qc ρ u (a.eval (.tmp d))):wpOp P ops.toArray Q i next a w:=by
 unfold wpOp;have hi:ops.toArray[i]? = some o:=by simpa using ho
 rw [hi];simp only;rw [Zhz h.gd hv];cases ir:on with
 |true=>
  simp only [if_true];subst ir;exact .inl (h.run rfl ρ K w a hH hX (hK rfl) next Q λv' ρ' w' h1 h2=>hn v' ρ' w' h1 (h2.wider λ_ hi=>⟨rfl,hi⟩))
 |false=>
  subst ir;simp only [Bool.false_eq_true,if_false];obtain ⟨rfl,rfl⟩:=h.off rfl;exact hn _ ρ w .undef (Step.refl hH)
theorem Step.pure {lo:Nat} {o:Oper} {E:Env} {H':AH} {on:Bool} {ρ':Map} {w':World} (h:Step P base (λi=>on=true/\V1 P E lo o.op i) K ρ H w ρ' H' w'):Pure P lo o E H H' on where
 next:=h.next
 alive:=h.alive
 Zs i hi hn:=h.Zs i hi λ⟨h1,h2⟩=>hn h1 h2
theorem Zdg {E:Env} {a:Act} (hX:qy P ρ E a.eval) (o:Op):Tu P E ρ o (Js ρ):=by
 refine ⟨λx _ v hv i hi=>?_,λ_=>rfl⟩;have h1:=hX x v hv;generalize a.eval x=v' at h1;cases h1 with
 |flat h=>unfold Ev.flat at h;split at h <;> first |(simp [Xl] at hi;done) |cases h
 |ptr h=>simp [Xl] at hi;subst hi;exact Yv h
 |slice h=>simp [Xl] at hi;subst hi;exact Yv h
 |Kj h=>simp [Xl] at hi;subst hi;exact Yv h
 |map h=>simp [Xl] at hi;subst hi;exact Yv h
 |_=>simp [Xl] at hi
theorem Step.known {W:Nat->Prop} {ρ':Map} {H':AH} {w':World} (h:Step P base W (Js ρ) ρ H w ρ' H' w') (hd:∀ i l,ρ i=some l->i < H.next) :
  (λi=>Js ρ i\/(H.next<=i/\(ρ' i).isSome=true))=Js ρ':=by
 funext i;apply propext;constructor
 ·rintro (h1 |⟨_,h1⟩)
  ·obtain ⟨l,hl⟩:=Option.isSome_iff_exists.1 h1;exact Yv (h.ext hd i l hl)
  ·exact h1
 ·intro h1;rcases Nat.lt_or_ge i H.next with h2 |h2
  ·left;unfold Js at *;rw [<- h.Dq i h2];exact h1
  ·exact .inr ⟨h2,h1⟩
theorem Step.then {W:Nat->Prop} {ρ₁ ρ₂:Map} {Zc9 H₂:AH} {w₁ w₂:World} {W':Nat->Prop} (h:Step P base W (Js ρ) ρ H w ρ₁ Zc9 w₁) (hd:∀ i l,ρ i=some l->i < H.next)
  (h':Step P base W' (Js ρ₁) ρ₁ Zc9 w₁ ρ₂ H₂ w₂) (hW:∀ i,i < H.next->W' i->W i):Step P base W (Js ρ) ρ H w ρ₂ H₂ w₂:=
 h.trans (by rw [h.known hd];exact h') hW
theorem Zdu {ops:List Oper} {Ws:Nat->Nat} {lo:Nat} {Es:Nat->Env} {Hs:Nat->AH} {vs:Nat->Value} {on:Nat->Bool} (hlos:∀ i o,ops[i]? = some o->lo<=Ws i)
  (hf:∀ i o,ops[i]? = some o->Nq P base (Ws i) nt ops o (Es i) (Hs i) (vs i) (Es (i+1)) (Hs (i+1)) (on i))
  {Q:Exit->Act->World->Prop} {ρ₀:Map} {Dt:World} (hd:∀ i l,ρ₀ i=some l->i < (Hs 0).next)
  (hQ:∀ ρ' a' w',Mt nt ρ' (Es ops.length) a'->Step P base (λi=>lo<=i) (Js ρ₀) ρ₀ (Hs 0) Dt ρ' (Hs ops.length) w' ->
   (∀ i o,ops[i]? = some o->Pure P (Ws i) o (Es i) (Hs i) (Hs (i+1)) (on i))->Q .normal a' w') :
  ∀ (m i:Nat) (ρ:Map) (a:Act) (w:World),i+m=ops.length->Mt nt ρ (Es i) a->Step P base (λi=>lo<=i) (Js ρ₀) ρ₀ (Hs 0) Dt ρ (Hs i) w ->
   (∀ j o,j < i->ops[j]? = some o->Pure P (Ws j) o (Es j) (Hs j) (Hs (j+1)) (on j))->wpOps P ops.toArray Q (List.range' i m) a w
 |0,i,ρ,a,w,hm,ht,hs,hp=>by
  have:i=ops.length:=by omega
  subst this;exact hQ ρ a w ht hs λj o hj=>hp j o (List.getElem?_eq_some_iff.1 hj).1 hj
 |m+1,i,ρ,a,w,hm,ht,hs,hp=>by
  rw [List.range'_succ,wpOps_cons];have hi:i < ops.length:=by omega
  have ho:ops[i]? = some ops[i]:=List.getElem?_eq_getElem hi;have F:=hf i _ ho;have hH:=hs.pw;have hX:=ht.xrel hH;refine F.wp hH (λt _ v hv=>ht.val t v hv) (λ_=>Zdg hX _) ho ?_ ?_
  ·intro v' ρ' w' h1 h2;refine Zdu hlos hf hd hQ m (i+1) ρ' _ w' (by omega) ?_ ?_ ?_
   ·rw [F.env];exact ht.put (h2.rdom hH) F.bd h1
   ·exact hs.then hd h2 λj _ hj=>Nat.le_trans (hlos i _ ho) hj.2.1
   ·intro j o hj hjo;rcases Nat.lt_or_ge j i with h |h
    ·exact hp j o h hjo
    ·have:j=i:=by omega
     subst this;rw [ho] at hjo;cases hjo;exact h2.pure
  ·intro d u hu _;exact ht.val d u hu
end
end Go.Ev
namespace Go.Ev
noncomputable def C1 (o:Oper) (l:List Nat):Nat:=
 o.after.toList.foldl (λs e=>cond (Region.binds .any e) (Nat.lor (Nat.lor s (2 ^ e.on)) ((nth l e.on).getD 0)) s) 0
theorem R9:∀ (rest:List Oper) (acc:List Nat),∃ l,Yp rest acc=acc.reverse++l /\
  ∀ i o,rest[i]? = some o->l[i]? = some (C1 o (acc.reverse++l.take i))
 |[],acc=>⟨[],by simp [Yp],λi o h=>by simp at h⟩
 |o::rest,acc=>by
  obtain ⟨l,h1,h2⟩:=R9 rest (C1 o acc.reverse::acc);refine ⟨C1 o acc.reverse::l,?_,?_⟩
  ·have:Yp (o::rest) acc=Yp rest (C1 o acc.reverse::acc):=rfl;rw [this,h1];simp
  ·intro i o' ho;cases i with
   |zero=>simp at ho;subst ho;simp
   |succ i=>
    have:=h2 i o' (by simpa using ho)
    simpa using this
theorem Za6 (l:List Nat) (j:Nat):∀ (es:List Edge) (s:Nat),
  Nat.testBit (es.foldl (λs e=>cond (Region.binds .any e) (Nat.lor (Nat.lor s (2 ^ e.on)) ((nth l e.on).getD 0)) s) s) j=true ↔
   Nat.testBit s j=true\/∃ e∈es,Region.binds .any e=true/\(j=e.on\/Nat.testBit ((nth l e.on).getD 0) j=true)
 |[],s=>by simp
 |e::es,s=>by
  rw [List.foldl_cons,Za6 l j es];cases hb:Region.binds .any e with
  |false=>
   simp only [cond_false,List.mem_cons];constructor
   ·rintro (h |⟨e',h1,h2⟩)
    ·exact .inl h
    ·exact .inr ⟨e',.inr h1,h2⟩
   ·rintro (h |⟨e',rfl |h1,h2⟩)
    ·exact .inl h
    ·rw [hb] at h2;cases h2.1
    ·exact .inr ⟨e',h1,h2⟩
  |true=>
   have h1:Nat.testBit (Nat.lor (Nat.lor s (2 ^ e.on)) ((nth l e.on).getD 0)) j=true↔(Nat.testBit s j=true\/j=e.on)\/Nat.testBit ((nth l e.on).getD 0) j=true:=by
    show Nat.testBit ((s ||| 2 ^ e.on) ||| ((nth l e.on).getD 0)) j=true↔_
    rw [Nat.testBit_or,Nat.testBit_or,Nat.testBit_two_pow];rw [Bool.or_eq_true,Bool.or_eq_true,decide_eq_true_eq];constructor
    ·rintro ((h |h) |h)
     ·exact .inl (.inl h)
     ·exact .inl (.inr h.symm)
     ·exact .inr h
    ·rintro ((h |h) |h)
     ·exact .inl (.inl h)
     ·exact .inl (.inr h.symm)
     ·exact .inr h
   rw [cond_true,h1];simp only [List.mem_cons];constructor
   ·rintro (((h |h) |h) |⟨e',h2,h3⟩)
    ·exact .inl h
    ·exact .inr ⟨e,.inl rfl,hb,.inl h⟩
    ·exact .inr ⟨e,.inl rfl,hb,.inr h⟩
    ·exact .inr ⟨e',.inr h2,h3⟩
   ·rintro (h |⟨e',rfl |h2,h3⟩)
    ·exact .inl (.inl (.inl h))
    ·rcases h3.2 with h |h
     ·exact .inl (.inl (.inr h))
     ·exact .inl (.inr h)
    ·exact .inr ⟨e',h2,h3⟩
structure wo (ops:List Oper) (bs:List Nat):Prop where
 back:∀ (i:Nat) (o:Oper),ops[i]? = some o->∀ e∈o.after,Region.binds .any e=true->e.on < i
 own:∀ (i:Nat) (o:Oper),ops[i]? = some o->names (Y9 o.op) o.dst=false
 apart:∀ (i j:Nat) (o p:Oper),j < i->ops[i]? = some o->ops[j]? = some p->names (Y9 p.op) o.dst=false
 pair:∀ (i j:Nat) (o p:Oper),j < i->ops[i]? = some o->ops[j]? = some p->behind bs i j=false->O7 ops o p=true/\∃ b,Cz (Yd o.op) (Yd p.op)=some b
theorem planOk {ops:List Oper} {bs:List Nat} (h:(L5 ops bs).ok=true):wo ops bs:=by
 have h0:∀ (i:Nat) (o:Oper),ops[i]? = some o->okAt ops bs i=true:=λi o ho=>by
  have h1:(List.range ops.length).all (okAt ops bs)=true:=h;exact List.all_eq_true.1 h1 i (List.mem_range.2 (List.getElem?_eq_some_iff.1 ho).1)
 have h2:∀ (i:Nat) (o:Oper),ops[i]? = some o->names (Y9 o.op) o.dst=false/\(∀ e∈o.after,Region.binds .any e=true->e.on < i) /\
   ∀ (j:Nat) (p:Oper),j < i->ops[j]? = some p->names (Y9 p.op) o.dst=false/\(behind bs i j=true\/(O7 ops o p=true/\(Cz (Yd o.op) (Yd p.op)).isSome=true)):=by
  intro i o ho;have:=h0 i o ho;unfold okAt at this;rw [Xq,ho] at this;simp only [Bool.and_eq_true,Bool.not_eq_true',List.all_eq_true,Bool.or_eq_true,List.mem_range] at this;obtain ⟨⟨h3,h4⟩,h5⟩:=this;refine ⟨h3,λe he hb=>?_,λj p hj hp=>?_⟩
  ·rcases h4 e (by simpa using he) with h |h
   ·rw [hb] at h;cases h
   ·rw [Nat.blt_eq] at h;exact h
  ·have h6:=h5 j hj;rw [Xq,hp] at h6;simpa using h6
 refine ⟨λi o ho=>(h2 i o ho).2.1,λi o ho=>(h2 i o ho).1,λi j o p hj ho hp=>((h2 i o ho).2.2 j p hj hp).1,λi j o p hj ho hp hb=>?_⟩;rcases ((h2 i o ho).2.2 j p hj hp).2 with h |⟨h3,h4⟩
 ·rw [hb] at h;cases h
 ·exact ⟨h3,Option.isSome_iff_exists.1 h4⟩
section
variable {ops:List Oper} {bs:List Nat}
theorem wg (hb:bs=Yp ops []) (hp:wo ops bs) {i:Nat} {o:Oper} (ho:ops[i]? = some o) (j:Nat) :
  behind bs i j=true↔∃ e∈o.after,Region.binds .any e=true/\(j=e.on\/behind bs e.on j=true):=by
 obtain ⟨l,h1,h2⟩:=R9 ops [];simp only [List.reverse_nil,List.nil_append] at h1 h2;have hl:bs=l:=hb.trans h1;subst hl;have h3:=h2 i o ho;have h4:behind bs i j=Nat.testBit (C1 o (bs.take i)) j:=by unfold behind;rw [Xq,h3];rfl
 rw [h4];unfold C1;rw [Za6];simp only [Nat.zero_testBit,Bool.false_eq_true,false_or];constructor
 ·rintro ⟨e,he,hb,h⟩;have he':e∈o.after:=by simpa using he
  refine ⟨e,he',hb,h.imp id λh=>?_⟩;have Jo:=hp.back i o ho e he' hb;unfold behind;rw [Xq,List.getElem?_take,if_pos Jo] at h;rw [Xq];exact h
 ·rintro ⟨e,he,hb,h⟩;refine ⟨e,by simpa using he,hb,h.imp id λh=>?_⟩
  have Jo:=hp.back i o ho e he hb;unfold behind at h;rw [Xq,List.getElem?_take,if_pos Jo];rw [Xq] at h;exact h
theorem qd (hb:bs=Yp ops []) {i j:Nat} (h:behind bs i j=true):∃ o,ops[i]? = some o:=by
 obtain ⟨l,h1,h2⟩:=R9 ops [];simp only [List.reverse_nil,List.nil_append] at h1 h2;have hl:bs=l:=hb.trans h1;subst hl;cases ho:ops[i]? with
 |some o=>exact ⟨o,rfl⟩
 |none=>
  exfalso
  have hlen:∀ (rest:List Oper) (acc:List Nat),(Yp rest acc).length=rest.length+acc.length:=by
   intro rest
   induction rest with
   |nil=>intro acc;simp [Yp]
   |cons o rest ih=>
    intro acc;have:Yp (o::rest) acc=Yp rest (C1 o acc.reverse::acc):=rfl;rw [this,ih];simp;omega
  have h3:=hlen ops [];rw [<- hb] at h3
  have h4:bs[i]? = none:=by
   rw [List.getElem?_eq_none_iff] at ho ⊢;simp at h3;omega
  unfold behind at h;rw [Xq,h4] at h;simp at h
theorem Bl (hb:bs=Yp ops []) (hp:wo ops bs):∀ (i j:Nat),behind bs i j=true->j < i:=by
 intro i
 induction i using Nat.strongRecOn with
 |_ i ih=>
  intro j h;obtain ⟨o,ho⟩:=qd hb h;obtain ⟨e,he,hbd,h1⟩:=(wg hb hp ho j).1 h;have h2:=hp.back i o ho e he hbd;rcases h1 with rfl |h1
  ·exact h2
  ·exact Nat.lt_trans (ih e.on h2 j h1) h2
theorem Cj (hb:bs=Yp ops []) (hp:wo ops bs) {S:Nat->Prop} (hS:∀ (i:Nat) (o:Oper),S i->ops[i]? = some o->∀ e∈o.after,Region.binds .any e=true->S e.on) :
  ∀ (i j:Nat) (o:Oper),ops[i]? = some o->(∀ e∈o.after,Region.binds .any e=true->S e.on)->behind bs i j=true->S j:=by
 intro i
 induction i using Nat.strongRecOn with
 |_ i ih=>
  intro j o ho he h;obtain ⟨e,h1,h2,h3⟩:=(wg hb hp ho j).1 h;have h4:=he e h1 h2;rcases h3 with rfl |h3
  ·exact h4
  ·obtain ⟨p,hp'⟩:=qd hb h3;exact ih e.on (hp.back i o ho e h1 h2) j p hp' (λe' h5 h6=>hS _ p h4 hp' e' h5 h6) h3
end
theorem Hy {P:Program} {base nt:Nat} {β:Type} {call:Jh} {lo:Nat} {ops:List Oper} {k:Env->AH->Option β} {r:β} (Xn:I6 P base call) (J7:base<=lo) :
  ∀ {rest:List Oper} {rows:List Row} {E:Env} {H:AH},Ak P call lo nt ops rest rows E H k=some r ->
   ∃ (Es:Nat->Env) (Hs:Nat->AH) (vs:Nat->Value) (on:Nat->Bool),Es 0=E/\Hs 0=H /\
    (∀ (i:Nat) (o:Oper),rest[i]? = some o->∃ row,rows[i]? = some row/\lo<=(cond row.quiet (Hs i).next lo) /\
     (∃ a b,Gl P (Es i) row.apart=some a/\Gl P (Es i) row.own=some b/\D3 a b=true) /\
     Nq P base (cond row.quiet (Hs i).next lo) nt ops o (Es i) (Hs i) (vs i) (Es (i+1)) (Hs (i+1)) (on i))/\k (Es rest.length) (Hs rest.length)=some r
 |[],rows,E,H,h=>⟨λ_=>E,λ_=>H,λ_=>undef,λ_=>true,rfl,rfl,λi o h=>by simp at h,by unfold Ak at h;exact h⟩
 |o::rest,rows,E,H,h=>by
  unfold Ak at h;split at h
  ·cases h
  ·rename_i row rows;obtain ⟨hb,hA⟩:=Lk h;obtain ⟨a,ha,hB⟩:=Zj hA;obtain ⟨b,ur,hC⟩:=Zj hB;obtain ⟨hd,hD⟩:=Zt hC;obtain ⟨hq,hE⟩:=Zt hD
   have hle:lo<=cond row.quiet H.next lo:=by
    cases hr:row.quiet with
    |true=>rw [hr] at hq;exact Qa hq
    |false=>exact Nat.le_refl _
   obtain ⟨v,H',on,hk,hf⟩:=Tk Xn (Nat.le_trans J7 hle) hb hE;obtain ⟨Es,Hs,vs,on',h1,h2,h3,h4⟩:=Hy Xn J7 hk;refine ⟨fun |0=>E |i+1=>Es i,fun |0=>H |i+1=>Hs i,fun |0=>v |i+1=>vs i,fun |0=>on |i+1=>on' i,rfl,rfl,?_,h4⟩
   intro i o' ho;cases i with
   |zero=>
    simp at ho;subst ho;refine ⟨row,rfl,hle,⟨a,b,ha,ur,hd⟩,?_⟩;simp only [h1,h2];exact hf
   |succ i=>
    obtain ⟨row',h5,h6⟩:=h3 i o' (by simpa using ho)
    exact ⟨row',by simpa using h5,h6⟩
end Go.Ev
namespace Go.Ev
def res (ρ:Map) (n:Nat):Map:=λx=>if x < n then ρ x else none
theorem Kx {ρ:Map} {n x:Nat} {l:Loc}:res ρ n x=some l↔x < n/\ρ x=some l:=by
 unfold res
 by_cases h:x < n <;> simp [h]
theorem Zgo (ρ:Map) {n m:Nat} (h:n<=m):Ext (res ρ n) (res ρ m):=λ_ _ hi=>by
 rw [Kx] at hi ⊢;exact ⟨by omega,hi.2⟩
theorem Zgn (ρ:Map) (n:Nat):Ext (res ρ n) ρ:=λ_ _ hi=>(Kx.1 hi).2
theorem sv {ρ ρ':Map} (h:Ext ρ ρ') (n:Nat):Ext (res ρ n) (res ρ' n):=λ_ _ hi=>by
 rw [Kx] at hi ⊢;exact ⟨hi.1,h _ _ hi.2⟩
theorem Ext.trans {ρ ρ' ρ'':Map} (h:Ext ρ ρ') (h':Ext ρ' ρ''):Ext ρ ρ'':=λ_ _ hi=>h' _ _ (h _ _ hi)
def Wr (P:Program) (ops:List Oper) (Ws:Nat->Nat) (Es:Nat->Env) (Hs:Nat->AH) (on:Nat->Bool) (i x:Nat):Prop:=
 on i=true/\∃ o,ops[i]? = some o/\((x < (Hs i).next/\V1 P (Es i) (Ws i) o.op x)\/((Hs i).next<=x/\x < (Hs (i+1)).next))
def Touch (P:Program) (E:Env) (o:Oper) (x:Nat):Prop:=
 Ou (Yd o.op)=true\/∃ y∈Y9 o.op,∃ v,K9 P E y=some v/\x∈Xl v
structure DC (P:Program) (base lo nt:Nat) (ops:List Oper) (bs:List Nat) (Es:Nat->Env) (Hs:Nat->AH) (vs:Nat->Value) (on:Nat->Bool) (Ws:Nat->Nat):Prop where
 F1:wo ops bs
 hb:bs=Yp ops []
 loLe:∀ i o,ops[i]? = some o->lo<=Ws i
 facts:∀ i o,ops[i]? = some o->Nq P base (Ws i) nt ops o (Es i) (Hs i) (vs i) (Es (i+1)) (Hs (i+1)) (on i)
 pure:∀ i o,ops[i]? = some o->Pure P (Ws i) o (Es i) (Hs i) (Hs (i+1)) (on i)
 quiet:∀ i o,ops[i]? = some o->(rowAt ops bs i).quiet=true->Ws i=(Hs i).next
 dis:∀ i o,ops[i]? = some o->∃ a b,Gl P (Es i) (rowAt ops bs i).apart=some a/\Gl P (Es i) (rowAt ops bs i).own=some b/\D3 a b=true
theorem Hn {o:Op} (h:Ou (Yd o)=true):Y9 o=[]:=by
 cases o <;> first |rfl |exact nomatch (show false=true from h) |skip
 rename_i c;obtain ⟨callee,args,ts⟩:=c;cases callee <;> first |rfl |skip
 rename_i b;cases b <;> first |rfl |exact nomatch (show false=true from h)
theorem au {o:Op} (h:(Yd o).U2=false):Y9 o=[]:=by
 cases o <;> first |rfl |exact nomatch (show true=false from h) |skip
 rename_i c;obtain ⟨callee,args,ts⟩:=c;cases callee <;> first |rfl |exact nomatch (show true=false from h) |skip
 rename_i b;cases b <;> first |rfl |exact nomatch (show true=false from h)
theorem eh {xs:List Operand} {d:Tmp} (h:names xs (some d)=false):Operand.tmp d ∉ xs:=by
 intro hm;have:names xs (some d)=true:=List.any_eq_true.2 ⟨_,hm,Nat.beq_refl d⟩;rw [h] at this;cases this
theorem C7 {P:Program} {E:Env}:∀ {xs:List Operand} {l:List (List Nat)},Gl P E xs=some l->∀ {x:Operand} {v:Value},x∈xs->K9 P E x=some v->Xl v∈l
 |[],_,_,_,_,hx,_=>by cases hx
 |y::xs,l,h,x,v,hx,hv=>by
  unfold Gl at h;obtain ⟨u,hu,h1⟩:=Zj h;obtain ⟨l',So,h2⟩:=Zj h1;cases h2;cases hx with
  |head=>rw [hv] at hu;cases hu;exact List.mem_cons_self ..
  |tail _ hm=>exact List.mem_cons_of_mem _ (C7 So hm hv)
theorem Zck {a b:List (List Nat)} (h:D3 a b=true) {s t:List Nat} (hs:s∈a) (ht:t∈b) {x:Nat} (h1:x∈s) (h2:x∈t):False:=by
 unfold D3 at h;have:=List.all_eq_true.1 (List.all_eq_true.1 (List.all_eq_true.1 (List.all_eq_true.1 h s hs) t ht) x h1) x h2;rw [Nat.beq_refl] at this;cases this
section
variable {P:Program} {base lo nt:Nat} {ops:List Oper} {bs:List Nat} {Es:Nat->Env} {Hs:Nat->AH} {vs:Nat->Value} {on:Nat->Bool} {Ws:Nat->Nat}
theorem DC.Kh (D:DC P base lo nt ops bs Es Hs vs on Ws) {i j:Nat} (h:i<=j) (hj:j<=ops.length):(Hs i).next<=(Hs j).next:=by
 induction j with
 |zero=>
      have:i=0:=by omega
      subst this;exact Nat.le_refl _
 |succ j ih=>
  rcases Nat.lt_or_ge j i with h1 |h1
  ·have:i=j+1:=by omega
   subst this;exact Nat.le_refl _
  ·exact Nat.le_trans (ih h1 (by omega)) (D.pure j _ (List.getElem?_eq_getElem (by omega))).next
theorem DC.Me (D:DC P base lo nt ops bs Es Hs vs on Ws) {i j x:Nat} (h:i<=j) (hj:j<=ops.length) (hx:x < (Hs i).next)
  (hw:∀ k,i<=k->k < j->¬ Wr P ops Ws Es Hs on k x):(Hs j).get x=(Hs i).get x:=by
 induction j with
 |zero=>
      have:i=0:=by omega
      subst this;rfl
 |succ j ih=>
  rcases Nat.lt_or_ge j i with h1 |h1
  ·have:i=j+1:=by omega
   subst this;rfl
  ·have ho:ops[j]? = some ops[j]:=List.getElem?_eq_getElem (by omega)
   have Jo:=Nat.lt_of_lt_of_le hx (D.Kh h1 (by omega))
   rw [(D.pure j _ ho).Zs x Jo λir ht=>hw j h1 (by omega) ⟨ir,_,ho,.inl ⟨Jo,ht⟩⟩]
   exact ih h1 (by omega) λk h2 h3=>hw k h2 (by omega)
theorem DC.Zq9 (D:DC P base lo nt ops bs Es Hs vs on Ws) {i j x:Nat} (hi:i < ops.length) (hj:j < ops.length) (h1:(Hs i).next<=x) (h2:x < (Hs (i+1)).next)
  (h3:(Hs j).next<=x) (h4:x < (Hs (j+1)).next):i=j:=by
 rcases Nat.lt_trichotomy i j with h |h |h
 ·have:=D.Kh (i:=i+1) (j:=j) h (by omega);omega
 ·exact h
 ·have:=D.Kh (i:=j+1) (j:=i) h (by omega);omega
theorem DC.vf (D:DC P base lo nt ops bs Es Hs vs on Ws) {j i:Nat} (h:j<=i) (hi:i<=ops.length) {t:Tmp} (hd:∀ k o,j<=k->k < i->ops[k]? = some o->o.dst≠some t) :
  X4 (Es i) t=X4 (Es j) t:=by
 induction i with
 |zero=>
      have:j=0:=by omega
      subst this;rfl
 |succ i ih=>
  rcases Nat.lt_or_ge i j with h1 |h1
  ·have:j=i+1:=by omega
   subst this;rfl
  ·have ho:ops[i]? = some ops[i]:=List.getElem?_eq_getElem (by omega)
   rw [(D.facts i _ ho).env,Rp (hd i _ h1 (by omega) ho)]
   exact ih h1 (by omega) λk o h2 h3=>hd k o h2 (by omega)
theorem DC.Zby (D:DC P base lo nt ops bs Es Hs vs on Ws) {i j:Nat} {p:Oper} (h:j < i) (hi:i<=ops.length) (hp:ops[j]? = some p) {y:Operand} (hy:y∈Y9 p.op) :
  K9 P (Es i) y=K9 P (Es j) y:=by
 cases y with
 |tmp t=>
  show X4 (Es i) t=X4 (Es j) t;refine D.vf (Nat.le_of_lt h) hi λk o h1 h2 ho hd=>?_;rcases Nat.lt_or_ge j k with h3 |h3
  ·have:=D.F1.apart k j o p h3 ho hp;rw [hd] at this;exact eh this hy
  ·have:k=j:=by omega
   subst this;rw [hp] at ho;cases ho;have:=D.F1.own k p hp;rw [hd] at this;exact eh this hy
 |_=>rfl
theorem xw {i:Nat} {o:Oper} (h:ops[i]? = some o):Zfg ops i=Yd o.op:=by
 unfold Zfg;rw [Xq,h]
theorem Zhe {i j:Nat} (h:i≠j) (h1:behind bs i j=false) (h2:behind bs j i=false):bq bs i j=true:=by
 unfold bq;rw [Wm h,h1,h2];rfl
theorem DC.c1 (D:DC P base lo nt ops bs Es Hs vs on Ws) {i j:Nat} {o p:Oper} (h:j < i) (ho:ops[i]? = some o) (hp:ops[j]? = some p) (hf:behind bs i j=false)
  (hpair:Cz (Yd o.op) (Yd p.op)=some true) {y y':Operand} {u v:Value} {x:Nat} (hy:y∈Y9 p.op) (hu:K9 P (Es j) y=some u)
  (hy':y'∈Y9 o.op) (hv:K9 P (Es i) y'=some v) (hx:x∈Xl u) (hx':x∈Xl v):False:=by
 have hi:=(List.getElem?_eq_some_iff.1 ho).1
 have w7:behind bs j i=false:=by
  cases hb:behind bs j i with
  |false=>rfl
  |true=>exact absurd (Bl D.hb D.F1 _ _ hb) (by omega)
 have xv:j∈Dr ops bs i:=by
  unfold Dr;rw [List.mem_filter,List.mem_range];refine ⟨h,?_⟩;rw [Zhe (by omega) hf w7,xw ho,xw hp,hpair];rfl
 obtain ⟨a,b,h1,h2,h3⟩:=D.dis i o ho
 have hap:y∈(rowAt ops bs i).apart:=by
  show y∈(Dr ops bs i).flatMap (Lu ops);refine List.mem_flatMap.2 ⟨j,xv,?_⟩;unfold Lu;rw [Xq,hp];exact hy
 have how:y'∈(rowAt ops bs i).own:=by
  show y'∈cond (Dr ops bs i).isEmpty [] (Lu ops i)
  have:(Dr ops bs i).isEmpty=false:=by
   cases hl:Dr ops bs i with
   |nil=>rw [hl] at xv;cases xv
   |cons=>rfl
  rw [this];unfold Lu;rw [Xq,ho];exact hy'
 exact Zck h3 (C7 h1 hap (by rw [D.Zby h (by omega) hp hy];exact hu)) (C7 h2 how hv) hx hx'
theorem DC.Qu (D:DC P base lo nt ops bs Es Hs vs on Ws) {i j:Nat} {o p:Oper} (hij:i≠j) (ho:ops[i]? = some o) (hp:ops[j]? = some p) (h1:behind bs i j=false) (h2:behind bs j i=false)
  (hc:Ou (Yd o.op)=true) (ht:(Yd p.op).U2=true\/(j < i/\makes p.op=true)):Ws i=(Hs i).next:=by
 refine D.quiet i o ho ?_;show (Ou (Zfg ops i) && (List.range ops.length).any _)=true;rw [xw ho,hc,Bool.true_and];refine List.any_eq_true.2 ⟨j,List.mem_range.2 (List.getElem?_eq_some_iff.1 hp).1,?_⟩;rw [Zhe hij h1 h2,xw hp];rcases ht with h |⟨h,h'⟩
 ·rw [h];rfl
 ·have e1:Nat.blt j i=true:=by rw [Nat.blt_eq];exact h
  have e2:ti ops j=true:=by unfold ti;rw [Xq,hp];exact h'
  rw [e1,e2];simp
theorem cy {c:Class} (h:Ou c=true):c.U2=true:=by cases c <;> first |rfl |cases h
theorem Touch.U2 {E:Env} {o:Oper} {x:Nat} (h:Touch P E o x):(Yd o.op).U2=true:=by
 rcases h with h |⟨y,hy,_⟩
 ·exact cy h
 ·cases hc:(Yd o.op).U2 with
  |true=>rfl
  |false=>rw [au hc] at hy;cases hy
theorem DC.pairs (D:DC P base lo nt ops bs Es Hs vs on Ws) {i j:Nat} {o p:Oper} (hij:i≠j) (ho:ops[i]? = some o) (hp:ops[j]? = some p) (h1:behind bs i j=false) (h2:behind bs j i=false) :
  (j < i/\∃ b,Cz (Yd o.op) (Yd p.op)=some b)\/(i < j/\∃ b,Cz (Yd p.op) (Yd o.op)=some b):=by
 rcases Nat.lt_trichotomy i j with h |h |h
 ·exact .inr ⟨h,(D.F1.pair j i p o h hp ho h2).2⟩
 ·exact absurd h hij
 ·exact .inl ⟨h,(D.F1.pair i j o p h ho hp h1).2⟩
theorem DC.conf (D:DC P base lo nt ops bs Es Hs vs on Ws) {i j x:Nat} {o p:Oper} (hij:i≠j) (ho:ops[i]? = some o) (hp:ops[j]? = some p) (h1:behind bs i j=false) (h2:behind bs j i=false)
  (ht:Touch P (Es i) o x) (hx:x < (Hs j).next) (hw:V1 P (Es j) (Ws j) p.op x):False:=by
 have htt:=ht.U2;obtain ⟨J7,hw⟩:=hw;have hpr:=D.pairs hij ho hp h1 h2;rcases hw with hc |⟨hwr,y,hy,v,hv,hxv⟩
 ·have:=D.Qu (Ne.symm hij) hp ho h2 h1 hc (.inl htt);omega
 ·have hcp:Yd p.op=.wr:=by cases hcc:Yd p.op <;> rw [hcc] at hwr <;> first |rfl |cases hwr
  rcases ht with hc |⟨y',hy',v',hv',hx'⟩
  ·have hco:Yd o.op=.call:=by cases hcc:Yd o.op <;> rw [hcc] at hc <;> first |rfl |cases hc
   rw [hcp,hco] at hpr;rcases hpr with ⟨_,b,hb⟩ |⟨_,b,hb⟩ <;> cases hb
  ·have hco:Yd o.op=.rd\/Yd o.op=.wr:=by
    cases hcc:Yd o.op with
    |none=>rw [hcc] at htt;cases htt
    |rd=>exact .inl rfl
    |wr=>exact .inr rfl
    |call=>
     have:=Hn (o:=o.op) (by rw [hcc];rfl)
     rw [this] at hy';cases hy'
   rcases hpr with ⟨Jo,_⟩ |⟨Jo,_⟩
   ·refine D.c1 Jo ho hp h1 ?_ hy hv hy' hv' hxv hx';rw [hcp];rcases hco with h |h <;> rw [h] <;> rfl
   ·refine D.c1 Jo hp ho h2 ?_ hy' hv' hy hv hx' hxv;rw [hcp];rcases hco with h |h <;> rw [h] <;> rfl
theorem DC.Zps (D:DC P base lo nt ops bs Es Hs vs on Ws) {i j x:Nat} {o p:Oper} (hij:i < j) (ho:ops[i]? = some o) (hp:ops[j]? = some p) (h2:behind bs j i=false)
  (hx1:(Hs i).next<=x) (hx2:x < (Hs (i+1)).next) (hc:Ou (Yd p.op)=true) (J7:Ws j<=x):False:=by
 have hj:=(List.getElem?_eq_some_iff.1 hp).1
 have h1:behind bs i j=false:=by
  cases hb:behind bs i j with
  |false=>rfl
  |true=>exact absurd (Bl D.hb D.F1 _ _ hb) (by omega)
 have Jo:=D.Kh (i:=i+1) (j:=j) hij (by omega)
 cases htt:(Yd o.op).U2 with
 |true=>
  have:=D.Qu (by omega) hp ho h2 h1 hc (.inl htt)
  omega
 |false=>
  cases hm:makes o.op with
  |true=>
   have:=D.Qu (by omega) hp ho h2 h1 hc (.inr ⟨hij,hm⟩)
   omega
  |false=>
   have:=(D.facts i o ho).still htt hm;rw [this] at hx2;omega
end
end Go.Ev
namespace Go.Ev
def Cut (wr:Nat->Nat->Prop) (S:Nat->Prop) (i x:Nat):Prop:=∀ k,wr k x->(S k↔k < i)
def CutT (ops:List Oper) (S:Nat->Prop) (i:Nat) (t:Tmp):Prop:=∀ k o,ops[k]? = some o->o.dst=some t->(S k↔k < i)
structure Inv (P:Program) (base lo nt:Nat) (ops:List Oper) (Es:Nat->Env) (Hs:Nat->AH) (on:Nat->Bool) (Ws:Nat->Nat) (ρ₀:Map) (Dt:World) (S:Nat->Prop)
  (ρ:Map) (a:Act) (w:World):Prop where
 lt:∀ i,S i->i < ops.length
 closed:∀ i o,S i->ops[i]? = some o->∀ e∈o.after,Region.binds .any e=true->S e.on
 Eg:∀ x,x < (Hs 0).next->ρ x=ρ₀ x
 cu:∀ x l,ρ x=some l->l.W5 < w.heap.size/\(x < (Hs 0).next\/∃ i,S i/\(Hs i).next<=x/\x < (Hs (i+1)).next)
 full:∀ i x,S i->(Hs i).next<=x->x < (Hs (i+1)).next->∃ l,ρ x=some l
 hand:∀ i o,S i->ops[i]? = some o->isWr (Yd o.op)=true->∀ y∈Y9 o.op,∀ v,K9 P (Es i) y=some v->∀ x∈Xl v,Js ρ x
 Zf6:nt<=a.tmps.size
 Zlk:a.defers=[]
 val:∀ t i v,i<=ops.length->CutT ops S i t->X4 (Es i) t=some v->Qc (res ρ (Hs i).next) v (a.eval (.tmp t))
 cont:∀ x i l o,i<=ops.length->Cut (Wr P ops Ws Es Hs on) S i x->ρ x=some l->(Hs i).get x=some o->To P (res ρ (Hs i).next) o l w/\(base<=x->W7 w l.W5)
 inj:∀ x y i j lx ly,i<=ops.length->j<=ops.length->Cut (Wr P ops Ws Es Hs on) S i x->Cut (Wr P ops Ws Es Hs on) S j y->ρ x=some lx->ρ y=some ly ->
  (Hs i).get x≠none->(Hs j).get y≠none->lx.W5=ly.W5->x=y
 size:Dt.heap.size<=w.heap.size
 frame:∀ b,b < Dt.heap.size->(∀ i l,lo<=i->(Hs 0).get i≠none->ρ₀ i=some l->l.W5≠b)->w.heap[b]? = Dt.heap[b]?
 Pj:∀ i l,(Hs 0).next<=i->ρ i=some l->Dt.heap.size<=l.W5\/∃ j lj,lo<=j/\(Hs 0).get j≠none/\ρ₀ j=some lj/\lj.W5=l.W5
 env:Ln Dt w
 Bw:∀ b,b < Dt.heap.size->W7 Dt b->W7 w b
section
variable {P:Program} {base lo nt:Nat} {ops:List Oper} {bs:List Nat} {Es:Nat->Env} {Hs:Nat->AH} {vs:Nat->Value} {on:Nat->Bool} {Ws:Nat->Nat} {ρ₀:Map} {Dt:World}
theorem DC.alive (D:DC P base lo nt ops bs Es Hs vs on Ws) {i x:Nat} (hi:i<=ops.length) (hx:x < (Hs 0).next) (h:(Hs i).get x≠none):(Hs 0).get x≠none:=by
 induction i with
 |zero=>exact h
 |succ i ih=>
  have ho:ops[i]? = some ops[i]:=List.getElem?_eq_getElem (by omega)
  exact ih (by omega) ((D.pure i _ ho).alive x (Nat.lt_of_lt_of_le hx (D.Kh (Nat.zero_le _) (by omega))) h)
theorem Inv.init (D:DC P base lo nt ops bs Es Hs vs on Ws) (hH:Jd P base (Js ρ₀) ρ₀ (Hs 0) Dt) {a:Act} (hT:Mt nt ρ₀ (Es 0) a) {w:World} (hw:w.heap=Dt.heap) (Sq:Ln Dt w) :
  Inv P base lo nt ops Es Hs on Ws ρ₀ Dt (λ_=>False) ρ₀ a w where
 lt i h:=h.elim
 closed i o h:=h.elim
 Eg x _:=rfl
 cu x l h:=⟨by rw [hw];exact (hH.Js x l h).2,.inl (hH.Js x l h).1⟩
 full i x h:=h.elim
 hand i o h:=h.elim
 Zf6:=hT.size
 Zlk:=hT.defs
 val t i v hi hc hv:=by
  rw [D.vf (Nat.zero_le i) hi λk o _ hk ho hd=>((hc k o ho hd).2 hk)] at hv;exact (hT.val t v hv).mono λx l hx=>Kx.2 ⟨Nat.lt_of_lt_of_le (hH.Js x l hx).1 (D.Kh (Nat.zero_le _) hi),hx⟩
 cont x i l o hi hc hx ho:=by
  have Jo:=(hH.Js x l hx).1;rw [D.Me (Nat.zero_le i) hi Jo λk _ hk hw=>(hc k hw).2 hk] at ho;obtain ⟨l',h1,h2,h3⟩:=hH.fit x o (Yv hx) ho;rw [hx] at h1;cases h1;refine ⟨(h2.mono λy ly hy=>Kx.2 ⟨Nat.lt_of_lt_of_le (hH.Js y ly hy).1 (D.Kh (Nat.zero_le _) hi),hy⟩).same (by rw [hw]),λhb=>?_⟩
  have:=h3 hb;unfold W7 at *;rw [hw];exact this
 inj x y i j lx ly hi hj hcx hcy hx hy ha hb he:=by
  rw [D.Me (Nat.zero_le i) hi (hH.Js x lx hx).1 λk _ hk hw=>(hcx k hw).2 hk] at ha;rw [D.Me (Nat.zero_le j) hj (hH.Js y ly hy).1 λk _ hk hw=>(hcy k hw).2 hk] at hb;obtain ⟨ox,hox⟩:=Option.ne_none_iff_exists'.1 ha;obtain ⟨oy,hoy⟩:=Option.ne_none_iff_exists'.1 hb;exact hH.inj x y ox oy lx ly (Yv hx) (Yv hy) hox hoy hx hy he
 size:=by rw [hw];exact Nat.le_refl _
 frame b _ _:=by rw [hw]
 Pj i l h1 h2:=absurd (hH.Js i l h2).1 (by omega)
 env:=Sq
 Bw b _ hb:=by unfold W7 at *;rw [hw];exact hb
theorem Inv.done (D:DC P base lo nt ops bs Es Hs vs on Ws) (hH:Jd P base (Js ρ₀) ρ₀ (Hs 0) Dt) {S:Nat->Prop} {ρ:Map} {a:Act} {w:World}
  (I:Inv P base lo nt ops Es Hs on Ws ρ₀ Dt S ρ a w) (hS:∀ i,i < ops.length->S i) :
  Mt nt ρ (Es ops.length) a/\Step P base (λi=>lo<=i) (Js ρ₀) ρ₀ (Hs 0) Dt ρ (Hs ops.length) w:=by
 have cut:∀ x,Cut (Wr P ops Ws Es Hs on) S ops.length x:=λx k hk=>by
  obtain ⟨_,o,ho,_⟩:=hk;have:=(List.getElem?_eq_some_iff.1 ho).1;exact ⟨λ_=>this,λh=>hS k h⟩
 have hext:Ext ρ₀ ρ:=λx l hx=>by rw [I.Eg x (hH.Js x l hx).1];exact hx
 have hmono:=D.Kh (Nat.zero_le ops.length) (Nat.le_refl _)
 have hdom:∀ x l,ρ x=some l->x < (Hs ops.length).next:=λx l hx=>by
  rcases (I.cu x l hx).2 with h |⟨i,h1,_,h3⟩
  ·omega
  ·exact Nat.lt_of_lt_of_le h3 (D.Kh (I.lt i h1) (Nat.le_refl _))
 have hK:∀ x,(Js ρ₀ x\/((Hs 0).next<=x/\(ρ x).isSome=true))->∃ l,ρ x=some l:=by
  rintro x (h |⟨_,h⟩)
  ·obtain ⟨l,hl⟩:=Option.isSome_iff_exists.1 h;exact ⟨l,hext x l hl⟩
  ·exact Option.isSome_iff_exists.1 h
 refine ⟨⟨I.Zf6,I.Zlk,λt v hv=>?_⟩,?_⟩
 ·exact (I.val t ops.length v (Nat.le_refl _) (λk o ho _=>⟨λh=>I.lt k h,λh=>hS k h⟩) hv).mono (Zgn _ _)
 ·refine ⟨λi hi=>I.Eg i hi,hmono,⟨?_,?_,λi l hl=>⟨hdom i l hl,(I.cu i l hl).1⟩,?_⟩,I.size,λi hi ha=>D.alive (Nat.le_refl _) hi ha,?_,I.frame,I.Pj,?_,I.env,I.Bw⟩
  ·intro i o hk ho;obtain ⟨l,hl⟩:=hK i hk;obtain ⟨h1,h2⟩:=I.cont i ops.length l o (Nat.le_refl _) (cut i) hl ho;exact ⟨l,hl,h1.mono (Zgn _ _),h2⟩
  ·intro i j oi oj li lj hi hj hoi hoj hli um he;exact I.inj i j ops.length ops.length li lj (Nat.le_refl _) (Nat.le_refl _) (cut i) (cut j) hli um (by rw [hoi];simp) (by rw [hoj];simp) he
  ·intro g hg;obtain ⟨l,h1,h2⟩:=hH.uv g hg;exact ⟨l,hext g l h1,h2⟩
  ·intro i hi hn;refine D.Me (Nat.zero_le _) (Nat.le_refl _) hi λk _ hk hw=>?_;obtain ⟨_,o,ho,⟨_,h⟩ |⟨h,_⟩⟩:=hw
   ·exact hn (Nat.le_trans (D.loLe k o ho) h.1)
   ·have:=D.Kh (Nat.zero_le k) (Nat.le_of_lt hk);omega
  ·intro i h1 h2
   have key:∀ m,m<=ops.length->i < (Hs m).next->∃ k,k < m/\(Hs k).next<=i/\i < (Hs (k+1)).next:=by
    intro m
    induction m with
    |zero=>intro _ h;omega
    |succ m ih=>
     intro hm h;rcases Nat.lt_or_ge i (Hs m).next with h3 |h3
     ·obtain ⟨k,h4,h5⟩:=ih (by omega) h3
      exact ⟨k,by omega,h5⟩
     ·exact ⟨m,by omega,h3,h⟩
   obtain ⟨k,h3,h4,h5⟩:=key ops.length (Nat.le_refl _) h2;exact I.full k i (hS k h3) h4 h5
theorem L1 {o p:Oper} (h:O7 ops o p=true) :
  (∀ d,o.dst=some d->d ∉ reads ops p/\p.dst≠some d)/\(∀ d,p.dst=some d->d ∉ reads ops o):=by
 unfold O7 at h;rw [Bool.and_eq_true] at h;refine ⟨λd hd=>?_,λd hd=>?_⟩
 ·have:=h.1;rw [hd] at this;simp only [Bool.and_eq_true,Bool.not_eq_true'] at this;refine ⟨λhm=>?_,λhe=>?_⟩
  ·rw [List.contains_iff_mem.2 hm] at this;cases this.1
  ·rw [he] at this;simp at this
 ·have:=h.2;rw [hd] at this;simp only [Bool.not_eq_true'] at this;intro hm;rw [List.contains_iff_mem.2 hm] at this;cases this
theorem Zmx {o:Oper} {t:Tmp} (h:Operand.tmp t∈o.op.operands):t∈reads ops o:=
 List.mem_append_left _ (List.mem_filterMap.2 ⟨.tmp t,by simpa using h,rfl⟩)
theorem Zaa {o p:Oper} {g:Nat×Bool} {d:Tmp} (hg:o.guard=some g) (hp:ops[g.1]? = some p) (hd:p.dst=some d):d∈reads ops o:=by
 unfold reads;refine List.mem_append_right _ ?_;rw [hg];simp only [Xq,hp,hd];simp
theorem Qc.ids {ρ:Map} {v v':Value} (h:Qc ρ v v'):∀ x∈Xl v,Js ρ x:=by
 intro i hi;cases h with
 |flat h=>unfold Ev.flat at h;split at h <;> first |(simp [Xl] at hi;done) |cases h
 |ptr h=>simp [Xl] at hi;subst hi;exact Yv h
 |slice h=>simp [Xl] at hi;subst hi;exact Yv h
 |Kj h=>simp [Xl] at hi;subst hi;exact Yv h
 |map h=>simp [Xl] at hi;subst hi;exact Yv h
 |_=>simp [Xl] at hi
end
end Go.Ev
namespace Go.Ev
section
variable {P:Program} {base lo nt:Nat} {ops:List Oper} {bs:List Nat} {Es:Nat->Env} {Hs:Nat->AH} {vs:Nat->Value} {on:Nat->Bool} {Ws:Nat->Nat} {ρ₀:Map} {Dt:World}
theorem Wr.touch {i x:Nat} {o:Oper} (h:V1 P (Es i) (Ws i) o.op x):Touch P (Es i) o x:=
 h.2.imp id λ⟨_,h⟩=>h
theorem Inv.step (D:DC P base lo nt ops bs Es Hs vs on Ws) (hH:Jd P base (Js ρ₀) ρ₀ (Hs 0) Dt) {S:Nat->Prop} {ρ:Map} {a:Act} {w:World}
  (I:Inv P base lo nt ops Es Hs on Ws ρ₀ Dt S ρ a w) {i:Nat} {o:Oper} (ho:ops[i]? = some o) (hnS:¬ S i) (J8:∀ e∈o.after,Region.binds .any e=true->S e.on)
  {next:Act->World->Prop} {Q:Exit->Act->World->Prop} (hn:∀ ρ' a' w',Inv P base lo nt ops Es Hs on Ws ρ₀ Dt (λj=>S j\/j=i) ρ' a' w'->next a' w') :
  wpOp P ops.toArray Q i next a w:=by
 have hi:=(List.getElem?_eq_some_iff.1 ho).1;have get:∀ k,k < ops.length->∃ p,ops[k]? = some p:=λk hk=>⟨_,List.getElem?_eq_getElem hk⟩;have hbS:∀ k,behind bs i k=true->S k:=λk h=>Cj D.hb D.F1 I.closed i k o ho J8 h
 have unb:∀ k,S k->behind bs k i=false:=λk hk=>by
  cases hb:behind bs k i with
  |false=>rfl
  |true=>
   obtain ⟨p,hp⟩:=get k (I.lt k hk);exact absurd (Cj D.hb D.F1 I.closed k i p hp (λe h1 h2=>I.closed k p hk hp e h1 h2) hb) hnS
 have lt_unb:∀ k,k < i->behind bs k i=false:=λk hk=>by
  cases hb:behind bs k i with
  |false=>rfl
  |true=>exact absurd (Bl D.hb D.F1 _ _ hb) (by omega)
 have Zox:∀ k,i < k->behind bs i k=false:=λk hk=>by
  cases hb:behind bs i k with
  |false=>rfl
  |true=>exact absurd (Bl D.hb D.F1 _ _ hb) (by omega)
 have Zni:∀ k,¬ S k->behind bs i k=false:=λk hk=>by
  cases hb:behind bs i k with
  |false=>rfl
  |true=>exact absurd (hbS k hb) hk
 have hcutT:∀ t,t∈reads ops o->CutT ops S i t:=by
  intro t ht k p hp hd;have hk:=(List.getElem?_eq_some_iff.1 hp).1;constructor
  ·intro aw;rcases Nat.lt_trichotomy k i with h |h |h
   ·exact h
   ·subst h;exact absurd aw hnS
   ·have h1:=(D.F1.pair k i p o h hp ho (unb k aw)).1;exact absurd ht (((L1 h1).1 t hd).1)
  ·intro h;apply Classical.byContradiction;intro aw;have h1:=(D.F1.pair i k o p h ho hp (Zni k aw)).1;exact absurd ht ((L1 h1).2 t hd)
 have Zev:∀ t,t∈reads ops o->∀ v,X4 (Es i) t=some v->Qc (res ρ (Hs i).next) v (a.eval (.tmp t)):=
  λt ht v hv=>I.val t i v (Nat.le_of_lt hi) (hcutT t ht) hv
 have hdomN:∀ x l,ρ x=some l->x < (Hs ops.length).next:=λx l hx=>by
  rcases (I.cu x l hx).2 with h |⟨k,h1,_,h3⟩
  ·exact Nat.lt_of_lt_of_le h (D.Kh (Nat.zero_le _) (Nat.le_refl _))
  ·exact Nat.lt_of_lt_of_le h3 (D.Kh (I.lt k h1) (Nat.le_refl _))
 have hnext:(Hs i).next<=(Hs (i+1)).next:=D.Kh (Nat.le_succ i) hi
 have hznext:(Hs 0).next<=(Hs i).next:=D.Kh (Nat.zero_le i) (Nat.le_of_lt hi)
 have Zed:∀ k x,k < ops.length->(Hs k).next<=x->x < (Hs (k+1)).next->Js ρ x->S k:=by
  intro k x hk h1 h2 hd;obtain ⟨l,hl⟩:=Option.isSome_iff_exists.1 hd;rcases (I.cu x l hl).2 with h |⟨k',h3,h4,h5⟩
  ·have:=D.Kh (Nat.zero_le k) (Nat.le_of_lt hk);omega
  ·have:=D.Zq9 hk (I.lt k' h3) h1 h2 h4 h5;subst this;exact h3
 have Ze0:∀ x,Js ρ x->x < (Hs i).next->Touch P (Es i) o x->Cut (Wr P ops Ws Es Hs on) S i x:=by
  intro x hd hx ht k hwr;obtain ⟨ir,p,hp,hw⟩:=hwr;have hk:=(List.getElem?_eq_some_iff.1 hp).1;constructor
  ·intro aw;rcases Nat.lt_trichotomy k i with h |h |h
   ·exact h
   ·subst h;exact absurd aw hnS
   ·exfalso;rcases hw with ⟨h1,h2⟩ |⟨h1,_⟩
    ·exact D.conf (by omega) ho hp (Zox k h) (unb k aw) ht h1 h2
    ·have:=D.Kh (Nat.le_of_lt h) (Nat.le_of_lt hk);omega
  ·intro h;apply Classical.byContradiction;intro aw;rcases hw with ⟨h1,h2⟩ |⟨h1,h2⟩
   ·exact D.conf (by omega) ho hp (Zni k aw) (lt_unb k h) ht h1 h2
   ·exact aw (Zed k x hk h1 h2 hd)
 have later:∀ x,Wr P ops Ws Es Hs on i x->(x < (Hs i).next->Js ρ x)->∀ k,i < k->S k->¬ Wr P ops Ws Es Hs on k x:=by
  rintro x ⟨ir,o',ho',hw⟩ hd k hk aw ⟨honk,p,hp,hwk⟩;rw [ho] at ho';cases ho';have hkl:=I.lt k aw;have hm:=D.Kh (i:=i+1) (j:=k) hk (Nat.le_of_lt hkl);rcases hw with ⟨h1,h2⟩ |⟨h1,h2⟩
  ·rcases hwk with ⟨h3,h4⟩ |⟨h3,_⟩
   ·exact D.conf (by omega) ho hp (Zox k hk) (unb k aw) (Wr.touch h2) h3 h4
   ·omega
  ·rcases hwk with ⟨h3,h4⟩ |⟨h3,_⟩
   ·rcases h4 with ⟨h5,h6 |⟨h6,y,hy,v,hv,hx⟩⟩
    ·exact D.Zps hk ho hp (unb k aw) h1 h2 h6 h5
    ·exact hnS (Zed i x hi h1 h2 (I.hand k p aw hp h6 y hy v hv x hx))
   ·omega
 let ρr:=res ρ (Hs i).next
 let K:Nat->Prop:=λx=>(Ou (Yd o.op)=true/\Js ρr x)\/∃ y∈Y9 o.op,∃ v,K9 P (Es i) y=some v/\x∈Xl v
 have Zg8:∀ g,g < P.globals.size->∃ l,ρr g=some l/\l.W5=g/\l.sh=0:=by
  intro g hg;obtain ⟨l,h1,h2⟩:=hH.uv g hg;have h3:=(hH.Js g l h1).1;exact ⟨l,Kx.2 ⟨by omega,by rw [I.Eg g h3];exact h1⟩,h2⟩
 have hX:∀ t,Operand.tmp t∈o.op.operands->∀ v,X4 (Es i) t=some v->Qc ρr v (a.eval (.tmp t)):=λt ht v hv=>Zev t (Zmx ht) v hv
 have hhand:∀ y∈Y9 o.op,∀ v,K9 P (Es i) y=some v->∀ x∈Xl v,Js ρr x:=by
  intro y hy v hv x hx;cases y with
  |tmp t=>exact (hX t (Ah hy) v hv).ids x hx
  |const c=>
   obtain ⟨hp,h⟩:=Zt hv;cases h;exact (Qc.plain (ρ:=ρr) hp).ids x hx
  |global g=>
   obtain ⟨hp,h⟩:=Zt hv;cases h;rw [Nat.blt_eq] at hp;obtain ⟨l,h1,_⟩:=Zg8 g hp;simp [Xl] at hx;subst hx;exact Yv h1
  |func f=>cases hv;simp [Xl] at hx
 have Zou:∀ x,K x->∃ l,ρ x=some l/\ρr x=some l/\x < (Hs i).next:=by
  intro x hx
  have hd:Js ρr x:=by
   rcases hx with ⟨_,h⟩ |⟨y,hy,v,hv,hx⟩
   ·exact h
   ·exact hhand y hy v hv x hx
  obtain ⟨l,hl⟩:=Option.isSome_iff_exists.1 hd;exact ⟨l,(Kx.1 hl).2,hl,(Kx.1 hl).1⟩
 have lu:∀ x,K x->Cut (Wr P ops Ws Es Hs on) S i x:=by
  intro x hx;obtain ⟨l,h1,_,h3⟩:=Zou x hx;refine Ze0 x (Yv h1) h3 ?_;rcases hx with ⟨h,_⟩ |h
  ·exact .inl h
  ·exact .inr h
 have hHi:Jd P base K ρr (Hs i) w:=by
  refine ⟨?_,?_,λx l hx=>⟨(Kx.1 hx).1,(I.cu x l (Kx.1 hx).2).1⟩,Zg8⟩
  ·intro x ob hx hob;obtain ⟨l,h1,h2,h3⟩:=Zou x hx;obtain ⟨h4,h5⟩:=I.cont x i l ob (Nat.le_of_lt hi) (lu x hx) h1 hob;exact ⟨l,h2,h4,h5⟩
  ·intro x y ox oy lx ly hx hy hox hoy hlx hly he;exact I.inj x y i i lx ly (Nat.le_of_lt hi) (Nat.le_of_lt hi) (lu x hx) (lu y hy) (Kx.1 hlx).2 (Kx.1 hly).2 (by rw [hox];simp) (by rw [hoy];simp) he
 have htK:Tu P (Es i) ρr o.op K:=by
  refine ⟨λy hy v hv x hx=>.inr ⟨y,hy,v,hv,hx⟩,λhc=>?_⟩;funext x;apply propext;constructor
  ·rintro (⟨_,h⟩ |⟨y,hy,_⟩)
   ·exact h
   ·rw [Hn hc] at hy;cases hy
  ·exact λh=>.inl ⟨hc,h⟩
 have hWK:∀ x,on i=true/\V1 P (Es i) (Ws i) o.op x->Js ρr x->K x:=by
  rintro x ⟨_,_,h |⟨_,h⟩⟩ hd
  ·exact .inl ⟨h,hd⟩
  ·exact .inr h
 refine (D.facts i o ho).wp hHi hX (λ_=>htK) ho ?_ ?_
 case refine_2=>
  rintro d u hu ⟨p,g,h1,h2,h3⟩;exact Zev d (Zaa h1 h2 h3) u hu
 intro v' ρ' w' hv Us;let ρ2:Map:=λx=>if (Hs i).next<=x/\x < (Hs (i+1)).next then ρ' x else ρ x
 have Zae:∀ x,(Hs i).next<=x->x < (Hs (i+1)).next->ρ2 x=ρ' x:=λx h1 h2=>if_pos ⟨h1,h2⟩
 have Fz:∀ x,¬ ((Hs i).next<=x/\x < (Hs (i+1)).next)->ρ2 x=ρ x:=λx h=>if_neg h
 have hrnone:∀ x,(Hs i).next<=x->x < (Hs (i+1)).next->ρ x=none:=by
  intro x h1 h2;cases hx:ρ x with
  |none=>rfl
  |some l=>exact absurd (Zed i x hi h1 h2 (Yv hx)) hnS
 have e2:Ext ρ ρ2:=by
  intro x l hx;rw [Fz x λh=>?_];exact hx;rw [hrnone x h.1 h.2] at hx;cases hx
 have e1:Ext ρ' ρ2:=by
  intro x l hx;have Jo:=(Us.rel.Js x l hx).1
  by_cases h:(Hs i).next<=x
  ·rw [Zae x h Jo];exact hx
  ·rw [Fz x λh'=>h h'.1];rw [Us.Dq x (by omega)] at hx
   exact (Kx.1 hx).2
 have e1':Ext ρ' (res ρ2 (Hs (i+1)).next):=λx l hx=>Kx.2 ⟨(Us.rel.Js x l hx).1,e1 x l hx⟩
 have Zhb:∀ x,Wr P ops Ws Es Hs on i x->Js ρ2 x->(x < (Hs i).next/\K x/\Js ρ x/\(on i=true/\V1 P (Es i) (Ws i) o.op x))\/((Hs i).next<=x/\x < (Hs (i+1)).next):=by
  rintro x ⟨ir,o',ho',hw⟩ hd;rw [ho] at ho';cases ho';rcases hw with ⟨h1,h2⟩ |h
  ·have hd':Js ρ x:=by unfold Js at *;rw [Fz x (by omega)] at hd;exact hd
   obtain ⟨l,hl⟩:=Option.isSome_iff_exists.1 hd';exact .inl ⟨h1,hWK x ⟨ir,h2⟩ (Yv (Kx.2 ⟨h1,hl⟩)),hd',ir,h2⟩
  ·exact .inr h
 have lemA:∀ x j,j<=ops.length->Wr P ops Ws Es Hs on i x->Js ρ2 x->Cut (Wr P ops Ws Es Hs on) (λj=>S j\/j=i) j x->i < j/\(Hs j).get x=(Hs (i+1)).get x:=by
  intro x j hj hw hd hc;have hij:i < j:=(hc i hw).1 (.inr rfl);refine ⟨hij,D.Me hij hj ?_ λk h1 h2 h3=>?_⟩
  ·rcases Zhb x hw hd with ⟨h,_⟩ |⟨_,h⟩ <;> omega
  ·have aw:S k:=by
    rcases (hc k h3).2 h2 with h |h
    ·exact h
    ·omega
   refine later x hw (λhx=>?_) k (by omega) aw h3
   rcases Zhb x hw hd with ⟨_,_,h,_⟩ |⟨h,_⟩
   ·exact h
   ·omega
 have lemB:∀ x j,¬ Wr P ops Ws Es Hs on i x->Cut (Wr P ops Ws Es Hs on) (λj=>S j\/j=i) j x->Cut (Wr P ops Ws Es Hs on) S j x:=by
  intro x j hw hc k hk;rw [<- hc k hk];constructor
  ·exact .inl
  ·rintro (h |h)
   ·exact h
   ·subst h;exact absurd hk hw
 have newWr:∀ x,(Hs i).next<=x->x < (Hs (i+1)).next->Wr P ops Ws Es Hs on i x:=by
  intro x h1 h2;cases ir:on i with
  |true=>exact ⟨ir,o,ho,.inr ⟨h1,h2⟩⟩
  |false=>
   have:=((D.facts i o ho).off ir).2;rw [this] at h2;omega
 have Zgw:∀ x,¬ Wr P ops Ws Es Hs on i x->ρ2 x=ρ x:=λx h=>Fz x λh'=>h (newWr x h'.1 h'.2)
 have relK:∀ x l,Wr P ops Ws Es Hs on i x->ρ2 x=some l->(K x\/((Hs i).next<=x/\(ρ' x).isSome=true))/\ρ' x=some l:=by
  intro x l hw hx;rcases Zhb x hw (Yv hx) with ⟨h1,h2,_⟩ |⟨h1,h2⟩
  ·refine ⟨.inl h2,?_⟩;rw [Fz x (by omega)] at hx
   rw [Us.Dq x h1];exact Kx.2 ⟨h1,hx⟩
  ·rw [Zae x h1 h2] at hx;exact ⟨.inr ⟨h1,by rw [hx];rfl⟩,hx⟩
 have quietB:∀ x l j,j<=ops.length->¬ Wr P ops Ws Es Hs on i x->ρ x=some l->(Hs j).get x≠none->Cut (Wr P ops Ws Es Hs on) S j x->w'.heap[l.W5]? = w.heap[l.W5]?:=by
  intro x l j hj hw hx ha hc;refine Us.frame l.W5 (I.cu x l hx).1 λy ly hy hya hly he=>?_;have hky:=hWK y hy (Yv hly);have hly':=(Kx.1 hly);have:=I.inj y x i j ly l (Nat.le_of_lt hi) hj (lu y hky) hc hly'.2 hx hya ha he;subst this;exact hw ⟨hy.1,o,ho,.inl ⟨hly'.1,hy.2⟩⟩
 refine hn ρ2 _ w' ?_;refine ⟨?_,?_,?_,?_,?_,?_,?_,?_,?_,?_,?_,?_,?_,?_,⟨Us.env.1.trans I.env.1,Us.env.2.trans I.env.2⟩,λb hl hb=>Us.Bw b (Nat.lt_of_lt_of_le hl I.size) (I.Bw b hl hb)⟩
 ·rintro k (h |rfl)
  ·exact I.lt k h
  ·exact hi
 ·rintro k p (h |rfl) hp e h1 h2
  ·exact .inl (I.closed k p h hp e h1 h2)
  ·rw [ho] at hp;cases hp;exact .inl (J8 e h1 h2)
 ·intro x hx;rw [Fz x (by omega)];exact I.Eg x hx
 ·intro x l hx
  by_cases h:(Hs i).next<=x/\x < (Hs (i+1)).next
  ·rw [Zae x h.1 h.2] at hx;exact ⟨(Us.rel.Js x l hx).2,.inr ⟨i,.inr rfl,h⟩⟩
  ·rw [Fz x h] at hx;obtain ⟨h1,h2⟩:=I.cu x l hx;exact ⟨Nat.lt_of_lt_of_le h1 Us.size,h2.imp id λ⟨k,h3,h4⟩=>⟨k,.inl h3,h4⟩⟩
 ·rintro k x (h |rfl) h1 h2
  ·obtain ⟨l,hl⟩:=I.full k x h h1 h2;exact ⟨l,e2 x l hl⟩
  ·obtain ⟨l,hl⟩:=Us.full x h1 h2;exact ⟨l,e1 x l hl⟩
 ·rintro k p (h |rfl) hp hw y hy v hv x hx
  ·obtain ⟨l,hl⟩:=Option.isSome_iff_exists.1 (I.hand k p h hp hw y hy v hv x hx);exact Yv (e2 x l hl)
  ·rw [ho] at hp;cases hp;obtain ⟨l,h1,_⟩:=Zou x (.inr ⟨y,hy,v,hv,hx⟩);exact Yv (e2 x l h1)
 ·rw [Zaf];exact I.Zf6
 ·rw [Zag];exact I.Zlk
 ·
  intro t j u hj hc hu
  by_cases hd:o.dst=some t
  ·have hij:i < j:=(hc i o ho hd).1 (.inr rfl)
   have hnone:∀ k p,i+1<=k->k < j->ops[k]? = some p->p.dst≠some t:=by
    intro k p h1 h2 hp hpd
    have aw:S k:=by
     rcases (hc k p hp hpd).2 h2 with h |h
     ·exact h
     ·omega
    have h3:=(D.F1.pair k i p o (by omega) hp ho (unb k aw)).1
    exact ((L1 h3).1 t hpd).2 hd
   rw [D.vf hij hj hnone,(D.facts i o ho).env,hd,Rq] at hu;cases hu;rw [hd,zt]
   ·exact (hv.mono e1').mono (Zgo ρ2 (D.Kh hij hj))
   ·have hb:=(D.facts i o ho).bd;rw [hd] at hb;exact Nat.lt_of_lt_of_le (by simpa [bound] using hb) I.Zf6
  ·have Ow:CutT ops S j t:=by
    intro k p hp hpd;rw [<- hc k p hp hpd];constructor
    ·exact .inl
    ·rintro (h |rfl)
     ·exact h
     ·rw [ho] at hp;cases hp;exact absurd hpd hd
   have:=I.val t j u hj Ow hu
   have e:(a.put o.dst v').eval (.tmp t)=a.eval (.tmp t):=by
    cases hod:o.dst with
    |none=>rfl
    |some d=>exact zq λe'=>hd (by rw [hod,e'])
   rw [e];exact this.mono (sv e2 _)
 ·
  intro x j l ob hj hc hx hob
  by_cases hw:Wr P ops Ws Es Hs on i x
  ·obtain ⟨hij,hg⟩:=lemA x j hj hw (Yv hx) hc;rw [hg] at hob;obtain ⟨hk,hx'⟩:=relK x l hw hx;obtain ⟨l',h1,h2,h3⟩:=Us.rel.fit x ob hk hob;rw [hx'] at h1;cases h1;exact ⟨h2.mono (e1'.trans (Zgo ρ2 (D.Kh hij hj))),h3⟩
  ·rw [Zgw x hw] at hx;have Ow:=lemB x j hw hc;obtain ⟨h1,h2⟩:=I.cont x j l ob hj Ow hx hob;have hq:=quietB x l j hj hw hx (by rw [hob];simp) Ow
   refine ⟨(h1.mono (sv e2 _)).same hq,λhb=>?_⟩;have:=h2 hb;unfold W7 at *;rw [hq];exact this
 ·
  intro x y jx jy lx ly hjx hjy hcx hcy hx hy hax hay he
  have mixed:∀ x y jx jy lx ly,jx<=ops.length->jy<=ops.length->Wr P ops Ws Es Hs on i x->¬ Wr P ops Ws Es Hs on i y ->
    Cut (Wr P ops Ws Es Hs on) (λj=>S j\/j=i) jx x->Cut (Wr P ops Ws Es Hs on) (λj=>S j\/j=i) jy y->ρ2 x=some lx->ρ2 y=some ly ->
    (Hs jx).get x≠none->(Hs jy).get y≠none->lx.W5=ly.W5->False:=by
   intro x y jx jy lx ly hjx hjy hwx hwy hcx hcy hx hy hax hay he;obtain ⟨_,hg⟩:=lemA x jx hjx hwx (Yv hx) hcx;rw [hg] at hax;have hcy':=lemB y jy hwy hcy;rw [Zgw y hwy] at hy;rcases Zhb x hwx (Yv hx) with ⟨h1,h2,_,_⟩ |⟨h1,h2⟩
   ·have hx':ρ x=some lx:=by rw [Fz x (by omega)] at hx;exact hx
    have:=I.inj x y i jy lx ly (Nat.le_of_lt hi) hjy (lu x h2) hcy' hx' hy (Us.alive x h1 hax) hay he;subst this;exact hwy hwx
   ·rw [Zae x h1 h2] at hx;rcases Us.Pj x lx h1 hx with h |⟨z,lz,hz,hza,hlz,hzb⟩
    ·have:=(I.cu y ly hy).1;omega
    ·have hkz:=hWK z hz (Yv hlz);have hlz':=Kx.1 hlz;have:=I.inj z y i jy lz ly (Nat.le_of_lt hi) hjy (lu z hkz) hcy' hlz'.2 hy hza hay (hzb.trans he);subst this;exact hwy ⟨hz.1,o,ho,.inl ⟨hlz'.1,hz.2⟩⟩
  by_cases hwx:Wr P ops Ws Es Hs on i x
  ·by_cases hwy:Wr P ops Ws Es Hs on i y
   ·obtain ⟨_,hgx⟩:=lemA x jx hjx hwx (Yv hx) hcx;obtain ⟨_,hgy⟩:=lemA y jy hjy hwy (Yv hy) hcy;rw [hgx] at hax;rw [hgy] at hay;obtain ⟨hkx,hx'⟩:=relK x lx hwx hx;obtain ⟨hky,hy'⟩:=relK y ly hwy hy;obtain ⟨ox,hox⟩:=Option.ne_none_iff_exists'.1 hax;obtain ⟨oy,hoy⟩:=Option.ne_none_iff_exists'.1 hay;exact Us.rel.inj x y ox oy lx ly hkx hky hox hoy hx' hy' he
   ·exact (mixed x y jx jy lx ly hjx hjy hwx hwy hcx hcy hx hy hax hay he).elim
  ·by_cases hwy:Wr P ops Ws Es Hs on i y
   ·exact (mixed y x jy jx ly lx hjy hjx hwy hwx hcy hcx hy hx hay hax he.symm).elim
   ·rw [Zgw x hwx] at hx;rw [Zgw y hwy] at hy;exact I.inj x y jx jy lx ly hjx hjy (lemB x jx hwx hcx) (lemB y jy hwy hcy) hx hy hax hay he
 ·exact Nat.le_trans I.size Us.size
 ·intro b hb hh;rw [<- I.frame b hb hh];refine Us.frame b (Nat.lt_of_lt_of_le hb I.size) λy ly hy hya hly he=>?_;have hly':=Kx.1 hly;have J7:lo<=y:=Nat.le_trans (D.loLe i o ho) hy.2.1;rcases Nat.lt_or_ge y (Hs 0).next with h |h
  ·exact hh y ly J7 (D.alive (Nat.le_of_lt hi) h hya) (by rw [<- I.Eg y h];exact hly'.2) he
  ·rcases I.Pj y ly h hly'.2 with h1 |⟨j,lj,h1,h2,h3,h4⟩
   ·omega
   ·exact hh j lj h1 h2 h3 (h4.trans he)
 ·intro x l hx0 hx
  by_cases h:(Hs i).next<=x/\x < (Hs (i+1)).next
  ·rw [Zae x h.1 h.2] at hx;rcases Us.Pj x l h.1 hx with h1 |⟨j,lj,hj,hja,um,hjb⟩
   ·exact .inl (Nat.le_trans I.size h1)
   ·have hlj':=Kx.1 um;rcases Nat.lt_or_ge j (Hs 0).next with h1 |h1
    ·exact .inr ⟨j,lj,Nat.le_trans (D.loLe i o ho) hj.2.1,D.alive (Nat.le_of_lt hi) h1 hja,by rw [<- I.Eg j h1];exact hlj'.2,hjb⟩
    ·rw [<- hjb];exact I.Pj j lj h1 hlj'.2
  ·rw [Fz x h] at hx;exact I.Pj x l hx0 hx
end
end Go.Ev
namespace Go.Ev
theorem zx {p q:Nat->Bool} {i:Nat}:∀ {l:List Nat},(∀ x∈l,q x=true->p x=true)->i∈l->p i=true->q i=false->l.countP q+1<=l.countP p
 |[],_,h,_,_=>by cases h
 |x::l,hh,h,hp,hq=>by
  have hle:l.countP q<=l.countP p:=List.countP_mono_left λy hy=>hh y (List.mem_cons_of_mem _ hy);rw [List.countP_cons,List.countP_cons];cases h with
  |head=>rw [hp,hq];simp;omega
  |tail _ hm=>
   have ih:=zx (λy hy=>hh y (List.mem_cons_of_mem _ hy)) hm hp hq;cases hqx:q x with
   |true=>rw [hh x (List.mem_cons_self ..) hqx];simp;omega
   |false=>cases p x <;> simp <;> omega
section
variable {P:Program} {base lo nt:Nat} {ops:List Oper} {bs:List Nat} {Es:Nat->Env} {Hs:Nat->AH} {vs:Nat->Value} {on:Nat->Bool} {Ws:Nat->Nat} {ρ₀:Map} {Dt:World}
def O0 (l:Array Bool) (i:Nat):Prop:=l.getD i false=true
theorem Zpm (D:DC P base lo nt ops bs Es Hs vs on Ws) (hH:Jd P base (Js ρ₀) ρ₀ (Hs 0) Dt) {Q:Exit->Act->World->Prop}
  (hQ:∀ ρ a w,Mt nt ρ (Es ops.length) a->Step P base (λi=>lo<=i) (Js ρ₀) ρ₀ (Hs 0) Dt ρ (Hs ops.length) w->Q .normal a w) :
  ∀ (fuel:Nat) (listed:Array Bool) (ρ:Map) (a:Act) (w:World),listed.size=ops.length->(List.range ops.length).countP (λi=>!listed.getD i false)<=fuel ->
   Inv P base lo nt ops Es Hs on Ws ρ₀ Dt (O0 listed) ρ a w->wpAny P .any ops.toArray Q fuel listed a w:=by
 have empty:∀ (listed:Array Bool) (ρ:Map) (a:Act) (w:World),listed.size=ops.length->Inv P base lo nt ops Es Hs on Ws ρ₀ Dt (O0 listed) ρ a w ->
   Region.ready .any ops.toArray listed=[]->Q .normal a w:=by
  intro listed ρ a w Ec I hr
  have all:∀ j,j < ops.length->O0 listed j:=by
   intro j
   induction j using Nat.strongRecOn with
   |_ j ih=>
    intro hj;apply Classical.byContradiction;intro hn;have ho:ops[j]? = some ops[j]:=List.getElem?_eq_getElem hj
    have hm:j∈Region.ready .any ops.toArray listed:=by
     rw [mem_ready];refine ⟨?_,ops[j],by simp,λe he hb=>?_⟩
     ·have Jo:j < listed.size:=by omega
      unfold O0 at hn;simp only [Array.getD_eq_getD_getElem?,Array.getElem?_eq_getElem Jo,Option.getD_some] at hn ⊢;simpa using hn
     ·have Jo:=D.F1.back j _ ho e he hb;exact ih e.on Jo (by omega)
    rw [hr] at hm;cases hm
  obtain ⟨h1,h2⟩:=I.done D hH all;exact hQ ρ a w h1 h2
 intro fuel
 induction fuel with
 |zero=>
  intro listed ρ a w Ec hc I
  have hnil:Region.ready .any ops.toArray listed=[]:=by
   cases hr:Region.ready .any ops.toArray listed with
   |nil=>rfl
   |cons j l=>
    exfalso;have hm:j∈Region.ready .any ops.toArray listed:=by rw [hr];exact List.mem_cons_self ..
    obtain ⟨h1,o,ho,_⟩:=mem_ready.1 hm
    have hj:j < ops.length:=by
     have:=(Array.getElem?_eq_some_iff.1 ho).1;simpa using this
    have:(List.range ops.length).countP (λi=>!listed.getD i false)≠0:=by
     rw [Ne,List.countP_eq_zero];intro h;have:=h j (List.mem_range.2 hj);have Jo:j < listed.size:=by omega
     simp only [Array.getD_eq_getD_getElem?,Array.getElem?_eq_getElem Jo,Option.getD_some] at h1 this;rw [h1] at this;simp at this
    omega
  exact ⟨hnil,empty listed ρ a w Ec I hnil⟩
 |succ fuel ih=>
  intro listed ρ a w Ec hc I;refine ⟨empty listed ρ a w Ec I,λi hi=>?_⟩;obtain ⟨h1,o,ho,h2⟩:=mem_ready.1 hi
  have hil:i < ops.length:=by
   have:=(Array.getElem?_eq_some_iff.1 ho).1;simpa using this
  have Jo:i < listed.size:=by omega
  have hni:listed.getD i false=false:=by
   simp only [Array.getD_eq_getD_getElem?,Array.getElem?_eq_getElem Jo,Option.getD_some] at h1 ⊢;exact h1
  refine I.step D hH (by simpa using ho) (by unfold O0;rw [hni];simp) h2 λρ' a' w' I'=>?_
  have Ut:∀ j,(listed.setIfInBounds i true).getD j false=(listed.getD j false || decide (j=i)):=by
   intro j
   by_cases hji:i=j
   ·subst hji;simp [Jo]
   ·rw [getD_set_ne false hji];have:¬ j=i:=λe=>hji e.symm;simp [this]
  refine ih _ ρ' a' w' (by simpa using Ec) ?_ ?_
  ·have:=zx (p:=λi=>!listed.getD i false) (q:=λj=>!(listed.setIfInBounds i true).getD j false) (i:=i) (l:=List.range ops.length)
    (λx _ hx=>by rw [Ut] at hx;simp at hx ⊢;exact hx.1) (List.mem_range.2 hil) (by simp only [hni];rfl) (by rw [Ut];simp)
   omega
  ·have e:O0 (listed.setIfInBounds i true)=λj=>O0 listed j\/j=i:=by
    funext j;apply propext;unfold O0;rw [Ut];simp
   rw [e];exact I'
theorem seq_pure {Ws:Nat->Nat} (hlos:∀ i o,ops[i]? = some o->lo<=Ws i)
  (hf:∀ i o,ops[i]? = some o->Nq P base (Ws i) nt ops o (Es i) (Hs i) (vs i) (Es (i+1)) (Hs (i+1)) (on i))
  (hH:Jd P base (Js ρ₀) ρ₀ (Hs 0) Dt) {a:Act} (hT:Mt nt ρ₀ (Es 0) a):∀ i o,ops[i]? = some o->Pure P (Ws i) o (Es i) (Hs i) (Hs (i+1)) (on i):=by
 have h:=Zdu (P:=P) (base:=base) (Q:=λ_ _ _=>∀ i o,ops[i]? = some o->Pure P (Ws i) o (Es i) (Hs i) (Hs (i+1)) (on i)) hlos hf (λi l hl=>(hH.Js i l hl).1)
  (λ_ _ _ _ _ h=>h) ops.length 0 ρ₀ a Dt (by omega) hT (Step.refl hH) (λj o hj=>absurd hj (by omega))
 obtain ⟨_,_,_,hq,_⟩:=wp_ops _ a Dt h default [] [];exact hq
end
section
variable {P:Program} {base:Nat}
theorem tq {E:Env} {d:Option Tmp} {v:Value} {t:Tmp} (h:(X4 E t).isSome=true):(X4 (Bv E d v) t).isSome=true:=by
 by_cases e:d=some t
 ·subst e;rw [Rq];rfl
 ·rw [Rp e];exact h
theorem Ziz {call:Jh} (Xn:I6 P base call) (hm:P.follows .mixedOrders=true) {lo nt:Nat} (J7:base<=lo) {β:Type} {ops:List Oper} {draw:Bool} {E:Env} {H:AH} {k:Env->AH->Option β} {r:β}
  (h:Pw P call lo nt ops draw E H k=some r) :
  ∃ E' H',k E' H'=some r/\(∀ t,(X4 E t).isSome=true->(X4 E' t).isSome=true) /\
   ∀ (ρ:Map) (a:Act) (w:World) (id:Nat) (Q:Exit->Act->World->Prop),Jd P base (Js ρ) ρ H w->Mt nt ρ E a ->
    (∀ ρ' a' w',Mt nt ρ' E' a'->Step P base (λi=>lo<=i) (Js ρ) ρ H w ρ' H' w'->Q .normal a' w')->(Code.region id ops.toArray draw).wp P Q a w:=by
 have grow:∀ (Es:Nat->Env) (vs:Nat->Value),(∀ i o,ops[i]? = some o->Es (i+1)=Bv (Es i) o.dst (vs i))->∀ m,m<=ops.length->∀ t,(X4 (Es 0) t).isSome=true->(X4 (Es m) t).isSome=true:=by
  intro Es vs he m
  induction m with
  |zero=>intro _ t h;exact h
  |succ m ih=>
   intro hm t ht;rw [he m _ (List.getElem?_eq_getElem (by omega))]
   exact tq (ih (by omega) t ht)
 unfold Pw at h;cases draw with
 |false=>
  simp only at h;obtain ⟨Es,Hs,vs,on,h1,h2,h3,h4⟩:=zv Xn J7 h;refine ⟨_,_,h4,?_,λρ a w id Q hH hT hQ=>?_⟩
  ·rw [<- h1];exact grow Es vs (λi o ho=>(h3 i o ho).env) _ (Nat.le_refl _)
  ·subst h1 h2;apply wp_region;rw [List.range_eq_range']
   have:=Zdu (P:=P) (base:=base) (Q:=Q) (Ws:=λ_=>lo) (lo:=lo) (λ_ _ _=>Nat.le_refl _) h3 (λi l hl=>(hH.Js i l hl).1)
    (λρ' a' w' ht hs _=>hQ ρ' a' w' ht hs) ops.length 0 ρ a w (by omega) hT (Step.refl hH) (λj o hj=>absurd hj (by omega))
   simpa using this
 |true=>
  simp only at h;obtain ⟨iu,hA⟩:=Lk h;obtain ⟨Es,Hs,vs,on,h1,h2,h3,h4⟩:=Hy Xn J7 hA;have hplan:=planOk (ops:=ops) (bs:=Yp ops []) iu
  have hrows:∀ i o,ops[i]? = some o->(L5 ops (Yp ops [])).rows[i]? = some (rowAt ops (Yp ops []) i):=by
   intro i o ho;have e:(L5 ops (Yp ops [])).rows=(List.range ops.length).map (rowAt ops (Yp ops [])):=rfl;have hi:=(List.getElem?_eq_some_iff.1 ho).1;rw [e];simp [hi]
  refine ⟨_,_,h4,?_,λρ a w id Q hH hT hQ=>?_⟩
  ·rw [<- h1];refine grow Es vs (λi o ho=>?_) _ (Nat.le_refl _);obtain ⟨row,_,_,_,hf⟩:=h3 i o ho;exact hf.env
  ·subst h1 h2
   have h5:∀ i o,ops[i]? = some o->lo<=(cond (rowAt ops (Yp ops []) i).quiet (Hs i).next lo) /\
     (∃ a b,Gl P (Es i) (rowAt ops (Yp ops []) i).apart=some a/\Gl P (Es i) (rowAt ops (Yp ops []) i).own=some b/\D3 a b=true) /\
     Nq P base (cond (rowAt ops (Yp ops []) i).quiet (Hs i).next lo) nt ops o (Es i) (Hs i) (vs i) (Es (i+1)) (Hs (i+1)) (on i):=by
    intro i o ho;obtain ⟨row,h6,h7⟩:=h3 i o ho;rw [hrows i o ho] at h6;cases h6;exact h7
   have hpure:=seq_pure (Ws:=λi=>cond (rowAt ops (Yp ops []) i).quiet (Hs i).next lo) (lo:=lo) (λi o ho=>(h5 i o ho).1) (λi o ho=>(h5 i o ho).2.2) hH hT
   have D:DC P base lo nt ops (Yp ops []) Es Hs vs on (λi=>cond (rowAt ops (Yp ops []) i).quiet (Hs i).next lo):=
    ⟨hplan,rfl,λi o ho=>(h5 i o ho).1,λi o ho=>(h5 i o ho).2.2,hpure,λi o _ hq=>by simp only [hq,cond_true],λi o ho=>(h5 i o ho).2.1⟩
   apply wp_region_any hm;refine Zpm D hH hQ _ _ ρ a _ (by simp) ?_ ?_
   ·refine Nat.le_trans List.countP_le_length (by simp)
   ·have e:O0 (Array.replicate ops.toArray.size false)=λ_=>False:=by
     funext j;apply propext;unfold O0;simp only [Array.getD_eq_getD_getElem?,Array.getElem?_replicate,iff_false];split <;> simp
    rw [e];exact Inv.init D hH hT rfl ⟨rfl,rfl⟩
end
end Go.Ev
namespace Go.Ev
theorem Zlb (t:Tmp) (ts:List Tmp) (v:Value) (S:V ts):Wt (t::ts) (v,S)=(t,v)::Wt ts S:=rfl
theorem np:∀ (Zs:List Tmp) (S:V Zs) (t:Tmp),t∈Zs->(X4 (Wt Zs S) t).isSome=true
 |[],_,_,h=>by cases h
 |s::ts,(v,S),t,h=>by
  rw [Zlb,Ei]
  by_cases e:s=t
  ·rw [if_pos e];rfl
  ·rw [if_neg e];cases h with
   |head=>exact absurd rfl e
   |tail _ hm=>exact np ts S t hm
theorem Zf3 {E:Env}:∀ (Zs:List Tmp),(∀ t∈Zs,(X4 E t).isSome=true)->∀ (t:Tmp) (v:Value),X4 (Wt Zs (mkV E Zs)) t=some v->X4 E t=some v
 |[],_,t,v,h=>by cases h
 |s::ts,hk,t,v,h=>by
  have e:Wt (s::ts) (mkV E (s::ts))=(s,(X4 E s).getD undef)::Wt ts (mkV E ts):=rfl;rw [e,Ei] at h
  by_cases e:s=t
  ·rw [if_pos e] at h;cases h;subst e;obtain ⟨u,hu⟩:=Option.isSome_iff_exists.1 (hk s (List.mem_cons_self ..));rw [hu];rfl
  ·rw [if_neg e] at h;exact Zf3 ts (λt ht=>hk t (List.mem_cons_of_mem _ ht)) t v h
theorem nq {args:List Value}:∀ (Zs:List Tmp) (t:Tmp) (v:Value),X4 (Wt Zs (Ad args Zs)) t=some v->v=Ck args t
 |[],t,v,h=>by cases h
 |s::ts,t,v,h=>by
  have e:Wt (s::ts) (Ad args (s::ts))=(s,Ck args s)::Wt ts (Ad args ts):=rfl;rw [e,Ei] at h
  by_cases e:s=t
  ·rw [if_pos e] at h;cases h;subst e;rfl
  ·rw [if_neg e] at h;exact nq ts t v h
theorem Mt.Zs {nt:Nat} {ρ:Map} {E:Env} {a:Act} {Zs:List Tmp} (h:Mt nt ρ E a) (hk:∀ t∈Zs,(X4 E t).isSome=true):Mt nt ρ (Wt Zs (mkV E Zs)) a:=
 ⟨h.size,h.defs,λt v hv=>h.val t v (Zf3 Zs hk t v hv)⟩
def exOf:Ex->Exit
 |.normal=>.normal
 |.exit id=>.exit id
 |.ret=>.ret
section
variable {P:Program} {base:Nat}
def As (P:Program) (base lo nt:Nat) (Zs:List Tmp) (c:Code) (f:Piece (V Zs)):Prop:=
 ∀ {S:V Zs} {H:AH} {e:Ex} {S':V Zs} {H':AH},f S H=some (e,S',H')->∀ (ρ:Map) (a:Act) (w:World) (Q:Exit->Act->World->Prop),
  Jd P base (Js ρ) ρ H w->Mt nt ρ (Wt Zs S) a ->
  (∀ ρ' a' w',Mt nt ρ' (Wt Zs S') a'->Step P base (λi=>lo<=i) (Js ρ) ρ H w ρ' H' w'->Q (exOf e) a' w')->c.wp P Q a w
variable {lo nt:Nat} {Zs:List Tmp}
theorem seq_ok {c d:Code} {f g:Piece (V Zs)} (hc:As P base lo nt Zs c f) (hd:As P base lo nt Zs d g):As P base lo nt Zs (.seq c d) (seqE f g):=by
 intro S H e S' H' h ρ a w Q hH hT hQ;have h:Option.rec (motive:=λ_=>Bn (V Zs)) none (λp=>Ex.casesOn (motive:=λ_=>Bn (V Zs)) p.1 (g p.2.1 p.2.2) (λ_=>some p) (some p)) (f S H)=some (e,S',H'):=h;cases hf:f S H with
 |none=>rw [hf] at h;cases h
 |some p=>
  obtain ⟨e1,S1,H1⟩:=p;rw [hf] at h;apply wp_seq;refine hc hf ρ a w _ hH hT λρ' a' w' av hs=>?_;cases e1 with
  |normal=>
   exact hd h ρ' a' w' Q hs.pw av λρ2 a2 w2 hT2 hs2=>hQ ρ2 a2 w2 hT2 (hs.then (λi l hl=>(hH.Js i l hl).1) hs2 λ_ _ h=>h)
  |exit id=>cases h;exact hQ ρ' a' w' av hs
  |ret=>cases h;exact hQ ρ' a' w' av hs
theorem Zp0 {id:Nat} {c:Code} {f:Piece (V Zs)} (hc:As P base lo nt Zs c f):As P base lo nt Zs (.block id c) (S7 id f):=by
 intro S H e S' H' h ρ a w Q hH hT hQ;have h:Option.rec (motive:=λ_=>Bn (V Zs)) none (λp=>Ex.casesOn (motive:=λ_=>Bn (V Zs)) p.1 (some p) (λSl=>cond (Nat.beq Sl id) (some (.normal,p.2)) (some p)) (some p)) (f S H)=some (e,S',H'):=h;cases hf:f S H with
 |none=>rw [hf] at h;cases h
 |some p=>
  obtain ⟨e1,S1,H1⟩:=p;rw [hf] at h;apply wp_block;refine hc hf ρ a w _ hH hT λρ' a' w' av hs=>?_;cases e1 with
  |normal=>cases h;exact hQ ρ' a' w' av hs
  |exit Sl=>
   have h:cond (Nat.beq Sl id) (some (Ex.normal,S1,H1)) (some (Ex.exit Sl,S1,H1))=some (e,S',H'):=h
   by_cases hid:Sl=id
   ·rw [Uj hid] at h;cases h;show (if Sl=id then _ else _)
    rw [if_pos hid];exact hQ ρ' a' w' av hs
   ·rw [Wm hid] at h;cases h;show (if Sl=id then _ else _)
    rw [if_neg hid];exact hQ ρ' a' w' av hs
  |ret=>cases h;exact hQ ρ' a' w' av hs
theorem Zro {c:Code} {f:Piece (V Zs)} (hc:As P base lo nt Zs c f) (fuel:Nat):As P base lo nt Zs (.loop c) (Cb f fuel):=by
 intro S H e S' H' h ρ a w Q hH hT hQ;refine wp_loop_rounds fuel ?_
 have key:∀ (n:Nat) (S:V Zs) (H:AH) (ρ:Map) (a:Act) (w:World),Cb f n S H=some (e,S',H')->Jd P base (Js ρ) ρ H w->Mt nt ρ (Wt Zs S) a ->
   (∀ ρ' a' w',Mt nt ρ' (Wt Zs S') a'->Step P base (λi=>lo<=i) (Js ρ) ρ H w ρ' H' w'->Q (exOf e) a' w')->Code.rounds P c Q n a w:=by
  intro n
  induction n with
  |zero=>intro S H ρ a w h;cases h
  |succ n ih=>
   intro S H ρ a w h hH hT hQ;have h:Option.rec (motive:=λ_=>Bn (V Zs)) none (λp=>Ex.casesOn (motive:=λ_=>Bn (V Zs)) p.1 (Cb f n p.2.1 p.2.2) (λ_=>some p) (some p)) (f S H)=some (e,S',H'):=h;rw [rounds_succ];cases hf:f S H with
   |none=>rw [hf] at h;cases h
   |some p=>
    obtain ⟨e1,S1,H1⟩:=p;rw [hf] at h;refine hc hf ρ a w _ hH hT λρ' a' w' av hs=>?_;cases e1 with
    |normal=>
     exact ih S1 H1 ρ' a' w' h hs.pw av λρ2 a2 w2 hT2 hs2=>hQ ρ2 a2 w2 hT2 (hs.then (λi l hl=>(hH.Js i l hl).1) hs2 λ_ _ h=>h)
    |exit id=>cases h;exact hQ ρ' a' w' av hs
    |ret=>cases h;exact hQ ρ' a' w' av hs
 exact key fuel S H ρ a w h hH hT hQ
theorem Zr8 {call:Jh} (Xn:I6 P base call) (hm:P.follows .mixedOrders=true) (J7:base<=lo) (fuel:Nat):∀ (c:Code),As P base lo nt Zs c (I1 P call fuel lo nt Zs c):=by
 intro c
 induction c with
 |skip=>
  intro S H e S' H' h ρ a w Q hH hT hQ;cases h;exact wp_skip (hQ ρ a w hT (Step.refl hH))
 |label l=>
  intro S H e S' H' h ρ a w Q hH hT hQ;cases h;exact wp_label (hQ ρ a w hT (Step.refl hH))
 |ret=>
  intro S H e S' H' h ρ a w Q hH hT hQ;cases h;exact wp_ret (hQ ρ a w hT (Step.refl hH))
 |exit id=>
  intro S H e S' H' h ρ a w Q hH hT hQ;cases h;exact wp_exit (hQ ρ a w hT (Step.refl hH))
 |region id ops draw=>
  intro S H e S' H' h ρ a w Q hH hT hQ;obtain ⟨E1,H1,h1,h2,h3⟩:=Ziz Xn hm J7 (h:Pw P call lo nt ops.toList draw (Wt Zs S) H (λE H=>some (Ex.normal,mkV E Zs,H))=some (e,S',H'));cases h1;have:=h3 ρ a w id Q hH hT λρ' a' w' av hs=>hQ ρ' a' w' (av.Zs λt ht=>h2 t (np Zs S t ht)) hs;simpa using this
 |seq c d hc hd=>exact seq_ok hc hd
 |cond x c d hc hd=>
  intro S H e S' H' h ρ a w Q hH hT hQ;obtain ⟨v,hv,hA⟩:=Z5 (h:Za (K9 P (Wt Zs S) x) _=some (e,S',H'));split at hA
  ·rename_i t;have h1:=((hT.xrel hH) _ _ hv).Bk;refine wp_cond h1 ?_;cases t with
   |true=>exact hc hA ρ a w Q hH hT hQ
   |false=>exact hd hA ρ a w Q hH hT hQ
  ·cases hA
 |block id c hc=>exact Zp0 hc
 |loop c hc=>exact Zro hc fuel
 |scope c hc=>
  intro S H e S' H' h ρ a w Q hH hT hQ;refine wp_scope_straight (hc h ρ a w _ hH hT λρ' a' w' av hs=>?_);have:=hQ ρ' a' w' av hs;cases e <;> exact this
 |rangeFunc f ps x c _ _=>intro S H e S' H' h;cases h
 |goto l=>intro S H e S' H' h;cases h
 |refuse s=>intro S H e S' H' h;cases h
def resG (tmps:Array Value):ResultVar->Sem Value
 |.tmp t=>pure (tmps.getD t undef)
 |.cell x t=>do loadVar t (<- asAddr (tmps.getD x undef))
theorem Zdy (fn:Func) (tmps:Array Value):results fn tmps=(do
  let vs <- fn.results.mapM (resG tmps)
  pure (if h:vs.size=1 then vs[0] else .tuple vs)):=by
 have e:(λr=>match r with
  |ResultVar.tmp t=>(pure (tmps.getD t undef):Sem Value)
  |.cell a t=>do loadVar t (<- asAddr (tmps.getD a undef)))=resG tmps:=by
  funext r;cases r <;> rfl
 rw [<- e];rfl
theorem Cw {ρ:Map} {H:AH} {w:World} (hH:Jd P base (Js ρ) ρ H w) {E:Env} {a:Act} (hT:Mt nt ρ E a):∀ {β:Type} {rs:List ResultVar} {k:List Value->Option β} {r:β},Eo P E H rs k=some r ->
  ∃ vs Wq,k vs=some r/\(rs.mapM (resG a.tmps)).run P w=.ok Wq w/\Xt ρ vs Wq
 |_,[],k,r,h=>⟨[],[],h,by simp,.nil⟩
 |_,.tmp t::rs,k,r,h=>by
  obtain ⟨v,hv,hA⟩:=Zj h;obtain ⟨vs,Wq,h1,h2,h3⟩:=Cw hH hT hA;refine ⟨v::vs,a.eval (.tmp t)::Wq,h1,?_,.cons (hT.val t v hv) h3⟩;rw [List.mapM_cons];simp only [resG,Sem.run_bind,Sem.run_pure,Result.andThen];rw [h2];rfl
 |_,.cell x t::rs,k,r,h=>by
  obtain ⟨v,hv,hA⟩:=Zj h;obtain ⟨i,hi,hB⟩:=Zj hA;obtain ⟨u,hu,hC⟩:=Z5 hB;obtain ⟨vs,Wq,h1,h2,h3⟩:=Cw hH hT hC;have hv':=hT.val x v hv;obtain ⟨u',h4,h5⟩:=vc hi hu hv' hH hv'.ids;refine ⟨u::vs,u'::Wq,h1,?_,.cons h5 h3⟩;obtain ⟨j,off,rfl,_⟩:=G6 hu;obtain ⟨l,hl,he⟩:=hv'.T4
  have he':asAddr (a.tmps.getD x undef)=pure ⟨l.W5,l.sh+off,none⟩:=by
   rw [show a.tmps.getD x undef=.pointer (some ⟨l.W5,l.sh+off,none⟩) from he];rfl
  rw [he] at h4;rw [List.mapM_cons];simp only [resG,Sem.run_bind,he',Sem.run_pure,Result.andThen];simp only [Instr.loadAt,Instr.sureAddr,Sem.run_bind,Sem.run_pure,Result.andThen] at h4;rw [h4];simp only;rw [h2]
theorem Zi6 {ρ:Map} {vs Wq:List Value} (h:Xt ρ vs Wq):Qc ρ (oneOf vs) (if h:Wq.toArray.size=1 then Wq.toArray[0] else .tuple Wq.toArray):=by
 cases h with
 |nil=>exact .tuple .nil
 |cons h1 t=>
  cases t with
  |nil=>exact h1
  |cons h2 t=>exact .tuple (.cons h1 (.cons h2 t))
theorem vz {call:Jh} (Xn:I6 P base call) (hm:P.follows .mixedOrders=true) (J7:base<=lo) {fuel:Nat} {f:FuncId} {fn:Func} {c:Code} (hf:P.funcs[f]? = some fn) (hb:fn.body=some c)
  {args:List Value} {H H':AH} {v:Value} (h:Zfc P call fuel lo fn.ntmps Zs c fn.results.toList args H=some (v,H')) {ρ:Map} {w:World} {Lb:List Value}
  (hH:Jd P base (Js ρ) ρ H w) (ha:Xt ρ args Lb) :
  Calls P f Lb.toArray w λe w'=>∃ v' ρ',e=.returned v'/\Qc ρ' v v'/\Step P base (λi=>lo<=i) (Js ρ) ρ H w ρ' H' w':=by
 obtain ⟨⟨e,S',H1⟩,h1,h2⟩:=Z5 h;refine calls_of_wp hf hb ?_
 have hT:Mt fn.ntmps ρ (Wt Zs (Ad args Zs)) { tmps:=Lb.toArray++Array.replicate (fn.ntmps - Lb.toArray.size) undef,defers:=[] }:=by
  refine ⟨by simp;omega,rfl,λt u hu=>?_⟩
  have hu:=nq Zs t u hu;subst hu;unfold Ck Act.eval;rw [Xq];simp only [Array.getD_eq_getD_getElem?];cases hg:args[t]? with
  |some x=>
   obtain ⟨x',h3,h4⟩:=ha.get t x hg;have h5:t < Lb.length:=(List.getElem?_eq_some_iff.1 h3).1;rw [Array.getElem?_append_left (by simpa using h5)]
   simp only [List.getElem?_toArray,h3,Option.getD_some];exact h4
  |none=>
   have h3:Lb.length<=t:=by rw [<- ha.length];exact List.getElem?_eq_none_iff.1 hg
   rw [Array.getElem?_append_right (by simpa using h3)]
   simp only [Option.getD_none,Array.getElem?_replicate];split <;> exact .undef
 refine Zr8 Xn hm J7 fuel c h1 ρ _ w _ hH hT λρ' a' w' av hs=>?_
 have fin:∀ {r:Value×AH},Eo P (Wt Zs S') H1 fn.results.toList (λvs=>some (oneOf vs,H1))=some r->r=(v,H') ->
   a'.defers=[]/\∃ u,(results fn a'.tmps).run P w'=.ok u w'/\∃ v' ρ'',Ending.returned u=.returned v'/\Qc ρ'' v v'/\Step P base (λi=>lo<=i) (Js ρ) ρ H w ρ'' H' w':=by
  intro r hr he;obtain ⟨vs,Wq,h3,h4,h5⟩:=Cw hs.pw av hr;subst he;cases h3;refine ⟨av.defs,_,?_,_,ρ',rfl,Zi6 h5,hs⟩;rw [Zdy,Array.mapM_eq_mapM_toList];simp only [map_eq_pure_bind,bind_assoc,pure_bind,Sem.run_bind];rw [h4];rfl
 cases e with
 |normal=>exact fin h2 rfl
 |exit id=>cases h2
 |ret=>exact fin h2 rfl
theorem Bj {ρ:Map} {v v':Value} (h:Qc ρ v v') (hf:Ev.flat v=true):v'=v:=by
 cases h with
 |flat _=>rfl
 |_=>simp [Ev.flat] at hf
theorem Fb {ρ:Map}:∀ {l l':List Value},Xt ρ l l'->l.all Ev.flat=true->l'=l
 |_,_,.nil,_=>rfl
 |_,_,.cons h t,hf=>by
  simp only [List.all_cons,Bool.and_eq_true] at hf;rw [Bj h hf.1,Fb t hf.2]
theorem Zd1 {ρ:Map} {v v':Value} (h:Qc ρ v v') (hp:Ev.plain v=true):v'=v:=by
 unfold Ev.plain at hp;split at hp
 ·cases h with
  |flat _=>rfl
  |agg h=>exact congrArg Value.agg (Array.toList_inj.1 (Fb h hp))
 ·cases h with
  |flat _=>rfl
  |tuple h=>exact congrArg Value.tuple (Array.toList_inj.1 (Fb h hp))
 ·exact Bj h hp
theorem fn_ok {call:Jh} (Xn:I6 P base call) (hm:P.follows .mixedOrders=true) (C:Ctx):I6 P base (evFn P C call):=by
 intro lo f args H v H' J7 h;obtain ⟨fn,hfn,hA⟩:=Zj (h:Zf (nth P.funcs.toList f) _=some (v,H'));obtain ⟨c,hc,hB⟩:=Zj hA;obtain ⟨hn,hC⟩:=Zt hB;rw [Xq,Array.getElem?_toList] at hfn;refine ⟨⟨fn,hfn,by rw [hc];rfl,by simpa using hn⟩,λρ w Lb hH ha=>?_⟩
 cases hmode:C.mode f with
 |all=>
  rw [hmode] at hC;exact vz Xn hm J7 hfn hc hC hH ha
 |pure=>
  rw [hmode] at hC;obtain ⟨v1,H1,h1,h2⟩:=Lz (show Gm (Zfc P call C.fuel (Za7 .pure lo H) fn.ntmps (C.Zs f) c fn.results.toList args H) (λv _=>Zp (plain v) (some (v,H)))=some (v,H') from hC);obtain ⟨hp,h3⟩:=Zt h2;cases h3
  have hle:base<=Za7 .pure lo H/\H.next<=Za7 .pure lo H:=by
   unfold Za7;cases hb:Nat.ble lo H.next with
   |true=>exact ⟨Nat.le_trans J7 (Qa hb),Nat.le_refl _⟩
   |false=>exact ⟨J7,Nat.le_of_lt (Up hb)⟩
  refine Calls.mono (vz Xn hm hle.1 hfn hc h1 hH ha) λe w'=>?_;rintro ⟨v',ρ',rfl,hv,hs⟩;have same:∀ b,b < w.heap.size->w'.heap[b]? = w.heap[b]?:=λb hb=>hs.frame b hb λi l hi _ hl=>absurd (hH.Js i l hl).1 (by omega)
  refine ⟨v',ρ,rfl,?_,?_⟩
  ·rw [Zd1 hv hp];exact .plain hp
  ·refine ⟨λ_ _=>rfl,Nat.le_refl _,⟨?_,?_,λi l hl=>⟨(hH.Js i l hl).1,Nat.lt_of_lt_of_le (hH.Js i l hl).2 hs.size⟩,hH.uv⟩,hs.size,λ_ _ h=>h,λ_ _ _=>rfl,λb hb _=>same b hb,
    λi l hi hl=>absurd (hH.Js i l hl).1 (by omega),λi h1 h2=>absurd h1 (by omega),hs.env,hs.Bw⟩
   ·intro i o hk ho;have hk:Js ρ i:=hk.elim id λh=>h.2;obtain ⟨l,h4,h5,h6⟩:=hH.fit i o hk ho;have e:=same l.W5 (hH.Js i l h4).2;refine ⟨l,h4,h5.same e,λhb=>?_⟩;have:=h6 hb;unfold W7 at *;rw [e];exact this
   ·intro i j oi oj li lj hi hj;exact hH.inj i j oi oj li lj (hi.elim id λh=>h.2) (hj.elim id λh=>h.2)
end
end Go.Ev
namespace Go.Ev
theorem gu {H:Type} {enc:TypeId×Value->H} {P:Program} {w:World} {b:Nat} {spare:Nat->Bool} {held:Bool} {fuel n:Nat} {t e:TypeId} {k:IntKind} {cs:List Value} {d:DataW H} {p:List MemPlace}
  (ht:P.underlying t=some (.array n e)) (he:P.underlying e=some (.int k)) (hc:P.cellsOf e=1) (hct:P.cellsOf t=n)
  (h:DataW.trod enc P w b spare held fuel t cs=some (d,p)) (zs:List Int) (hd:d=.agg (zs.map λz=>.lit (.int k z))):cs=zs.map λz=>.int k z:=by
 obtain ⟨xs,m,rfl,hx,hlen,hn,J8⟩:=DataW.trod_array ht h;rw [hct] at hlen;simp only [Prod.mk.injEq] at hx;rw [hd] at hx
 have hx1:zs.map (λz=>(DataW.lit (.int k z):DataW H))=xs.map (·.1):=by
  have:=hx.1;simpa using this
 have hz:zs.length=n:=by
  have:=congrArg List.length hx1;simp at this;omega
 refine List.ext_getElem? λi=>?_;rcases Nat.lt_or_ge i n with hi |hi
 ·have h1:=J8 i hi;rw [hc,Nat.mul_one] at h1;have hxi:xs[i]? = some xs[i]:=List.getElem?_eq_getElem (by omega)
  rw [hxi] at h1;obtain ⟨z,e1,e2,_⟩:=DataW.trod_int he h1
  have h2:cs[i]? = some (.int k z):=by
   have h3:((cs.drop i).take 1)[0]? = some (.int k z):=by rw [e1];rfl
   rw [List.getElem?_take,if_pos (by decide),List.getElem?_drop] at h3
   simpa using h3
  have h4:(zs.map (λz=>(DataW.lit (.int k z):DataW H)))[i]? = some (.lit (.int k z)):=by
   rw [hx1,List.getElem?_map,hxi,e2];rfl
  rw [List.getElem?_map] at h4 ⊢;cases hzi:zs[i]? with
  |none=>rw [hzi] at h4;cases h4
  |some y=>
   rw [hzi] at h4;simp at h4;subst h4;rw [h2];rfl
 ·rw [List.getElem?_eq_none (by omega),List.getElem?_eq_none (by simp;omega)]
section
variable {P:Program} {base lo:Nat} {ρ ρ':Map} {H H':AH} {w w':World}
theorem Step.Zqx (h:Step P base (λi=>lo<=i) (Js ρ) ρ H w ρ' H' w') (hd:∀ i l,ρ i=some l->i < lo) {b:Nat} (hb:b < w.heap.size):w'.heap[b]? = w.heap[b]?:=
 h.frame b hb λi l hi _ hl=>absurd (hd i l hl) (by omega)
theorem Step.kept (h:Step P base (λi=>lo<=i) (Js ρ) ρ H w ρ' H' w') (hd:∀ i l,ρ i=some l->i < lo) (may:MemPlace->Prop):w.keptBut w' may:=by
 refine ⟨h.env.1,h.env.2,λi hi=>?_⟩;rw [h.Zqx hd hi];cases ho:w.heap[i]? with
 |none=>rfl
 |some o=>
  cases o with
  |cells c t fr=>exact ⟨rfl,rfl,rfl,λ_ _=>rfl⟩
  |map es clock=>exact .inr ⟨rfl,rfl⟩
  |_=>rfl
end
def xf (k:IntKind) (xs ys:List Int) (e0 e1:TypeId):AH:=
 ⟨2,(Tr.leaf.put 0 (some (.cells xs.length (xs.map λz=>.int k z) e0))).put 1 (some (.cells ys.length (ys.map λz=>.int k z) e1))⟩
def x7 (n m:Nat):Map:=λi=>if i=0 then some ⟨0,0,n⟩ else if i=1 then some ⟨1,0,m⟩ else none
theorem O6 {n m i:Nat} {l:Loc} (h:x7 n m i=some l):i < 2:=by
 unfold x7 at h;split at h
 ·omega
 ·split at h
  ·omega
  ·cases h
theorem Zqh {P:Program} {k:IntKind} {xs ys:List Int} {e0 e1:TypeId} {f0 f1:Nat×Nat} {c0 c1:Array Value} {w:World} (hg:P.globals.size=2)
  (h0:w.heap[0]? = some (.cells c0 e0 f0)) (h1:w.heap[1]? = some (.cells c1 e1 f1)) (hx:c0.toList=xs.map λz=>.int k z) (hy:c1.toList=ys.map λz=>.int k z) :
  Jd P 2 (Js (x7 xs.length ys.length)) (x7 xs.length ys.length) (xf k xs ys e0 e1) w:=by
 have g0:(xf k xs ys e0 e1).get 0=some (.cells xs.length (xs.map λz=>.int k z) e0):=by
  show ((Tr.leaf.put 0 _).put 1 _).get 0=_;rw [Tr.U7,if_neg (by decide),Tr.U7,if_pos rfl]
 have g1:(xf k xs ys e0 e1).get 1=some (.cells ys.length (ys.map λz=>.int k z) e1):=by
  show ((Tr.leaf.put 0 _).put 1 _).get 1=_;rw [Tr.U7,if_pos rfl]
 have fitA:∀ {zs:List Int} {c:Array Value},c.toList=zs.map (λz=>Value.int k z)->∀ (i:Nat) (v:Value),(zs.map λz=>Value.int k z)[i]? = some v ->
   ∃ v',c[0+i]? = some v'/\Qc (x7 xs.length ys.length) v v':=by
  intro zs c hc i v hv;refine ⟨v,by rw [Nat.zero_add,<- Array.getElem?_toList,hc];exact hv,?_⟩
  rw [List.getElem?_map] at hv;cases hz:zs[i]? with
  |none=>rw [hz] at hv;cases hv
  |some z=>rw [hz] at hv;cases hv;exact .flat rfl
 have sizeA:∀ {zs:List Int} {c:Array Value},c.toList=zs.map (λz=>Value.int k z)->c.size=zs.length:=by
  intro zs c hc;rw [<- Array.length_toList,hc,List.length_map]
 have Ec:1 < w.heap.size:=(Array.getElem?_eq_some_iff.1 h1).1;refine ⟨?_,?_,?_,?_⟩
 ·intro i o hk ho;obtain ⟨l,hl⟩:=Option.isSome_iff_exists.1 hk;have hi:=O6 hl;rcases (by omega:i=0\/i=1) with rfl |rfl
  ·rw [g0] at ho;cases ho;exact ⟨⟨0,0,xs.length⟩,rfl,⟨by simp,by simp,c0,f0,h0,sizeA hx,fitA hx⟩,λhb=>absurd hb (by decide)⟩
  ·rw [g1] at ho;cases ho;exact ⟨⟨1,0,ys.length⟩,rfl,⟨by simp,by simp,c1,f1,h1,sizeA hy,fitA hy⟩,λhb=>absurd hb (by decide)⟩
 ·intro i j oi oj li lj _ _ _ _ hli um hb;have hi:=O6 hli;have hj:=O6 um;rcases (by omega:i=0\/i=1) with rfl |rfl <;> rcases (by omega:j=0\/j=1) with rfl |rfl <;> cases hli <;> cases um <;> first |rfl |cases hb
 ·intro i l hl;have hi:=O6 hl;refine ⟨hi,?_⟩;rcases (by omega:i=0\/i=1) with rfl |rfl <;> cases hl
  ·show 0 < _;omega
  ·exact Ec
 ·intro g hgl;rw [hg] at hgl;rcases (by omega:g=0\/g=1) with rfl |rfl
  ·exact ⟨_,rfl,rfl,rfl⟩
  ·exact ⟨_,rfl,rfl,rfl⟩
end Go.Ev
namespace Go.Ev
noncomputable section
mutual
inductive Oz (n:Nat) (σ:Nat->Nat) (H1:AH):Value->Value->Prop where
 |flat {v:Value} (h:flat v=true):Oz n σ H1 v v
 |ptr {i off:Nat} (h:i < n):Oz n σ H1 (.pointer (some ⟨i,off,none⟩)) (.pointer (some ⟨σ i,off,none⟩))
 |slice {i off len cap:Nat} (h:i < n):Oz n σ H1 (.slice (some ⟨i,off,none⟩) len cap) (.slice (some ⟨σ i,off,none⟩) len cap)
 |sliceU {i off len c size s:Nat} {cs:List Value} {e:TypeId} (h:i < n) (ho:H1.get (σ i)=some (.cells s cs e)) (hc:c < Xk) (hl:len<=c) (hs:off+c * size<=s) :
   Oz n σ H1 (.slice (some ⟨i,off,none⟩) len (Xk+size)) (.slice (some ⟨σ i,off,none⟩) len c)
 |map {i:Nat} (h:i < n):Oz n σ H1 (.map (some i)) (.map (some (σ i)))
 |func {fn:Fn} {f f' c c':Array Value} (h:Wg n σ H1 f.toList f'.toList) (h':Wg n σ H1 c.toList c'.toList):Oz n σ H1 (.func fn f c) (.func fn f' c')
 |iface {t:TypeId} {v v':Value} (h:Oz n σ H1 v v'):Oz n σ H1 (.iface t v) (.iface t v')
 |agg {cs ds:Array Value} (h:Wg n σ H1 cs.toList ds.toList):Oz n σ H1 (.agg cs) (.agg ds)
 |tuple {cs ds:Array Value} (h:Wg n σ H1 cs.toList ds.toList):Oz n σ H1 (.tuple cs) (.tuple ds)
inductive Wg (n:Nat) (σ:Nat->Nat) (H1:AH):List Value->List Value->Prop where
 |nil:Wg n σ H1 [] []
 |cons {v v':Value} {l l':List Value} (h:Oz n σ H1 v v') (t:Wg n σ H1 l l'):Wg n σ H1 (v::l) (v'::l')
end
def vn (n:Nat) (σ:Nat->Nat) (ρ1:Map):Map:=λi=>if i < n then ρ1 (σ i) else none
section
variable {P:Program} {n:Nat} {σ:Nat->Nat} {H1:AH} {ρ1:Map} {w:World}
def Fits (P:Program) (H1:AH) (ρ1:Map) (w:World):Prop:=∀ i o l,H1.get i=some o->ρ1 i=some l->To P ρ1 o l w
theorem Ly {i:Nat} (h:i < n):vn n σ ρ1 i=ρ1 (σ i):=if_pos h
mutual
theorem Oz.rel (hf:Fits P H1 ρ1 w):∀ {v v1 x:Value},Oz n σ H1 v v1->Qc ρ1 v1 x->Qc (vn n σ ρ1) v x
 |_,_,_,.flat h,hx=>by rw [Bj hx h];exact .flat h
 |_,_,_,.ptr h,hx=>by
  obtain ⟨l,hl,rfl⟩:=hx.T4;exact .ptr (by rw [Ly h];exact hl)
 |_,_,_,.slice h,hx=>by
  cases hx with
  |flat hh=>simp [Ev.flat] at hh
  |slice hl h1 h2=>exact .slice (by rw [Ly h];exact hl) h1 h2
  |Kj hl ha hc=>exact .Kj (by rw [Ly h];exact hl) ha hc
 |_,_,_,.sliceU h ho hc hl hs,hx=>by
  cases hx with
  |flat hh=>simp [Ev.flat] at hh
  |slice So h1 h2=>
   obtain ⟨h3,h4,_⟩:=hf _ _ _ ho So;have e:=h1 hc;subst e;refine .slice (by rw [Ly h];exact So) (λhh=>by omega) (λ_=>⟨hl,?_⟩)
   rw [Nat.add_sub_cancel_left];omega
  |Kj So ha Ow=>exact .Kj (by rw [Ly h];exact So) ha (.inl (by omega))
 |_,_,_,.map h,hx=>by
  cases hx with
  |flat hh=>simp [Ev.flat] at hh
  |map hl=>exact .map (by rw [Ly h];exact hl)
 |_,_,_,.func h h',hx=>by
  obtain ⟨f',c',rfl,h1,h2⟩:=hx.bj;exact .func (Wg.rel hf h h1) (Wg.rel hf h' h2)
 |_,_,_,.iface h,hx=>by
  obtain ⟨u,rfl,h1⟩:=hx.Hh;exact .iface (Oz.rel hf h h1)
 |_,_,_,.agg h,hx=>by
  cases hx with
  |flat hh=>simp [Ev.flat] at hh
  |agg h1=>exact .agg (Wg.rel hf h h1)
 |_,_,_,.tuple h,hx=>by
  obtain ⟨u,rfl,h1⟩:=hx.x8;exact .tuple (Wg.rel hf h h1)
theorem Wg.rel (hf:Fits P H1 ρ1 w):∀ {v v1 x:List Value},Wg n σ H1 v v1->Xt ρ1 v1 x->Xt (vn n σ ρ1) v x
 |_,_,_,.nil,hx=>by cases hx;exact .nil
 |_,_,_,.cons h t,hx=>by
  cases hx with
  |cons h1 t1=>exact .cons (Oz.rel hf h h1) (Wg.rel hf t t1)
end
theorem Wg.length:∀ {l l':List Value},Wg n σ H1 l l'->l.length=l'.length
 |_,_,.nil=>rfl
 |_,_,.cons _ t=>by simp [Wg.length t]
theorem Wg.get:∀ {l l':List Value},Wg n σ H1 l l'->∀ (i:Nat) (v:Value),l[i]? = some v->∃ v',l'[i]? = some v'/\Oz n σ H1 v v'
 |_,_,.nil,i,v,h=>by simp at h
 |_,_,.cons h t,i,v,hi=>by
  cases i with
  |zero=>simp at hi;subst hi;exact ⟨_,rfl,h⟩
  |succ i=>simp at hi;simpa using Wg.get t i v hi
theorem Wg.Zo4:∀ {l:List Value},l.all Ev.flat=true->Wg n σ H1 l l
 |[],_=>.nil
 |_::l,h=>by
  simp at h;exact .cons (.flat h.1) (Wg.Zo4 (by simpa using h.2))
theorem Oz.plain {v:Value} (h:Ev.plain v=true):Oz n σ H1 v v:=by
 unfold Ev.plain at h;split at h
 ·exact .agg (Wg.Zo4 h)
 ·exact .tuple (Wg.Zo4 h)
 ·exact .flat h
inductive wx (n:Nat) (σ:Nat->Nat) (H1:AH):List MapEntry->List MapEntry->Prop where
 |nil:wx n σ H1 [] []
 |cons {e e':MapEntry} {l l':List MapEntry} (hk:Oz n σ H1 e.key e'.key) (hv:Oz n σ H1 e.val e'.val) (hb:e.born=e'.born) (t:wx n σ H1 l l'):wx n σ H1 (e::l) (e'::l')
theorem wx.rel (hf:Fits P H1 ρ1 w):∀ {l l1 x:List MapEntry},wx n σ H1 l l1->Df ρ1 l1 x->Df (vn n σ ρ1) l x
 |_,_,_,.nil,hx=>by cases hx;exact .nil
 |_,_,_,.cons hk hv hb t,hx=>by
  cases hx with
  |cons hk1 hv1 hb1 t1=>exact .cons (hk.rel hf hk1) (hv.rel hf hv1) (hb.trans hb1) (wx.rel hf t t1)
inductive NObj (n:Nat) (σ:Nat->Nat) (H1:AH):Ir->Ir->Prop where
 |cells {s s':Nat} {cs ds:List Value} {e:TypeId} (hl:cs.length=s) (hs:s<=s') (h:Wg n σ H1 cs (ds.take s)):NObj n σ H1 (.cells s cs e) (.cells s' ds e)
 |map {es fs:List MapEntry} {c:Nat} (h:wx n σ H1 es fs):NObj n σ H1 (.map es c) (.map fs c)
theorem NObj.fit (hf:Fits P H1 ρ1 w) {o o1:Ir} {l:Loc} (h:NObj n σ H1 o o1) (h1:To P ρ1 o1 l w):To P (vn n σ ρ1) o l w:=by
 cases h with
 |cells hl hs h=>
  obtain ⟨a,b,c,fz,d,e,f⟩:=h1;refine ⟨hl,by omega,c,fz,d,e,λi v hi=>?_⟩
  obtain ⟨v1,h2,h3⟩:=h.get i v hi;rw [List.getElem?_take] at h2;split at h2
  ·obtain ⟨v',h4,h5⟩:=f i v1 h2;exact ⟨v',h4,h3.rel hf h5⟩
  ·cases h2
 |map h=>
  obtain ⟨Ed,a,b⟩:=h1;exact ⟨Ed,a,h.rel hf b⟩
end
mutual
theorem Qc.Vd {ρ ρ1 ρ2:Map} (hr:∀ i l,ρ i=some l->ρ2 i=ρ1 i):∀ {v x0 x:Value},Qc ρ v x0->Qc ρ1 v x->Qc ρ2 v x
 |_,_,_,.flat h,hx=>by rw [Bj hx h];exact .flat h
 |_,_,_,.ptr h,hx=>by
  obtain ⟨l,hl,rfl⟩:=hx.T4;exact .ptr (by rw [hr _ _ h];exact hl)
 |_,_,_,.slice h _ _,hx=>by
  cases hx with
  |flat hh=>simp [Ev.flat] at hh
  |slice hl h1 h2=>exact .slice (by rw [hr _ _ h];exact hl) h1 h2
  |Kj hl ha hc=>exact .Kj (by rw [hr _ _ h];exact hl) ha hc
 |_,_,_,.Kj h _ _,hx=>by
  cases hx with
  |flat hh=>simp [Ev.flat] at hh
  |slice hl h1 h2=>exact .slice (by rw [hr _ _ h];exact hl) h1 h2
  |Kj hl ha hc=>exact .Kj (by rw [hr _ _ h];exact hl) ha hc
 |_,_,_,.map h,hx=>by
  cases hx with
  |flat hh=>simp [Ev.flat] at hh
  |map hl=>exact .map (by rw [hr _ _ h];exact hl)
 |_,_,_,.func h h',hx=>by
  obtain ⟨f',c',rfl,h1,h2⟩:=hx.bj;exact .func (Xt.Vd hr h h1) (Xt.Vd hr h' h2)
 |_,_,_,.iface h,hx=>by
  obtain ⟨u,rfl,h1⟩:=hx.Hh;exact .iface (Qc.Vd hr h h1)
 |_,_,_,.agg h,hx=>by
  cases hx with
  |flat hh=>simp [Ev.flat] at hh
  |agg h1=>exact .agg (Xt.Vd hr h h1)
 |_,_,_,.tuple h,hx=>by
  obtain ⟨u,rfl,h1⟩:=hx.x8;exact .tuple (Xt.Vd hr h h1)
theorem Xt.Vd {ρ ρ1 ρ2:Map} (hr:∀ i l,ρ i=some l->ρ2 i=ρ1 i):∀ {v x0 x:List Value},Xt ρ v x0->Xt ρ1 v x->Xt ρ2 v x
 |_,_,_,.nil,hx=>by cases hx;exact .nil
 |_,_,_,.cons h t,hx=>by
  cases hx with
  |cons h1 t1=>exact .cons (Qc.Vd hr h h1) (Xt.Vd hr t t1)
end
theorem Df.Vd {ρ ρ1 ρ2:Map} (hr:∀ i l,ρ i=some l->ρ2 i=ρ1 i):∀ {v x0 x:List MapEntry},Df ρ v x0->Df ρ1 v x->Df ρ2 v x
 |_,_,_,.nil,hx=>by cases hx;exact .nil
 |_,_,_,.cons hk hv hb t,hx=>by
  cases hx with
  |cons hk1 hv1 hb1 t1=>exact .cons (hk.Vd hr hk1) (hv.Vd hr hv1) hb1 (Df.Vd hr t t1)
theorem To.Vd {P:Program} {ρ ρ1 ρ2:Map} (hr:∀ i l,ρ i=some l->ρ2 i=ρ1 i) {o:Ir} {l l1:Loc} {w w1:World} (h:To P ρ o l w) (h1:To P ρ1 o l1 w1):To P ρ2 o l1 w1:=by
 cases o with
 |cells s cs e=>
  obtain ⟨_,_,_,_,_,_,f⟩:=h;obtain ⟨a,b,c,fz,d,m,q⟩:=h1;refine ⟨a,b,c,fz,d,m,λi v hi=>?_⟩;obtain ⟨x0,_,h2⟩:=f i v hi;obtain ⟨x,h3,h4⟩:=q i v hi;exact ⟨x,h3,h2.Vd hr h4⟩
 |map es c=>
  obtain ⟨_,_,f⟩:=h;obtain ⟨Ed,a,b⟩:=h1;exact ⟨Ed,a,f.Vd hr b⟩
structure Shrink (base lo:Nat) (σ:Nat->Nat) (H:AH) (v1:Value) (H1:AH) (v:Value) (H':AH):Prop where
 next:H.next<=H'.next
 Eg:∀ i,i < H.next->σ i=i
 new:∀ i,H.next<=i->i < H'.next->H.next<=σ i/\σ i < H1.next
 inj:∀ i j,i < H'.next->j < H'.next->σ i=σ j->i=j
 objs:∀ i o,i < H'.next->H'.get i=some o->(i < H.next/\H.get i=some o/\H1.get i=some o)\/∃ o1,H1.get (σ i)=some o1/\NObj H'.next σ H1 o o1
 low:∀ i,i < H.next->¬ lo<=i->H'.get i=H.get i
 base:base<=H.next
 val:Oz H'.next σ H1 v v1
def only (f:Nat) (S:FnF):Jh:=λlo g args H=>cond (Nat.beq g f) (S lo args H) none
def fm (P:Program) (base:Nat) (f:Nat) (S:FnF):Prop:=I6 P base (only f S)
theorem fm.run {P:Program} {base f:Nat} {S:FnF} (h:fm P base f S) {lo:Nat} {args:List Value} {H:AH} {v:Value} {H':AH} (J7:base<=lo) (hr:S lo args H=some (v,H')) :
  (∃ fn,P.funcs[f]? = some fn/\fn.body.isNone=false/\(fn.name == "runtime.NumGoroutine")=false) /\
  ∀ ρ w Lb,Jd P base (Js ρ) ρ H w->Xt ρ args Lb ->
   Calls P f Lb.toArray w λe w'=>∃ v' ρ',e=.returned v'/\Qc ρ' v v'/\Step P base (λi=>lo<=i) (Js ρ) ρ H w ρ' H' w':=
 h lo f args H v H' J7 (by unfold only;rw [Uj rfl];exact hr)
theorem fm.of {P:Program} {base f:Nat} {S:FnF} (h:∀ lo args H v H',base<=lo->S lo args H=some (v,H') ->
  (∃ fn,P.funcs[f]? = some fn/\fn.body.isNone=false/\(fn.name == "runtime.NumGoroutine")=false) /\
  ∀ ρ w Lb,Jd P base (Js ρ) ρ H w->Xt ρ args Lb ->
   Calls P f Lb.toArray w λe w'=>∃ v' ρ',e=.returned v'/\Qc ρ' v v'/\Step P base (λi=>lo<=i) (Js ρ) ρ H w ρ' H' w'):fm P base f S:=by
 intro lo g args H v H' J7 hr;unfold only at hr;obtain ⟨hb,hr2⟩:=Lk hr;have hg:=Qb hb;subst hg;exact h lo args H v H' J7 hr2
end
end Go.Ev
namespace Go.Ev
noncomputable section
def I64 (z:Int):Prop:=-9223372036854775808<=z/\z < 9223372036854775808
theorem Au {z:Int} (h:I64 z):Jl .i64 z=z:=by
 rw [Jk,IntKind.wrap_i64];unfold I64 at h;omega
theorem Dg {k:IntKind} {m:Nat} (h:m < Gs k):Jl k (.ofNat m)=.ofNat m:=by
 have:Nat.blt m (Gs k)=true:=by rw [Nat.blt_eq];exact h
 show cond (Nat.blt m (Gs k)) (Int.ofNat m) _=_;rw [this];rfl
theorem P1 {m:Nat} (h:m < 18446744073709551616):bitsOf .u64 (.ofNat m)=m:=Nat.mod_eq_of_lt h
theorem Zqa {x y:Int} (h:I64 (x+y)):Z0 (.int .i64 x) (.int .i64 y)=some (.int .i64 (x+y)):=by
 show some (Value.int .i64 (Jl .i64 (addF x y)))=_;rw [Zhw,Au h]
theorem yf {x y:Int} (h:I64 (x - y)):Qq (.int .i64 x) (.int .i64 y)=some (.int .i64 (x - y)):=by
 show some (Value.int .i64 (Jl .i64 (x - y)))=_;rw [Au h]
theorem Znj {x y:Int} (h:I64 (x * y)):Y2 (.int .i64 x) (.int .i64 y)=some (.int .i64 (x * y)):=by
 show some (Value.int .i64 (Jl .i64 (x * y)))=_;rw [Au h]
theorem Dl (a b:Int):Qn a b=decide (a=b):=by rw [Ij];by_cases h:a=b <;> simp [h]
theorem quo_i {x y:Int} (h:I64 (x.tdiv y)) (hy:y≠0):Jp (.int .i64 x) (.int .i64 y)=some (.int .i64 (x.tdiv y)):=by
 show cond (Qn y 0) none (some (Value.int .i64 (Jl .i64 (x.tdiv y))))=_;rw [Au h,Dl,decide_eq_false hy];rfl
theorem rem_i {x y:Int} (hy:y≠0):Y1 (.int .i64 x) (.int .i64 y)=some (.int .i64 (x.tmod y)):=by
 show cond (Qn y 0) none (some (Value.int .i64 (x.tmod y)))=_;rw [Dl,decide_eq_false hy];rfl
theorem Tc {n:Nat} (h:n < 9223372036854775808):I64 (Int.ofNat n):=by
 show (-9223372036854775808:Int)<=((n:Nat):Int)/\((n:Nat):Int) < 9223372036854775808;omega
theorem X9 {a b:Nat} (h:a+b < 9223372036854775808):Z0 (.int .i64 (.ofNat a)) (.int .i64 (.ofNat b))=some (.int .i64 (.ofNat (a+b))):=Zqa (x:=Int.ofNat a) (y:=Int.ofNat b) (Tc h)
theorem Uc {a b:Nat} (hb:b<=a) (h:a < 9223372036854775808):Qq (.int .i64 (.ofNat a)) (.int .i64 (.ofNat b))=some (.int .i64 (.ofNat (a - b))):=by
 have e:(Int.ofNat a - Int.ofNat b)=Int.ofNat (a - b):=by
  show ((a:Int) - (b:Int))=((a - b:Nat):Int);omega
 rw [yf (by rw [e];exact Tc (by omega)),e]
theorem M7 {a b:Nat} (h:a * b < 9223372036854775808):Y2 (.int .i64 (.ofNat a)) (.int .i64 (.ofNat b))=some (.int .i64 (.ofNat (a * b))):=Znj (x:=Int.ofNat a) (y:=Int.ofNat b) (Tc h)
theorem Pe {a b:Nat} (hb:0 < b) (h:a < 9223372036854775808):Jp (.int .i64 (.ofNat a)) (.int .i64 (.ofNat b))=some (.int .i64 (.ofNat (a / b))):=by
 have hb0:(Int.ofNat b)≠0:=by intro h;have:b=0:=Int.ofNat.inj h;omega
 have e:(Int.ofNat a).tdiv (Int.ofNat b)=Int.ofNat (a / b):=rfl;rw [quo_i (by rw [e];exact Tc (Nat.lt_of_le_of_lt (Nat.div_le_self ..) h)) hb0,e]
theorem Gu {a b:Nat} (hb:0 < b):Y1 (.int .i64 (.ofNat a)) (.int .i64 (.ofNat b))=some (.int .i64 (.ofNat (a % b))):=by
 have hb0:(Int.ofNat b)≠0:=by intro h;have:b=0:=Int.ofNat.inj h;omega
 rw [rem_i hb0];rfl
theorem Ql (k:IntKind) (a b:Nat):Xg (.int k (.ofNat a)) (.int k (.ofNat b))=some (.bool (Nat.blt a b)):=by
 cases k <;> rfl
theorem Hq (k:IntKind) (a b:Nat):K0 (.int k (.ofNat a)) (.int k (.ofNat b))=some (.bool (!Nat.blt a b)):=by
 cases k <;> rfl
theorem Gg (k:IntKind) (a b:Nat):Vt (.int k (.ofNat a)) (.int k (.ofNat b))=some (.bool (Nat.blt b a)):=by
 cases k <;> rfl
theorem Zg3 (k:IntKind) (a b:Nat):Am (.int k (.ofNat a)) (.int k (.ofNat b))=some (.bool (!Nat.blt b a)):=by
 cases k <;> rfl
theorem Xo {a b:Nat} (h:a < b):Nat.blt a b=true:=by rw [Nat.blt_eq];exact h
theorem Kf {a b:Nat} (h:b<=a):Nat.blt a b=false:=by
 cases e:Nat.blt a b with
 |false=>rfl
 |true=>rw [Nat.blt_eq] at e;omega
theorem leq_i (k:IntKind) (x y:Int):Am (.int k x) (.int k y)=some (.bool (decide (x<=y))):=by
 show Zp (Sh k k) (some (Value.bool (!Vo y x)))=_;have:(!decide (y < x))=decide (x<=y):=by by_cases h:y < x <;> simp [h] <;> omega
 rw [V7,this];cases k <;> rfl
theorem Zo3 (k:IntKind) (x y:Int):K0 (.int k x) (.int k y)=some (.bool (decide (y<=x))):=by
 show Zp (Sh k k) (some (Value.bool (!Vo x y)))=_;have:(!decide (x < y))=decide (y<=x):=by by_cases h:x < y <;> simp [h] <;> omega
 rw [V7,this];cases k <;> rfl
theorem Cl {a b:Nat} (ha:a < 18446744073709551616) (hb:b < 18446744073709551616):Km (.int .u64 (.ofNat a)) (.int .u64 (.ofNat b))=some (.int .u64 (.ofNat (a &&& b))):=by
 show some (Value.int .u64 (Jl .u64 (.ofNat (Nat.land (bitsOf .u64 (.ofNat a)) (bitsOf .u64 (.ofNat b))))))=_;rw [P1 ha,P1 hb];exact congrArg (λz=>some (Value.int .u64 z)) (Dg (k:=.u64) (Nat.lt_of_le_of_lt (Nat.and_le_left:a &&& b<=a) ha))
theorem uh {a b:Nat} (ha:a < 18446744073709551616) (hb:b < 18446744073709551616):Ep (.int .u64 (.ofNat a)) (.int .u64 (.ofNat b))=some (.int .u64 (.ofNat (a ||| b))):=by
 show some (Value.int .u64 (Jl .u64 (.ofNat (Nat.lor (bitsOf .u64 (.ofNat a)) (bitsOf .u64 (.ofNat b))))))=_;rw [P1 ha,P1 hb];exact congrArg (λz=>some (Value.int .u64 z)) (Dg (k:=.u64) (Nat.or_lt_two_pow (n:=64) ha hb))
def Iu (a b:Nat):Nat:=a &&& (18446744073709551615 - b)
theorem P3 {a b:Nat} (ha:a < 18446744073709551616) (hb:b < 18446744073709551616):Y6 (.int .u64 (.ofNat a)) (.int .u64 (.ofNat b))=some (.int .u64 (.ofNat (Iu a b))):=by
 show some (Value.int .u64 (Jl .u64 (.ofNat (Nat.land (bitsOf .u64 (.ofNat a)) (18446744073709551615 - (bitsOf .u64 (.ofNat b)))))))=_;rw [P1 ha,P1 hb];exact congrArg (λz=>some (Value.int .u64 z)) (Dg (k:=.u64) (m:=a &&& (18446744073709551615 - b)) (Nat.lt_of_le_of_lt (Nat.and_le_left:a &&& _<=a) ha))
theorem Zlq {a b:Nat} (h:b<=a) (ha:a < 18446744073709551616):Qq (.int .u64 (.ofNat a)) (.int .u64 (.ofNat b))=some (.int .u64 (.ofNat (a - b))):=by
 show some (Value.int .u64 (Jl .u64 ((a:Int) - (b:Int))))=_;have:(a:Int) - (b:Int)=((a - b:Nat):Int):=by omega
 rw [this,show ((a - b:Nat):Int)=Int.ofNat (a - b) from rfl,Dg (k:=.u64) (Nat.lt_of_le_of_lt (Nat.sub_le ..) ha)]
theorem mul_u (a b:Nat):Y2 (.int .u64 (.ofNat a)) (.int .u64 (.ofNat b))=some (.int .u64 (.ofNat (a * b % 18446744073709551616))):=by
 show some (Value.int .u64 (Jl .u64 (Int.mul (.ofNat a) (.ofNat b))))=_;rw [Jk,IntKind.wrap_u64]
 have:Int.mul (.ofNat a) (.ofNat b) % 18446744073709551616=Int.ofNat (a * b % 18446744073709551616):=by
  show ((a:Int) * (b:Int)) % ((18446744073709551616:Nat):Int)=((a * b % 18446744073709551616:Nat):Int)
  norm_cast
 rw [this]
theorem Mz {a:Nat} {k:IntKind} {n:Nat} (hn:n<=64) (h:a * 2 ^ n < 18446744073709551616):Y8 (.int .u64 (.ofNat a)) (.int k (.ofNat n))=some (.int .u64 (.ofNat (a * 2 ^ n))):=by
 show some (Value.int .u64 (Jl .u64 (.ofNat (Nat.mul a (Nat.pow 2 (Nat.min n 64))))))=_;have e:Nat.min n 64=n:=Nat.min_eq_left hn;rw [e];exact congrArg (λz=>some (Value.int .u64 z)) (Dg (k:=.u64) h)
theorem Zgf {a:Nat} {k:IntKind} {n:Nat} (hn:n<=64):K7 (.int .u64 (.ofNat a)) (.int k (.ofNat n))=some (.int .u64 (.ofNat (a / 2 ^ n))):=by
 show some (Value.int .u64 (.ofNat (Nat.div a (Nat.pow 2 (Nat.min n 64)))))=_;have e:Nat.min n 64=n:=Nat.min_eq_left hn;rw [e];rfl
def seqR {σ:Type} (r:Bn σ) (g:Piece σ):Bn σ:=
 Option.rec (motive:=λ_=>Bn σ) none (λp=>Ex.casesOn (motive:=λ_=>Bn σ) p.1 (g p.2.1 p.2.2) (λ_=>some p) (some p)) r
theorem Zqv {σ:Type} (f g:Piece σ) (S:σ) (H:AH):seqE f g S H=seqR (f S H) g:=(rfl)
def wb {σ:Type} (id:Nat) (r:Bn σ):Bn σ:=
 Option.rec (motive:=λ_=>Bn σ) none (λp=>Ex.casesOn (motive:=λ_=>Bn σ) p.1 (some p) (λSl=>cond (Nat.beq Sl id) (some (.normal,p.2)) (some p)) (some p)) r
theorem Zk3 {σ:Type} (id:Nat) (f:Piece σ) (S:σ) (H:AH):S7 id f S H=wb id (f S H):=(rfl)
theorem qc {σ:Type} (id:Nat) (S:σ) (H:AH):wb id (some (.exit id,S,H))=some (.normal,S,H):=by
 show cond (Nat.beq id id) _ _=_;rw [Uj rfl];rfl
theorem Nm {σ:Type} {id i:Nat} (h:i≠id) (S:σ) (H:AH):wb id (some (.exit i,S,H))=some (.exit i,S,H):=by
 show cond (Nat.beq i id) _ _=_;rw [Wm h];rfl
theorem Zei {σ:Type} (f:Piece σ) (n:Nat) (S:σ) (H:AH):Cb f (n+1) S H=seqR (f S H) (Cb f n):=(rfl)
def J5 {σ:Type} (r:Bn σ) (Q:Ex->σ->AH->Prop):Prop:=∃ e S H,r=some (e,S,H)/\Q e S H
theorem J5.mk {σ:Type} {e:Ex} {S:σ} {H:AH} {Q:Ex->σ->AH->Prop} (h:Q e S H):J5 (some (e,S,H)) Q:=⟨e,S,H,rfl,h⟩
theorem J5.seq {σ:Type} {f g:Piece σ} {S:σ} {H:AH} {Q:Ex->σ->AH->Prop} (h:J5 (f S H) λe S H=>match e with |.normal=>J5 (g S H) Q |e=>Q e S H):J5 (seqE f g S H) Q:=by
 obtain ⟨e,S1,H1,h1,h2⟩:=h;rw [Zqv,h1];cases e with
 |normal=>exact h2
 |exit i=>exact ⟨_,_,_,rfl,h2⟩
 |ret=>exact ⟨_,_,_,rfl,h2⟩
theorem J5.block {σ:Type} {id:Nat} {f:Piece σ} {S:σ} {H:AH} {Q:Ex->σ->AH->Prop} (h:J5 (f S H) λe S H=>match e with |.exit i=>if i=id then Q .normal S H else Q (.exit i) S H |e=>Q e S H):J5 (S7 id f S H) Q:=by
 obtain ⟨e,S1,H1,h1,h2⟩:=h;rw [Zk3,h1];cases e with
 |normal=>exact ⟨_,_,_,rfl,h2⟩
 |ret=>exact ⟨_,_,_,rfl,h2⟩
 |exit i=>
  by_cases hi:i=id
  ·subst hi;rw [qc];exact ⟨_,_,_,rfl,by simpa using h2⟩
  ·rw [Nm hi];exact ⟨_,_,_,rfl,by simpa [hi] using h2⟩
theorem J5.mono {σ:Type} {r:Bn σ} {Q Q':Ex->σ->AH->Prop} (h:J5 r Q) (hh:∀ e S H,Q e S H->Q' e S H):J5 r Q':=let ⟨e,S,H,a,b⟩:=h;⟨e,S,H,a,hh e S H b⟩
theorem J5.seqR {σ:Type} {r:Bn σ} {g:Piece σ} {Q:Ex->σ->AH->Prop} (h:J5 r λe S H=>match e with |.normal=>J5 (g S H) Q |e=>Q e S H):J5 (Ev.seqR r g) Q:=by
 obtain ⟨e,S1,H1,h1,h2⟩:=h;rw [h1];cases e with
 |normal=>exact h2
 |exit i=>exact ⟨_,_,_,rfl,h2⟩
 |ret=>exact ⟨_,_,_,rfl,h2⟩
theorem J5.wb {σ:Type} {id:Nat} {r:Bn σ} {Q:Ex->σ->AH->Prop} (h:J5 r λe S H=>match e with |.exit i=>if i=id then Q .normal S H else Q (.exit i) S H |e=>Q e S H):J5 (Ev.wb id r) Q:=by
 obtain ⟨e,S1,H1,h1,h2⟩:=h;rw [h1];cases e with
 |normal=>exact ⟨_,_,_,rfl,h2⟩
 |ret=>exact ⟨_,_,_,rfl,h2⟩
 |exit i=>
  by_cases hi:i=id
  ·subst hi;rw [qc];exact ⟨_,_,_,rfl,by simpa using h2⟩
  ·rw [Nm hi];exact ⟨_,_,_,rfl,by simpa [hi] using h2⟩
theorem J5.body {σ:Type} {r:Bn σ} {Q:Ex->σ->AH->Prop} {res:Ex×σ×AH->Option (Value×AH)} {R:Value->AH->Prop} (h:J5 r Q)
  (hh:∀ e S H,Q e S H->∃ v H',res (e,S,H)=some (v,H')/\R v H'):∃ v H',Za r res=some (v,H')/\R v H':=by
 obtain ⟨e,S,H,h1,h2⟩:=h;obtain ⟨v,H',h3,h4⟩:=hh e S H h2;exact ⟨v,H',by rw [h1];exact h3,h4⟩
theorem J5.loop {σ:Type} {f:Piece σ} {Q:Ex->σ->AH->Prop} (I:Nat->σ->AH->Prop)
  (step:∀ n S H,I n S H->J5 (f S H) λe S' H'=>match e with |.normal=>∃ m,m < n/\I m S' H' |e=>Q e S' H') :
  ∀ (fuel n:Nat) (S:σ) (H:AH),n < fuel->I n S H->J5 (Cb f fuel S H) Q:=by
 intro fuel
 induction fuel with
 |zero=>intro n S H h;omega
 |succ fuel ih=>
  intro n S H h hI;rw [Zei];obtain ⟨e,S1,H1,h1,h2⟩:=step n S H hI;rw [h1];cases e with
  |normal=>
   obtain ⟨m,hm,h3⟩:=h2;exact ih m S1 H1 (by omega) h3
  |exit i=>exact ⟨_,_,_,rfl,h2⟩
  |ret=>exact ⟨_,_,_,rfl,h2⟩
theorem Zg2 {H:AH} {i off:Nat} {v:Value} {e:TypeId} {s:Nat} {cs:List Value} (h:H.get i=some (.cells s cs e)) (hv:cs[off]? = some v):I0 H false 1 (.pointer (some ⟨i,off,none⟩))=some v:=by
 show (match H.get i with |some (.cells s cs e)=>cellAt false 1 s cs off |_=>none)=_
 rw [h];show nth cs off=_;rw [Xq,hv]
theorem Sk {n i off len cap j:Nat} {k:IntKind} (h:j < len):Db n (.slice (some ⟨i,off,none⟩) len cap) (.int k (.ofNat j))=some (.pointer (some ⟨i,off+j * n,none⟩)):=by
 show Zp (Nat.blt j len) _=_;rw [show Nat.blt j len=true from by rw [Nat.blt_eq];exact h];rfl
structure Grown (H H':AH):Prop where
 next:H.next<=H'.next
 same:∀ i,i < H.next->H'.get i=H.get i
theorem Grown.refl (H:AH):Grown H H:=⟨Nat.le_refl _,λ_ _=>rfl⟩
theorem Grown.trans {A B C:AH} (h:Grown A B) (k:Grown B C):Grown A C:=⟨Nat.le_trans h.next k.next,λi hi=>by rw [k.same i (by have:=h.next;omega),h.same i hi]⟩
theorem Grown.push (H:AH) (o:Ir):Grown H (H.push o):=⟨by simp,λi hi=>by rw [AH.Yq,if_neg (by omega)]⟩
theorem Grown.set {A H:AH} {j:Nat} (h:Grown A H) (hj:A.next<=j) (o:Ir):Grown A (H.set j o):=⟨by simpa using h.next,λi hi=>by rw [AH.D2,if_neg (by omega),h.same i hi]⟩
theorem Grown.kill {A H:AH} {j:Nat} (h:Grown A H) (hj:A.next<=j):Grown A (H.kill j):=⟨by simpa using h.next,λi hi=>by rw [AH.Mi,if_neg (by omega),h.same i hi]⟩
theorem Grown.get {A H:AH} (h:Grown A H) {i:Nat} {o:Ir} (hi:i < A.next) (hg:A.get i=some o):H.get i=some o:=by rw [h.same i hi];exact hg
end
end Go.Ev
namespace Go.Ev
noncomputable section
def D5 (b:Nat) (e:TypeId) (H:AH) (v:Value) (xs:List Value):Prop:=
 (xs=[]/\v=.slice none 0 0)\/(∃ j,b<=j/\j < H.next/\v=.slice (some ⟨j,0,none⟩) xs.length (Xk+1)/\H.get j=some (.cells xs.length xs e)/\xs≠[])
theorem D5.nil (b:Nat) (e:TypeId) (H:AH):D5 b e H (.slice none 0 0) []:=.inl ⟨rfl,rfl⟩
theorem Shrink.plain {base lo:Nat} {H H1:AH} {v:Value} (g:Grown H H1) (hb:base<=H.next) (hp:plain v=true):Shrink base lo id H v H1 v H:=
 ⟨Nat.le_refl _,λ_ _=>rfl,λi h1 h2=>absurd h1 (by omega),λi j _ _ h=>h,λi o hi ho=>.inl ⟨hi,ho,g.get hi ho⟩,λi hi _=>rfl,hb,.plain hp⟩
def ints (l:List Nat):List Value:=l.map λc=>.int .i64 (.ofNat c)
theorem D5.append {b lo bytes:Nat} {e:TypeId} {H:AH} {v x:Value} {xs:List Value} (h:D5 b e H v xs) (J7:lo<=b) (hb:b<=H.next+1) (hr:roomFor bytes (xs.length+1)=true) (hx:single x=true) :
  ∃ v' H',Gx lo (H.push (.cells 1 [x] e)) e 1 bytes v (Yi H 1 1)=some (v',H')/\D5 b e H' v' (xs++[x])/\H.next<=H'.next /\
   ∀ i,i < H.next->i ∉ Xl v->H'.get i=H.get i:=by
 have C9:rowOf (H.push (.cells 1 [x] e)) 1 (Yi H 1 1)=some [x]:=by
  show cond (Nat.beq 1 0) (some []) (Kp (H.push (.cells 1 [x] e)) H.next λs cs _=>Zp (Nat.ble (0+1 * 1) s) (some (P9 cs 0 (1 * 1))))=_
  unfold Kp;rw [AH.Yq,if_pos rfl];rfl
 have Ag:Gx lo (H.push (.cells 1 [x] e)) e 1 bytes v (Yi H 1 1)=Dc lo (H.push (.cells 1 [x] e)) e 1 bytes v 1 [x]:=by
  show Zf (rowOf (H.push (.cells 1 [x] e)) 1 (Yi H 1 1)) (λnew=>Zp (new.all single) (Dc lo (H.push (.cells 1 [x] e)) e 1 bytes v 1 new))=_;rw [C9];show Zp (single x && true) (Dc lo (H.push (.cells 1 [x] e)) e 1 bytes v 1 [x])=_;rw [hx];rfl
 rw [Ag];rcases h with ⟨h1,h2⟩ |⟨j,h1,h2,h3,h4,h5⟩
 ·subst h1 h2;refine ⟨Yi (H.push (.cells 1 [x] e)) 1 (Xk+1),(H.push (.cells 1 [x] e)).push (.cells 1 [x] e),?_,?_,?_,?_⟩
  ·show cond (Nat.beq 1 0) (some (Value.slice none 0 0,H.push (.cells 1 [x] e))) (Zp (roomFor bytes 1) (some (Yi (H.push (.cells 1 [x] e)) 1 (Nat.add Xk 1),Je (H.push (.cells 1 [x] e)) e 1 1 [x])))=_;rw [show roomFor bytes 1=true from hr];rfl
  ·exact .inr ⟨H.next+1,hb,by simp,rfl,by rw [AH.Yq];simp,by simp⟩
  ·simp;omega
  ·intro i hi _;rw [AH.Yq,if_neg (by simp;omega),AH.Yq,if_neg (by omega)]
 ·subst h3;have hg:(H.push (.cells 1 [x] e)).get j=some (.cells xs.length xs e):=by rw [AH.Yq,if_neg (by omega),h4]
  have hseg:P9 xs 0 (xs.length * 1)=xs:=by rw [Dz];simp
  refine ⟨Yi (H.push (.cells 1 [x] e)) (xs.length+1) (Xk+1),((H.push (.cells 1 [x] e)).kill j).push (.cells ((xs.length+1) * 1) (xs++[x]) e),?_,?_,?_,?_⟩
  ·show cond (Nat.beq 1 0) (Zp (Nat.ble xs.length (Xk+1)) (some (Value.slice (some ⟨j,0,none⟩) xs.length (Xk+1),H.push (.cells 1 [x] e))))
    (Zp (roomFor bytes (xs.length+1)) (cond (Nat.ble Xk (Xk+1)) (Zp (Nat.beq (Xk+1) (Nat.add Xk 1)) (Od lo (H.push (.cells 1 [x] e)) e 1 j 0 xs.length 1 [x]))
     (cond (Nat.ble (xs.length+1) (Xk+1)) (Lw lo (H.push (.cells 1 [x] e)) 1 j 0 xs.length (Xk+1) 1 [x])
      (Zf (rowOf (H.push (.cells 1 [x] e)) 1 (.slice (some ⟨j,0,none⟩) xs.length (Xk+1))) λEg=>
       some (Yi (H.push (.cells 1 [x] e)) (xs.length+1) (Nat.add Xk 1),Je (H.push (.cells 1 [x] e)) e 1 (xs.length+1) (List.append Eg [x]))))))=_
   rw [hr,Nat.ble_eq_true_of_le (Nat.le_succ Xk),show Nat.beq (Xk+1) (Nat.add Xk 1)=true from Uj rfl];show Od lo (H.push (.cells 1 [x] e)) e 1 j 0 xs.length 1 [x]=_;unfold Od Kp;rw [hg];show Zp (Nat.ble lo j) (Zp (Nat.beq e e) (Zp (Nat.ble (0+xs.length * 1) xs.length) (some (Yi (H.push (.cells 1 [x] e)) (xs.length+1) (Nat.add Xk 1),Je ((H.push (.cells 1 [x] e)).kill j) e 1 (xs.length+1) (List.append (P9 xs 0 (xs.length * 1)) [x])))))=_;rw [Nat.ble_eq_true_of_le (Nat.le_trans J7 h1),Uj rfl,Nat.ble_eq_true_of_le (by omega),hseg];rfl
  ·refine .inr ⟨H.next+1,hb,by simp,by simp;rfl,?_,by simp⟩
   rw [AH.Yq];simp
  ·simp;omega
  ·intro i hi hn;simp only [Xl,List.mem_singleton] at hn;rw [AH.Yq,if_neg (by simp;omega),AH.Mi,if_neg hn,AH.Yq,if_neg (by omega)]
theorem Zm4 (l:List Value):∀ (i:Nat) (v:Value),i < l.length->over l i [v]=l.set i v:=by
 induction l with
 |nil=>intro i v h;simp at h
 |cons x l ih=>
  intro i v h;cases i with
  |zero=>rfl
  |succ i=>
   show x::over l i [v]=x::l.set i v;rw [ih i v (by simpa using h)]
theorem Zls {H:AH} {lo i off s:Nat} {cs:List Value} {e:TypeId} {x:Value} (h:H.get i=some (.cells s cs e)) (hs:cs.length=s) (ho:off < s) (J7:lo<=i) (hc:cellsOf x=[x]) (hx:single x=true) :
  Hx lo H 1 (.pointer (some ⟨i,off,none⟩)) x=some (H.set i (.cells s (cs.set off x) e)):=by
 show Pv lo H 1 i off (cellsOf x)=_;rw [hc];unfold Pv Kp;rw [h];show Zp (Nat.ble lo i) (Zp true (Zp (Nat.ble (off+1) s) (Zp (single x && true) (some (H.set i (.cells s (over cs off [x]) e))))))=_;rw [Nat.ble_eq_true_of_le J7,Nat.ble_eq_true_of_le (by omega),hx,Zm4 _ _ _ (by omega)];rfl
theorem D5.at {b:Nat} {e:TypeId} {H:AH} {v:Value} {xs:List Value} (o:D5 b e H v xs) {j:Nat} (hj:j < xs.length) :
  ∃ a,Db 1 v (.int .i64 (.ofNat j))=some a/\I0 H false 1 a=some xs[j]:=by
 rcases o with ⟨h1,_⟩ |⟨i,_,_,h3,h4,_⟩
 ·subst h1;simp at hj
 ·subst h3;refine ⟨_,Sk hj,Zg2 h4 ?_⟩;rw [Nat.zero_add,Nat.mul_one,List.getElem?_eq_getElem hj]
theorem D5.len {b:Nat} {e:TypeId} {H:AH} {v:Value} {xs:List Value} (o:D5 b e H v xs):Sy v=some (.int .i64 (.ofNat xs.length)):=by
 rcases o with ⟨h1,h2⟩ |⟨i,_,_,h3,_,_⟩
 ·subst h1 h2;rfl
 ·subst h3;rfl
def qe (H:AH) (v:Value) (xs:List Value):Prop:=
 (xs=[]/\∃ a c,v=.slice a 0 c)\/∃ b off cap s cs e,v=.slice (some ⟨b,off,none⟩) xs.length cap/\b < H.next/\H.get b=some (.cells s cs e)/\P9 cs off xs.length=xs
theorem qe.Zs {H H':AH} {v:Value} {xs:List Value} (h:qe H v xs) (hn:H.next<=H'.next) (hk:∀ i,i < H.next->i∈Xl v->H'.get i=H.get i):qe H' v xs:=by
 rcases h with h |⟨b,off,cap,s,cs,e,h1,h2,h3,h4⟩
 ·exact .inl h
 ·exact .inr ⟨b,off,cap,s,cs,e,h1,Nat.lt_of_lt_of_le h2 hn,by rw [hk b h2 (by rw [h1];exact List.mem_singleton.2 rfl)];exact h3,h4⟩
theorem qe.len {H:AH} {v:Value} {xs:List Value} (h:qe H v xs):Sy v=some (.int .i64 (.ofNat xs.length)):=by
 rcases h with ⟨h1,a,c,h2⟩ |⟨b,off,cap,s,cs,e,h1,_,_,_⟩
 ·subst h1 h2;rfl
 ·rw [h1];rfl
theorem qe.at {H:AH} {v:Value} {xs:List Value} (h:qe H v xs) {j:Nat} (hj:j < xs.length) :
  ∃ a,Db 1 v (.int .i64 (.ofNat j))=some a/\I0 H false 1 a=some xs[j]:=by
 rcases h with ⟨h1,_⟩ |⟨b,off,cap,s,cs,e,h1,_,h3,h4⟩
 ·subst h1;simp at hj
 ·rw [h1];refine ⟨_,Sk hj,Zg2 h3 ?_⟩;have h5:=bh cs off xs.length j;rw [h4,if_pos hj,List.getElem?_eq_getElem hj] at h5;rw [Nat.mul_one];exact h5.symm
theorem D5.row {b:Nat} {e:TypeId} {H:AH} {v:Value} {xs:List Value} (o:D5 b e H v xs):qe H v xs:=by
 rcases o with ⟨h1,h2⟩ |⟨i,_,h2,h3,h4,_⟩
 ·exact .inl ⟨h1,_,_,h2⟩
 ·exact .inr ⟨i,0,_,_,_,_,h3,h2,h4,by rw [Dz];simp⟩
theorem Kr (cs vs:List Value) (h:vs.length=cs.length):over cs 0 vs=vs:=by
 rw [Rl _ _ _ (by omega)]
 simp [h]
theorem D5.store {b lo:Nat} {e:TypeId} {H:AH} {v:Value} {xs:List Value} (o:D5 b e H v xs) (J7:lo<=b) {j:Nat} (hj:j < xs.length) {x:Value} (hc:cellsOf x=[x]) (hx:single x=true) :
  ∃ a H',Db 1 v (.int .i64 (.ofNat j))=some a/\Hx lo H 1 a x=some H'/\D5 b e H' v (xs.set j x)/\H'.next=H.next/\∀ i,i ∉ Xl v->H'.get i=H.get i:=by
 rcases o with ⟨h1,_⟩ |⟨i,h1,h2,h3,h4,h5⟩
 ·subst h1;simp at hj
 ·subst h3;refine ⟨_,_,Sk hj,Zls h4 rfl (by omega) (by omega) hc hx,?_,by rw [AH.Zaz],?_⟩
  ·refine .inr ⟨i,h1,by rw [AH.Zaz];exact h2,by rw [List.length_set],?_,?_⟩
   ·rw [AH.D2,if_pos rfl,Nat.zero_add,Nat.mul_one,List.length_set]
   ·intro h6;have:=congrArg List.length h6;rw [List.length_set] at this;simp at this;exact h5 this
  ·intro k hk;rw [AH.D2,if_neg (by intro h6;exact hk (by rw [h6];exact List.mem_singleton.2 rfl))]
end
end Go.Ev
namespace Go.Ev
noncomputable section
def Ug (f:Nat):Nat->Nat->List Nat:=
 Nat.rec (motive:=λ_=>Nat->Nat->List Nat) (λ_ _=>[])
  (λ_ ih s p=>cond (Nat.beq s (nat_lit 0)) [] (cond (Nat.beq (Nat.mod s (nat_lit 2)) (nat_lit 1)) (p::ih (Nat.div s (nat_lit 2)) (Nat.succ p)) (ih (Nat.div s (nat_lit 2)) (Nat.succ p)))) f
def Xu (s:Nat):List Nat:=Ug 64 s 0
theorem Vr (f s p:Nat):Ug (f+1) s p=if s=0 then [] else if s % 2=1 then p::Ug f (s / 2) (p+1) else Ug f (s / 2) (p+1):=by
 show cond (Nat.beq s 0) [] (cond (Nat.beq (s % 2) 1) (p::Ug f (s / 2) (p+1)) (Ug f (s / 2) (p+1)))=_
 by_cases h:s=0
 ·rw [Uj h,if_pos h];rfl
 ·rw [Wm h,if_neg h]
  by_cases h2:s % 2=1
  ·rw [Uj h2,if_pos h2];rfl
  ·rw [Wm h2,if_neg h2];rfl
theorem Ce (f p:Nat):Ug f 0 p=[]:=by
 cases f with
 |zero=>rfl
 |succ f=>rw [Vr,if_pos rfl]
def low:Nat->Nat->Nat
 |0,_=>0
 |f+1,s=>if s % 2=1 then 0 else low f (s / 2)+1
theorem uy {x:Nat} (h:x % 2=0):x.testBit 0=false:=by simp [Nat.testBit_zero,h]
theorem Oy (x y:Nat) (h:x % 2=0):(x &&& y) % 2=0:=by
 have:(x &&& y).testBit 0=false:=by rw [Nat.testBit_and,uy h];rfl
 rw [Nat.testBit_zero] at this;have:=of_decide_eq_false this;omega
theorem ga (m:Nat):(2 * m) &&& (2 * m - 1)=2 * (m &&& (m - 1)):=by
 have h1:((2 * m) &&& (2 * m - 1)) / 2=m &&& (m - 1):=by
  rw [Nat.and_div_two];congr 1 <;> omega
 have h2:((2 * m) &&& (2 * m - 1)) % 2=0:=by
  exact Oy _ _ (by omega)
 omega
theorem Cf (f m p:Nat):Ug (f+1) (2 * m) p=Ug f m (p+1):=by
 rw [Vr]
 by_cases h:m=0
 ·subst h;rw [if_pos rfl,Ce]
 ·rw [if_neg (by omega),if_neg (by omega),show 2 * m / 2=m by omega]
theorem Hv:∀ (f s p:Nat),s≠0->s < 2 ^ f->Ug f s p=(p+low f s)::Ug f (s &&& (s - 1)) p
 |0,s,p,h,h2=>by simp at h2;omega
 |f+1,s,p,h,h2=>by
  have h3:s / 2 < 2 ^ f:=by rw [Nat.pow_succ] at h2;omega
  by_cases ho:s % 2=1
  ·have e:s &&& (s - 1)=2 * (s / 2):=by
    have h4:(s &&& (s - 1)) / 2=s / 2:=by
     rw [Nat.and_div_two,show (s - 1) / 2=s / 2 by omega,Nat.and_self]
    have h5:(s &&& (s - 1)) % 2=0:=by rw [Nat.and_comm];exact Oy _ _ (by omega)
    omega
   rw [e,Cf,Vr,if_neg h,if_pos ho];show _=(p+(if s % 2=1 then 0 else low f (s / 2)+1))::_
   rw [if_pos ho];rfl
  ·have hs:s=2 * (s / 2):=by omega
   have hm:s / 2≠0:=by omega
   have e:s &&& (s - 1)=2 * (s / 2 &&& (s / 2 - 1)):=by
    have:=ga (s / 2)
    rwa [<- hs] at this
   rw [e,Cf,Vr,if_neg h,if_neg ho,Hv f (s / 2) (p+1) hm h3];show _=(p+(if s % 2=1 then 0 else low f (s / 2)+1))::_
   rw [if_neg ho];congr 1;omega
theorem Znu:∀ (f s:Nat),s≠0->s < 2 ^ f->low f s < f
 |0,s,h,h2=>by simp at h2;omega
 |f+1,s,h,h2=>by
  show (if s % 2=1 then 0 else low f (s / 2)+1) < f+1
  split
  ·omega
  ·have:=Znu f (s / 2) (by omega) (by rw [Nat.pow_succ] at h2;omega)
   omega
theorem Zk6 {n m:Nat} (h:m < 2 ^ n):m &&& (2 ^ n - (m+1))=0:=by
 apply Nat.eq_of_testBit_eq;intro i;rw [Nat.testBit_and,Nat.testBit_two_pow_sub_succ h];cases m.testBit i <;> simp
theorem ff:∀ (f s:Nat),s≠0->s < 2 ^ f->s &&& (2 ^ f - s)=2 ^ low f s
 |0,s,h,h2=>by simp at h2;omega
 |f+1,s,h,h2=>by
  have h3:s / 2 < 2 ^ f:=by rw [Nat.pow_succ] at h2;omega
  have hp:2 ^ (f+1)=2 * 2 ^ f:=by rw [Nat.pow_succ];omega
  show _=2 ^ (if s % 2=1 then 0 else low f (s / 2)+1)
  by_cases ho:s % 2=1
  ·rw [if_pos ho]
   have h4:(s &&& (2 ^ (f+1) - s)) / 2=0:=by
    rw [Nat.and_div_two,show (2 ^ (f+1) - s) / 2=2 ^ f - (s / 2+1) by omega,Zk6 h3]
   have h5:(s &&& (2 ^ (f+1) - s)) % 2=1:=by
    have:(s &&& (2 ^ (f+1) - s)).testBit 0=true:=by
     rw [Nat.testBit_and];have h6:(2 ^ (f+1) - s) % 2=1:=by omega
     simp [Nat.testBit_zero,ho,h6]
    simpa [Nat.testBit_zero] using this
   omega
  ·rw [if_neg ho]
   have h4:(s &&& (2 ^ (f+1) - s)) / 2=2 ^ low f (s / 2):=by
    rw [Nat.and_div_two,show (2 ^ (f+1) - s) / 2=2 ^ f - s / 2 by omega]
    exact ff f (s / 2) (by omega) h3
   have h5:(s &&& (2 ^ (f+1) - s)) % 2=0:=Oy _ _ (by omega)
   have h7:2 ^ (low f (s / 2)+1)=2 * 2 ^ low f (s / 2):=by rw [Nat.pow_succ];omega
   rw [h7];omega
theorem Zc6 {s:Nat} (h:s≠0):s &&& (s - 1) < s:=Nat.lt_of_le_of_lt Nat.and_le_right (by omega)
theorem zu {s:Nat} (h:s≠0) (h2:s < 2 ^ 64):Xu s=low 64 s::Xu (s &&& (s - 1)):=by
 have:=Hv 64 s 0 h h2
 rwa [Nat.zero_add] at this
theorem bz:Xu 0=[]:=Ce 64 0
theorem Tj:∀ (f s p:Nat),(Ug f s p).length<=f
 |0,_,_=>Nat.le_refl _
 |f+1,s,p=>by
  rw [Vr];split
  ·simp
  ·have:=Tj f (s / 2) (p+1);split
   ·simp;omega
   ·omega
theorem K6 (s:Nat):(Xu s).length<=64:=Tj 64 s 0
theorem Hu:∀ (f s p q:Nat),s < 2 ^ f->(q∈Ug f s p↔p<=q/\s.testBit (q - p)=true)
 |0,s,p,q,h=>by
  have:s=0:=by simp at h;exact h
  subst this;show q∈([]:List Nat)↔_;simp
 |f+1,s,p,q,h=>by
  have h3:s / 2 < 2 ^ f:=by rw [Nat.pow_succ] at h;omega
  have ih:=Hu f (s / 2) (p+1) q h3;rw [Vr]
  have key:∀ (hq:p+1<=q),s.testBit (q - p)=(s / 2).testBit (q - (p+1)):=by
   intro hq;rw [show q - p=(q - (p+1))+1 by omega,Nat.testBit_succ]
  by_cases h0:s=0
  ·subst h0;simp
  ·rw [if_neg h0]
   by_cases ho:s % 2=1
   ·rw [if_pos ho,List.mem_cons,ih];constructor
    ·rintro (rfl |⟨h1,h2⟩)
     ·exact ⟨Nat.le_refl _,by simp [Nat.testBit_zero,ho]⟩
     ·exact ⟨by omega,by rw [key h1];exact h2⟩
    ·rintro ⟨h1,h2⟩
     by_cases hq:q=p
     ·exact .inl hq
     ·exact .inr ⟨by omega,by rw [<- key (by omega)];exact h2⟩
   ·rw [if_neg ho,ih];constructor
    ·rintro ⟨h1,h2⟩;exact ⟨by omega,by rw [key h1];exact h2⟩
    ·rintro ⟨h1,h2⟩
     have hq:q≠p:=by
      rintro rfl;simp [Nat.testBit_zero] at h2;omega
     exact ⟨by omega,by rw [<- key (by omega)];exact h2⟩
theorem Zcb {s q:Nat} (h:s < 2 ^ 64):q∈Xu s↔s.testBit q=true:=by
 have:=Hu 64 s 0 q h;simpa [Xu] using this
def Zgc:List Int:=[0,1,56,2,57,49,28,3,61,58,42,50,38,29,17,4,62,47,59,36,45,43,51,22,53,39,33,30,24,18,12,5,63,55,48,27,60,41,37,16,46,35,44,21,52,32,23,11,54,26,40,15,34,20,31,10,25,14,19,9,13,8,7,6]
theorem Zlo:∀ k:Fin 64,Zgc[(2 ^ k.val * 285870213051353865 % 18446744073709551616) / 2 ^ 58]? = some (Int.ofNat k.val):=by decide +kernel
end
end Go.Ev
