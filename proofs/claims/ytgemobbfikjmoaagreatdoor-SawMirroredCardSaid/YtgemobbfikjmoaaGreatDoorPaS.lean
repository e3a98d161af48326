/- The law SawMirrored answers true whatever its input. The row, and its tied card.
   Conditions: none beyond the given statement's own. -/
import Derived.Test.YtgemobbfikjmoaaGreatDoorPaR
import Derived.Test.YtgemobbfikjmoaaGreatDoorRows
import Derived.Test.YtgemobbfikjmoaaGreatDoorCards
import Derived.Test.YtgemobbfikjmoaaGreatDoorTie
import Derived.ProofKit
import Derived.LaidMore
import Derived.OpenShut
import Derived.Stop.Joined
import Derived.SevenTiedAt
import Derived.Lib.SmallJoins
set_option linter.unusedVariables false
set_option linter.unusedSimpArgs false
set_option linter.defProp false
namespace Go.Proofs.YtgemobbfikjmoaaGreatDoor
open Go Go.Ev Go.ChangeShapes Go.WideShapes Go.ChangeAt Go.RowKit
theorem own:ownKnob Tryz.prog.godebug=none:=by kernel_rfl
theorem g32:Tryz.prog.globalNamed "math/bits.deBruijn32tab" = some 0:=by kernel_rfl
theorem g64:Tryz.prog.globalNamed "math/bits.deBruijn64tab" = some 1:=by kernel_rfl
theorem Zo0:Tryz.prog.globals.size=2:=by kernel_rfl
theorem t32:(Tryz.prog.globals[0]?).map (·.type)=some 207:=by kernel_rfl
theorem t64:(Tryz.prog.globals[1]?).map (·.type)=some 208:=by kernel_rfl
def ia:List (String×DataW Unit):=[("math/bits.deBruijn32tab",Rows.laid_math_bits_deBruijn32tab),("math/bits.deBruijn64tab",Rows.laid_math_bits_deBruijn64tab)]
theorem Zpn (os:Os) (args:Array Value):laidMetH Tryz.prog ia ((World.doorLaid Tryz.prog 4000 os).forCall (λ_ _=>0) ⟨#[],args,[]⟩).memory:=
 laidMetH_of_parts3 (fuel:=8) (laidMet_of_run' 8 (by kernel_rfl) (by kernel_rfl)) (by kernel_rfl) (by kernel_rfl)
theorem Zq6 {W:World} (h:laidMetH Tryz.prog ia W):∃ c0 e0 f0 c1 e1 f1,W.heap[0]? = some (.cells c0 e0 f0)/\W.heap[1]? = some (.cells c1 e1 f1) /\
  c0.toList=(sk.map λz=>Value.int .u8 z)/\c1.toList=(qf.map λz=>Value.int .u8 z):=by
 rw [MakeChecks.laidMetH_plain _ _ _ (by kernel_rfl)] at h
 obtain ⟨ps,⟨g0,t0,cs0,fu0,p0,q0,hg0,ht0,hv0,hd0,⟨g1,t1,cs1,fu1,p1,q1,hg1,ht1,hv1,hd1,_,_⟩,_⟩,_,_⟩:=h;obtain rfl:=Option.some.inj (g32.symm.trans hg0);obtain rfl:=Option.some.inj (g64.symm.trans hg1);obtain rfl:=Option.some.inj (t32.symm.trans ht0);obtain rfl:=Option.some.inj (t64.symm.trans ht1);have l0:=gu (n:=32) (k:=.u8) Tryz.underlying207 Tryz.underlying5 (by kernel_rfl) (by kernel_rfl) hd0 sk rfl
 have l1:=gu (n:=64) (k:=.u8) Tryz.underlying208 Tryz.underlying5 (by kernel_rfl) (by kernel_rfl) hd1 qf rfl
 have cell:∀ (g:Nat) (name:String) (cs:Array Value),Tryz.prog.globalNamed name=some g->W.var? Tryz.prog name=some cs->∃ e f,W.heap[g]? = some (.cells cs e f):=by
  intro g name cs hg hv;unfold World.var? at hv;rw [hg] at hv;simp only [Option.bind_some] at hv;split at hv
  ·rename_i c e f hc;cases hv;exact ⟨e,f,hc⟩
  ·cases hv
 obtain ⟨e0,f0,h0⟩:=cell 0 _ cs0 g32 hv0;obtain ⟨e1,f1,h1⟩:=cell 1 _ cs1 g64 hv1;exact ⟨cs0,e0,f0,cs1,e1,f1,h0,h1,l0,l1⟩
theorem walk {W:World} {a b th d one two:Nat} (ha:a < 256) (hb:b < 256) (xr:th < 256) (hd:d < 65536) (ho1:one < 256) (iv:two < 256) (h:laidMetH Tryz.prog ia W) :
  Calls Tryz.prog 14 #[.agg #[.int .u8 (.ofNat a),.int .u8 (.ofNat b),.int .u8 (.ofNat th),.int .u16 (.ofNat d)],.int .u8 (.ofNat one),.int .u8 (.ofNat two)] W λe W'=>e=.returned (.bool true)/\W.keptBut W' (λ_=>False):=by
 obtain ⟨c0,e0,f0,c1,e1,f1,h0,h1,hx,hy⟩:=Zq6 h;obtain ⟨T',hr⟩:=Znm ha hb xr hd ho1 iv;obtain ⟨H',hr⟩:=Go.Ev.Zrr (C:=TC) rfl (Zf9 (Zdk Zqy) 86) (args:=[.agg ⟨[.int .u8 (.ofNat a),.int .u8 (.ofNat b),.int .u8 (.ofNat th),.int .u16 (.ofNat d)]⟩,.int .u8 (.ofNat one),.int .u8 (.ofNat two)]) hr rfl e0 e1
 have hc:=(mw (P:=P) (base:=2) (by kernel_rfl) (Zqd TC) 86 2 _ _ _ _ _ (Nat.le_refl 2) hr).2 _ W [.agg ⟨[.int .u8 (.ofNat a),.int .u8 (.ofNat b),.int .u8 (.ofNat th),.int .u16 (.ofNat d)]⟩,.int .u8 (.ofNat one),.int .u8 (.ofNat two)] (Zqh Zo0 h0 h1 hx hy)
  (.cons (.agg (.cons (.flat rfl) (.cons (.flat rfl) (.cons (.flat rfl) (.cons (.flat rfl) .nil))))) (.cons (.flat rfl) (.cons (.flat rfl) .nil)))
 refine Calls.mono hc λe W'=>?_;rintro ⟨v',ρ',rfl,hv,hs⟩;exact ⟨by rw [hv.Bk],hs.kept (λ_ _ hl=>O6 hl) _⟩
theorem Se {k:IntKind} {z:Int} (h:(Lit.int k z).wf=true) (hk:k.min=0):∃ n:Nat,z=.ofNat n/\Int.ofNat n<=k.max:=by
 simp only [Lit.wf,Bool.and_eq_true,decide_eq_true_eq] at h;obtain ⟨n,rfl⟩:=Int.eq_ofNat_of_zero_le (show 0<=z by omega)
 exact ⟨n,rfl,h.2⟩
set_option maxRecDepth 100000 in
theorem lifted (os:Os) (started:os.Started) (H:Type) (enc:TypeId×Value->H) :
  ReturnsInHanded {} Tryz.checked os 14 .any (λw args=>(Rows.sawMirroredSpec.pre enc Tryz.prog Tryz.f14 [] false w args/\laidMetH Tryz.prog ia w)/\sizedMet enc Tryz.prog Tryz.f14 (OpenSpec.ofChange Rows.sawMirroredSpec) false w args)
   (Rows.sawMirroredSpec.post enc Tryz.prog Tryz.f14 false true false false):=by
 refine returnsInHanded_of_change_and (C:=Tryz.checked) (X:=λw _=>laidMetH Tryz.prog ia w) (λ_ _ _ hh h=>h.of_heap hh) own started (by kernel_rfl) Tryz.func14
  (ChangeSpec.witness_shaped (enc:=enc) (C:=Tryz.checked) (os:=os) (X:=λw _=>laidMetH Tryz.prog ia w) false (World.doorLaid Tryz.prog 4000 os) #[.agg #[.int .u8 0,.int .u8 0,.int .u8 0,.int .u16 0],.int .u8 0,.int .u8 0] 8 rfl (World.shaped_of_RefB (by kernel_rfl) (by kernel_rfl)) (by kernel_rfl) (by kernel_rfl) (by kernel_rfl) (Zpn os _)) ?_
 intro W base args ds gs before hval0 hW _ _ hL _;have Zev:∀ (j:Nat) t v,Tryz.f14.params[j]? = some t->args[j]? = some v->Value.okWide Tryz.prog W .any base t v:=hval0;have hW':=hW;obtain ⟨p,q,hA0,hV,rfl,hfz,hnd⟩:=hW;have hA:DataW.TrodAll enc Tryz.prog W 0 (λ_=>true) true Tryz.f14.params.toList args.toList ds p:=hA0;rw [Tryz.params14] at hA Zev;obtain ⟨v0,vs0,d0,ds0,p0,q0,hargs,rfl,rfl,k0,hA⟩:=trodAll_cons hA;obtain ⟨v1,vs1,d1,ds1,p1,q1,rfl,rfl,rfl,k1,hA⟩:=trodAll_cons hA;obtain ⟨v2,vs2,d2,ds2,p2,q2,rfl,rfl,rfl,k2,hA⟩:=trodAll_cons hA;obtain ⟨rfl,rfl,rfl⟩:=trodAll_nil hA;obtain rfl:args=#[v0,v1,v2]:=by cases args;simp_all
 obtain ⟨rfl,rfl⟩:=trodVars_none hV;obtain ⟨x0,x1,x2,x3,y0,y1,y2,y3,m,rfl,rfl,rfl,j0,j1,j2,j3⟩:=Joins.open_agg4 Tryz.underlying64 (by kernel_rfl) (by kernel_rfl) (Zev 0 64 v0 rfl rfl) k0
 obtain ⟨z0,e0,rfl,w0⟩:=DataW.trod_int Tryz.underlying5 j0;obtain ⟨z1,e1,rfl,w1⟩:=DataW.trod_int Tryz.underlying5 j1;obtain ⟨z2,e2,rfl,w2⟩:=DataW.trod_int Tryz.underlying5 j2;obtain ⟨z3,e3,rfl,w3⟩:=DataW.trod_int Tryz.underlying62 j3;obtain rfl:=(List.cons.inj e0).1;obtain rfl:=(List.cons.inj e1).1;obtain rfl:=(List.cons.inj e2).1;obtain rfl:=(List.cons.inj e3).1;obtain ⟨z4,rfl,rfl,rfl,w4⟩:=open_int Tryz.underlying5 (Zev 1 5 v1 rfl rfl) k1;obtain ⟨z5,rfl,rfl,rfl,w5⟩:=open_int Tryz.underlying5 (Zev 2 5 v2 rfl rfl) k2;obtain ⟨a,rfl,b0⟩:=Se w0 rfl;obtain ⟨b,rfl,b1⟩:=Se w1 rfl;obtain ⟨th,rfl,b2⟩:=Se w2 rfl;obtain ⟨d,rfl,b3⟩:=Se w3 rfl;obtain ⟨one,rfl,b4⟩:=Se w4 rfl;obtain ⟨two,rfl,b5⟩:=Se w5 rfl;have b4:(one:Int)<=255:=b4;have b5:(two:Int)<=255:=b5;have b0:(a:Int)<=255:=b0;have b1:(b:Int)<=255:=b1;have b2:(th:Int)<=255:=b2;have b3:(d:Int)<=65535:=b3;clear hA0 hval0;simp only [List.append_nil] at hW' k0 ⊢;refine (walk (by omega) (by omega) (by omega) (by omega) (by omega) (by omega) hL).mono λe W' ⟨he,hk⟩=>?_
 subst he;refine ⟨_,rfl,_,_,[],[],[],[],hW',trodAll_mk1 (shut_bool Tryz.underlying4 true),?_,rfl,World.keptBut_mono (λ_ h=>h.elim) hk,λh=>by cases h⟩
 exact trodAll_cons_mk (Joins.shut_agg4 Tryz.underlying64 (by kernel_rfl) (by kernel_rfl) ⟨1,trod_int_mk 0 Tryz.underlying5 w0⟩ ⟨1,trod_int_mk 0 Tryz.underlying5 w1⟩ ⟨1,trod_int_mk 0 Tryz.underlying5 w2⟩ ⟨1,trod_int_mk 0 Tryz.underlying62 w3⟩)
  (trodAll_mk2 (shut_int Tryz.underlying5 w4) (shut_int Tryz.underlying5 w5))
theorem Fw:Rows.SawMirroredSaid:=
 OpenClaim.holds_of_wide 14 Tryz.f14 rfl rfl rfl rfl rfl rfl rfl ⟨rfl,rfl,rfl,rfl,rfl⟩ rfl rfl rfl rfl rfl (by kernel_rfl) Tryz.func14 (by kernel_rfl)
  (of_decide_eq_true (by kernel_rfl)) (by unfold Func.isWrapper;first |(rw [if_pos (by decide +kernel)];kernel_rfl) |(rw [if_neg (by decide +kernel)];exact ⟨rfl,rfl⟩))
  (λos started H enc _=>lifted os started H enc)
theorem st0:Tryz.prog.wantsStandIn 64=false:=by kernel_rfl
theorem st1:Tryz.prog.wantsStandIn 5=false:=by kernel_rfl
theorem st2:Tryz.prog.wantsStandIn 62=false:=by kernel_rfl
theorem st3:Tryz.prog.wantsStandIn 89=false:=by kernel_rfl
theorem sawMirrored_card_holds:Rows.SawMirroredCardSaid:=
 Claim7.holds_tied_plain_at .later [] [.data,.data] true (true, "37fe21c6ee92a4d9acb954347c44f6a90680299b8981b8532aec3b754a78f079") false
  Fw (λ_ h=>by cases h) (by kernel_rfl) (λ_ h=>by cases h) sawMirrored_row_tie rfl ⟨rfl,rfl⟩ (by kernel_rfl) rfl
  (λf fn hf hfn=>by
   obtain rfl:f=14:=Option.some.inj ((show Tryz.prog.funcNamed "novaculite/novaculitelaw03.SawMirrored" = some 14 by kernel_rfl).symm.trans hf) |>.symm
   obtain rfl:fn=Tryz.f14:=(Option.some.inj (Tryz.func14.symm.trans hfn)).symm
   exact ⟨by kernel_rfl,λj t ht=>by
    rw [Tryz.params14] at ht
    have h2:t=64\/t=5\/t=62\/t=89:=by
     rcases j with _ |_ |_ |j
     ·exact .inl (by simpa using ht.symm)
     ·exact .inr (.inl (by simpa using ht.symm))
     ·exact .inr (.inl (by simpa using ht.symm))
     ·simp at ht
    rcases h2 with rfl |rfl |rfl |rfl
    ·exact st0
    ·exact st1
    ·exact st2
    ·exact st3⟩)
  (by kernel_rfl)
#print axioms sawMirrored_card_holds
end Go.Proofs.YtgemobbfikjmoaaGreatDoor
