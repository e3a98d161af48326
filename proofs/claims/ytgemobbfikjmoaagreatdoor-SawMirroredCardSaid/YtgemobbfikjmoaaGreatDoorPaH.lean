/- What the functions that SawMirrored calls answer, part three.
   Conditions: none beyond the given statement's own. -/
import Derived.Test.YtgemobbfikjmoaaGreatDoorPaG
set_option linter.unusedVariables false
set_option linter.unusedSimpArgs false
set_option linter.defProp false
namespace Go.Proofs.YtgemobbfikjmoaaGreatDoor
open Go Go.Ev
set_option maxRecDepth 100000
noncomputable section
section
variable {w h g:Nat} {Zq:List Nat}
theorem cv (d:Nat) {H:TH} (hw:w < 1000) (hh:h < 1000):Zm (tc (d+1)) 116 [.agg (Qz w h g Zq)] H=some (tN ((w+1) * (h+1))):=by
 refine Yc (ws:=[.agg (Qz w h g Zq)]) (H':=[]) (v:=tN ((w+1) * (h+1))) (a:=false) (Ek rfl) (Eu rfl) ?_ L7;rw [Y4 (F:=F116) (by kernel_rfl)]
 obtain ⟨B,hB⟩:∃ B:TH,B=Zv [] (.cells (Qz w h g Zq)):=⟨_,rfl⟩;have hb:B[Zb ([]:TH)]? = some (.cells (Qz w h g Zq)):=by rw [hB];exact Qf
 have ht:X7 B (Zb ([]:TH))=[]:=by rw [hB];exact Jt
 have lw:∀ {β:Type} (k:TV->TH->Option β),loadT .Xi 0 (Zb ([]:TH)) false 1 B (.ptr (Zb ([]:TH)) (0+0)) k=k (tN w) B:=λk=>Zx hb (B7 ..) rfl rfl;have lh:∀ {β:Type} (k:TV->TH->Option β),loadT .Xi 0 (Zb ([]:TH)) false 1 B (.ptr (Zb ([]:TH)) (0+1)) k=k (tN h) B:=λk=>Zx hb (di ..) rfl rfl;have hs:Z2 Vj (Qz w h g Zq)=true:=Jn w h g Zq;have hm:(w+1) * (h+1)<=1000 * 1000:=Nat.mul_le_mul (by omega) (by omega)
 have z1:Z0 (.int .i64 (.ofNat w)) (.int .i64 (.ofNat 1))=some (.int .i64 (.ofNat (w+1))):=X9 (by omega)
 have z2:Z0 (.int .i64 (.ofNat h)) (.int .i64 (.ofNat 1))=some (.int .i64 (.ofNat (h+1))):=X9 (by omega)
 have z3:Y2 (.int .i64 (.ofNat (w+1))) (.int .i64 (.ofNat (h+1)))=some (.int .i64 (.ofNat ((w+1) * (h+1)))):=M7 (by omega)
 show Za (C116 (tc d) 0 (Zb ([]:TH)) (.agg (Qz w h g Zq),Zk,Zk,()) []) _=_;simp only [C116,VV,hs,<- hB,lw,lh,z1,z2,z3,Z6 X8,ht]
def Kw (w c:Nat):Int:=cond (Nat.beq ((c % (w+1)+c / (w+1)) % 2) 0) (.ofNat 1) (.negSucc 0)
theorem Ziw (d:Nat) {c:Nat} {H:TH} (hw:w < 1000) (hc:c < 1000000):Zm (tc (d+1)) 162 [.agg (Qz w h g Zq),tN c] H=some (tI (Kw w c)):=by
 refine Yc (ws:=[.agg (Qz w h g Zq),tN c]) (H':=[]) (v:=tI (Kw w c)) (a:=false) (Ek rfl) (Eu rfl) ?_ L7;rw [Y4 (F:=F162) (by kernel_rfl)]
 obtain ⟨B,hB⟩:∃ B:TH,B=Zv [] (.cells (Qz w h g Zq)):=⟨_,rfl⟩;have hb:B[Zb ([]:TH)]? = some (.cells (Qz w h g Zq)):=by rw [hB];exact Qf
 have ht:X7 B (Zb ([]:TH))=[]:=by rw [hB];exact Jt
 have lw:∀ {β:Type} (k:TV->TH->Option β),loadT .Xi 0 (Zb ([]:TH)) false 1 B (.ptr (Zb ([]:TH)) (0+0)) k=k (tN w) B:=λk=>Zx hb (B7 ..) rfl rfl;have hs:Z2 Vj (Qz w h g Zq)=true:=Jn w h g Zq;have y1:c % (w+1)<=c:=Nat.mod_le ..;have y2:c / (w+1)<=c:=Nat.div_le_self ..;have z1:Z0 (.int .i64 (.ofNat w)) (.int .i64 (.ofNat 1))=some (.int .i64 (.ofNat (w+1))):=X9 (by omega)
 have z2:Y1 (.int .i64 (.ofNat c)) (.int .i64 (.ofNat (w+1)))=some (.int .i64 (.ofNat (c % (w+1)))):=Gu (by omega)
 have z3:Jp (.int .i64 (.ofNat c)) (.int .i64 (.ofNat (w+1)))=some (.int .i64 (.ofNat (c / (w+1)))):=Pe (by omega) (by omega)
 have z4:Z0 (.int .i64 (.ofNat (c % (w+1)))) (.int .i64 (.ofNat (c / (w+1))))=some (.int .i64 (.ofNat (c % (w+1)+c / (w+1)))):=X9 (by omega)
 have z5:Y1 (.int .i64 (.ofNat (c % (w+1)+c / (w+1)))) (.int .i64 (.ofNat 2))=some (.int .i64 (.ofNat ((c % (w+1)+c / (w+1)) % 2))):=Gu (by decide)
 obtain ⟨r,hr⟩:∃ r,r=(c % (w+1)+c / (w+1)) % 2:=⟨_,rfl⟩;have hr2:r < 2:=by omega
 have z6:Y2 (.int .i64 (.ofNat 2)) (.int .i64 (.ofNat r))=some (.int .i64 (.ofNat (2 * r))):=M7 (by omega)
 have z7:Qq (.int .i64 (.ofNat 1)) (.int .i64 (.ofNat (2 * r)))=some (.int .i64 (Kw w c)):=by
  unfold Kw;rw [<- hr];rcases r with _ |_ |r
  ·rfl
  ·rfl
  ·omega
 rw [<- hr] at z5;show Za (C162 (tc d) 0 (Zb ([]:TH)) (.agg (Qz w h g Zq),tN c,Zk,Zk,()) []) _=_;simp only [C162,VV,hs,<- hB,lw,z1,z2,z3,z4,z5,z6,z7,Z6 X8,ht]
def atI (w h g:Nat) (x y:Int):Int:=match x,y with
 |.ofNat a,.ofNat b=>cond (Nat.blt a w) (cond (Nat.blt b h) (cond (El g (b * w+a)) (.ofNat (b * w+a)) (.negSucc 0)) (.negSucc 0)) (.negSucc 0)
 |_,_=>.negSucc 0
def F0:Nat->Int
 |0=>.negSucc 0
 |n+1=>.ofNat n
theorem pred_sub {n:Nat} (h:n < 1000000):Qq (.int .i64 (.ofNat n)) (.int .i64 (.ofNat 1))=some (.int .i64 (F0 n)):=by
 cases n with
 |zero=>rfl
 |succ n=>exact Uc (a:=n+1) (b:=1) (by omega) (by omega)
theorem Zp2 (g k:Nat):Qn (.ofNat (g / 2 ^ k &&& 1)) (.ofNat 0)=!El g k:=by
 show Nat.beq (Nat.land (g / 2 ^ k) 1) 0=!Nat.beq (Nat.land (g / 2 ^ k) 1) 1;have h:Nat.land (g / 2 ^ k) 1=(g / 2 ^ k) % 2:=Nat.and_one_is_mod _;rw [h];rcases Nat.mod_two_eq_zero_or_one (g / 2 ^ k) with h |h <;> rw [h] <;> rfl
theorem at_run (d Zh:Nat) {bp:Nat} {x y:Int} {H:TH} (hw:w<=8) (hh:h<=8) (hg:g < 65536) (hb:H[bp]? = some (.cells (Qz w h g Zq))) (hx:x < 1000) (hy:y < 1000) (hxy:0<=x\/0<=y) :
  tc (d+1) Zh 199 [tI x,tI y,.ptr bp 0] H=some (tI (atI w h g x y),H):=by
 rw [Y4 (F:=F199) (by kernel_rfl)]
 have lw:∀ {β:Type} (k:TV->TH->Option β),loadT .Xi Zh (Zb H) false 1 H (.ptr bp (0+0)) k=k (tN w) H:=λk=>Zx hb (B7 ..) rfl rfl;have lh:∀ {β:Type} (k:TV->TH->Option β),loadT .Xi Zh (Zb H) false 1 H (.ptr bp (0+1)) k=k (tN h) H:=λk=>Zx hb (di ..) rfl rfl;have lg:∀ {β:Type} (k:TV->TH->Option β),loadT .Xi Zh (Zb H) false 1 H (.ptr bp (0+2)) k=k (tU g) H:=λk=>Zx hb (Tg ..) rfl rfl;show Za (Zfy (tc d) Zh (Zb H) (tI x,tI y,.ptr bp 0,Zk,Zk,()) H) _=_
 have ho:∀ (u v:Int) (z:Int),Y0 false (.int .i64 u) (.int .i64 v)=some (.int .i64 z)->Vo z (.ofNat 0)=true->atI w h g u v=.negSucc 0->Za (Zfy (tc d) Zh (Zb H) (tI u,tI v,.ptr bp 0,Zk,Zk,()) H)
   (λp=>Xr p.1 (Zp (Z2 Qk [p.2.1.2.2.2.1]) (some (Xm (Zb H) p.2.1.2.2.2.1 p.2.2))))=some (tI (atI w h g u v),H):=λu v z h1 h2 h3=>by
  have h4:Xg (.int .i64 z) (.int .i64 (.ofNat 0))=some (.bool true):=by show some (Value.bool (Vo z (.ofNat 0)))=_;rw [h2]
  rw [h3];simp only [Zfy,VV,h1,J6,h4,Bool.not_true,Bool.not_false,Z6 X8,Xc]
 cases x with
 |negSucc a=>
  cases y with
  |negSucc b=>omega
  |ofNat b=>exact ho _ _ (.negSucc a) rfl rfl rfl
 |ofNat a=>
  cases y with
  |negSucc b=>exact ho _ _ (.negSucc b) rfl rfl rfl
  |ofNat b=>
   have hx:a < 1000:=by have:(a:Int) < 1000:=hx;omega
   have hy:b < 1000:=by have:(b:Int) < 1000:=hy;omega
   have hmin:Nat.blt (Eh a b) 0=false:=Kf (Nat.zero_le _);have hat:atI w h g (.ofNat a) (.ofNat b)=cond (Nat.blt a w) (cond (Nat.blt b h) (cond (El g (b * w+a)) (.ofNat (b * w+a)) (.negSucc 0)) (.negSucc 0)) (.negSucc 0):=rfl;have hbw:b * w<=1000 * 8:=Nat.mul_le_mul (by omega) hw
   have z1:Y2 (.int .i64 (.ofNat b)) (.int .i64 (.ofNat w))=some (.int .i64 (.ofNat (b * w))):=M7 (by omega)
   have z2:Z0 (.int .i64 (.ofNat (b * w))) (.int .i64 (.ofNat a))=some (.int .i64 (.ofNat (b * w+a))):=X9 (by omega)
   rw [hat];cases h1:Nat.blt a w with
   |false=>
    simp only [Zfy,VV,X5,J6,Ql,Hq,hmin,lw,lh,lg,h1,Bool.not_true,Bool.not_false,Z6 X8,Xc]
   |true=>
    cases h2:Nat.blt b h with
    |false=>
     simp only [Zfy,VV,X5,J6,Ql,Hq,hmin,lw,lh,lg,h1,h2,Bool.not_true,Bool.not_false,Z6 X8,Xc]
    |true=>
     have hbh:b < h:=by rwa [Nat.blt_eq] at h2
     have haw:a < w:=by rwa [Nat.blt_eq] at h1
     have hk:b * w+a<=64:=by
      have:b * w<=7 * 8:=Nat.mul_le_mul (by omega) hw
      omega
     have z3:K7 (.int .u64 (.ofNat g)) (.int .i64 (.ofNat (b * w+a)))=some (.int .u64 (.ofNat (g / 2 ^ (b * w+a)))):=Zgf hk;have z4:Km (.int .u64 (.ofNat (g / 2 ^ (b * w+a)))) (.int .u64 (.ofNat 1))=some (.int .u64 (.ofNat (g / 2 ^ (b * w+a) &&& 1))):=Cl (Nat.lt_of_le_of_lt (Nat.div_le_self ..) (by omega)) (by decide)
     cases h3:El g (b * w+a) <;>
      simp only [Zfy,VV,X5,J6,Ql,Hq,hmin,lw,lh,lg,h1,h2,z1,z2,z3,z4,Zp2,h3,Bool.not_true,Bool.not_false,Z6 X8,Xc]
def My (w h g c:Nat) (down:Bool):Int×Int:=
 cond down (atI w h g (F0 (c % (w+1))) (.ofNat (c / (w+1))),atI w h g (.ofNat (c % (w+1))) (.ofNat (c / (w+1)))) (atI w h g (.ofNat (c % (w+1))) (F0 (c / (w+1))),atI w h g (.ofNat (c % (w+1))) (.ofNat (c / (w+1))))
theorem pred_lt {n m:Nat} (h:n < m):F0 n < (m:Int):=by
 cases n with
 |zero=>show (-1:Int) < _;omega
 |succ n=>show (n:Int) < _;omega
theorem Zin (d:Nat) {c:Nat} {down:Bool} {H:TH} (hw:w<=8) (hh:h<=8) (hg:g < 65536) (hc:c < 1000):Zm (tc (d+2)) 160 [.agg (Qz w h g Zq),tN c,tB down] H=some (.Xh [tI (My w h g c down).1,tI (My w h g c down).2]):=by
 refine Yc (ws:=[.agg (Qz w h g Zq),tN c,tB down]) (H':=[]) (v:=.Xh [tI (My w h g c down).1,tI (My w h g c down).2]) (a:=false) (Ek rfl) (Eu rfl) ?_ rfl;rw [Y4 (F:=F160) (by kernel_rfl)]
 obtain ⟨B,hB⟩:∃ B:TH,B=Zv [] (.cells (Qz w h g Zq)):=⟨_,rfl⟩;have hb:B[Zb ([]:TH)]? = some (.cells (Qz w h g Zq)):=by rw [hB];exact Qf
 have ht:X7 B (Zb ([]:TH))=[]:=by rw [hB];exact Jt
 have lw:∀ {β:Type} (k:TV->TH->Option β),loadT .Xi 0 (Zb ([]:TH)) false 1 B (.ptr (Zb ([]:TH)) (0+0)) k=k (tN w) B:=λk=>Zx hb (B7 ..) rfl rfl;have hs:Z2 Vj (Qz w h g Zq)=true:=Jn w h g Zq;obtain ⟨x,hx⟩:∃ x,x=c % (w+1):=⟨_,rfl⟩;obtain ⟨y,hy⟩:∃ y,y=c / (w+1):=⟨_,rfl⟩;have y1:x<=c:=by rw [hx];exact Nat.mod_le ..
 have y2:y<=c:=by rw [hy];exact Nat.div_le_self ..
 have z1:Z0 (.int .i64 (.ofNat w)) (.int .i64 (.ofNat 1))=some (.int .i64 (.ofNat (w+1))):=X9 (by omega)
 have z2:Y1 (.int .i64 (.ofNat c)) (.int .i64 (.ofNat (w+1)))=some (.int .i64 (.ofNat x)):=by rw [hx];exact Gu (by omega)
 have z3:Jp (.int .i64 (.ofNat c)) (.int .i64 (.ofNat (w+1)))=some (.int .i64 (.ofNat y)):=by rw [hy];exact Pe (by omega) (by omega)
 have px:=pred_lt (show x < 1000 by omega)
 have py:=pred_lt (show y < 1000 by omega)
 have hat:∀ {β:Type} (u v:Int) (_:u < 1000) (_:v < 1000) (_:0<=u\/0<=v) (k:TV->TH->Option β),Xd TC (tc (d+1)) 0 (.fn (.func 199) [] [.ptr (Zb ([]:TH)) 0]) [tI u,tI v] B k=k (tI (atI w h g u v)) B:=λu v h1 h2 h3 k=>
  Yo rfl (at_run d 0 hw hh hg hb h1 h2 h3)
 have c1:∀ {β:Type} (k:TV->TH->Option β),Xd TC (tc (d+1)) 0 (.fn (.func 199) [] [.ptr (Zb ([]:TH)) 0]) [tI (F0 x),tN y] B k=k (tI (atI w h g (F0 x) (.ofNat y))) B:=λk=>hat _ (.ofNat y) px (by show (y:Int) < 1000;omega) (.inr (by show (0:Int)<=(y:Int);omega)) k
 have c2:∀ {β:Type} (k:TV->TH->Option β),Xd TC (tc (d+1)) 0 (.fn (.func 199) [] [.ptr (Zb ([]:TH)) 0]) [tN x,tN y] B k=k (tI (atI w h g (.ofNat x) (.ofNat y))) B:=λk=>hat (.ofNat x) (.ofNat y) (by show (x:Int) < 1000;omega) (by show (y:Int) < 1000;omega) (.inr (by show (0:Int)<=(y:Int);omega)) k
 have c3:∀ {β:Type} (k:TV->TH->Option β),Xd TC (tc (d+1)) 0 (.fn (.func 199) [] [.ptr (Zb ([]:TH)) 0]) [tN x,tI (F0 y)] B k=k (tI (atI w h g (.ofNat x) (F0 y))) B:=λk=>hat (.ofNat x) (F0 y) (by show (x:Int) < 1000;omega) py (.inl (by show (0:Int)<=(x:Int);omega)) k
 have s1:=pred_sub (show x < 1000000 by omega)
 have s2:=pred_sub (show y < 1000000 by omega)
 show Za (C160 (tc (d+1)) 0 (Zb ([]:TH)) (.agg (Qz w h g Zq),tN c,tB down,Zk,Zk,Zk,Zk,Zk,Zk,Zk,()) []) _=_;have J7:∀ a b:Int,loose (.Xh [tI a,tI b])=true:=λ_ _=>rfl;unfold My;rw [<- hx,<- hy];cases down with
 |true=>
  simp only [C160,VV,hs,<- hB,lw,z1,z2,z3,s1,c1,c2];rw [Z6 (J7 _ _),ht]
 |false=>
  simp only [C160,VV,hs,<- hB,lw,z1,z2,z3,s2,c3,c2];rw [Z6 (J7 _ _),ht]
end
end
end Go.Proofs.YtgemobbfikjmoaaGreatDoor
namespace Go.Proofs.YtgemobbfikjmoaaGreatDoor
open Go Go.Ev
set_option maxRecDepth 100000
noncomputable section
def cr (q:Int×Int) (p:Nat×Nat):Bool:=cond (Qn q.1 (.ofNat p.1)) (Qn q.2 (.ofNat p.2)) false
theorem Zbj (call:Z3) (Zh:Nat) {c:Cp} {n:Nat} (l:List (Nat×Nat)) (q:Int×Int) {H:TH} (hn:l≠[]->n=2) (hlen:l.length < 90000) :
  F135 call Zh [.row c .set n (l.map tQ),tP q] H=some (tI (Rs (Wx (cr q) l 0)),H):=by
 obtain ⟨B,hB⟩:∃ B,B=Zv H (.cells [tI q.1,tI q.2]):=⟨_,rfl⟩;have w7:B[Zb H]? = some (.cells [tI q.1,tI q.2]):=by rw [hB];exact Qf
 have ht:X7 B (Zb H)=H:=by rw [hB];exact Jt
 have lq:∀ {β:Type} (k:TV->TH->Option β),loadT .Xi Zh (Zb H) true 2 B (.ptr (Zb H) 0) k=k (tP q) B:=λk=>Xw w7 (by simp) rfl
 have key:Qg (C135 call Zh (Zb H) (.row c .set n (l.map tQ),tP q,Zk,Zk,Zk,Zk,Zk,Zk,Zk,()) H)
   λe S H1=>e=.ret/\S.2.2.2.1=tI (Rs (Wx (cr q) l 0))/\H1=B:=by
  simp only [C135,VV,Zz (l.map tQ),List.length_map,<- hB]
  refine Qg.su (k:=l.length) (λk S H1=>∃ j,S.1=.row c .set n (l.map tQ)/\S.2.2.1=.ptr (Zb H) 0/\S.2.2.2.2.2.1=tN l.length/\S.2.2.2.2.2.2.1=tN j/\H1=B/\j<=l.length/\k=l.length - j/\Wx (cr q) l 0=Wx (cr q) (l.drop j) j)
   (λ_ H1=>H1=B/\Wx (cr q) l 0=none) (λS H1=>S.2.2.2.1=tI (Rs (Wx (cr q) l 0))/\H1=B) ?_ (by rw [Yg];omega) ⟨0,rfl,rfl,rfl,rfl,rfl,Nat.zero_le _,rfl,rfl⟩ ?_ (λ_ _ h=>⟨rfl,h⟩)
  ·rintro k S H1 ⟨j,h0,h2,h5,h6,rfl,hj,rfl,Qx⟩;rcases Nat.eq_or_lt_of_le hj with hj |hj
   ·rw [hj,List.drop_length] at Qx;simp only [VV,h0,h2,h5,h6,Ql,Kf (Nat.le_of_eq hj.symm)];exact .fin (.inr (.inl ⟨rfl,rfl,Qx⟩))
   ·have hn1:=hn (by intro h;rw [h] at hj;simp at hj)
    subst hn1;rw [List.drop_eq_getElem_cons hj] at Qx;have Qx:Wx (cr q) l 0=cond (cr q l[j]) (some j) (Wx (cr q) (l.drop (j+1)) (j+1)):=Qx;have J8:(l.map tQ)[j]? = some (tQ l[j]):=by rw [List.getElem?_map,List.getElem?_eq_getElem hj];rfl
    have hi:(Qn q.1 (.ofNat l[j].1) && (Qn q.2 (.ofNat l[j].2) && true))=cr q l[j]:=by
     show _=cond (Qn q.1 (.ofNat l[j].1)) (Qn q.2 (.ofNat l[j].2)) false;rw [Bool.and_true];cases Qn q.1 (.ofNat l[j].1) <;> rfl
    cases hpj:cr q l[j] with
    |true=>
     rw [hpj] at Qx hi;simp only [VV,h0,h2,h5,h6,Ql,Xo hj,Qe J8,lq,hi];exact .fin (.inr (.inr ⟨rfl,by rw [Qx];rfl,rfl⟩))
    |false=>
     rw [hpj] at Qx hi;simp only [VV,h0,h2,h5,h6,Ql,Xo hj,Qe J8,lq,hi,X9 (show j+1 < 9223372036854775808 by omega)]
     exact .fin (.inl ⟨rfl,l.length - (j+1),by omega,j+1,rfl,rfl,rfl,rfl,rfl,hj,rfl,Qx⟩)
  ·rintro S H1 ⟨rfl,h⟩;simp only [VV];exact .fin ⟨rfl,by rw [h];rfl,rfl⟩
 obtain ⟨e,S,H1,h1,rfl,h2,rfl⟩:=key;show Za (C135 call Zh (Zb H) (.row c .set n (l.map tQ),tP q,Zk,Zk,Zk,Zk,Zk,Zk,Zk,()) H) _=_;rw [h1];simp only [Yy,Jm,h2,Vc,W1,Vw,S0,G0,Z6 X8,ht]
theorem qx (d:Nat) {c:Cp} {n:Nat} (l:List (Nat×Nat)) (q:Int×Int) {H:TH} (hn:l≠[]->n=2) (hlen:l.length < 90000) :
  Zm (tc (d+2)) 62 [.row c .set n (l.map tQ),tP q] H=some (tB (Iy (cr q) l)):=by
 refine Yc (ws:=[.row c .set n (l.map tQ),tP q]) (H':=[]) (v:=tB (Iy (cr q) l)) (a:=false) ?_ ?_ ?_ rfl
 ·rfl
 ·cases c <;> rfl
 rw [Y4 (F:=F62) (by kernel_rfl)]
 obtain ⟨B,hB⟩:∃ B:TH,B=Zv [] (.cells [tI q.1,tI q.2]):=⟨_,rfl⟩;have w7:B[Zb ([]:TH)]? = some (.cells [tI q.1,tI q.2]):=by rw [hB];exact Qf
 have ht:X7 B (Zb ([]:TH))=[]:=by rw [hB];exact Jt
 have lq:∀ {β:Type} (k:TV->TH->Option β),loadT .Xi 0 (Zb ([]:TH)) true 2 B (.ptr (Zb ([]:TH)) 0) k=k (tP q) B:=λk=>Xw w7 (by simp) rfl
 have hi:Zm (tc (d+1)) 135 [.row c .set n (l.map tQ),tP q] B=some (tI (Rs (Wx (cr q) l 0))):=
  Yc (ws:=[.row c .set n (l.map tQ),tP q]) (H':=[]) (a:=false) rfl (by cases c <;> rfl) ((Y4 (F:=F135) (by kernel_rfl) ..).trans (Zbj _ _ l q hn hlen)) rfl
 show Za (C62 (tc (d+1)) 0 (Zb ([]:TH)) (.row c .set n (l.map tQ),tP q,Zk,Zk,()) []) _=_;simp only [C62,VV,<- hB,lq,hi,geq_P,Z6 X8,ht]
def Sj (z:Int):Bool:=!Vo z (.ofNat 0)
def Za5 (a b:Int):Int:=cond (Vo a b) b a
def mg (w h g:Nat) (bl:List (Nat×Nat)) (known:List Bool) (to c:Nat) (down:Bool):Bool:=
 cond (Sj (Za5 (My w h g c down).1 (My w h g c down).2)) (cond (known[to]?.getD false) false (!Iy (cr (My w h g c down)) bl)) false
abbrev Ds:=List Int×List Bool
def okH (n c:Nat) (ht:Int) (st:Ds):Bool:=cond (Nat.blt c n) (cond (Vo ht (.ofNat 1000)) (cond (Vo (.negSucc 1000) ht) (cond (Nat.beq st.1.length n) (Nat.beq st.2.length n) false) false) false) false
def Wd (go:Nat->Int->Ds->Option Ds) (w h g:Nat) (bl:List (Nat×Nat)) (to c:Nat) (down:Bool) (ht:Int) (st:Ds):Option Ds:=
 cond (okH ((w+1) * (h+1)) to ht st) (cond (mg w h g bl st.2 to c down) (go to ht st) (some st)) none
def Gb (b:Bool) (x:Option Ds) (st:Ds):Option Ds:=cond b x (some st)
def P2 (x:Option Ds) (k:Ds->Option Ds):Option Ds:=match x with |none=>none |some s=>k s
def Wc (w h g:Nat) (bl:List (Nat×Nat)):Nat->Nat->Int->Ds->Option Ds
 |0,_,_,_=>none
 |f+1,c,ht,st=>cond (okH ((w+1) * (h+1)) c ht st)
  (P2 (Gb (Nat.blt (c % (w+1)) w) (Wd (Wc w h g bl f) w h g bl (c+1) c false (ht+Kw w c) (st.1.set c ht,st.2.set c true)) (st.1.set c ht,st.2.set c true)) λs1=>
   P2 (Gb (Nat.blt (c / (w+1)) h) (Wd (Wc w h g bl f) w h g bl (c+w+1) c true (ht - Kw w c) s1) s1) λs2=>
   P2 (Gb (Nat.blt 0 (c % (w+1))) (Wd (Wc w h g bl f) w h g bl (c - 1) (c - 1) false (ht - Kw w (c - 1)) s2) s2) λs3=>
   Gb (Nat.blt 0 (c / (w+1))) (Wd (Wc w h g bl f) w h g bl (c - w - 1) (c - w - 1) true (ht+Kw w (c - w - 1)) s3) s3) none
def hBox (w h g:Nat) (Zq:List Nat) (rb:TV) (n b:Nat) (st:Ds):TH:=
 [.cells (Qz w h g Zq),.cells [rb],.cells (st.1.map tI),.cells [.vec (b+2) 0 n n 1 false],.cells (st.2.map tB),.cells [.vec (b+4) 0 n n 1 false],
  .cells [.fn (.func 161) [] [.ptr (b+3) 0,.ptr (b+5) 0,.ptr b 0,.ptr (b+7) 0]],.cells [.fn (.func 159) [] [.ptr b 0,.ptr (b+5) 0,.ptr (b+1) 0,.ptr (b+6) 0]]]
def Ys (H:TH) (w h g:Nat) (Zq:List Nat) (rb:TV) (n:Nat) (st:Ds):TH:=H++hBox w h g Zq rb n (Zb H) st
theorem Wn {H l:TH} {i:Nat}:(H++l)[Zb H+i]? = l[i]?:=by
 rw [Zz,List.getElem?_append_right (by omega),Nat.add_sub_cancel_left]
theorem fe {H l:TH} {i:Nat} {o:Kc}:(H++l).set (Zb H+i) o=H++l.set i o:=by
 rw [Zz,List.set_append_right _ _ (by omega),Nat.add_sub_cancel_left]
end
end Go.Proofs.YtgemobbfikjmoaaGreatDoor
namespace Go.Proofs.YtgemobbfikjmoaaGreatDoor
open Go Go.Ev
set_option maxRecDepth 100000
noncomputable section
theorem Ie (a b:Int):Y0 true (.int .i64 a) (.int .i64 b)=some (.int .i64 (Za5 a b)):=rfl
theorem geq0 (z:Int):K0 (.int .i64 z) (.int .i64 (.ofNat 0))=some (.bool (Sj z)):=rfl
section
variable {w h g m:Nat} {Zq:List Nat} {bl:List (Nat×Nat)} {H:TH} {c':Cp}
abbrev rB (c':Cp) (m:Nat) (bl:List (Nat×Nat)):TV:=.row c' .set m (bl.map tQ)
theorem Znd {n c:Nat} {ht:Int} {st:Ds} (h:okH n c ht st=true):c < n/\ht < 1000/\-1001 < ht/\st.1.length=n/\st.2.length=n:=by
 unfold okH at h;cases h1:Nat.blt c n with
 |false=>rw [h1] at h;cases h
 |true=>
  rw [h1] at h;cases h2:Vo ht (.ofNat 1000) with
  |false=>rw [h2] at h;cases h
  |true=>
   rw [h2] at h;cases h3:Vo (.negSucc 1000) ht with
   |false=>rw [h3] at h;cases h
   |true=>
    rw [h3] at h;cases h4:Nat.beq st.1.length n with
    |false=>rw [h4] at h;cases h
    |true=>
     rw [h4] at h;refine ⟨by rwa [Nat.blt_eq] at h1,?_,?_,Nat.eq_of_beq_eq_true h4,Nat.eq_of_beq_eq_true h⟩
     ·rw [V7,decide_eq_true_iff] at h2;exact h2
     ·rw [V7,decide_eq_true_iff] at h3;exact h3
theorem Zlx (D Zh:Nat) {to c:Nat} {down:Bool} {ht:Int} {st r:Ds} {x:TV} {go:Nat->Int->Ds->Option Ds} (hw:w<=8) (hh:h<=8) (hg:g < 65536) (G4:Zq.length=16) (hm:bl≠[]->m=2) (Pq:bl.length < 90000) (hc:c < 1000) (hx:pass x=true)
  (Qx:∀ to ht st r,go to ht st=some r->tc (D+2) Zh 161 [tN to,tI ht,.ptr (Zb H+3) 0,.ptr (Zb H+5) 0,.ptr (Zb H) 0,.ptr (Zb H+7) 0] (Ys H w h g Zq (rB c' m bl) ((w+1) * (h+1)) st)=some (.Xh [],Ys H w h g Zq (rB c' m bl) ((w+1) * (h+1)) r))
  (hs:Wd go w h g bl to c down ht st=some r) :
  tc (D+3) Zh 159 [x,tN to,tN c,tB down,tI ht,.ptr (Zb H) 0,.ptr (Zb H+5) 0,.ptr (Zb H+1) 0,.ptr (Zb H+6) 0] (Ys H w h g Zq (rB c' m bl) ((w+1) * (h+1)) st)=some (.Xh [],Ys H w h g Zq (rB c' m bl) ((w+1) * (h+1)) r):=by
 rw [Y4 (F:=F159) (by kernel_rfl)]
 unfold Wd at hs;cases iu:okH ((w+1) * (h+1)) to ht st with
 |false=>rw [iu] at hs;cases hs
 |true=>
  rw [iu] at hs;have hs:cond (mg w h g bl st.2 to c down) (go to ht st) (some st)=some r:=hs;obtain ⟨hto,h1,h2,hl1,ld⟩:=Znd iu;obtain ⟨n,hn⟩:∃ n,n=(w+1) * (h+1):=⟨_,rfl⟩;rw [<- hn] at hto hl1 ld Qx ⊢;obtain ⟨G,hG⟩:∃ G,G=Ys H w h g Zq (rB c' m bl) n st:=⟨_,rfl⟩;have k0:G[Zb H]? = some (.cells (Qz w h g Zq)):=by rw [hG];exact Wn (i:=0)
  have k1:G[Zb H+1]? = some (.cells [rB c' m bl]):=by rw [hG];exact Wn (i:=1)
  have k4:G[Zb H+4]? = some (.cells (st.2.map tB)):=by rw [hG];exact Wn (i:=4)
  have k5:G[Zb H+5]? = some (.cells [.vec (Zb H+4) 0 n n 1 false]):=by rw [hG];exact Wn (i:=5)
  have k6:G[Zb H+6]? = some (.cells [.fn (.func 161) [] [.ptr (Zb H+3) 0,.ptr (Zb H+5) 0,.ptr (Zb H) 0,.ptr (Zb H+7) 0]]):=by rw [hG];exact Wn (i:=6)
  have lp:∀ {β:Type} (k:TV->TH->Option β),loadT .Xi Zh (Zb G) true 19 G (.ptr (Zb H) 0) k=k (.agg (Qz w h g Zq)) G:=λk=>K3 k0 G4;have lk:∀ {β:Type} (k:TV->TH->Option β),loadT .Xi Zh (Zb G) false 1 G (.ptr (Zb H+5) 0) k=k (.vec (Zb H+4) 0 n n 1 false) G:=λk=>Zx k5 rfl rfl rfl;have lb:∀ {β:Type} (k:TV->TH->Option β),loadT .Xi Zh (Zb G) false 1 G (.ptr (Zb H+1) 0) k=k (rB c' m bl) G:=λk=>Zx k1 rfl rfl rfl;have lf:∀ {β:Type} (k:TV->TH->Option β),loadT .Xi Zh (Zb G) false 1 G (.ptr (Zb H+6) 0) k=k (.fn (.func 161) [] [.ptr (Zb H+3) 0,.ptr (Zb H+5) 0,.ptr (Zb H) 0,.ptr (Zb H+7) 0]) G:=λk=>Zx k6 rfl rfl rfl;obtain ⟨kn,hkn⟩:∃ kn,kn=st.2[to]?.getD false:=⟨_,rfl⟩
  have hkn2:(st.2.map tB)[0+to * 1]? = some (tB kn):=by
   rw [Nat.zero_add,Nat.mul_one,List.getElem?_map,List.getElem?_eq_getElem (by omega),hkn,List.getElem?_eq_getElem (by omega)];rfl
  have lt:∀ {β:Type} (k:TV->TH->Option β),loadT .Xi Zh (Zb G) false 1 G (.ptr (Zb H+4) (0+to * 1)) k=k (tB kn) G:=λk=>Zx k4 hkn2 rfl rfl;obtain ⟨sd,hsd⟩:∃ sd,sd=My w h g c down:=⟨_,rfl⟩;have Us:Zm (tc (D+2)) 160 [.agg (Qz w h g Zq),tN c,tB down] G=some (.Xh [tI sd.1,tI sd.2]):=by rw [hsd];exact Zin D hw hh hg hc
  have hct:Zm (tc (D+2)) 62 [rB c' m bl,tP sd] G=some (tB (Iy (cr sd) bl)):=qx D bl sd hm Pq;have xv:Uk [(0,1,tI sd.1),(1,1,tI sd.2)] Vy=some (tP sd):=rfl;have Af:mg w h g bl st.2 to c down=cond (Sj (Za5 sd.1 sd.2)) (cond kn false (!Iy (cr sd) bl)) false:=by unfold mg;rw [<- hsd,<- hkn]
  have hlen:∀ s:Ds,Zb (Ys H w h g Zq (rB c' m bl) n s)=Zb H+8:=λs=>by
   rw [Zz,Zz];show (H++hBox w h g Zq (rB c' m bl) n (Zb H) s).length=_;rw [List.length_append];rfl
  have hGl:Zb G=Zb H+8:=by rw [hG];exact hlen st
  have hend:∀ s:Ds,Xm (Zb G) (.Xh []) (Ys H w h g Zq (rB c' m bl) n s)=(.Xh [],Ys H w h g Zq (rB c' m bl) n s):=λs=>by
   rw [Z6 rfl,hGl,<- hlen s,Xc]
  have Zor:Xm (Zb G) (.Xh []) G=(.Xh [],G):=by rw [Z6 rfl,Xc]
  rw [<- hG];show Za (C159 (tc (D+2)) Zh (Zb G) (tN to,tN c,tB down,tI ht,.ptr (Zb H) 0,.ptr (Zb H+5) 0,.ptr (Zb H+1) 0,.ptr (Zb H+6) 0,Zk,Zk,Zk,()) G) _=_;rw [Af] at hs;have i1:Qh 1 (.vec (Zb H+4) 0 n n 1 false) (tN to)=some (.ptr (Zb H+4) (0+to * 1)):=K8 hto;cases q1:Sj (Za5 sd.1 sd.2) with
  |false=>
   rw [q1] at hs;have hs:some st=some r:=hs;cases hs;simp only [C159,VV,lp,Xz,Us,Ie,J6,geq0,q1,Bool.not_true,Bool.not_false,Zor];rw [hG]
  |true=>
   rw [q1] at hs;cases kn with
   |true=>
    have hs:some st=some r:=hs;cases hs;simp only [C159,VV,lp,Xz,Us,Ie,J6,geq0,q1,lk,i1,lt,Bool.not_true,Bool.not_false,Zor];rw [hG]
   |false=>
    cases q3:Iy (cr sd) bl with
    |true=>
     rw [q3] at hs hct;have hs:some st=some r:=hs;cases hs;simp only [C159,VV,lp,Xz,Us,Ie,J6,geq0,q1,lk,i1,lt,lb,xv,hct,Bool.not_true,Bool.not_false,Zor];rw [hG]
    |false=>
     rw [q3] at hs hct;have hs:go to ht st=some r:=hs
     have Xn:∀ {β:Type} (k:TV->TH->Option β),Xd TC (tc (D+2)) Zh (.fn (.func 161) [] [.ptr (Zb H+3) 0,.ptr (Zb H+5) 0,.ptr (Zb H) 0,.ptr (Zb H+7) 0]) [tN to,tI ht] G k=k (.Xh []) (Ys H w h g Zq (rB c' m bl) n r):=λk=>
      Yo rfl (by rw [hG];exact Qx _ _ _ _ hs)
     simp only [C159,VV,lp,Xz,Us,Ie,J6,geq0,q1,lk,i1,lt,lb,xv,hct,lf,Xn,Bool.not_true,Bool.not_false,hend]
end
end
end Go.Proofs.YtgemobbfikjmoaaGreatDoor
namespace Go.Proofs.YtgemobbfikjmoaaGreatDoor
open Go Go.Ev
set_option maxRecDepth 100000
noncomputable section
section
variable {w h g m:Nat} {Zq:List Nat} {bl:List (Nat×Nat)} {H:TH} {c':Cp}
theorem Zj8 {rb:TV} {n c:Nat} {ht:Int} {st:Ds} {Zh base:Nat} (Oc:Zh<=Zb H) (hc:c < st.1.length) :
  storeT Zh base 1 (Ys H w h g Zq rb n st) (.ptr (Zb H+2) (0+c * 1)) (tI ht)=some (Ys H w h g Zq rb n (st.1.set c ht,st.2)):=by
 rw [Qy (n:=1) (x:=tI ht) (cs:=st.1.map tI) (Wn (i:=2)) (by omega) rfl (.inl rfl) rfl (by rw [List.length_map];omega),V8,Nat.zero_add,Nat.mul_one,Gv _ _ _ (by rw [List.length_map];omega),<- List.map_set]
 exact congrArg some (fe (i:=2))
theorem Zbz {rb:TV} {n c:Nat} {st:Ds} {Zh base:Nat} (Oc:Zh<=Zb H) (hc:c < st.2.length) :
  storeT Zh base 1 (Ys H w h g Zq rb n st) (.ptr (Zb H+4) (0+c * 1)) (tB true)=some (Ys H w h g Zq rb n (st.1,st.2.set c true)):=by
 rw [Qy (n:=1) (x:=tB true) (cs:=st.2.map tB) (Wn (i:=4)) (by omega) rfl (.inl rfl) rfl (by rw [List.length_map];omega),V8,Nat.zero_add,Nat.mul_one,Gv _ _ _ (by rw [List.length_map];omega),<- List.map_set]
 exact congrArg some (fe (i:=4))
theorem E8 (w c:Nat):Kw w c=1\/Kw w c=-1:=by
 unfold Kw;cases Nat.beq ((c % (w+1)+c / (w+1)) % 2) 0
 ·exact .inr rfl
 ·exact .inl rfl
theorem ny (Zh:Nat) (Th:1<=w) (hw:w<=8) (hh:h<=8) (hg:g < 65536) (G4:Zq.length=16) (hm:bl≠[]->m=2) (Pq:bl.length < 90000) (Oc:Zh<=Zb H):∀ (f d c:Nat) (ht:Int) (st r:Ds),Wc w h g bl f c ht st=some r ->
  tc (d+2 * f+2) Zh 161 [tN c,tI ht,.ptr (Zb H+3) 0,.ptr (Zb H+5) 0,.ptr (Zb H) 0,.ptr (Zb H+7) 0] (Ys H w h g Zq (rB c' m bl) ((w+1) * (h+1)) st)=some (.Xh [],Ys H w h g Zq (rB c' m bl) ((w+1) * (h+1)) r)
 |0,_,_,_,_,_,hs=>by cases hs
 |f+1,d,c,ht,st,r,hs=>by
  have ih:=ny Zh Th hw hh hg G4 hm Pq Oc f d;obtain ⟨D,hD⟩:∃ D,D=d+2 * f:=⟨_,rfl⟩;rw [<- hD] at ih;rw [show d+2 * (f+1)+2=D+3+1 by omega,Y4 (F:=F161) (by kernel_rfl)]
  have hs:cond (okH ((w+1) * (h+1)) c ht st)
   (P2 (Gb (Nat.blt (c % (w+1)) w) (Wd (Wc w h g bl f) w h g bl (c+1) c false (ht+Kw w c) (st.1.set c ht,st.2.set c true)) (st.1.set c ht,st.2.set c true)) λs1=>
    P2 (Gb (Nat.blt (c / (w+1)) h) (Wd (Wc w h g bl f) w h g bl (c+w+1) c true (ht - Kw w c) s1) s1) λs2=>
    P2 (Gb (Nat.blt 0 (c % (w+1))) (Wd (Wc w h g bl f) w h g bl (c - 1) (c - 1) false (ht - Kw w (c - 1)) s2) s2) λs3=>
    Gb (Nat.blt 0 (c / (w+1))) (Wd (Wc w h g bl f) w h g bl (c - w - 1) (c - w - 1) true (ht+Kw w (c - w - 1)) s3) s3) none=some r:=hs
  cases iu:okH ((w+1) * (h+1)) c ht st with
  |false=>rw [iu] at hs;cases hs
  |true=>
   rw [iu] at hs;obtain ⟨hc,g1,g2,hl1,ld⟩:=Znd iu;have hn81:(w+1) * (h+1)<=9 * 9:=Nat.mul_le_mul (by omega) (by omega)
   obtain ⟨n,hn⟩:∃ n,n=(w+1) * (h+1):=⟨_,rfl⟩
   have step:∀ {to k:Nat} {down:Bool} {ht:Int} {s s':Ds} {x:TV},k < 1000->pass x=true->Wd (Wc w h g bl f) w h g bl to k down ht s=some s'->∀ {β:Type} (q:TV->TH->Option β),
     Xd TC (tc (D+3)) Zh (.fn (.func 159) [] [.ptr (Zb H) 0,.ptr (Zb H+5) 0,.ptr (Zb H+1) 0,.ptr (Zb H+6) 0]) [x,tN to,tN k,tB down,tI ht] (Ys H w h g Zq (rB c' m bl) n s) q=q (.Xh []) (Ys H w h g Zq (rB c' m bl) n s'):=λ{to k down ht s s' x} hk hx Us {β} q=>
    Yo (by show Z2 pass (x::_)=true;rw [Vc,hx];rfl) (by rw [hn];exact Zlx D Zh hw hh hg G4 hm Pq hk hx ih Us)
   rw [<- hn] at hc hl1 ld hn81 ⊢;obtain ⟨base,Cd⟩:∃ base,base=Zb (Ys H w h g Zq (rB c' m bl) n st):=⟨_,rfl⟩
   have hlen:∀ s:Ds,Zb (Ys H w h g Zq (rB c' m bl) n s)=Zb H+8:=λs=>by
    rw [Zz,Zz];show (H++hBox w h g Zq (rB c' m bl) n (Zb H) s).length=_;rw [List.length_append];rfl
   have hend:∀ s:Ds,Xm base (.Xh []) (Ys H w h g Zq (rB c' m bl) n s)=(.Xh [],Ys H w h g Zq (rB c' m bl) n s):=λs=>by
    rw [Z6 rfl,Cd,hlen,<- hlen s,Xc]
   have lo:∀ {β:Type} (md:Ld) (s:Ds) (k:TV->TH->Option β),loadT md Zh base false 1 (Ys H w h g Zq (rB c' m bl) n s) (.ptr (Zb H+3) 0) k=k (.vec (Zb H+2) 0 n n 1 false) (Ys H w h g Zq (rB c' m bl) n s):=λmd s k=>Zx (Wn (i:=3)) rfl rfl rfl;have lk:∀ {β:Type} (md:Ld) (s:Ds) (k:TV->TH->Option β),loadT md Zh base false 1 (Ys H w h g Zq (rB c' m bl) n s) (.ptr (Zb H+5) 0) k=k (.vec (Zb H+4) 0 n n 1 false) (Ys H w h g Zq (rB c' m bl) n s):=λmd s k=>Zx (Wn (i:=5)) rfl rfl rfl;have ls:∀ {β:Type} (md:Ld) (s:Ds) (k:TV->TH->Option β),loadT md Zh base false 1 (Ys H w h g Zq (rB c' m bl) n s) (.ptr (Zb H+7) 0) k=k (.fn (.func 159) [] [.ptr (Zb H) 0,.ptr (Zb H+5) 0,.ptr (Zb H+1) 0,.ptr (Zb H+6) 0]) (Ys H w h g Zq (rB c' m bl) n s):=λmd s k=>Zx (Wn (i:=7)) rfl rfl rfl;have lw:∀ {β:Type} (s:Ds) (k:TV->TH->Option β),loadT .Xi Zh base false 1 (Ys H w h g Zq (rB c' m bl) n s) (.ptr (Zb H) (0+0)) k=k (tN w) (Ys H w h g Zq (rB c' m bl) n s):=λs k=>Zx (Wn (i:=0)) (B7 ..) rfl rfl;have lh:∀ {β:Type} (s:Ds) (k:TV->TH->Option β),loadT .Xi Zh base false 1 (Ys H w h g Zq (rB c' m bl) n s) (.ptr (Zb H) (0+1)) k=k (tN h) (Ys H w h g Zq (rB c' m bl) n s):=λs k=>Zx (Wn (i:=0)) (di ..) rfl rfl;have lp:∀ {β:Type} (s:Ds) (k:TV->TH->Option β),loadT .Xi Zh base true 19 (Ys H w h g Zq (rB c' m bl) n s) (.ptr (Zb H) 0) k=k (.agg (Qz w h g Zq)) (Ys H w h g Zq (rB c' m bl) n s):=λs k=>K3 (Wn (i:=0)) G4;have i1:Qh 1 (.vec (Zb H+2) 0 n n 1 false) (tN c)=some (.ptr (Zb H+2) (0+c * 1)):=K8 hc;have i2:Qh 1 (.vec (Zb H+4) 0 n n 1 false) (tN c)=some (.ptr (Zb H+4) (0+c * 1)):=K8 hc;have s1:storeT Zh base 1 (Ys H w h g Zq (rB c' m bl) n st) (.ptr (Zb H+2) (0+c * 1)) (tI ht)=some (Ys H w h g Zq (rB c' m bl) n (st.1.set c ht,st.2)):=Zj8 Oc (by omega)
   have s2:storeT Zh base 1 (Ys H w h g Zq (rB c' m bl) n (st.1.set c ht,st.2)) (.ptr (Zb H+4) (0+c * 1)) (tB true)=some (Ys H w h g Zq (rB c' m bl) n (st.1.set c ht,st.2.set c true)):=Zbz (st:=(st.1.set c ht,st.2)) Oc (by show c < st.2.length;omega)
   have y1:c % (w+1)<=c:=Nat.mod_le ..;have y2:c / (w+1)<=c:=Nat.div_le_self ..;have z1:Z0 (.int .i64 (.ofNat w)) (.int .i64 (.ofNat 1))=some (.int .i64 (.ofNat (w+1))):=X9 (by omega)
   have z2:Y1 (.int .i64 (.ofNat c)) (.int .i64 (.ofNat (w+1)))=some (.int .i64 (.ofNat (c % (w+1)))):=Gu (by omega)
   have z3:Jp (.int .i64 (.ofNat c)) (.int .i64 (.ofNat (w+1)))=some (.int .i64 (.ofNat (c / (w+1)))):=Pe (by omega) (by omega)
   have z4:Z0 (.int .i64 (.ofNat c)) (.int .i64 (.ofNat 1))=some (.int .i64 (.ofNat (c+1))):=X9 (by omega)
   have z5:Z0 (.int .i64 (.ofNat c)) (.int .i64 (.ofNat w))=some (.int .i64 (.ofNat (c+w))):=X9 (by omega)
   have z6:Z0 (.int .i64 (.ofNat (c+w))) (.int .i64 (.ofNat 1))=some (.int .i64 (.ofNat (c+w+1))):=X9 (by omega)
   have hI:∀ z:Int,-2000 < z->z < 2000->I64 z:=λz h1 h2=>by unfold I64;omega
   have rt:∀ (k:Nat) (s:Ds),k < 1000000->Zm (tc (D+3)) 162 [.agg (Qz w h g Zq),tN k] (Ys H w h g Zq (rB c' m bl) n s)=some (tI (Kw w k)):=λk s hk=>Ziw (D+2) (by omega) hk
   obtain ⟨t0,ht0⟩:∃ t0:Ds,t0=(st.1.set c ht,st.2.set c true):=⟨_,rfl⟩;rw [<- ht0] at s2 hs
   have hs:P2 (Gb (Nat.blt (c % (w+1)) w) (Wd (Wc w h g bl f) w h g bl (c+1) c false (ht+Kw w c) t0) t0) (λs1=>
    P2 (Gb (Nat.blt (c / (w+1)) h) (Wd (Wc w h g bl f) w h g bl (c+w+1) c true (ht - Kw w c) s1) s1) λs2=>
    P2 (Gb (Nat.blt 0 (c % (w+1))) (Wd (Wc w h g bl f) w h g bl (c - 1) (c - 1) false (ht - Kw w (c - 1)) s2) s2) λs3=>
    Gb (Nat.blt 0 (c / (w+1))) (Wd (Wc w h g bl f) w h g bl (c - w - 1) (c - w - 1) true (ht+Kw w (c - w - 1)) s3) s3)=some r:=hs
   cases e1:Gb (Nat.blt (c % (w+1)) w) (Wd (Wc w h g bl f) w h g bl (c+1) c false (ht+Kw w c) t0) t0 with
   |none=>rw [e1] at hs;cases hs
   |some t1=>
   rw [e1] at hs
   have hs:P2 (Gb (Nat.blt (c / (w+1)) h) (Wd (Wc w h g bl f) w h g bl (c+w+1) c true (ht - Kw w c) t1) t1) (λs2=>
    P2 (Gb (Nat.blt 0 (c % (w+1))) (Wd (Wc w h g bl f) w h g bl (c - 1) (c - 1) false (ht - Kw w (c - 1)) s2) s2) λs3=>
    Gb (Nat.blt 0 (c / (w+1))) (Wd (Wc w h g bl f) w h g bl (c - w - 1) (c - w - 1) true (ht+Kw w (c - w - 1)) s3) s3)=some r:=hs
   cases e2:Gb (Nat.blt (c / (w+1)) h) (Wd (Wc w h g bl f) w h g bl (c+w+1) c true (ht - Kw w c) t1) t1 with
   |none=>rw [e2] at hs;cases hs
   |some t2=>
   rw [e2] at hs
   have hs:P2 (Gb (Nat.blt 0 (c % (w+1))) (Wd (Wc w h g bl f) w h g bl (c - 1) (c - 1) false (ht - Kw w (c - 1)) t2) t2) (λs3=>
    Gb (Nat.blt 0 (c / (w+1))) (Wd (Wc w h g bl f) w h g bl (c - w - 1) (c - w - 1) true (ht+Kw w (c - w - 1)) s3) s3)=some r:=hs
   cases e3:Gb (Nat.blt 0 (c % (w+1))) (Wd (Wc w h g bl f) w h g bl (c - 1) (c - 1) false (ht - Kw w (c - 1)) t2) t2 with
   |none=>rw [e3] at hs;cases hs
   |some t3=>
   rw [e3] at hs;have hs:Gb (Nat.blt 0 (c / (w+1))) (Wd (Wc w h g bl f) w h g bl (c - w - 1) (c - w - 1) true (ht+Kw w (c - w - 1)) t3) t3=some r:=hs
   have ap:∀ (a b o o':Nat) (u v:Hd),a≠b->Tb [hdX (.ptr a o) u] [hdX (.ptr b o') v]=true:=λa b o o' u v hab=>by
    show cond (cond (!Nat.beq a b) true false) true false=true;rw [Wm hab];rfl
   have ap1:=λ(u v:Hd)=>ap (Zb H+5) (Zb H+2) 0 (0+c * 1) u v (by omega)
   have key:Qg (C161 (tc (D+3)) Zh base (tN c,tI ht,.ptr (Zb H+3) 0,.ptr (Zb H+5) 0,.ptr (Zb H) 0,.ptr (Zb H+7) 0,Zk,Zk,Zk,Zk,Zk,Zk,()) (Ys H w h g Zq (rB c' m bl) n st))
     λe S H1=>e=.normal/\H1=Ys H w h g Zq (rB c' m bl) n r:=by
    simp only [C161,VV,lo,lk,i1,ap1,s1,i2,s2,lw,z1,z2,z3,Ql];refine Qg.sq (Q1:=λe S H1=>e=.normal/\S.1=tN c/\S.2.1=tI ht/\S.2.2.2.2.1=.ptr (Zb H) 0/\S.2.2.2.2.2.1=.ptr (Zb H+7) 0/\S.2.2.2.2.2.2.1=tN (c % (w+1))/\S.2.2.2.2.2.2.2.1=tN (c / (w+1))/\H1=Ys H w h g Zq (rB c' m bl) n t1) ?_ ?_ (λi S H h=>by cases h.1) (λS H h=>by cases h.1)
    ·cases b1:Nat.blt (c % (w+1)) w with
     |false=>
      rw [b1] at e1;cases e1;simp only [VV];exact .fin ⟨rfl,rfl,rfl,rfl,rfl,rfl,rfl,rfl⟩
     |true=>
      rw [b1] at e1;have q1:=λ{β:Type} (q:TV->TH->Option β)=>step (x:=tN c) (by omega) rfl e1 q
      have a1:Z0 (.int .i64 ht) (.int .i64 (Kw w c))=some (.int .i64 (ht+Kw w c)):=Zqa (hI _ (by rcases E8 w c with h |h <;> omega) (by rcases E8 w c with h |h <;> omega))
      simp only [VV,ls,z4,lp,Xz,rt c t0 (by omega),a1,q1]
      exact .fin ⟨rfl,rfl,rfl,rfl,rfl,rfl,rfl,rfl⟩
    ·rintro S H1 ⟨_,k0,k1,k4,k5,k6,k7,rfl⟩;simp only [VV,k0,k1,k4,k5,k6,k7,lh,Ql];refine Qg.sq (Q1:=λe S H1=>e=.normal/\S.1=tN c/\S.2.1=tI ht/\S.2.2.2.2.1=.ptr (Zb H) 0/\S.2.2.2.2.2.1=.ptr (Zb H+7) 0/\S.2.2.2.2.2.2.1=tN (c % (w+1))/\S.2.2.2.2.2.2.2.1=tN (c / (w+1))/\H1=Ys H w h g Zq (rB c' m bl) n t2) ?_ ?_ (λi S H h=>by cases h.1) (λS H h=>by cases h.1)
     ·cases b1:Nat.blt (c / (w+1)) h with
      |false=>
       rw [b1] at e2;cases e2;simp only [VV];exact .fin ⟨rfl,rfl,rfl,rfl,rfl,rfl,rfl,rfl⟩
      |true=>
       rw [b1] at e2;have q1:=λ{β:Type} (q:TV->TH->Option β)=>step (x:=tN c) (by omega) rfl e2 q
       have a1:Qq (.int .i64 ht) (.int .i64 (Kw w c))=some (.int .i64 (ht - Kw w c)):=yf (hI _ (by rcases E8 w c with h |h <;> omega) (by rcases E8 w c with h |h <;> omega))
       simp only [VV,ls,lw,z5,z6,lp,Xz,rt c t1 (by omega),a1,q1]
       exact .fin ⟨rfl,rfl,rfl,rfl,rfl,rfl,rfl,rfl⟩
     ·rintro S H1 ⟨_,k0,k1,k4,k5,k6,k7,rfl⟩;simp only [VV,k0,k1,k4,k5,k6,k7,Gg];refine Qg.sq (Q1:=λe S H1=>e=.normal/\S.1=tN c/\S.2.1=tI ht/\S.2.2.2.2.1=.ptr (Zb H) 0/\S.2.2.2.2.2.1=.ptr (Zb H+7) 0/\S.2.2.2.2.2.2.1=tN (c % (w+1))/\S.2.2.2.2.2.2.2.1=tN (c / (w+1))/\H1=Ys H w h g Zq (rB c' m bl) n t3) ?_ ?_ (λi S H h=>by cases h.1) (λS H h=>by cases h.1)
      ·cases b1:Nat.blt 0 (c % (w+1)) with
       |false=>
        rw [b1] at e3;cases e3;simp only [VV];exact .fin ⟨rfl,rfl,rfl,rfl,rfl,rfl,rfl,rfl⟩
       |true=>
        rw [b1] at e3;rw [Nat.blt_eq] at b1;have q1:=λ{β:Type} (q:TV->TH->Option β)=>step (x:=tN c) (by omega) rfl e3 q
        have z7:Qq (.int .i64 (.ofNat c)) (.int .i64 (.ofNat 1))=some (.int .i64 (.ofNat (c - 1))):=Uc (by omega) (by omega)
        have a1:Qq (.int .i64 ht) (.int .i64 (Kw w (c - 1)))=some (.int .i64 (ht - Kw w (c - 1))):=yf (hI _ (by rcases E8 w (c - 1) with h |h <;> omega) (by rcases E8 w (c - 1) with h |h <;> omega))
        simp only [VV,ls,z7,lp,Xz,rt (c - 1) t2 (by omega),a1,q1]
        exact .fin ⟨rfl,rfl,rfl,rfl,rfl,rfl,rfl,rfl⟩
      ·rintro S H1 ⟨_,k0,k1,k4,k5,k6,k7,rfl⟩;simp only [VV,k0,k1,k4,k5,k6,k7,Gg];cases b1:Nat.blt 0 (c / (w+1)) with
       |false=>
        rw [b1] at hs;cases hs;simp only [VV];exact .fin ⟨rfl,rfl⟩
       |true=>
        rw [b1] at hs;rw [Nat.blt_eq] at b1
        have hwc:w+1<=c:=by
         rcases Nat.lt_or_ge c (w+1) with hx |hx
         ·rw [Nat.div_eq_of_lt hx] at b1;omega
         ·exact hx
        have q1:=λ{β:Type} (q:TV->TH->Option β)=>step (x:=tN c) (by omega) rfl hs q
        have z7:Qq (.int .i64 (.ofNat c)) (.int .i64 (.ofNat w))=some (.int .i64 (.ofNat (c - w))):=Uc (by omega) (by omega)
        have z8:Qq (.int .i64 (.ofNat (c - w))) (.int .i64 (.ofNat 1))=some (.int .i64 (.ofNat (c - w - 1))):=Uc (by omega) (by omega)
        have a1:Z0 (.int .i64 ht) (.int .i64 (Kw w (c - w - 1)))=some (.int .i64 (ht+Kw w (c - w - 1))):=Zqa (hI _ (by rcases E8 w (c - w - 1) with h |h <;> omega) (by rcases E8 w (c - w - 1) with h |h <;> omega))
        simp only [VV,ls,lw,z7,z8,lp,Xz,rt (c - w - 1) t3 (by omega),a1,q1]
        exact .fin ⟨rfl,rfl⟩
   obtain ⟨e,S,H1,h1,rfl,rfl⟩:=key;show Za (C161 (tc (D+3)) Zh (Zb (Ys H w h g Zq (rB c' m bl) n st)) (tN c,tI ht,.ptr (Zb H+3) 0,.ptr (Zb H+5) 0,.ptr (Zb H) 0,.ptr (Zb H+7) 0,Zk,Zk,Zk,Zk,Zk,Zk,()) (Ys H w h g Zq (rB c' m bl) n st)) _=_;rw [<- Cd,h1];simp only [Yy,N4,W1,G0,hend]
end
end
end Go.Proofs.YtgemobbfikjmoaaGreatDoor
namespace Go.Proofs.YtgemobbfikjmoaaGreatDoor
open Go Go.Ev
set_option maxRecDepth 100000
noncomputable section
theorem pv (x:TV):∀ n:Nat,Y5 [x] n=List.replicate n x
 |0=>rfl
 |n+1=>by
  show [x]++Y5 [x] n=_;rw [pv x n];rfl
def ns (n:Nat):Ds:=(List.replicate n (.ofNat 0),List.replicate n false)
def Ng (w g:Nat):Nat:=low 64 g / w * (w+1)+low 64 g % w
def jq (w h g:Nat) (bl:List (Nat×Nat)):Option Ds:=Wc w h g bl 40 (Ng w g) (.ofNat 0) (ns ((w+1) * (h+1)))
section
variable {w h g m:Nat} {Zq:List Nat} {bl:List (Nat×Nat)} {H:TH} {c':Cp}
theorem zm (d Zh:Nat) {r:Ds} (Th:1<=w) (hw:w<=8) (hh:h<=8) (hg0:g≠0) (hg:g < 65536) (G4:Zq.length=16) (hm:bl≠[]->m=2) (Pq:bl.length < 90000) (Oc:Zh<=Zb H) (hr:jq w h g bl=some r) :
  tc (d+83) Zh 113 [.agg (Qz w h g Zq),rB c' m bl] H=some (.vec (Zb H+2) 0 ((w+1) * (h+1)) ((w+1) * (h+1)) 1 false,Ys H w h g Zq (rB c' m bl) ((w+1) * (h+1)) r):=by
 rw [Y4 (F:=F113) (by kernel_rfl)]
 have hn81:(w+1) * (h+1)<=9 * 9:=Nat.mul_le_mul (by omega) (by omega)
 obtain ⟨n,hn⟩:∃ n,n=(w+1) * (h+1):=⟨_,rfl⟩;have hwk:=ny (c':=c') (Zq:=Zq) (H:=H) Zh Th hw hh hg G4 hm Pq Oc 40 d (Ng w g) (.ofNat 0) (ns n) r (by rw [hn];exact hr)
 rw [<- hn] at hwk hn81 ⊢;obtain ⟨A1,hA1⟩:∃ B:TH,B=Zv H (.cells (Qz w h g Zq)):=⟨_,rfl⟩;obtain ⟨A2,hA2⟩:∃ B:TH,B=Zv A1 (.cells [rB c' m bl]):=⟨_,rfl⟩;obtain ⟨A3,hA3⟩:∃ B:TH,B=Zv A2 (.cells (Y5 [tN 0] n)):=⟨_,rfl⟩;obtain ⟨A4,hA4⟩:∃ B:TH,B=Zv A3 (.cells [.vec (Zb H+2) 0 n n 1 false]):=⟨_,rfl⟩;obtain ⟨A5,hA5⟩:∃ B:TH,B=Zv A4 (.cells (Y5 [tB false] n)):=⟨_,rfl⟩;obtain ⟨A6,hA6⟩:∃ B:TH,B=Zv A5 (.cells [.vec (Zb H+4) 0 n n 1 false]):=⟨_,rfl⟩;have n1:Zb A1=Zb H+1:=by rw [hA1,Qd]
 have n2:Zb A2=Zb H+2:=by rw [hA2,Qd,n1]
 have n3:Zb A3=Zb H+3:=by rw [hA3,Qd,n2]
 have n4:Zb A4=Zb H+4:=by rw [hA4,Qd,n3]
 have n5:Zb A5=Zb H+5:=by rw [hA5,Qd,n4]
 have n6:Zb A6=Zb H+6:=by rw [hA6,Qd,n5]
 have kp1:A1[Zb H]? = some (.cells (Qz w h g Zq)):=by rw [hA1];exact Qf
 have kp2:A2[Zb H]? = some (.cells (Qz w h g Zq)):=by rw [hA2];exact Qm kp1
 have kp3:A3[Zb H]? = some (.cells (Qz w h g Zq)):=by rw [hA3];exact Qm kp2
 have kp4:A4[Zb H]? = some (.cells (Qz w h g Zq)):=by rw [hA4];exact Qm kp3
 have hrf:roomFor 8 n=true:=dc (by omega)
 obtain ⟨A7,hA7⟩:∃ B:TH,B=Zv A6 (.cells [.v .nilFunc]):=⟨_,rfl⟩;obtain ⟨A8,hA8⟩:∃ B:TH,B=Zv A7 (.cells [(.fn (.func 159) [] [.ptr (Zb H) 0,.ptr (Zb H+5) 0,.ptr (Zb H+1) 0,.ptr (Zb H+6) 0])]):=⟨_,rfl⟩;obtain ⟨G,hG⟩:∃ B:TH,B=Ys H w h g Zq (rB c' m bl) n (ns n):=⟨_,rfl⟩;have n7:Zb A7=Zb H+7:=by rw [hA7,Qd,n6]
 have hcat:A8=H++[.cells (Qz w h g Zq),.cells [rB c' m bl],.cells (Y5 [tN 0] n),.cells [.vec (Zb H+2) 0 n n 1 false],.cells (Y5 [tB false] n),.cells [.vec (Zb H+4) 0 n n 1 false],.cells [.v .nilFunc],.cells [(.fn (.func 159) [] [.ptr (Zb H) 0,.ptr (Zb H+5) 0,.ptr (Zb H+1) 0,.ptr (Zb H+6) 0])]]:=by
  rw [hA8,hA7,hA6,hA5,hA4,hA3,hA2,hA1];show H++[_]++[_]++[_]++[_]++[_]++[_]++[_]++[_]=_;simp only [List.append_assoc];rfl
 have Ut:A8.set (Zb H+6) (.cells [(.fn (.func 161) [] [.ptr (Zb H+3) 0,.ptr (Zb H+5) 0,.ptr (Zb H) 0,.ptr (Zb H+7) 0])])=G:=by
  rw [hcat,fe,hG];unfold Ys hBox ns;rw [List.map_replicate,List.map_replicate,pv,pv];rfl
 have k86:A8[Zb H+6]? = some (.cells [.v .nilFunc]):=by rw [hcat];exact Wn (i:=6)
 have gp:G[Zb H]? = some (.cells (Qz w h g Zq)):=by rw [hG];exact Wn (i:=0)
 have gf:G[Zb H+6]? = some (.cells [(.fn (.func 161) [] [.ptr (Zb H+3) 0,.ptr (Zb H+5) 0,.ptr (Zb H) 0,.ptr (Zb H+7) 0])]):=by rw [hG];exact Wn (i:=6)
 have rv:(Ys H w h g Zq (rB c' m bl) n r)[Zb H+3]? = some (.cells [.vec (Zb H+2) 0 n n 1 false]):=Wn (i:=3);have Us:Z2 Vj (Qz w h g Zq)=true:=Jn w h g Zq
 have es8:Rw 8 (.int .i64 (.ofNat n)) (.int .i64 (.ofNat n))=some (n,n):=by
  show Zp (Nat.ble n n) (Zp (roomFor 8 n) (some (n,n)))=_;rw [Nat.ble_eq_true_of_le (Nat.le_refl n),hrf];rfl
 have hrf1:roomFor 1 n=true:=by
  unfold roomFor;have hB:(90000:Nat)<=xb:=by decide
  have h1:Nat.ble (Nat.mul n 1) xb=true:=Nat.ble_eq_true_of_le (show n * 1<=xb by omega)
  have h2:Nat.blt n xb=true:=by rw [Nat.blt_eq];omega
  rw [h1,h2];rfl
 have es1:Rw 1 (.int .i64 (.ofNat n)) (.int .i64 (.ofNat n))=some (n,n):=by
  show Zp (Nat.ble n n) (Zp (roomFor 1 n) (some (n,n)))=_;rw [Nat.ble_eq_true_of_le (Nat.le_refl n),hrf1];rfl
 have ct:∀ H',Zm (tc (d+82)) 116 [.agg (Qz w h g Zq)] H'=some (tN n):=λH'=>by rw [hn];exact cv (d+81) (by omega) (by omega)
 have tt:∀ H',Zm (tc (d+82)) 156 [tU g] H'=some (tN (low 64 g)):=λH'=>pe (d+80) hg0 (by omega)
 have l2:∀ {β:Type} (k:TV->TH->Option β),loadT .Xi Zh (Zb H) true 19 A2 (.ptr (Zb H) 0) k=k (.agg (Qz w h g Zq)) A2:=λk=>K3 kp2 G4;have l4:∀ {β:Type} (k:TV->TH->Option β),loadT .Xi Zh (Zb H) true 19 A4 (.ptr (Zb H) 0) k=k (.agg (Qz w h g Zq)) A4:=λk=>K3 kp4 G4;have s4:storeT Zh (Zb H) 1 (Zv A3 (.cells [Xp])) (.ptr (Zb H+3) 0) (.vec (Zb H+2) 0 n n 1 false)=some A4:=by rw [<- n3,hA4];exact Va (by omega) rfl (.inr (by omega)) rfl
 have s6:storeT Zh (Zb H) 1 (Zv A5 (.cells [Xp])) (.ptr (Zb H+5) 0) (.vec (Zb H+4) 0 n n 1 false)=some A6:=by rw [<- n5,hA6];exact Va (by omega) rfl (.inr (by omega)) rfl
 have s8:storeT Zh (Zb H) 1 (Zv A7 (.cells [.v .nilFunc])) (.ptr (Zb H+7) 0) (.fn (.func 159) [] [.ptr (Zb H) 0,.ptr (Zb H+5) 0,.ptr (Zb H+1) 0,.ptr (Zb H+6) 0])=some A8:=by rw [<- n7,hA8];exact Va (by omega) rfl (.inr (by omega)) rfl
 have s9:storeT Zh (Zb H) 1 A8 (.ptr (Zb H+6) 0) (.fn (.func 161) [] [.ptr (Zb H+3) 0,.ptr (Zb H+5) 0,.ptr (Zb H) 0,.ptr (Zb H+7) 0])=some G:=by
  rw [Qy (n:=1) (off:=0) (x:=(.fn (.func 161) [] [.ptr (Zb H+3) 0,.ptr (Zb H+5) 0,.ptr (Zb H) 0,.ptr (Zb H+7) 0])) k86 (by omega) rfl (.inr (by omega)) rfl (by simp),<- Ut];rfl
 have lg:∀ {β:Type} (k:TV->TH->Option β),loadT .Xi Zh (Zb H) false 1 G (.ptr (Zb H) (0+2)) k=k (tU g) G:=λk=>Zx gp (Tg ..) rfl rfl;have lw:∀ {β:Type} (k:TV->TH->Option β),loadT .Xi Zh (Zb H) false 1 G (.ptr (Zb H) (0+0)) k=k (tN w) G:=λk=>Zx gp (B7 ..) rfl rfl;have lf:∀ {β:Type} (k:TV->TH->Option β),loadT .Xi Zh (Zb H) false 1 G (.ptr (Zb H+6) 0) k=k (.fn (.func 161) [] [.ptr (Zb H+3) 0,.ptr (Zb H+5) 0,.ptr (Zb H) 0,.ptr (Zb H+7) 0]) G:=λk=>Zx gf rfl rfl rfl;have lv:∀ {β:Type} (k:TV->TH->Option β),loadT .settle Zh (Zb H) false 1 (Ys H w h g Zq (rB c' m bl) n r) (.ptr (Zb H+3) 0) k=k (.vec (Zb H+2) 0 n n 1 false) (Ys H w h g Zq (rB c' m bl) n r):=λk=>Zx rv rfl rfl rfl;have uk:=tm hg0 hg;have y1:low 64 g % w<=low 64 g:=Nat.mod_le ..;have y2:low 64 g / w<=low 64 g:=Nat.div_le_self ..;have y3:low 64 g / w * (w+1)<=15 * 9:=Nat.mul_le_mul (by omega) (by omega)
 have z1:Jp (.int .i64 (.ofNat (low 64 g))) (.int .i64 (.ofNat w))=some (.int .i64 (.ofNat (low 64 g / w))):=Pe Th (by omega)
 have z2:Z0 (.int .i64 (.ofNat w)) (.int .i64 (.ofNat 1))=some (.int .i64 (.ofNat (w+1))):=X9 (by omega)
 have z3:Y2 (.int .i64 (.ofNat (low 64 g / w))) (.int .i64 (.ofNat (w+1)))=some (.int .i64 (.ofNat (low 64 g / w * (w+1)))):=M7 (by omega)
 have z4:Y1 (.int .i64 (.ofNat (low 64 g))) (.int .i64 (.ofNat w))=some (.int .i64 (.ofNat (low 64 g % w))):=Gu Th;have z5:Z0 (.int .i64 (.ofNat (low 64 g / w * (w+1)))) (.int .i64 (.ofNat (low 64 g % w)))=some (.int .i64 (.ofNat (Ng w g))):=X9 (by omega)
 have Xn:∀ {β:Type} (k:TV->TH->Option β),Xd TC (tc (d+82)) Zh (.fn (.func 161) [] [.ptr (Zb H+3) 0,.ptr (Zb H+5) 0,.ptr (Zb H) 0,.ptr (Zb H+7) 0]) [tN (Ng w g),tN 0] G k=k (.Xh []) (Ys H w h g Zq (rB c' m bl) n r):=λk=>
  Yo rfl (by rw [hG];exact hwk)
 show Za (C113 (tc (d+82)) Zh (Zb H) (.agg (Qz w h g Zq),rB c' m bl,Zk,Zk,Zk,Zk,Zk,Zk,Zk,Zk,()) H) _=_;simp only [C113,VV,Us,<- hA1,n1,<- hA2,l2,Xz,ct,show se (tN n)=some (.int .i64 (.ofNat n)) from rfl,es8,n2,<- hA3,n3,s4,l4,es1,n4,<- hA5,n5,s6,n6,<- hA7,n7,s8,s9,lg,tt,lf,lw,z1,z2,z3,z4,z5,Xn,lv];rfl
end
end
end Go.Proofs.YtgemobbfikjmoaaGreatDoor
namespace Go.Proofs.YtgemobbfikjmoaaGreatDoor
open Go Go.Ev
set_option maxRecDepth 100000
noncomputable section
def L3 (nx:Nat->Nat) (set:Nat):List Nat->Nat->Nat
 |[],out=>out
 |c::l,out=>L3 nx set l (Nat.lor out (Nat.land (nx c) set))
def Dx (nx:Nat->Nat) (set:Nat):Nat->Nat->Option Nat
 |0,_=>none
 |f+1,s=>cond (Nat.beq (L3 nx set (Xu s) s) s) (some (L3 nx set (Xu s) s)) (Dx nx set f (L3 nx set (Xu s) s))
theorem db {nx:Nat->Nat} {set:Nat} (Ut:set < 65536):∀ (l:List Nat) {out:Nat},out < 65536->L3 nx set l out < 65536
 |[],_,h=>h
 |c::l,out,h=>db Ut l (by
  show out ||| (nx c &&& set) < 65536
  exact Nat.or_lt_two_pow (n:=16) h (Nat.lt_of_le_of_lt Nat.and_le_right Ut))
theorem Zi9 (d Zh:Nat) {w h g b c:Nat} {Zq:List Nat} {H:TH} (G4:Zq.length=16) (hc:c < 16) (hb:H[b]? = some (.cells (Qz w h g Zq))) :
  tc (d+1) Zh 171 [tN c,.ptr b 0] H=some (tU (Zq[c]?.getD 0),H):=by
 rw [Y4 (F:=F171) (by kernel_rfl)]
 have e:Zq[c]? = some (Zq[c]?.getD 0):=by rw [List.getElem?_eq_getElem (by omega)];rfl
 have i1:Qt 16 1 (.ptr b (0+3)) (tN c)=some (.ptr b (0+3+c * 1)):=G9 hc;have l1:∀ {β:Type} (k:TV->TH->Option β),loadT .settle Zh (Zb H) false 1 H (.ptr b (0+3+c * 1)) k=k (tU (Zq[c]?.getD 0)) H:=λk=>Zx hb (Zaj e) rfl rfl;show Za (C171 (tc d) Zh (Zb H) (tN c,.ptr b 0,Zk,()) H) _=_;simp only [C171,VV,i1,l1,Z6 X8,Xc]
end
end Go.Proofs.YtgemobbfikjmoaaGreatDoor
namespace Go.Proofs.YtgemobbfikjmoaaGreatDoor
open Go Go.Ev
set_option maxRecDepth 100000
noncomputable section
theorem yi (d Zh:Nat) {gg s0 set r f:Nat} {l m:List TV} {nx:Nat->Nat} {H:TH} (hf:f < 90000) (hs0:s0 < 65536) (Ut:set < 65536) (hnx:∀ c,c < 16->nx c < 18446744073709551616)
  (hnext:∀ c,c < 16->∀ {β:Type} (k:TV->TH->Option β),Xd TC (tc (d+3)) Zh (.fn (.func gg) l m) [tN c] H k=k (tU (nx c)) H) (hr:Dx nx set f s0=some r) :
  tc (d+4) Zh 170 [tU s0,tU set,.fn (.func gg) l m] H=some (tU r,H):=by
 rw [Y4 (F:=F170) (by kernel_rfl)]
 have key:Qg (C170 (tc (d+3)) Zh (Zb H) (tU s0,tU set,.fn (.func gg) l m,Zk,Zk,Zk,Zk,Zk,Zk,Zk,Zk,()) H)
   λe S H1=>e=.ret/\S.2.2.2.1=tU r/\H1=H:=by
  simp only [C170,VV];refine Qg.bl (Q1:=λe S H1=>e=.ret/\S.2.2.2.1=tU r/\H1=H) ?_ (λS H h=>by cases h.1) (λi S H h=>by cases h.1) (λS H h=>h)
  refine Qg.loop (λk S H1=>∃ s,S.1=tU s/\S.2.1=tU set/\S.2.2.1=.fn (.func gg) l m/\H1=H/\s < 65536/\Dx nx set k s=some r) ?_ fuel f _ _ (by rw [Yg];omega) ⟨s0,rfl,rfl,rfl,rfl,hs0,hr⟩
  rintro k S H1 ⟨s,g0,g1,g2,rfl,hs,Qx⟩;cases k with
  |zero=>cases Qx
  |succ k=>
   obtain ⟨out,Zbq⟩:∃ out,out=L3 nx set (Xu s) s:=⟨_,rfl⟩;have hol:out < 65536:=by rw [Zbq];exact db Ut _ hs
   have Qx:cond (Nat.beq (L3 nx set (Xu s) s) s) (some (L3 nx set (Xu s) s)) (Dx nx set k (L3 nx set (Xu s) s))=some r:=Qx;rw [<- Zbq] at Qx;obtain ⟨bs,ll⟩:∃ bs,bs=Xu s:=⟨_,rfl⟩;rw [<- ll] at Zbq;have Ze1:∀ x∈bs,x < 16:=λx hx=>R7 _ hs x (ll ▸ hx);have Pq:bs.length < 80000:=by rw [ll];exact Nat.lt_of_le_of_lt (K6 _) (by decide)
   simp only [VV,g0,g1,g2,Lq d (show s < 18446744073709551616 by omega),<- ll,Zz (bs.map tN),List.length_map]
   refine Qg.bl (Q1:=λe S H2=>(e=.normal/\S.1=tU out/\S.2.1=tU set/\S.2.2.1=.fn (.func gg) l m/\H2=H1/\Nat.beq out s=false)\/(e=.ret/\S.2.2.2.1=tU out/\H2=H1/\Nat.beq out s=true)) ?_ ?_ ?_ ?_
   ·refine Qg.su (k:=bs.length) (λk S H2=>∃ j o,S.1=tU s/\S.2.1=tU set/\S.2.2.1=.fn (.func gg) l m/\S.2.2.2.2.1=tU o/\S.2.2.2.2.2.2.1=Xj 3 1 (bs.map tN)/\S.2.2.2.2.2.2.2.1=tN bs.length/\S.2.2.2.2.2.2.2.2.1=tN j/\H2=H1/\o < 65536/\j<=bs.length/\k=bs.length - j/\out=L3 nx set (bs.drop j) o)
     (λS H2=>S.1=tU s/\S.2.1=tU set/\S.2.2.1=.fn (.func gg) l m/\S.2.2.2.2.1=tU out/\H2=H1) (λ_ _=>False) ?_ (by rw [Yg];omega)
     ⟨0,s,rfl,rfl,rfl,rfl,rfl,rfl,rfl,rfl,hs,Nat.zero_le _,rfl,Zbq⟩ ?_ (λ_ _ h=>h.elim)
    ·rintro k S H2 ⟨j,o,g0,g1,g2,g4,g6,g7,g8,rfl,ho,hj,rfl,Is⟩;rcases Nat.eq_or_lt_of_le hj with hj |hj
     ·rw [hj,List.drop_length] at Is;have Is:out=o:=Is;simp only [VV,g0,g1,g2,g4,g6,g7,g8,Ql,Kf (Nat.le_of_eq hj.symm)];exact .fin (.inr (.inl ⟨rfl,rfl,rfl,rfl,by rw [Is],rfl⟩))
     ·obtain ⟨x,hx⟩:∃ x,x=bs[j]:=⟨_,rfl⟩;have hx16:x < 16:=by rw [hx];exact Ze1 _ (List.getElem_mem hj)
      have J8:(bs.map tN)[j]? = some (tN x):=by rw [List.getElem?_map,List.getElem?_eq_getElem hj,hx];rfl
      have C9:Xj 3 1 (bs.map tN)=.row .Jf (.own 3) 1 (bs.map tN):=by
       cases hx:bs.map tN with
       |nil=>rw [hx] at J8;cases J8
       |cons=>rfl
      rw [List.drop_eq_getElem_cons hj,<- hx] at Is;have Is:out=L3 nx set (bs.drop (j+1)) (o ||| (nx x &&& set)):=Is
      have h1:=hnx x hx16;have h2:nx x &&& set < 65536:=Nat.lt_of_le_of_lt Nat.and_le_right Ut;have z1:Km (.int .u64 (.ofNat (nx x))) (.int .u64 (.ofNat set))=some (.int .u64 (.ofNat (nx x &&& set))):=Cl (by omega) (by omega)
      have z2:Ep (.int .u64 (.ofNat o)) (.int .u64 (.ofNat (nx x &&& set)))=some (.int .u64 (.ofNat (o ||| (nx x &&& set)))):=uh (by omega) (by omega)
      have a3:Z0 (.int .i64 (.ofNat j)) (.int .i64 (.ofNat 1))=some (.int .i64 (.ofNat (j+1))):=X9 (by omega)
      have Xn:=λ{β:Type} (k:TV->TH->Option β)=>hnext x hx16 k;simp only [VV,g0,g1,g2,g4,g6,g7,g8,Ql,Xo hj,C9,Qe J8,Ku (cs:=Zy (tN x)) (off:=0) rfl,Xn,z1,z2,a3];exact .fin (.inl ⟨rfl,bs.length - (j+1),by omega,j+1,_,rfl,rfl,rfl,rfl,rfl,rfl,rfl,rfl,Nat.or_lt_two_pow (n:=16) ho h2,hj,rfl,Is⟩)
    ·rintro S H2 ⟨g0,g1,g2,g4,rfl⟩;have hq:Qn (.ofNat out) (.ofNat s)=Nat.beq out s:=rfl;cases hb:Nat.beq out s with
     |true=>
      simp only [VV,g0,g1,g2,g4,hq,hb];exact .fin (.inr ⟨rfl,rfl,rfl,trivial⟩)
     |false=>
      simp only [VV,g0,g1,g2,g4,hq,hb];exact .fin (.inl ⟨rfl,rfl,rfl,rfl,rfl,trivial⟩)
   ·rintro S H2 (⟨_,k0,k1,k2,rfl,hb⟩ |⟨h,_⟩)
    ·rw [hb] at Qx;exact .inl ⟨rfl,k,Nat.lt_succ_self k,out,k0,k1,k2,rfl,hol,Qx⟩
    ·cases h
   ·rintro i S H2 (⟨h,_⟩ |⟨h,_⟩) <;> cases h
   ·rintro S H2 (⟨h,_⟩ |⟨_,k3,rfl,hb⟩)
    ·cases h
    ·rw [hb] at Qx;have Qx:some out=some r:=Qx;cases Qx;exact .inr ⟨by simp,rfl,k3,rfl⟩
 obtain ⟨e,S,H1,h1,rfl,h2,rfl⟩:=key;show Za (C170 (tc (d+3)) Zh (Zb H1) (tU s0,tU set,.fn (.func gg) l m,Zk,Zk,Zk,Zk,Zk,Zk,Zk,Zk,()) H1) _=_;rw [h1];simp only [Yy,Jm,h2,Wj Vw X8,Xc]
end
end Go.Proofs.YtgemobbfikjmoaaGreatDoor
namespace Go.Proofs.YtgemobbfikjmoaaGreatDoor
open Go Go.Ev
set_option maxRecDepth 100000
noncomputable section
def R8 (w h c:Nat):Nat:=
 let o1:=cond (Nat.blt 0 (c % w)) (Nat.lor 0 (2 ^ (c - 1))) 0;let o2:=cond (Nat.blt (c % w) (w - 1)) (Nat.lor o1 (2 ^ (c+1))) o1;let o3:=cond (Nat.blt 0 (c / w)) (Nat.lor o2 (2 ^ (c - w))) o2
 cond (Nat.blt (c / w) (h - 1)) (Nat.lor o3 (2 ^ (c+w))) o3
theorem Zfp (d Zh:Nat) {w h g c:Nat} {Zq:List Nat} {H:TH} (Th:1<=w) (hw:w<=8) (hh1:1<=h) (hh2:h < 9223372036854775808) (hc:c < 16) :
  tc (d+1) Zh 172 [.agg (Qz w h g Zq),tN c] H=some (tU (R8 w h c),H):=by
 rw [Y4 (F:=F172) (by kernel_rfl)]
 obtain ⟨B,hB⟩:∃ B,B=Zv H (.cells (Qz w h g Zq)):=⟨_,rfl⟩;have hb:B[Zb H]? = some (.cells (Qz w h g Zq)):=by rw [hB];exact Qf
 have ht:X7 B (Zb H)=H:=by rw [hB];exact Jt
 have hs:Z2 Vj (Qz w h g Zq)=true:=Jn w h g Zq;have lw:∀ {β:Type} (k:TV->TH->Option β),loadT .Xi Zh (Zb H) false 1 B (.ptr (Zb H) (0+0)) k=k (tN w) B:=λk=>Zx hb (B7 ..) rfl rfl;have lh:∀ {β:Type} (k:TV->TH->Option β),loadT .Xi Zh (Zb H) false 1 B (.ptr (Zb H) (0+1)) k=k (tN h) B:=λk=>Zx hb (di ..) rfl rfl
 have jl:∀ n:Nat,n < 32->Y8 (.int .u64 (.ofNat 1)) (.int .i64 (.ofNat n))=some (.int .u64 (.ofNat (2 ^ n))):=λn hn=>by
  have:2 ^ n<=2 ^ 32:=Nat.pow_le_pow_right (by decide) (by omega)
  rw [Mz (by omega) (by rw [Nat.one_mul];omega),Nat.one_mul]
 have hp:∀ n:Nat,n < 32->2 ^ n < 2 ^ 32:=λn hn=>Nat.pow_lt_pow_right (by decide) hn
 have af:∀ a n:Nat,a < 2 ^ 32->n < 32->Ep (.int .u64 (.ofNat a)) (.int .u64 (.ofNat (2 ^ n)))=some (.int .u64 (.ofNat (Nat.lor a (2 ^ n))))/\Nat.lor a (2 ^ n) < 2 ^ 32:=λa n ha hn=>by
  have:=hp n hn;exact ⟨uh (by omega) (by omega),Nat.or_lt_two_pow ha this⟩
 have y1:c % w<=c:=Nat.mod_le ..;have y2:c / w<=c:=Nat.div_le_self ..;have z1:Y1 (.int .i64 (.ofNat c)) (.int .i64 (.ofNat w))=some (.int .i64 (.ofNat (c % w))):=Gu Th;have z2:Jp (.int .i64 (.ofNat c)) (.int .i64 (.ofNat w))=some (.int .i64 (.ofNat (c / w))):=Pe Th (by omega)
 have z3:Qq (.int .i64 (.ofNat w)) (.int .i64 (.ofNat 1))=some (.int .i64 (.ofNat (w - 1))):=Uc Th (by omega)
 obtain ⟨o1,ho1⟩:∃ o1,o1=cond (Nat.blt 0 (c % w)) (Nat.lor 0 (2 ^ (c - 1))) 0:=⟨_,rfl⟩;obtain ⟨o2,iv⟩:∃ o2,o2=cond (Nat.blt (c % w) (w - 1)) (Nat.lor o1 (2 ^ (c+1))) o1:=⟨_,rfl⟩;obtain ⟨o3,ho3⟩:∃ o3,o3=cond (Nat.blt 0 (c / w)) (Nat.lor o2 (2 ^ (c - w))) o2:=⟨_,rfl⟩;obtain ⟨o4,ho4⟩:∃ o4,o4=cond (Nat.blt (c / w) (h - 1)) (Nat.lor o3 (2 ^ (c+w))) o3:=⟨_,rfl⟩;have hb4:R8 w h c=o4:=by rw [ho4,ho3,iv,ho1];rfl
 rw [hb4]
 have lt1:o1 < 2 ^ 32:=by
  rw [ho1];cases Nat.blt 0 (c % w)
  ·exact Nat.two_pow_pos 32
  ·exact (af 0 (c - 1) (by omega) (by omega)).2
 have lt2:o2 < 2 ^ 32:=by
  rw [iv];cases Nat.blt (c % w) (w - 1)
  ·exact lt1
  ·exact (af o1 (c+1) lt1 (by omega)).2
 have lt3:o3 < 2 ^ 32:=by
  rw [ho3];cases Nat.blt 0 (c / w)
  ·exact lt2
  ·exact (af o2 (c - w) lt2 (by omega)).2
 have key:Qg (C172 (tc d) Zh (Zb H) (.agg (Qz w h g Zq),tN c,Zk,Zk,Zk,Zk,Zk,Zk,Zk,Zk,Zk,()) H) λe S H1=>e=.ret/\S.2.2.2.1=tU o4/\H1=B:=by
  simp only [C172,VV,hs,<- hB,lw,z1,z2,Gg];refine Qg.sq (Q1:=λe S H1=>e=.normal/\S.2.1=tN c/\S.2.2.1=.ptr (Zb H) 0/\S.2.2.2.2.1=tN (c % w)/\S.2.2.2.2.2.1=tN (c / w)/\S.2.2.2.2.2.2.1=tU o1/\H1=B) ?_ ?_ (λi S H h=>by cases h.1) (λS H h=>by cases h.1)
  ·cases b1:Nat.blt 0 (c % w) with
   |false=>rw [b1] at ho1;simp only [VV];exact .fin ⟨rfl,rfl,rfl,rfl,rfl,by rw [ho1];rfl,rfl⟩
   |true=>
    rw [b1] at ho1;rw [Nat.blt_eq] at b1;have z4:Qq (.int .i64 (.ofNat c)) (.int .i64 (.ofNat 1))=some (.int .i64 (.ofNat (c - 1))):=Uc (by omega) (by omega)
    simp only [VV,z4,jl (c - 1) (by omega),(af 0 (c - 1) (by omega) (by omega)).1]
    exact .fin ⟨rfl,rfl,rfl,rfl,rfl,by rw [ho1];rfl,rfl⟩
  ·rintro S H1 ⟨_,k1,k2,k4,k5,k6,k7⟩;rw [k7];simp only [VV,k1,k2,k4,k5,k6,lw,z3,Ql];refine Qg.sq (Q1:=λe S H1=>e=.normal/\S.2.1=tN c/\S.2.2.1=.ptr (Zb H) 0/\S.2.2.2.2.1=tN (c % w)/\S.2.2.2.2.2.1=tN (c / w)/\S.2.2.2.2.2.2.1=tU o2/\H1=B) ?_ ?_ (λi S H h=>by cases h.1) (λS H h=>by cases h.1)
   ·cases b1:Nat.blt (c % w) (w - 1) with
    |false=>rw [b1] at iv;simp only [VV];exact .fin ⟨rfl,rfl,rfl,rfl,rfl,by rw [iv];rfl,rfl⟩
    |true=>
     rw [b1] at iv;have z4:Z0 (.int .i64 (.ofNat c)) (.int .i64 (.ofNat 1))=some (.int .i64 (.ofNat (c+1))):=X9 (by omega)
     simp only [VV,z4,jl (c+1) (by omega),(af o1 (c+1) lt1 (by omega)).1]
     exact .fin ⟨rfl,rfl,rfl,rfl,rfl,by rw [iv];rfl,rfl⟩
   ·rintro S H1 ⟨_,k1,k2,k4,k5,k6,k7⟩;rw [k7];simp only [VV,k1,k2,k4,k5,k6,Gg];refine Qg.sq (Q1:=λe S H1=>e=.normal/\S.2.1=tN c/\S.2.2.1=.ptr (Zb H) 0/\S.2.2.2.2.1=tN (c % w)/\S.2.2.2.2.2.1=tN (c / w)/\S.2.2.2.2.2.2.1=tU o3/\H1=B) ?_ ?_ (λi S H h=>by cases h.1) (λS H h=>by cases h.1)
    ·cases b1:Nat.blt 0 (c / w) with
     |false=>rw [b1] at ho3;simp only [VV];exact .fin ⟨rfl,rfl,rfl,rfl,rfl,by rw [ho3];rfl,rfl⟩
     |true=>
      rw [b1] at ho3;rw [Nat.blt_eq] at b1
      have hwc:w<=c:=by
       rcases Nat.lt_or_ge c w with hx |hx
       ·rw [Nat.div_eq_of_lt hx] at b1;omega
       ·exact hx
      have z4:Qq (.int .i64 (.ofNat c)) (.int .i64 (.ofNat w))=some (.int .i64 (.ofNat (c - w))):=Uc hwc (by omega)
      simp only [VV,lw,z4,jl (c - w) (by omega),(af o2 (c - w) lt2 (by omega)).1]
      exact .fin ⟨rfl,rfl,rfl,rfl,rfl,by rw [ho3];rfl,rfl⟩
    ·rintro S H1 ⟨_,k1,k2,k4,k5,k6,k7⟩;rw [k7];have z5:Qq (.int .i64 (.ofNat h)) (.int .i64 (.ofNat 1))=some (.int .i64 (.ofNat (h - 1))):=Uc hh1 hh2;simp only [VV,k1,k2,k4,k5,k6,lh,z5,Ql];cases b1:Nat.blt (c / w) (h - 1) with
     |false=>rw [b1] at ho4;simp only [VV];exact .fin ⟨rfl,by rw [ho4];rfl,rfl⟩
     |true=>
      rw [b1] at ho4;have z4:Z0 (.int .i64 (.ofNat c)) (.int .i64 (.ofNat w))=some (.int .i64 (.ofNat (c+w))):=X9 (by omega)
      simp only [VV,lw,z4,jl (c+w) (by omega),(af o3 (c+w) lt3 (by omega)).1]
      exact .fin ⟨rfl,by rw [ho4];rfl,rfl⟩
 obtain ⟨e,S,H1,h1,rfl,h2,h3⟩:=key;show Za (C172 (tc d) Zh (Zb H) (.agg (Qz w h g Zq),tN c,Zk,Zk,Zk,Zk,Zk,Zk,Zk,Zk,Zk,()) H) _=_;rw [h1,h3];simp only [Yy,Jm,h2,Vc,W1,Vw,S0,G0,Z6 X8,ht]
end
end Go.Proofs.YtgemobbfikjmoaaGreatDoor
namespace Go.Proofs.YtgemobbfikjmoaaGreatDoor
open Go Go.Ev
set_option maxRecDepth 100000
noncomputable section
theorem Ziu (d Zh:Nat) {w h g b u:Nat} {Zq:List Nat} {H:TH} (hb:H[b]? = some (.cells (Qz w h g Zq))) :
  tc (d+1) Zh 158 [tU u,.ptr b 0] H=some (tB (!Nat.beq u g),H):=by
 rw [Y4 (F:=F158) (by kernel_rfl)]
 have lg:∀ {β:Type} (k:TV->TH->Option β),loadT .Xi Zh (Zb H) false 1 H (.ptr b (0+2)) k=k (tU g) H:=λk=>Zx hb (Tg ..) rfl rfl;have hq:Qn (.ofNat u) (.ofNat g)=Nat.beq u g:=rfl;show Za (C158 (tc d) Zh (Zb H) (tU u,.ptr b 0,Zk,()) H) _=_;simp only [C158,VV,lg,hq,Z6 X8,Xc]
end
end Go.Proofs.YtgemobbfikjmoaaGreatDoor
namespace Go.Proofs.YtgemobbfikjmoaaGreatDoor
open Go Go.Ev
set_option maxRecDepth 100000
noncomputable section
def Zch (w h c:Nat):Bool:=Nat.beq (Eh (Eh (Eh (c % w) (c / w)) (w - 1 - c % w)) (h - 1 - c / w)) 0
def od (w h:Nat):List Nat->Nat->Nat
 |[],e=>e
 |c::l,e=>od w h l (cond (Zch w h c) (Nat.lor e (2 ^ c)) e)
def badM (w h g:Nat):Nat:=Iu (2 ^ (w * h) - 1) g
def isO (n:Nat):Option Nat->Bool
 |some m=>Nat.beq m n
 |none=>false
theorem Zoe {n:Nat} {o:Option Nat} (h:isO n o=true):o=some n:=by
 cases o with
 |none=>cases h
 |some m=>have h:Nat.beq m n=true:=h;rw [Nat.eq_of_beq_eq_true h]
def Gk (w h g:Nat) (Zq:List Nat):Bool:=
 cond (Nat.beq g 0) false (cond (isO g (Dx (λc=>Zq[c]?.getD 0) g 40 (2 ^ low 64 g))) (isO (badM w h g) (Dx (R8 w h) (badM w h g) 40 (od w h (Xu (badM w h g)) 0))) false)
theorem neg_u {s:Nat} (h0:s≠0) (hs:s < 18446744073709551616):Cg (.int .u64 (.ofNat s))=some (.int .u64 (.ofNat (18446744073709551616 - s))):=by
 show some (Value.int .u64 (Jl .u64 (Int.sub 0 (.ofNat s))))=_;rw [Jk,IntKind.wrap_u64]
 have:(Int.sub 0 (Int.ofNat s)) % 18446744073709551616=Int.ofNat (18446744073709551616 - s):=by
  show (0 - (s:Int)) % 18446744073709551616=((18446744073709551616 - s:Nat):Int);omega
 rw [this]
theorem Zcg {w h:Nat}:∀ (l:List Nat) {e:Nat},e < 65536->(∀ c∈l,c < 16)->od w h l e < 65536
 |[],_,he,_=>he
 |c::l,e,he,hl=>by
  refine Zcg l ?_ (λx hx=>hl x (List.mem_cons_of_mem _ hx));cases Zch w h c with
  |false=>exact he
  |true=>exact Nat.or_lt_two_pow (n:=16) he (Nat.pow_lt_pow_right (by decide) (hl c List.mem_cons_self))
theorem Zk4 {w h c:Nat} (hc:c < 16) (hw:w<=8):R8 w h c < 4294967296:=by
 have hp:∀ n:Nat,n < 32->2 ^ n < 2 ^ 32:=λn hn=>Nat.pow_lt_pow_right (by decide) hn
 have ho:∀ a n:Nat,a < 2 ^ 32->n < 32->∀ b:Bool,cond b (Nat.lor a (2 ^ n)) a < 2 ^ 32:=λa n ha hn b=>by
  cases b with
  |false=>exact ha
  |true=>exact Nat.or_lt_two_pow ha (hp n hn)
 unfold R8;exact ho _ _ (ho _ _ (ho _ _ (ho _ _ (by decide) (by omega) _) (by omega) _) (by omega) _) (by omega) _
theorem Zhy (d:Nat) {w h g:Nat} {Zq:List Nat} (Th:1<=w) (hw:w<=8) (hh1:1<=h) (hh:h<=8) (Zex:w * h<=16) (hg:g < 65536) (G4:Zq.length=16) (Kt:∀ x∈Zq,x < 65536) (hr:Gk w h g Zq=true) :
  tc (d+5) 0 128 [.agg (Qz w h g Zq)] []=some (tB true,[]):=by
 rw [Y4 (F:=F128) (by kernel_rfl)]
 obtain ⟨bd,hbd⟩:∃ bd,bd=badM w h g:=⟨_,rfl⟩;obtain ⟨ed,hed⟩:∃ ed,ed=od w h (Xu bd) 0:=⟨_,rfl⟩;have hp16:2 ^ (w * h)<=2 ^ 16:=Nat.pow_le_pow_right (by decide) Zex
 have hp1:0 < 2 ^ (w * h):=Nat.two_pow_pos _;have Pq:bd < 65536:=by rw [hbd];exact Ff (show 2 ^ (w * h) - 1 < 65536 by omega)
 have Ze1:=R7 bd Pq;have J8:ed < 65536:=by rw [hed];exact Zcg _ (by decide) Ze1
 unfold Gk at hr;rw [<- hbd,<- hed] at hr
 have hg0:Nat.beq g 0=false:=by
  cases hb:Nat.beq g 0 with
  |false=>rfl
  |true=>rw [hb] at hr;cases hr
 rw [hg0] at hr;have hr:cond (isO g (Dx (λc=>Zq[c]?.getD 0) g 40 (2 ^ low 64 g))) (isO bd (Dx (R8 w h) bd 40 ed)) false=true:=hr
 have hs1:Dx (λc=>Zq[c]?.getD 0) g 40 (2 ^ low 64 g)=some g:=by
  refine Zoe ?_;cases hb:isO g (Dx (λc=>Zq[c]?.getD 0) g 40 (2 ^ low 64 g)) with
  |true=>rfl
  |false=>rw [hb] at hr;cases hr
 rw [hs1,show isO g (some g)=true from Nat.beq_refl g] at hr;have hs2:Dx (R8 w h) bd 40 ed=some bd:=Zoe hr;have hgne:g≠0:=λe=>by rw [e] at hg0;cases hg0
 obtain ⟨B,hB⟩:∃ B:TH,B=Zv [] (.cells (Qz w h g Zq)):=⟨_,rfl⟩;have az:B[0]? = some (.cells (Qz w h g Zq)):=by rw [hB];rfl
 have hBn:Zb B=1:=by rw [hB];rfl
 have Us:Z2 Vj (Qz w h g Zq)=true:=Jn w h g Zq
 have hps:Z2 Qv (Qz w h g Zq)=true:=by
  rw [Ye];show (true && (true && (true && (Zq.map tU).all Qv)))=true;rw [List.all_map];have:Zq.all (Qv ∘ tU)=true:=by rw [List.all_eq_true];intro x _;rfl
  rw [this];rfl
 have hno:Z2 X3 B=true:=by
  rw [hB];show cond (X3 (.cells (Qz w h g Zq))) true false=true
  have:X3 (.cells (Qz w h g Zq))=true:=by
   show Z2 (λx=>!Xs x) (Qz w h g Zq)=true;rw [Ye];show (true && (true && (true && (Zq.map tU).all λx=>!Xs x)))=true;rw [List.all_map];have:Zq.all ((λx=>!Xs x) ∘ tU)=true:=by rw [List.all_eq_true];intro x _;rfl
   rw [this];rfl
  rw [this];rfl
 have lw:∀ {β:Type} (k:TV->TH->Option β),loadT .Xi 0 0 false 1 B (.ptr 0 (0+0)) k=k (tN w) B:=λk=>Zx az (B7 ..) rfl rfl;have lh:∀ {β:Type} (k:TV->TH->Option β),loadT .Xi 0 0 false 1 B (.ptr 0 (0+1)) k=k (tN h) B:=λk=>Zx az (di ..) rfl rfl;have lg:∀ {β:Type} (md:Ld) (k:TV->TH->Option β),loadT md 0 0 false 1 B (.ptr 0 (0+2)) k=k (tU g) B:=λmd k=>Zx az (Tg ..) rfl rfl;have lp:∀ {β:Type} (md:Ld) (k:TV->TH->Option β),loadT md 0 0 true 19 B (.ptr 0 0) k=k (.agg (Qz w h g Zq)) B:=λmd k=>K3 az G4;have z1:Y2 (.int .i64 (.ofNat w)) (.int .i64 (.ofNat h))=some (.int .i64 (.ofNat (w * h))):=M7 (by omega)
 have z2:Y8 (.int .u64 (.ofNat 1)) (.int .i64 (.ofNat (w * h)))=some (.int .u64 (.ofNat (2 ^ (w * h)))):=by rw [Mz (by omega) (by omega),Nat.one_mul]
 have z3:Qq (.int .u64 (.ofNat (2 ^ (w * h)))) (.int .u64 (.ofNat 1))=some (.int .u64 (.ofNat (2 ^ (w * h) - 1))):=Zlq (by omega) (by omega)
 have z4:Y6 (.int .u64 (.ofNat (2 ^ (w * h) - 1))) (.int .u64 (.ofNat g))=some (.int .u64 (.ofNat bd)):=by rw [hbd];exact P3 (by omega) (by omega)
 have q1:∀ H,Zm (tc (d+4)) 100 [tU bd] H=some (Xj 3 1 ((Xu bd).map tN)):=λH=>Lq (d+1) (by omega)
 obtain ⟨bs,ll⟩:∃ bs,bs=Xu bd:=⟨_,rfl⟩;rw [<- ll] at hed q1 Ze1;have hbsl:bs.length < 80000:=by rw [ll];exact Nat.lt_of_le_of_lt (K6 _) (by decide)
 have lbs:Zb (bs.map tN)=bs.length:=by rw [Zz,List.length_map]
 have key:Qg (C128 (tc (d+4)) 0 0 (.agg (Qz w h g Zq),Zk,Zk,Zk,Zk,Zk,Zk,Zk,Zk,Zk,Zk,Zk,Zk,()) [])
   λe S H1=>e=.ret/\S.2.2.1=tB true/\H1=B:=by
  simp only [C128,VV,show Zb ([]:TH)=0 from rfl,Us,<- hB,lw,lh,lg,z1,z2,z3,z4,q1,lbs]
  refine Qg.su (k:=bs.length) (λk S H1=>∃ j e,S.2.1=.ptr 0 0/\S.2.2.2.1=tU bd/\S.2.2.2.2.1=tU e/\S.2.2.2.2.2.2.2.2.1=Xj 3 1 (bs.map tN)/\S.2.2.2.2.2.2.2.2.2.1=tN bs.length/\S.2.2.2.2.2.2.2.2.2.2.1=tN j/\H1=B/\e < 65536/\j<=bs.length/\k=bs.length - j/\ed=od w h (bs.drop j) e)
   (λS H1=>S.2.1=.ptr 0 0/\S.2.2.2.1=tU bd/\S.2.2.2.2.1=tU ed/\H1=B) (λ_ _=>False) ?_ (by rw [Yg];omega)
   ⟨0,0,rfl,rfl,rfl,rfl,rfl,rfl,rfl,by decide,Nat.zero_le _,rfl,hed⟩ ?_ (λ_ _ h=>h.elim)
  ·rintro k S H1 ⟨j,e,g1,g3,g4,g8,g9,J9,Jj,he,hj,rfl,Is⟩;rw [Jj];rcases Nat.eq_or_lt_of_le hj with hj |hj
   ·rw [hj,List.drop_length] at Is;have Is:ed=e:=Is;simp only [VV,g1,g3,g4,g8,g9,J9,Ql,Kf (Nat.le_of_eq hj.symm)];exact .fin (.inr (.inl ⟨rfl,rfl,rfl,by rw [Is],rfl⟩))
   ·obtain ⟨c,hc⟩:∃ c,c=bs[j]:=⟨_,rfl⟩;have ar:c < 16:=by rw [hc];exact Ze1 _ (List.getElem_mem hj)
    have J8:(bs.map tN)[j]? = some (tN c):=by rw [List.getElem?_map,List.getElem?_eq_getElem hj,hc];rfl
    have C9:Xj 3 1 (bs.map tN)=.row .Jf (.own 3) 1 (bs.map tN):=by
     cases hx:bs.map tN with
     |nil=>rw [hx] at J8;cases J8
     |cons=>rfl
    rw [List.drop_eq_getElem_cons hj,<- hc] at Is;have Is:ed=od w h (bs.drop (j+1)) (cond (Zch w h c) (Nat.lor e (2 ^ c)) e):=Is;have y1:c % w < w:=Nat.mod_lt _ Th
    have hcb:c < w * h:=by
     have hm:c∈Xu bd:=by rw [<- ll,hc];exact List.getElem_mem hj
     have ht:=(Zcb (show bd < 18446744073709551616 by omega)).1 hm
     rw [hbd] at ht;unfold badM at ht;rw [vi (by omega) hg,Bool.and_eq_true,Nat.testBit_two_pow_sub_one] at ht
     exact of_decide_eq_true ht.1
    have y2:c / w < h:=by rw [Nat.div_lt_iff_lt_mul Th,Nat.mul_comm];exact hcb
    have z5:Y1 (.int .i64 (.ofNat c)) (.int .i64 (.ofNat w))=some (.int .i64 (.ofNat (c % w))):=Gu Th;have z6:Jp (.int .i64 (.ofNat c)) (.int .i64 (.ofNat w))=some (.int .i64 (.ofNat (c / w))):=Pe Th (by omega)
    have z7:Qq (.int .i64 (.ofNat w)) (.int .i64 (.ofNat 1))=some (.int .i64 (.ofNat (w - 1))):=Uc Th (by omega)
    have z8:Qq (.int .i64 (.ofNat (w - 1))) (.int .i64 (.ofNat (c % w)))=some (.int .i64 (.ofNat (w - 1 - c % w))):=Uc (by omega) (by omega)
    have z9:Qq (.int .i64 (.ofNat h)) (.int .i64 (.ofNat 1))=some (.int .i64 (.ofNat (h - 1))):=Uc hh1 (by omega)
    have Uh:Qq (.int .i64 (.ofNat (h - 1))) (.int .i64 (.ofNat (c / w)))=some (.int .i64 (.ofNat (h - 1 - c / w))):=Uc (by omega) (by omega)
    have Iv:Qn (.ofNat (Eh (Eh (Eh (c % w) (c / w)) (w - 1 - c % w)) (h - 1 - c / w))) (.ofNat 0)=Zch w h c:=rfl;have hpc:2 ^ c < 65536:=Nat.pow_lt_pow_right (n:=16) (by decide) ar
    have Oj:Y8 (.int .u64 (.ofNat 1)) (.int .i64 (.ofNat c))=some (.int .u64 (.ofNat (2 ^ c))):=by rw [Mz (by omega) (by omega),Nat.one_mul]
    have Te:Ep (.int .u64 (.ofNat e)) (.int .u64 (.ofNat (2 ^ c)))=some (.int .u64 (.ofNat (Nat.lor e (2 ^ c)))):=uh (by omega) (by omega)
    have a3:Z0 (.int .i64 (.ofNat j)) (.int .i64 (.ofNat 1))=some (.int .i64 (.ofNat (j+1))):=X9 (by omega)
    cases hb:Zch w h c with
    |true=>
     rw [hb] at Is Iv;simp only [VV,g1,g3,g4,g8,g9,J9,Ql,Xo hj,C9,Qe J8,Ku (cs:=Zy (tN c)) (off:=0) rfl,lw,lh,z5,z6,z7,z8,z9,Uh,X5,J6,Iv,Oj,Te,a3];exact .fin (.inl ⟨rfl,bs.length - (j+1),by omega,j+1,_,rfl,rfl,rfl,rfl,rfl,rfl,rfl,Nat.or_lt_two_pow (n:=16) he hpc,hj,rfl,Is⟩)
    |false=>
     rw [hb] at Is Iv;simp only [VV,g1,g3,g4,g8,g9,J9,Ql,Xo hj,C9,Qe J8,Ku (cs:=Zy (tN c)) (off:=0) rfl,lw,lh,z5,z6,z7,z8,z9,Uh,X5,J6,Iv,a3];exact .fin (.inl ⟨rfl,bs.length - (j+1),by omega,j+1,_,rfl,rfl,rfl,rfl,rfl,rfl,rfl,he,hj,rfl,Is⟩)
  ·rintro S H1 ⟨g1,g3,g4,Jj⟩;rw [Jj];have e0:Qn (.ofNat g) (.ofNat 0)=false:=hg0;have hn:Cg (.int .u64 (.ofNat g))=some (.int .u64 (.ofNat (18446744073709551616 - g))):=neg_u hgne (by omega)
   have ha:Km (.int .u64 (.ofNat g)) (.int .u64 (.ofNat (18446744073709551616 - g)))=some (.int .u64 (.ofNat (2 ^ low 64 g))):=by rw [Cl (by omega) (by omega),ff 64 g hgne (by omega)]
   have uk:=tm hgne hg;have Ns:2 ^ low 64 g < 65536:=Nat.pow_lt_pow_right (n:=16) (by decide) uk
   have c1:∀ {β:Type} (k:TV->TH->Option β),Qo (tc (d+4)) (Zb B) 170 [tU (2 ^ low 64 g),tU g,.fn (.func 171) [] [.ptr 0 0]] B k=k (tU g) B:=λk=>
    Xx rfl (yi d _ (by decide) Ns hg (λc hc=>by
     have e:Zq[c]? = some (Zq[c]?.getD 0):=by rw [List.getElem?_eq_getElem (by omega)];rfl
     exact Nat.lt_trans (Kt _ (List.mem_of_getElem? e)) (by decide)) (λc hc {β} k=>Yo rfl (Zi9 (d+2) _ G4 hc az)) hs1)
   have c2:∀ {β:Type} (k:TV->TH->Option β),Qo (tc (d+4)) 0 170 [tU ed,tU bd,.fn (.func 172) [.agg (Qz w h g Zq)] []] B k=k (tU bd) B:=λk=>
    Xx rfl (yi d _ (by decide) J8 Pq (λc hc=>Nat.lt_trans (Zk4 hc hw) (by decide)) (λc hc {β} k=>Yo (by simp only [List.append_nil,List.cons_append,List.nil_append,VV,hps]) (Zfp (d+2) _ Th hw hh1 (by omega) hc)) hs2)
   have e1:Qn (.ofNat g) (.ofNat g)=true:=Nat.beq_refl g;have e2:Qn (.ofNat bd) (.ofNat bd)=true:=Nat.beq_refl bd;simp only [VV,g1,g3,g4,lg,e0,Bool.not_false,Bool.not_true,hn,ha,hno,c1,e1,lp,Xz,hps,c2,e2];exact .fin ⟨rfl,rfl,rfl⟩
 obtain ⟨e,S,H1,h1,rfl,h2,rfl⟩:=key;show Za (C128 (tc (d+4)) 0 0 (.agg (Qz w h g Zq),Zk,Zk,Zk,Zk,Zk,Zk,Zk,Zk,Zk,Zk,Zk,Zk,()) []) _=_;rw [h1,hB];simp only [Yy,Jm,h2,Wj Vw X8];rfl
end
end Go.Proofs.YtgemobbfikjmoaaGreatDoor
namespace Go.Proofs.YtgemobbfikjmoaaGreatDoor
open Go Go.Ev
set_option maxRecDepth 100000
noncomputable section
theorem Zbi (call:Z3) (Zh:Nat) {c:Cp} {n g:Nat} {m:List TV} (zs:List Nat) (hn:zs≠[]->n=1) (p:Nat->Bool) {H:TH} (hlen:zs.length < 90000) (hm:Z2 pass m=true)
  (hp:∀ z∈zs,call Zh g ([tU z]++m) H=some (tB (p z),H)) :
  F198 call Zh [.row c .set n (zs.map tU),.fn (.func g) [] m] H=some (tI (Rs (Wx p zs 0)),H):=by
 have key:Qg (C198 call Zh (Zb H) (.row c .set n (zs.map tU),.fn (.func g) [] m,Zk,Zk,Zk,Zk,Zk,Zk,()) H)
   λe S H1=>e=.ret/\S.2.2.1=tI (Rs (Wx p zs 0))/\H1=H:=by
  simp only [C198,VV,Zz,List.length_map]
  refine Qg.su (k:=zs.length) (λk S H1=>∃ j,S.1=.row c .set n (zs.map tU)/\S.2.1=.fn (.func g) [] m/\S.2.2.2.2.1=tN zs.length/\S.2.2.2.2.2.1=tN j/\H1=H/\j<=zs.length/\k=zs.length - j/\Wx p zs 0=Wx p (zs.drop j) j)
   (λ_ H1=>H1=H/\Wx p zs 0=none) (λS H1=>S.2.2.1=tI (Rs (Wx p zs 0))/\H1=H) ?_ (by rw [Yg];omega) ⟨0,rfl,rfl,rfl,rfl,rfl,Nat.zero_le _,rfl,rfl⟩ ?_ (λ_ _ h=>⟨rfl,h⟩)
  ·rintro k S H1 ⟨j,h0,h1,h4,h5,rfl,hj,rfl,Qx⟩;rcases Nat.eq_or_lt_of_le hj with hj |hj
   ·rw [hj,List.drop_length] at Qx;simp only [VV,h0,h1,h4,h5,Ql,Kf (Nat.le_of_eq hj.symm)];exact .fin (.inr (.inl ⟨rfl,rfl,Qx⟩))
   ·have hn1:=hn (by intro h;rw [h] at hj;simp at hj)
    subst hn1;rw [List.drop_eq_getElem_cons hj] at Qx;have Qx:Wx p zs 0=cond (p zs[j]) (some j) (Wx p (zs.drop (j+1)) (j+1)):=Qx;have J8:(zs.map tU)[j]? = some (tU zs[j]):=by rw [List.getElem?_map,List.getElem?_eq_getElem hj];rfl
    have Xn:∀ {β:Type} (k:TV->TH->Option β),Xd TC call Zh (.fn (.func g) [] m) [tU zs[j]] H1 k=k (tB (p zs[j])) H1:=λk=>
     Yo (by show Z2 pass (tU zs[j]::m)=true;rw [Vc,show pass (tU zs[j])=true from rfl];exact hm) (hp _ (List.getElem_mem hj))
    cases hb:p zs[j] with
    |true=>
     rw [hb] at Qx Xn;simp only [VV,h0,h1,h4,h5,Ql,Xo hj,Qe J8,Xn];exact .fin (.inr (.inr ⟨rfl,by rw [Qx];rfl,rfl⟩))
    |false=>
     rw [hb] at Qx Xn;simp only [VV,h0,h1,h4,h5,Ql,Xo hj,Qe J8,Xn,X9 (show j+1 < 9223372036854775808 by omega)]
     exact .fin (.inl ⟨rfl,zs.length - (j+1),by omega,j+1,rfl,rfl,rfl,rfl,rfl,hj,rfl,Qx⟩)
  ·rintro S H1 ⟨rfl,h⟩;simp only [VV];exact .fin ⟨rfl,by rw [h];rfl,rfl⟩
 obtain ⟨e,S,H1,h1,rfl,h2,rfl⟩:=key;show Za (C198 call Zh (Zb H1) (.row c .set n (zs.map tU),.fn (.func g) [] m,Zk,Zk,Zk,Zk,Zk,Zk,()) H1) _=_;rw [h1];simp only [Yy,Jm,h2,Wj Vw X8,Xc]
theorem vp (d Zh:Nat) {c:Cp} {n g:Nat} {m:List TV} (zs:List Nat) (hn:zs≠[]->n=1) (p:Nat->Bool) {H:TH} (hlen:zs.length < 90000) (hm:Z2 pass m=true)
  (hp:∀ z∈zs,tc d Zh g ([tU z]++m) H=some (tB (p z),H)) :
  tc (d+2) Zh 157 [.row c .set n (zs.map tU),.fn (.func g) [] m] H=some (tB (Iy p zs),H):=by
 rw [Y4 (F:=F157) (by kernel_rfl)]
 have Xn:∀ {β:Type} (k:TV->TH->Option β),Qo (tc (d+1)) Zh 198 [.row c .set n (zs.map tU),.fn (.func g) [] m] H k=k (tI (Rs (Wx p zs 0))) H:=λk=>
  Xx (by simp only [VV]) ((Y4 (F:=F198) (by kernel_rfl) ..).trans (Zbi _ _ zs hn p hlen hm hp))
 show Za (C157 (tc (d+1)) Zh (Zb H) (.row c .set n (zs.map tU),.fn (.func g) [] m,Zk,()) H) _=_;simp only [C157,VV,Xn,geq_P,Z6 X8,Xc]
theorem Zdd (d:Nat) {w h g:Nat} {Zq:List Nat} {H:TH} (Th:1<=w) (hw:w<=8) (hh1:1<=h) (hh:h<=8) (Zex:w * h<=16) (hg:g < 65536) (G4:Zq.length=16) (Kt:∀ x∈Zq,x < 65536) (hr:Gk w h g Zq=true) :
  Zm (tc (d+5)) 128 [.agg (Qz w h g Zq)] H=some (tB true):=
 Yc (ws:=[.agg (Qz w h g Zq)]) (H':=[]) (a:=false) (Ek rfl) (Eu rfl) (Zhy d Th hw hh1 hh Zex hg G4 Kt hr) L7
theorem Zmo (d:Nat) {w h g:Nat} {Zq:List Nat} {c:Cp} (us:List Nat) (Th:1<=w) (hw:w<=8) (hh1:1<=h) (hh:h<=8) (Zex:w * h<=16) (hg:g < 65536) (G4:Zq.length=16) (Kt:∀ x∈Zq,x < 65536) (hr:Gk w h g Zq=true)
  (hus:∀ u∈us,u=g) (hul:us.length < 90000) :
  tc (d+6) 0 112 [.agg (Qz w h g Zq),.row c .set 1 (us.map tU)] []=some (tN 0,[]):=by
 rw [Y4 (F:=F112) (by kernel_rfl)]
 obtain ⟨B,hB⟩:∃ B:TH,B=Zv [] (.cells (Qz w h g Zq)):=⟨_,rfl⟩;have az:B[0]? = some (.cells (Qz w h g Zq)):=by rw [hB];rfl
 have Us:Z2 Vj (Qz w h g Zq)=true:=Jn w h g Zq;have lp:∀ {β:Type} (md:Ld) (k:TV->TH->Option β),loadT md 0 0 true 19 B (.ptr 0 0) k=k (.agg (Qz w h g Zq)) B:=λmd k=>K3 az G4;have c1:∀ H,Zm (tc (d+5)) 128 [.agg (Qz w h g Zq)] H=some (tB true):=λH=>Zdd d Th hw hh1 hh Zex hg G4 Kt hr
 have hno:Iy (λu=>!Nat.beq u g) us=false:=by
  cases hb:Iy (λu=>!Nat.beq u g) us with
  |false=>rfl
  |true=>
   rw [Zbw] at hb;obtain ⟨u,hu,h⟩:=hb;rw [hus u hu,Nat.beq_refl] at h;cases h
 have c2:∀ {β:Type} (k:TV->TH->Option β),Qo (tc (d+5)) 0 157 [.row c .set 1 (us.map tU),.fn (.func 158) [] [.ptr 0 0]] B k=k (tB false) B:=λk=>
  Xx rfl (by rw [<- hno];exact vp (d+3) 0 us (λ_=>rfl) (λu=>!Nat.beq u g) hul rfl λz _=>Ziu (d+2) 0 az)
 show Za (C112 (tc (d+5)) 0 0 (.agg (Qz w h g Zq),.row c .set 1 (us.map tU),Zk,Zk,Zk,Zk,()) []) _=_;simp only [C112,VV,show Zb ([]:TH)=0 from rfl,Us,<- hB,lp,Xz,c1,Bool.not_true,c2,Z6 X8];rw [hB];rfl
theorem Zit (d:Nat) {w h g:Nat} {Zq:List Nat} {c:Cp} {H:TH} (us:List Nat) (Th:1<=w) (hw:w<=8) (hh1:1<=h) (hh:h<=8) (Zex:w * h<=16) (hg:g < 65536) (G4:Zq.length=16) (Kt:∀ x∈Zq,x < 65536) (hr:Gk w h g Zq=true)
  (hus:∀ u∈us,u=g) (hul:us.length < 90000) :
  Zm (tc (d+6)) 112 [.agg (Qz w h g Zq),.row c .set 1 (us.map tU)] H=some (tN 0):=
 Yc (ws:=[.agg (Qz w h g Zq),.row c .set 1 (us.map tU)]) (H':=[]) (a:=false) (Ek rfl) (Eu (by cases c <;> rfl)) (Zmo d us Th hw hh1 hh Zex hg G4 Kt hr hus hul) L7
end
end Go.Proofs.YtgemobbfikjmoaaGreatDoor
namespace Go.Proofs.YtgemobbfikjmoaaGreatDoor
open Go Go.Ev
set_option maxRecDepth 100000
noncomputable section
def Ul (a b:Nat):Nat:=(a - b)+(b - a)
def fi (wide a b:Nat):Bool:=Nat.beq (Ul (a % wide) (b % wide) * Ul (a % wide) (b % wide)+Ul (a / wide) (b / wide) * Ul (a / wide) (b / wide)) 1
def I8 (wide x:Nat):List Nat->List Nat->List Nat
 |[],out=>out
 |k::l,out=>I8 wide x l (cond (Yz k out) out (cond (fi wide x k) (out++[k]) out))
def jd (wide:Nat) (l:List Nat):Nat->Nat->List Nat->List Nat
 |0,_,out=>out
 |f+1,i,out=>match out[i]? with
  |none=>out
  |some x=>jd wide l f (i+1) (I8 wide x l out)
def G3 (wide:Nat) (l:List Nat):Bool:=Nat.beq (jd wide l (l.length+1) 0 (l.take 1)).length l.length
def Yk (out:List Nat):List Nat->Nat
 |[]=>0
 |k::l=>cond (Yz k out) (Yk out l) (Yk out l+1)
theorem Ss {x y:Nat} {out:List Nat}:Yz x (out++[y])=true↔Yz x out=true\/x=y:=by
 rw [Wy,List.mem_append,Wy,List.mem_singleton]
theorem gm (out:List Nat) (x:Nat):∀ l:List Nat,Yk (out++[x]) l<=Yk out l
 |[]=>Nat.le_refl 0
 |k::l=>by
  have ih:=gm out x l;show cond (Yz k (out++[x])) (Yk (out++[x]) l) (Yk (out++[x]) l+1)<=cond (Yz k out) (Yk out l) (Yk out l+1);cases h:Yz k out with
  |true=>rw [Ss.2 (.inl h)];exact ih
  |false=>
   cases Yz k (out++[x]) with
   |true=>show Yk (out++[x]) l<=Yk out l+1;omega
   |false=>show Yk (out++[x]) l+1<=Yk out l+1;omega
theorem gk {out:List Nat} {x:Nat} (hx:Yz x out=false):∀ {l:List Nat},x∈l->Yk (out++[x]) l+1<=Yk out l
 |[],h=>by cases h
 |k::l,h=>by
  have ih:=@gk out x hx l;have hle:=gm out x l;show cond (Yz k (out++[x])) (Yk (out++[x]) l) (Yk (out++[x]) l+1)+1<=cond (Yz k out) (Yk out l) (Yk out l+1);rcases List.mem_cons.1 h with h |h
  ·subst h;rw [hx,Ss.2 (.inr rfl)];show Yk (out++[x]) l+1<=Yk out l+1;omega
  ·have ih:=ih h;cases hk:Yz k out with
   |true=>rw [Ss.2 (.inl hk)];exact ih
   |false=>
    cases Yz k (out++[x]) with
    |true=>show Yk (out++[x]) l+1<=Yk out l+1;omega
    |false=>show Yk (out++[x]) l+1+1<=Yk out l+1;omega
theorem x6 (out:List Nat):∀ l:List Nat,Yk out l<=l.length
 |[]=>Nat.le_refl 0
 |k::l=>by
  have ih:=x6 out l;show cond (Yz k out) (Yk out l) (Yk out l+1)<=l.length+1;cases Yz k out
  ·show Yk out l+1<=_;omega
  ·show Yk out l<=_;omega
theorem Bf {wide x:Nat} {l:List Nat}:∀ (l' out:List Nat),(∀ k∈l',k∈l)->Yk (I8 wide x l' out) l+(I8 wide x l' out).length<=Yk out l+out.length
 |[],_,_=>Nat.le_refl _
 |k::l',out,h=>by
  have hl:=λy hy=>h y (List.mem_cons_of_mem _ hy);show Yk (I8 wide x l' (cond (Yz k out) out (cond (fi wide x k) (out++[k]) out))) l+(I8 wide x l' (cond (Yz k out) out (cond (fi wide x k) (out++[k]) out))).length<=_;cases hk:Yz k out with
  |true=>exact Bf l' out hl
  |false=>
   cases fi wide x k with
   |false=>exact Bf l' out hl
   |true=>
    have h1:=Bf (wide:=wide) (x:=x) l' (out++[k]) hl;have h2:=gk hk (h k List.mem_cons_self);have h3:(out++[k]).length=out.length+1:=by simp
    show Yk (I8 wide x l' (out++[k])) l+(I8 wide x l' (out++[k])).length<=_;omega
theorem Zb4 {wide x:Nat} {l:List Nat}:∀ (l' out:List Nat),(∀ k∈l',k∈l)->(∀ k∈out,k∈l)->∀ k∈I8 wide x l' out,k∈l
 |[],_,_,h=>h
 |y::l',out,h,ho=>by
  have hl:=λy hy=>h y (List.mem_cons_of_mem _ hy);show ∀ k∈I8 wide x l' (cond (Yz y out) out (cond (fi wide x y) (out++[y]) out)),k∈l;refine Zb4 l' _ hl ?_;cases Yz y out with
  |true=>exact ho
  |false=>
   cases fi wide x y with
   |false=>exact ho
   |true=>
    intro k hk;rcases List.mem_append.1 hk with hk |hk
    ·exact ho k hk
    ·rw [List.mem_singleton] at hk;rw [hk];exact h y List.mem_cons_self
def atN (w c:Nat):Nat:=(c / w+1) * (w+2)+c % w+1
def Gc (p:Nat->Bool):Nat->Nat->List Nat
 |0,_=>[]
 |n+1,k=>cond (p k) (k::Gc p n (k+1)) (Gc p n (k+1))
theorem N7 (p:Nat->Bool):∀ n k,(Gc p n k).length<=n
 |0,_=>Nat.le_refl 0
 |n+1,k=>by
  have:=N7 p n (k+1);show (cond (p k) (k::Gc p n (k+1)) (Gc p n (k+1))).length<=n+1;cases p k
  ·show (Gc p n (k+1)).length<=_;omega
  ·show (Gc p n (k+1)).length+1<=_;omega
theorem Pf (p:Nat->Bool):∀ n k x,x∈Gc p n k↔k<=x/\x < k+n/\p x=true
 |0,k,x=>by
  constructor
  ·intro h;cases h
  ·intro h;omega
 |n+1,k,x=>by
  have ih:=Pf p n (k+1) x;show x∈cond (p k) (k::Gc p n (k+1)) (Gc p n (k+1))↔_;cases hp:p k with
  |true=>
   show x∈k::Gc p n (k+1)↔_;rw [List.mem_cons,ih];constructor
   ·rintro (rfl |⟨h1,h2,h3⟩)
    ·exact ⟨Nat.le_refl _,by omega,hp⟩
    ·exact ⟨by omega,by omega,h3⟩
   ·rintro ⟨h1,h2,h3⟩;rcases Nat.eq_or_lt_of_le h1 with h1 |h1
    ·exact .inl h1.symm
    ·exact .inr ⟨h1,by omega,h3⟩
  |false=>
   show x∈Gc p n (k+1)↔_;rw [ih];constructor
   ·rintro ⟨h1,h2,h3⟩;exact ⟨by omega,by omega,h3⟩
   ·rintro ⟨h1,h2,h3⟩;rcases Nat.eq_or_lt_of_le h1 with h1 |h1
    ·rw [<- h1,hp] at h3;cases h3
    ·exact ⟨h1,by omega,h3⟩
def Vx (w:Nat) (gl:List Nat) (k:Nat):Bool:=Iy (λc=>Nat.beq (atN w c) k) gl
def yh (w h:Nat) (gl:List Nat):List Nat:=Gc (Vx w gl) ((w+2) * (h+2)) 0
def airL (w h:Nat) (gl:List Nat):List Nat:=Gc (λk=>!Vx w gl k) ((w+2) * (h+2)) 0
def Mf (w h:Nat) (gl:List Nat):Bool:=cond (Nat.beq gl.length 0) true (cond (G3 (w+2) (yh w h gl)) (!G3 (w+2) (airL w h gl)) true)
theorem at_lt {w h c:Nat} (hw:1<=w) (hc:c < w * h):atN w c < (w+2) * (h+2):=by
 unfold atN;have h1:c / w < h:=by rw [Nat.div_lt_iff_lt_mul hw,Nat.mul_comm];exact hc
 have h2:c % w < w:=Nat.mod_lt _ hw;have h3:(c / w+1) * (w+2)<=h * (w+2):=Nat.mul_le_mul_right _ h1;have h4:(w+2) * (h+2)=h * (w+2)+2 * (w+2):=by rw [Nat.mul_comm,Nat.add_mul]
 omega
theorem at_pos {w c:Nat}:1<=atN w c:=by unfold atN;omega
theorem Zlw {w h:Nat} {gl:List Nat} (hw:1<=w) (Da:gl≠[]) (Jo:∀ c∈gl,c < w * h):yh w h gl≠[]:=by
 cases gl with
 |nil=>exact absurd rfl Da
 |cons c l=>
  have hm:atN w c∈yh w h (c::l):=(Pf _ _ _ _).2 ⟨Nat.zero_le _,by have:=at_lt hw (Jo c List.mem_cons_self);omega,by
   show cond (Nat.beq (atN w c) (atN w c)) true _=true;rw [Nat.beq_refl];rfl⟩
  intro h;rw [h] at hm;cases hm
theorem air_ne {w h:Nat} {gl:List Nat}:airL w h gl≠[]:=by
 have hm:0∈airL w h gl:=(Pf _ _ _ _).2 ⟨Nat.le_refl _,by rw [Nat.zero_add];exact Nat.mul_pos (by omega) (by omega),by
  cases hb:Vx w gl 0 with
  |false=>rfl
  |true=>
   unfold Vx at hb;rw [Zbw] at hb;obtain ⟨c,_,hc⟩:=hb;have:=Nat.eq_of_beq_eq_true hc;have:=at_pos (w:=w) (c:=c);omega⟩
 intro h;rw [h] at hm;cases hm
end
end Go.Proofs.YtgemobbfikjmoaaGreatDoor
namespace Go.Proofs.YtgemobbfikjmoaaGreatDoor
open Go Go.Ev
set_option maxRecDepth 100000
noncomputable section
def B6 {α:Type} (lt:α->α->Bool) (x:α):List α->List α->List α
 |[],post=>x::post
 |y::r,post=>cond (lt x y) (B6 lt x r (y::post)) (r.reverse++(y::x::post))
def V2 {α:Type} (lt:α->α->Bool):List α->List α->List α
 |[],acc=>acc
 |x::l,acc=>V2 lt l (B6 lt x acc.reverse [])
theorem xy {α:Type} (lt:α->α->Bool) (x:α):∀ r post:List α,(B6 lt x r post).length=r.length+post.length+1
 |[],post=>by show post.length+1=_;simp
 |y::r,post=>by
  show (cond (lt x y) (B6 lt x r (y::post)) (r.reverse++(y::x::post))).length=_;cases lt x y with
  |true=>show (B6 lt x r (y::post)).length=_;rw [xy lt x r (y::post)];simp only [List.length_cons];omega
  |false=>show (r.reverse++(y::x::post)).length=_;simp only [List.length_append,List.length_reverse,List.length_cons];omega
theorem yj {α:Type} (lt:α->α->Bool):∀ l acc:List α,(V2 lt l acc).length=l.length+acc.length
 |[],acc=>by show acc.length=_;simp
 |x::l,acc=>by
  show (V2 lt l (B6 lt x acc.reverse [])).length=_;rw [yj lt l,xy];simp only [List.length_reverse,List.length_nil,List.length_cons];omega
end
end Go.Proofs.YtgemobbfikjmoaaGreatDoor
namespace Go.Proofs.YtgemobbfikjmoaaGreatDoor
open Go Go.Ev
set_option maxRecDepth 100000
noncomputable section
def dN (x y:Int):Nat:=(x - y).natAbs
def O9:List Int->List Int->Nat
 |x::xs,y::ys=>dN x y+O9 xs ys
 |_,_=>0
def sumR (n:Nat) (xs ys:List Int):Nat:=((List.range n).map λi=>dN (xs.getD i 0) (ys.getD i 0)).sum
theorem Nw:∀ (n:Nat) (xs ys:List Int),xs.length=n->ys.length=n->O9 xs ys=sumR n xs ys
 |0,[],[],_,_=>rfl
 |n+1,x::xs,y::ys,h1,h2=>by
  have ih:=Nw n xs ys (by simpa using h1) (by simpa using h2)
  show dN x y+O9 xs ys=_;unfold sumR;rw [List.range_succ_eq_map,List.map_cons,List.sum_cons,List.map_map,ih];rfl
def trC (w h i:Nat):Nat:=i % (w+1) * (h+1)+i / (w+1)
def Zak (w h:Nat):Bool:=((List.range ((w+1) * (h+1))).map (trC w h)).isPerm (List.range ((w+1) * (h+1)))
def Av (w h:Nat) (K xs ys:List Int):Bool:=Nn (λi=>Qn (ys.getD (trC w h i) 0+xs.getD i 0) (K.getD i 0)) (List.range ((w+1) * (h+1)))
theorem Zdl {w h n:Nat} {K x1 x2 y1 y2:List Int} (hp:Zak w h=true) (hn:(w+1) * (h+1)=n) (h1:Av w h K x1 y1=true) (h2:Av w h K x2 y2=true) (l1:x1.length=n) (l2:x2.length=n) (k1:y1.length=n) (k2:y2.length=n) :
  O9 y2 y1=O9 x1 x2:=by
 rw [Nw n _ _ k2 k1,Nw n _ _ l1 l2];unfold sumR
 have Zon:((List.range n).map (trC w h)).Perm (List.range n):=by
  unfold Zak at hp;rw [hn] at hp;exact List.isPerm_iff.1 hp
 have hs:=(Zon.map λi=>dN (y2.getD i 0) (y1.getD i 0)).sum_nat;rw [<- hs,List.map_map];congr 1;refine List.map_congr_left λi hi=>?_;unfold Av at h1 h2;rw [hn] at h1 h2;have e1:=Wo h1 i hi;have e2:=Wo h2 i hi;have e1:y1.getD (trC w h i) 0+x1.getD i 0=K.getD i 0:=of_decide_eq_true (by rw [<- Dl];exact e1)
 have e2:y2.getD (trC w h i) 0+x2.getD i 0=K.getD i 0:=of_decide_eq_true (by rw [<- Dl];exact e2)
 show dN (y2.getD (trC w h i) 0) (y1.getD (trC w h i) 0)=dN (x1.getD i 0) (x2.getD i 0);unfold dN;omega
end
end Go.Proofs.YtgemobbfikjmoaaGreatDoor
namespace Go.Proofs.YtgemobbfikjmoaaGreatDoor
open Go Go.Ev
set_option maxRecDepth 100000
noncomputable section
def Fx (w h:Nat) (sp:List Nat) (bl:List (Nat×Nat)):Option Ds:=
 cond (Nat.beq (Mj w (w * h) (Qs w h sp) bl none 0).1 0) (cond (Nat.beq (Mj w (w * h) (Qs w h sp) bl none 0).2 (Qs w h sp)) (jq w h (Qs w h sp) bl) none) none
theorem Zgk {w h:Nat} {sp:List Nat} {bl:List (Nat×Nat)} {r:Ds} (hs:Fx w h sp bl=some r) :
  (Mj w (w * h) (Qs w h sp) bl none 0).1=0/\(Mj w (w * h) (Qs w h sp) bl none 0).2=Qs w h sp/\jq w h (Qs w h sp) bl=some r:=by
 unfold Fx at hs;cases h1:Nat.beq (Mj w (w * h) (Qs w h sp) bl none 0).1 0 with
 |false=>rw [h1] at hs;cases hs
 |true=>
  rw [h1] at hs;cases h2:Nat.beq (Mj w (w * h) (Qs w h sp) bl none 0).2 (Qs w h sp) with
  |false=>rw [h2] at hs;cases hs
  |true=>
   rw [h2] at hs;exact ⟨Nat.eq_of_beq_eq_true h1,Nat.eq_of_beq_eq_true h2,hs⟩
theorem Jx {H:TH} {o:Kc} (h:Z2 X3 H=true) (ho:X3 o=true):Z2 X3 (Zv H o)=true:=by
 rw [Ye] at *;show (H++[o]).all X3=true;rw [List.all_append,h];show (true && (X3 o && true))=true;rw [ho];rfl
theorem T9 {w h g:Nat} {Zq:List Nat}:X3 (.cells (Qz w h g Zq))=true:=by
 show Z2 (λx=>!Xs x) (Qz w h g Zq)=true;rw [Ye];show (true && (true && (true && (Zq.map tU).all λx=>!Xs x)))=true;rw [List.all_map];have:Zq.all ((λx=>!Xs x) ∘ tU)=true:=by rw [List.all_eq_true];intro x _;rfl
 rw [this];rfl
theorem Zea {f:Int->TV} (hf:∀ x,Xs (f x)=false) (l:List Int):X3 (.cells (l.map f))=true:=by
 show Z2 (λx=>!Xs x) (l.map f)=true;rw [Ye,List.all_map,List.all_eq_true];intro x _;show (!Xs (f x))=true;rw [hf];rfl
theorem Zeb (l:List Bool):X3 (.cells (l.map tB))=true:=by
 show Z2 (λx=>!Xs x) (l.map tB)=true;rw [Ye,List.all_map,List.all_eq_true];intro x _;rfl
theorem Zec {H:TH} {w h g n m:Nat} {Zq:List Nat} {bl:List (Nat×Nat)} {c:Cp} {st:Ds} (hH:Z2 X3 H=true):Z2 X3 (Ys H w h g Zq (rB c m bl) n st)=true:=by
 have e1:=T9 (w:=w) (h:=h) (g:=g) (Zq:=Zq);have e2:=Zea (f:=tI) (λ_=>rfl) st.1;have e3:=Zeb st.2;rw [Ye] at hH ⊢;show (H++_).all X3=true;rw [List.all_append,hH];unfold hBox;simp only [List.all_cons,List.all_nil,e1,e2,e3];rfl
theorem yu {w h g:Nat} {Zq:List Nat} {vs:List TV} (hv:Z2 pass vs=true):Z2 pass (.agg (Qz w h g Zq)::vs)=true:=by
 have hps:Z2 Qv (Qz w h g Zq)=true:=by
  rw [Ye];show (true && (true && (true && (Zq.map tU).all Qv)))=true;rw [List.all_map];have:Zq.all (Qv ∘ tU)=true:=by rw [List.all_eq_true];intro x _;rfl
  rw [this];rfl
 rw [Vc,Zal,hps];exact hv
set_option maxHeartbeats 4000000 in
theorem Zqg (d Zh:Nat) {w h n ma mb:Nat} {c ca cb:Cp} {sp:List Nat} {a b:List (Nat×Nat)} {r1 r2:Ds} {H:TH} (ok:Kd w h sp) (hn:sp≠[]->n=1) (Oc:Zh<=Zb H)
  (hma:a≠[]->ma=2) (hmb:b≠[]->mb=2) (xu:a.length < 90000) (Pq:b.length < 90000) (hsa:∀ q∈a,q.1 < 1000000/\q.2 < 1000000) (hsb:∀ q∈b,q.1 < 1000000/\q.2 < 1000000)
  (hw:Gk w h (Qs w h sp) (Kb w h sp)=true) (h1:Fx w h sp a=some r1) (h2:Fx w h sp b=some r2) (hno:Z2 X3 H=true) :
  ∃ b1 b2 H',tc (d+84) Zh 121 [tS w h c n sp,rB ca ma a,rB cb mb b] H=some (.Xh [.agg (J3 w h sp),.vec b1 0 ((w+1) * (h+1)) ((w+1) * (h+1)) 1 false,.vec b2 0 ((w+1) * (h+1)) ((w+1) * (h+1)) 1 false,tN 0],H')/\Zb H<=b1/\Zb H<=b2/\H'[b1]? = some (.cells (r1.1.map tI))/\H'[b2]? = some (.cells (r2.1.map tI)):=by
 rw [Y4 (F:=F121) (by kernel_rfl)]
 obtain ⟨a1,a2,a3⟩:=Zgk h1;obtain ⟨b1,b2,b3⟩:=Zgk h2;have w1:=ok.w1;have w8:=ok.w8;have y1:=ok.h1;have y8:=ok.h8;have Ca:=ok.Ca;have hg:Qs w h sp < 65536:=Ps ok;have G4:(Kb w h sp).length=16:=V5 ..;have ai:∀ x∈Kb w h sp,x < 65536:=Pl _ _ _ Ca
 have hg0:Qs w h sp≠0:=λe=>by
  unfold Gk at hw;rw [e] at hw;cases hw
 have Ns:J3 w h sp=Qz w h (Qs w h sp) (Kb w h sp):=rfl;obtain ⟨gd,qo⟩:∃ gd,gd=Qs w h sp:=⟨_,rfl⟩;obtain ⟨Zq,Kt⟩:∃ Zq,Zq=Kb w h sp:=⟨_,rfl⟩;obtain ⟨nn,hnn⟩:∃ nn,nn=(w+1) * (h+1):=⟨_,rfl⟩
 have k1:∀ H,Zm (tc (d+83)) 111 [tS w h c n sp,rB ca ma a] H=some (.Xh [.agg (Qz w h gd Zq),tU gd,tN 0]):=λH=>by
  have:=Zco (d+79) (c:=c) (c':=ca) (q:=.set) (m:=ma) (H:=H) ok hn hma xu hsa;rw [a1,a2] at this;rw [qo,Kt];exact this
 have k2:∀ H,Zm (tc (d+83)) 111 [tS w h c n sp,rB cb mb b] H=some (.Xh [.agg (Qz w h gd Zq),tU gd,tN 0]):=λH=>by
  have:=Zco (d+79) (c:=c) (c':=cb) (q:=.set) (m:=mb) (H:=H) ok hn hmb Pq hsb;rw [b1,b2] at this;rw [qo,Kt];exact this
 rw [<- qo,<- Kt] at hw;rw [<- qo] at a3 b3 hg hg0;rw [<- Kt] at G4 ai;rw [Ns,<- qo,<- Kt,<- hnn]
 have k3:∀ H,Zm (tc (d+83)) 112 [.agg (Qz w h gd Zq),.row .full .set 1 [tU gd,tU gd]] H=some (tN 0):=λH=>
  Zit (d+77) [gd,gd] w1 w8 y1 y8 Ca hg G4 ai hw (by intro u hu;simp at hu;exact hu) (show 2 < 90000 by omega)
 obtain ⟨A1,hA1⟩:∃ A1:TH,A1=Zv H (.cells [tN w,tN h,.row c .set n (sp.map tN)]):=⟨_,rfl⟩;obtain ⟨A2,hA2⟩:∃ A2:TH,A2=Zv A1 (.cells Xf):=⟨_,rfl⟩;obtain ⟨A3,hA3⟩:∃ A3:TH,A3=Zv A2 (.cells (Qz w h gd Zq)):=⟨_,rfl⟩;obtain ⟨A4,hA4⟩:∃ A4:TH,A4=Zv A3 (.cells (Qz w h gd Zq)):=⟨_,rfl⟩;have m1:Zb A1=Zb H+1:=by rw [hA1,Qd]
 have m2:Zb A2=Zb H+2:=by rw [hA2,Qd,m1]
 have m3:Zb A3=Zb H+3:=by rw [hA3,Qd,m2]
 have m4:Zb A4=Zb H+4:=by rw [hA4,Qd,m3]
 have s1:A1[Zb H]? = some (.cells [tN w,tN h,.row c .set n (sp.map tN)]):=by rw [hA1];exact Qf
 have s2:A2[Zb H]? = some (.cells [tN w,tN h,.row c .set n (sp.map tN)]):=by rw [hA2];exact Qm s1
 have s3:A3[Zb H]? = some (.cells [tN w,tN h,.row c .set n (sp.map tN)]):=by rw [hA3];exact Qm s2
 have z2:A2[Zb H+1]? = some (.cells Xf):=by rw [hA2,<- m1];exact Qf
 have z3:A3[Zb H+1]? = some (.cells Xf):=by rw [hA3];exact Qm z2
 have z4:A4[Zb H+1]? = some (.cells Xf):=by rw [hA4];exact Qm z3
 have p3:A3[Zb H+2]? = some (.cells (Qz w h gd Zq)):=by rw [hA3,<- m2];exact Qf
 have p4:A4[Zb H+2]? = some (.cells (Qz w h gd Zq)):=by rw [hA4];exact Qm p3
 have no4:Z2 X3 A4=true:=by
  rw [hA4,hA3,hA2,hA1];exact Jx (Jx (Jx (Jx hno (by cases c <;> rfl)) rfl) T9) T9
 obtain ⟨G1,hG1⟩:∃ G1,G1=Ys A4 w h gd Zq (rB ca ma a) nn r1:=⟨_,rfl⟩;obtain ⟨G2,hG2⟩:∃ G2,G2=Ys G1 w h gd Zq (rB cb mb b) nn r2:=⟨_,rfl⟩
 have Eg:∀ {A l:TH} {i:Nat} {o:Kc},A[i]? = some o->(A++l)[i]? = some o:=λ{A l i o} h=>by
  have:=(List.getElem?_eq_some_iff.1 h).1;rw [List.getElem?_append_left this];exact h
 have p5:G1[Zb H+2]? = some (.cells (Qz w h gd Zq)):=by rw [hG1];exact Eg p4
 have z5:G1[Zb H+1]? = some (.cells Xf):=by rw [hG1];exact Eg z4
 have z6:G2[Zb H+1]? = some (.cells Xf):=by rw [hG2];exact Eg z5
 have v5:G1[Zb A4+2]? = some (.cells (r1.1.map tI)):=by rw [hG1];exact Wn (i:=2)
 have v6:G2[Zb A4+2]? = some (.cells (r1.1.map tI)):=by rw [hG2];exact Eg v5
 have u6:G2[Zb G1+2]? = some (.cells (r2.1.map tI)):=by rw [hG2];exact Wn (i:=2)
 have n5:Zb A4<=Zb G1:=by rw [hG1,Zz,Zz];show A4.length<=(A4++_).length;simp
 have no5:Z2 X3 G1=true:=by rw [hG1];exact Zec no4
 have p7:(Qz w h gd Zq).length=19:=by rw [Ue,G4]
 have pst:Yu (.agg (Qz w h gd Zq))=true:=Jn ..
 have stp:∀ {A:TH} (_:A[Zb H+1]? = some (.cells Xf)),storeT Zh (Zb H) 19 A (.ptr (Zb H+1) 0) (.agg (Qz w h gd Zq))=some (A.set (Zb H+1) (.cells (Qz w h gd Zq))):=λ{A} hz=>by
  rw [Qy (off:=0) (n:=19) (cs:=Xf) (x:=.agg (Qz w h gd Zq)) hz (by omega) pst (.inr (by omega)) p7 (by decide),Yb,Kr (cs:=Xf) (xs:=Qz w h gd Zq) p7]
 have st2:storeT Zh (Zb H) 19 (Zv A2 (.cells Xf)) (.ptr (Zb H+2) 0) (.agg (Qz w h gd Zq))=some A3:=by
  rw [<- m2,Qy (off:=0) (n:=19) (cs:=Xf) (x:=.agg (Qz w h gd Zq)) Qf (by omega) pst (.inr (by omega)) p7 (by decide),Yb,Kr (cs:=Xf) (xs:=Qz w h gd Zq) p7,Wv,hA3]
 have st3:storeT Zh (Zb H) 19 (Zv A3 (.cells Xf)) (.ptr (Zb H+3) 0) (.agg (Qz w h gd Zq))=some A4:=by
  rw [<- m3,Qy (off:=0) (n:=19) (cs:=Xf) (x:=.agg (Qz w h gd Zq)) Qf (by omega) pst (.inr (by omega)) p7 (by decide),Yb,Kr (cs:=Xf) (xs:=Qz w h gd Zq) p7,Wv,hA4]
 have lS:∀ {β:Type} {A:TH} (_:A[Zb H]? = some (.cells [tN w,tN h,.row c .set n (sp.map tN)])) (md:Ld) (k:TV->TH->Option β),loadT md Zh (Zb H) true 3 A (.ptr (Zb H) 0) k=k (tS w h c n sp) A:=λ{β A} hH md k=>Xw hH (by simp) rfl
 have lp:∀ {β:Type} {A:TH} (_:A[Zb H+2]? = some (.cells (Qz w h gd Zq))) (md:Ld) (k:TV->TH->Option β),loadT md Zh (Zb H) true 19 A (.ptr (Zb H+2) 0) k=k (.agg (Qz w h gd Zq)) A:=λ{β A} hH md k=>K3 hH G4
 have c1:∀ {β:Type} (k:TV->TH->Option β),Qo (tc (d+83)) (Zb A4) 113 [.agg (Qz w h gd Zq),rB ca ma a] A4 k=k (.vec (Zb A4+2) 0 nn nn 1 false) G1:=λk=>
  Xx (yu (by rfl)) (by rw [hG1,hnn];exact zm d _ w1 w8 y8 hg0 hg G4 hma xu (Nat.le_refl _) a3)
 have c2:∀ {β:Type} (k:TV->TH->Option β),Qo (tc (d+83)) (Zb G1) 113 [.agg (Qz w h gd Zq),rB cb mb b] G1 k=k (.vec (Zb G1+2) 0 nn nn 1 false) G2:=λk=>
  Xx (yu (by rfl)) (by rw [hG2,hnn];exact zm d _ w1 w8 y8 hg0 hg G4 hmb Pq (Nat.le_refl _) b3)
 obtain ⟨R,hR⟩:∃ R:TH,R=G2.set (Zb H+1) (.cells (Qz w h gd Zq)):=⟨_,rfl⟩;have zlt:Zb H+1 < G2.length:=(List.getElem?_eq_some_iff.1 z6).1;have rp:R[Zb H+1]? = some (.cells (Qz w h gd Zq)):=by rw [hR,List.getElem?_set_self zlt]
 have rv:R[Zb A4+2]? = some (.cells (r1.1.map tI)):=by rw [hR,List.getElem?_set_ne (by omega)];exact v6
 have ru:R[Zb G1+2]? = some (.cells (r2.1.map tI)):=by rw [hR,List.getElem?_set_ne (by omega)];exact u6
 have el2:Yf 1 [0,1] [tU gd,tU gd] (Y5 [.v (.int .u64 (.ofNat 0))] 2)=some [tU gd,tU gd]:=rfl;have q0:Qn (.ofNat 0) (.ofNat 0)=true:=rfl;have Us:Z2 Vj [tN w,tN h,.row c .set n (sp.map tN)]=true:=rfl
 have key:Qg (C121 (tc (d+83)) Zh (Zb H) (tS w h c n sp,rB ca ma a,rB cb mb b,Zk,Zk,Zk,Zk,Zk,Zk,Zk,Zk,Zk,Zk,Zk,Zk,()) H)
   λe S H1=>e=.ret/\S.2.2.2.2.1=.ptr (Zb H+1) 0/\S.2.2.2.2.2.1=.vec (Zb A4+2) 0 nn nn 1 false/\S.2.2.2.2.2.2.1=.vec (Zb G1+2) 0 nn nn 1 false/\S.2.2.2.2.2.2.2.1=tN 0/\H1=R:=by
  simp only [C121,VV,Us,<- hA1,m1,<- hA2,lS s2,lS s3,k1,k2,vu,vt,Zfd,j5,Ze6,Xz,m2,m3,st2,st3,q0,Bool.not_true,Bool.not_false,lp p3,lp p4,lp p5,el2,k3,no4,no5,c1,c2,stp z6,<- hR];exact .fin ⟨rfl,rfl,rfl,rfl,rfl,rfl⟩
 obtain ⟨e,S,H1,g1,rfl,g4,g5,g6,g7,g8⟩:=key;rw [g8] at g1;refine ⟨Zb A4+2,Zb G1+2,R,?_,by omega,by omega,rv,ru⟩
 have lr:∀ {β:Type} (base:Nat) (k:TV->TH->Option β),loadT .take Zh base true 19 R (.ptr (Zb H+1) 0) k=k (.agg (Qz w h gd Zq)) R:=λbase k=>K3 rp G4;show Za (C121 (tc (d+83)) Zh (Zb H) (tS w h c n sp,rB ca ma a,rB cb mb b,Zk,Zk,Zk,Zk,Zk,Zk,Zk,Zk,Zk,Zk,Zk,Zk,()) H) _=_;rw [g1];simp only [Yy,Jm,g4,g5,g6,g7,lr,Vc,W1,Vw,Az,de,S0,G0]
 have hl:loose (.Xh [.agg (Qz w h gd Zq),.vec (Zb A4+2) 0 nn nn 1 false,.vec (Zb G1+2) 0 nn nn 1 false,tN 0])=false:=by
  show cond (Z2 Uq (Qz w h gd Zq)) false false=false;cases Z2 Uq (Qz w h gd Zq) <;> rfl
 unfold Xm;rw [hl];rfl
theorem comp_3 {x y z u:TV} {l:List TV}:Qj (.Xh (x::y::z::u::l)) 3=some u:=(rfl)
theorem gone_2 {x y z:TV} {l:List TV}:Z7 (.Xh (x::y::z::l)) 2=.Xh (x::y::Zk::l):=(rfl)
theorem dN_max (x y:Int):Za5 (x - y) (y - x)=.ofNat (dN x y):=by
 unfold Za5 dN;rw [V7]
 by_cases h:x - y < y - x
 ·rw [decide_eq_true h];show y - x=((x - y).natAbs:Int);omega
 ·rw [decide_eq_false h];show x - y=((x - y).natAbs:Int);omega
def Fk (n:Nat) (l:List Int):Prop:=l.length=n/\∀ x∈l,-3000 < x/\x < 3000
theorem gw:∀ (xs ys:List Int),(∀ x∈xs,-3000 < x/\x < 3000)->(∀ x∈ys,-3000 < x/\x < 3000)->O9 xs ys<=6000 * xs.length
 |[],_,_,_=>by simp [O9]
 |x::xs,[],_,_=>by simp [O9]
 |x::xs,y::ys,h1,h2=>by
  have ih:=gw xs ys (λz hz=>h1 z (List.mem_cons_of_mem _ hz)) (λz hz=>h2 z (List.mem_cons_of_mem _ hz));have a:=h1 x List.mem_cons_self;have b:=h2 y List.mem_cons_self;show dN x y+O9 xs ys<=6000 * (xs.length+1);unfold dN;omega
theorem gq (d:Nat) {w h n ma mb:Nat} {c ca cb:Cp} {sp:List Nat} {a b:List (Nat×Nat)} {r1 r2:Ds} (ok:Kd w h sp) (hn:sp≠[]->n=1)
  (hma:a≠[]->ma=2) (hmb:b≠[]->mb=2) (xu:a.length < 90000) (Pq:b.length < 90000) (hsa:∀ q∈a,q.1 < 1000000/\q.2 < 1000000) (hsb:∀ q∈b,q.1 < 1000000/\q.2 < 1000000)
  (hw:Gk w h (Qs w h sp) (Kb w h sp)=true) (h1:Fx w h sp a=some r1) (h2:Fx w h sp b=some r2) (k1:Fk ((w+1) * (h+1)) r1.1) (k2:Fk ((w+1) * (h+1)) r2.1) :
  ∃ H',tc (d+85) 0 40 [tS w h c n sp,rB ca ma a,rB cb mb b] []=some (.Xh [tN (O9 r1.1 r2.1 / 4),tN 0],H'):=by
 rw [Y4 (F:=F40) (by kernel_rfl)]
 obtain ⟨A1,hA1⟩:∃ A1:TH,A1=Zv [] (.cells [tN w,tN h,.row c .set n (sp.map tN)]):=⟨_,rfl⟩;have s1:A1[0]? = some (.cells [tN w,tN h,.row c .set n (sp.map tN)]):=by rw [hA1];rfl
 have no1:Z2 X3 A1=true:=by rw [hA1];exact Jx rfl (by cases c <;> rfl)
 obtain ⟨b1,b2,H2,hc,_,_,v1,v2⟩:=Zqg d 0 (c:=c) (ca:=ca) (cb:=cb) (H:=A1) ok hn (Nat.zero_le _) hma hmb xu Pq hsa hsb hw h1 h2 no1;obtain ⟨xs,hxs⟩:∃ xs,xs=r1.1:=⟨_,rfl⟩;obtain ⟨ys,hys⟩:∃ ys,ys=r2.1:=⟨_,rfl⟩;have Ns:J3 w h sp=Qz w h (Qs w h sp) (Kb w h sp):=rfl;obtain ⟨P,hP⟩:∃ P,P=J3 w h sp:=⟨_,rfl⟩;have p7:P.length=19:=by rw [hP,Ns,Ue,show (Kb w h sp).length=16 from V5 ..]
 have pst:Yu (.agg P)=true:=by rw [hP];exact Jn ..
 have psc:Ve V3 P=P:=by rw [hP];exact Xz
 have hn81:(w+1) * (h+1)<=9 * 9:=Nat.mul_le_mul (by have:=ok.w8;omega) (by have:=ok.h8;omega)
 obtain ⟨nn,hnn⟩:∃ nn,nn=(w+1) * (h+1):=⟨_,rfl⟩;rw [<- hnn] at hc k1 k2 hn81;rw [<- hP] at hc;rw [<- hxs] at k1 v1 ⊢;rw [<- hys] at k2 v2 ⊢;obtain ⟨x1,x2⟩:=k1;obtain ⟨y1,y2⟩:=k2;have hsb:=gw xs ys x2 y2;obtain ⟨tot,htot⟩:∃ tot,tot=O9 xs ys:=⟨_,rfl⟩;rw [<- htot] at hsb ⊢;rw [x1] at hsb;obtain ⟨B,hB⟩:∃ B:TH,B=Zv H2 (.cells P):=⟨_,rfl⟩;have v1:B[b1]? = some (.cells (xs.map tI)):=by rw [hB];exact Qm v1
 have v2:B[b2]? = some (.cells (ys.map tI)):=by rw [hB];exact Qm v2
 have lS:∀ {β:Type} (md:Ld) (k:TV->TH->Option β),loadT md 0 0 true 3 A1 (.ptr 0 0) k=k (tS w h c n sp) A1:=λmd k=>Xw s1 (by simp) rfl
 have c1:∀ {β:Type} (k:TV->TH->Option β),Qo (tc (d+84)) 0 121 [tS w h c n sp,rB ca ma a,rB cb mb b] A1 k=k (.Xh [.agg P,.vec b1 0 nn nn 1 false,.vec b2 0 nn nn 1 false,tN 0]) H2:=λk=>Xx rfl hc
 have st:storeT 0 0 19 (Zv H2 (.cells Xf)) (.ptr (Zb H2) 0) (.agg P)=some B:=by
  rw [Qy (off:=0) (n:=19) (cs:=Xf) (x:=.agg P) Qf (by omega) pst (.inr (by omega)) p7 (by decide),Yb,Kr (cs:=Xf) (xs:=P) p7,Wv,hB]
 have Us:Z2 Vj [tN w,tN h,.row c .set n (sp.map tN)]=true:=rfl
 have key:Qg (C40 (tc (d+84)) 0 0 (tS w h c n sp,rB ca ma a,rB cb mb b,Zk,Zk,Zk,Zk,Zk,Zk,Zk,Zk,Zk,Zk,Zk,()) [])
   λe S H1=>e=.ret/\S.2.2.2.2.1=tN (tot / 4)/\S.2.2.2.2.2.1=tN 0:=by
  simp only [C40,VV,show Zb ([]:TH)=0 from rfl,Us,<- hA1,lS,c1,vu,vt,Zfd,comp_3,j5,Ze6,gone_2,psc,st]
  refine Qg.su (k:=nn) (λk S H1=>∃ j s,S.2.2.2.2.2.2.1=.vec b1 0 nn nn 1 false/\S.2.2.2.2.2.2.2.1=.vec b2 0 nn nn 1 false/\S.2.2.2.2.2.2.2.2.1=tN 0/\S.2.2.2.2.2.2.2.2.2.1=tN s/\S.2.2.2.2.2.2.2.2.2.2.2.1=tN nn/\S.2.2.2.2.2.2.2.2.2.2.2.2.1=tN j/\H1=B/\j<=nn/\k=nn - j/\tot=s+O9 (xs.drop j) (ys.drop j))
   (λS H1=>S.2.2.2.2.2.2.2.2.1=tN 0/\S.2.2.2.2.2.2.2.2.2.1=tN tot) (λ_ _=>False) ?_ (by rw [Yg];omega)
   ⟨0,0,rfl,rfl,rfl,rfl,rfl,rfl,rfl,Nat.zero_le _,rfl,by rw [htot];simp⟩ ?_ (λ_ _ h=>h.elim)
  ·rintro k S H1 ⟨j,s,g6,g7,g8,g9,Jj,Dn,Em,hj,rfl,hs⟩;rw [Em];rcases Nat.eq_or_lt_of_le hj with hj |hj
   ·have hd:xs.drop j=[]:=by rw [hj,<- x1];exact List.drop_length
    rw [hd] at hs;have hs:tot=s:=hs;simp only [VV,g6,g7,g8,g9,Jj,Dn,Ql,Kf (Nat.le_of_eq hj.symm)];exact .fin (.inr (.inl ⟨rfl,rfl,by rw [hs]⟩))
   ·have hjx:j < xs.length:=by omega
    have hjy:j < ys.length:=by omega
    obtain ⟨x,hx⟩:∃ x,x=xs[j]:=⟨_,rfl⟩;obtain ⟨y,hy⟩:∃ y,y=ys[j]:=⟨_,rfl⟩;rw [List.drop_eq_getElem_cons hjx,List.drop_eq_getElem_cons hjy,<- hx,<- hy] at hs;have hs:tot=s+(dN x y+O9 (xs.drop (j+1)) (ys.drop (j+1))):=hs;have bx:=x2 x (by rw [hx];exact List.getElem_mem hjx)
    have by':=y2 y (by rw [hy];exact List.getElem_mem hjy)
    have ex:(xs.map tI)[0+j * 1]? = some (tI x):=by rw [Nat.zero_add,Nat.mul_one,List.getElem?_map,List.getElem?_eq_getElem hjx,hx];rfl
    have ey:(ys.map tI)[0+j * 1]? = some (tI y):=by rw [Nat.zero_add,Nat.mul_one,List.getElem?_map,List.getElem?_eq_getElem hjy,hy];rfl
    have l1:∀ {β:Type} (k:TV->TH->Option β),loadT .Xi 0 0 false 1 B (.ptr b1 (0+j * 1)) k=k (tI x) B:=λk=>Zx v1 ex rfl rfl;have l2:∀ {β:Type} (k:TV->TH->Option β),loadT .Xi 0 0 false 1 B (.ptr b2 (0+j * 1)) k=k (tI y) B:=λk=>Zx v2 ey rfl rfl;have z1:Qq (.int .i64 x) (.int .i64 y)=some (.int .i64 (x - y)):=yf (by unfold I64;omega)
    have z2:Qq (.int .i64 y) (.int .i64 x)=some (.int .i64 (y - x)):=yf (by unfold I64;omega)
    have z3:Z0 (.int .i64 (.ofNat s)) (.int .i64 (.ofNat (dN x y)))=some (.int .i64 (.ofNat (s+dN x y))):=X9 (by omega)
    have a3:Z0 (.int .i64 (.ofNat j)) (.int .i64 (.ofNat 1))=some (.int .i64 (.ofNat (j+1))):=X9 (by omega)
    simp only [VV,g6,g7,g8,g9,Jj,Dn,Ql,Xo hj,K8 hj,l1,l2,z1,z2,Ie,dN_max,J6,z3,a3];exact .fin (.inl ⟨rfl,nn - (j+1),by omega,j+1,s+dN x y,rfl,rfl,rfl,rfl,rfl,rfl,rfl,hj,rfl,by rw [hs];omega⟩)
  ·rintro S H1 ⟨g8,g9⟩;have z4:Jp (.int .i64 (.ofNat tot)) (.int .i64 (.ofNat 4))=some (.int .i64 (.ofNat (tot / 4))):=Pe (by omega) (by omega)
   simp only [VV,g8,g9,z4];exact .fin ⟨rfl,rfl,rfl⟩
 obtain ⟨e,S,H1,g1,rfl,g4,g5⟩:=key;show ∃ H',Za (C40 (tc (d+84)) 0 0 (tS w h c n sp,rB ca ma a,rB cb mb b,Zk,Zk,Zk,Zk,Zk,Zk,Zk,Zk,Zk,Zk,Zk,()) []) _=some (TV.Xh [tN (tot / 4),tN 0],H');rw [g1];simp only [Yy,Jm,g4,g5,Vc,W1,Vw,S0,G0];exact ⟨_,rfl⟩
theorem Zdf (d:Nat) {w h n ma mb:Nat} {c ca cb:Cp} {q1 q2:Lf} {sp:List Nat} {a b:List (Nat×Nat)} {r1 r2:Ds} {H:TH} (ok:Kd w h sp) (hn:sp≠[]->n=1)
  (hma:a≠[]->ma=2) (hmb:b≠[]->mb=2) (xu:a.length < 90000) (Pq:b.length < 90000) (hsa:∀ q∈a,q.1 < 1000000/\q.2 < 1000000) (hsb:∀ q∈b,q.1 < 1000000/\q.2 < 1000000)
  (hw:Gk w h (Qs w h sp) (Kb w h sp)=true) (h1:Fx w h sp a=some r1) (h2:Fx w h sp b=some r2) (k1:Fk ((w+1) * (h+1)) r1.1) (k2:Fk ((w+1) * (h+1)) r2.1) :
  Zm (tc (d+85)) 40 [tS w h c n sp,.row ca q1 ma (a.map tQ),.row cb q2 mb (b.map tQ)] H=some (.Xh [tN (O9 r1.1 r2.1 / 4),tN 0]):=by
 obtain ⟨H',hr⟩:=gq d (c:=c) (ca:=ca) (cb:=cb) ok hn hma hmb xu Pq hsa hsb hw h1 h2 k1 k2;exact Yc (ws:=[tS w h c n sp,.row ca .set ma (a.map tQ),.row cb .set mb (b.map tQ)]) rfl rfl hr rfl
end
end Go.Proofs.YtgemobbfikjmoaaGreatDoor
