import Derived.Test.YtinkcmefgciifaaGreatPuX2
namespace Go.Pu
open Go.Dn
open Int (tmod)
set_option linter.unusedSimpArgs false
set_option linter.unusedVariables false
noncomputable section
variable {c:OF} {f:Filter} {h h' h0:Host} {b d n x:Int} {i k s:Nat} {p:aP} {q:bJ} {t:dx} {R α:Type} {v:Vector} {l:ax aB} {ps:ax aP} {a:cZ} {m:bR} {r:kx}
/- Draws: segments, packets, lists of packets, open streams. -/
theorem KQ (h:Cu c):Ends (rl c) λr=>(167772161<=r.1/\r.1<=167772163)/\Cu r.2:=by unfold rl;refine(gE h (by decide)).bind λr hr=>Ends.pure ⟨?_,hr.2⟩;have:=hr.1;simp only[ak (n:=167772161+r.1) (by omega) (by omega)];omega
theorem YS (h:Cu c):Ends (wq c) λr=>(0<=r.1/\r.1<=31)/\Cu r.2:=by unfold wq;exact(iR (P:=λx=>0<=x/\x<=31) h (by decide) (by decide)).bind λr hr=>Ends.pure hr
theorem aiK (h:Cu c){m:Int}(h0:0<=m)(h1:m<=320):Ends (sT c m) λr=>(sc r.1=true/\(r.1.2.2.2.2.2.2.2.length:Int)<=m)/\Cu r.2:=by
 unfold sT;refine(gE h (by decide)).bind λr1 p1=>(gE p1.2 (by decide)).bind λr2 p2=>?_;refine(iR (P:=λx=>0<=x/\x<=4294967295) p2.2 (by simp) ?_).bind λr3 p3=>?_;have:=p2.1;intro x hx;simp only[cn,List.not_mem_nil,or_false]at hx;omega;refine(iR (P:=λx=>0<=x/\x<=4294967295) p3.2 (by decide) (by decide)).bind λr4 p4=>(YS p4.2).bind λr5 p5=>?_;refine(iR (P:=λx=>0<=x/\x<=65535) p5.2 (by decide) (by decide)).bind λr6 p6=>?_;rw[ak (n:=m+1)];refine(gE p6.2).bind λr7 p7=>(G2 p7.2 r7.1).bind λr8 p8=>(vZ p8.2 4).bind λr9 p9=>?_;have a1:=p1.1;have a7:=p7.1;have a8:=p8.1.2.1 a7.1 (by omega);rw[ak (n:=1000+r1.1)];refine Ends.cond (λ_=>Ends.pure ⟨⟨ad1 (by omega) (by omega) (by omega),?_⟩,p9⟩) λ_=>Ends.pure ⟨⟨Tn (by omega) (by omega) p3.1 p4.1 p5.1 p6.1 (by omega),?_⟩,p9⟩;all_goals show(r8.1.length:Int)<=m
 all_goals omega
theorem N9 (h:Cu c){m:Int}(h0:0<=m:=by omega)(h1:m<=320:=by omega):Ends (kV c m) λr=>(dw r.1=true/\(r.1.2.2.2.2.2.2.2.2.2.2.2.2.2.2.2.length:Int)<=m/\(r.1.2.2.2.2.2.2.2.2.1=6\/r.1.2.2.2.2.2.2.2.2.1=17))/\Cu r.2:=by
 unfold kV;refine(iR (P:=λx=>0<=x/\x<=281474976710655) h (by decide) (by decide)).bind λr1 p1=>?_;refine(iR (P:=λx=>0<=x/\x<=281474976710655) p1.2 (by decide) (by decide)).bind λr2 p2=>?_;refine(iR (P:=λx=> -1<=x/\x<=4095) p2.2 (by decide) (by decide)).bind λr3 p3=>?_;refine(iR (P:=λx=>0<=x/\x<=255) p3.2 (by decide) (by decide)).bind λr4 p4=>?_;refine(iR (P:=λx=>0<=x/\x<=65535) p4.2 (by decide) (by decide)).bind λr5 p5=>?_;refine(iR (P:=λx=>0<=x/\x<=255) p5.2 (by decide) (by decide)).bind λr6 p6=>?_;refine(KQ p6.2).bind λr7 p7=>?_;refine(aiK p7.2 (m:=if 128<m then 128 else m) (by split<;>omega) (by split<;>omega)).bind λr8 p8=>?_;have hh:∀g:ef,sc g=true->pC (r1.1,r2.1,r3.1,r4.1,r5.1,r6.1,r7.1,167772161,g)=true:=λg hg=>acJ p1.1 p2.1 p3.1 p4.1 p5.1 p6.1 (by have:=p7.1;omega) (by omega) hg;have hk:∀g:ef,sc g=true->g.1=6\/g.1=17:=by intro g hg;unfold sc at hg;simp only[ae]at hg;have h2:=hg.2.2.2;cases h17:g.1==17 with|true=>exact Or.inr (by simpa using h17)|false=>rw[h17]at h2;simp only[af,ae]at h2;exact Or.inl (by simpa using h2.1)
 have hl:(r8.1.2.2.2.2.2.2.2.length:Int)<=128/\(r8.1.2.2.2.2.2.2.2.length:Int)<=m:=by have:=p8.1.2;split at this<;>omega
 have short:∀c':OF,Cu c'->Ends (some ((r1.1,r2.1,r3.1,r4.1,r5.1,r6.1,r7.1,(167772161:Int),r8.1),c')) λr:aP×OF=>(dw r.1=true/\(r.1.2.2.2.2.2.2.2.2.2.2.2.2.2.2.2.length:Int)<=m/\(r.1.2.2.2.2.2.2.2.2.1=6\/r.1.2.2.2.2.2.2.2.2.1=17))/\Cu r.2:=by intro c' xz;refine Ends.pure ⟨⟨?_,hl.2,hk _ p8.1.1⟩,xz⟩;unfold dw;rw[hh _ p8.1.1,bq];have:decide ((r8.1.2.2.2.2.2.2.2.length:Int)<=128)=true:=aw hl.1;show(decide ((r8.1.2.2.2.2.2.2.2.length:Int)<=128)||_)=true;rw[this,iH]
 refine Ends.cond (λk1=>Ends.cond (λk2=>Ends.cond (λk3=>?_) λ_=>short _ p8.2) λ_=>short _ p8.2) λ_=>short _ p8.2;have k3:=bk k3;refine(vZ p8.2 2).bind λr9 p9=>Ends.cond (λ_=>?_) λ_=>short _ p9;rw[ak (n:=m-128),ak (n:=m-128+1)];refine(gE p9).bind λqC p10=>?_;have a10:=p10.1;rw[ak (n:=128+qC.1)];refine(G2 p10.2 _).bind λwa p11=>?_;have a11:=p11.1.2.1 (by omega) (by omega);have hs:=aaN p8.1.1 (x:=wa.1) (by omega);refine Ends.pure ⟨⟨?_,by show(wa.1.length:Int)<=m;omega,Or.inl (by simpa using k1)⟩,p11.2⟩;unfold dw;rw[hh _ hs,bq];rw[Kz _ (DP p8.1.1 k1)]at k2;show(_||(r8.1.1==6)&&Bc r8.1.2.2.2.2.2.1)=true;rw[k1,k2,dH,jF]
def Plain (p:aP):Prop:=pC p=true/\p.2.2.2.2.2.2.2.2.2.2.2.2.2.2.2.length<=40
theorem Plain.ok (h:Plain p):fZ p=true:=(SV p).2 ⟨h.1,by have:=h.2;omega⟩
theorem Gx (h:Cu c):Ends (kV c 40) λr=>Plain r.1/\Cu r.2:=(N9 h).mono λr hr=>⟨⟨by have:=hr.1.1;unfold dw at this;simp only[ae]at this;exact this.1,by have:=hr.1.2.1;omega⟩,hr.2⟩
theorem adr {Q:R->Prop}{k0:ax aP->OF->aP->ay R}{l:ax aP}{z:Int}(hl:l.length<=1000)(hc:Cu c)(hp:Plain p)(hk:∀c' p',Cu c'->Plain p'->Ends (k0 (l++[p]) c' p') Q):Ends (nB k0 l z n c p) Q:=by
 unfold nB;have hi:=afT (KL hp.1);have hs:=yG hp.1;refine Ends.room (by simp;omega) (Ends.ifn (by decide) (Ends.cond (λh6=>?_) λ_=>hk _ _ hc ⟨Av (p:=p) hp.1 hi hs,hp.2⟩));have h6:p.2.2.2.2.2.2.2.2.1=6:=by simpa using h6
 refine(vZ hc 8).bind λr hr=>Ends.cond (λ_=>Ends.ifn (by decide) (hk _ _ hr ⟨Av (p:=p) hp.1 hi ?_,hp.2⟩)) λ_=>hk _ _ hr ⟨Av (p:=p) hp.1 hi hs,hp.2⟩;have k:=Yb hs h6;have hlen:p.2.2.2.2.2.2.2.2.2.2.2.2.2.2.2.length<=320:=by have:=hp.2;omega
 exact LL hs h6 (adB k.2.2.1 hlen) k.2.2.2.2.1 hlen
theorem adq {Q:R->Prop}{k0:ax aP->OF->aP->ay R}{l:ax aP}{z:Int}(hl:l.length<=1000)(hz:1<=z/\z<=40)(hc:Cu c)(hp:Plain p)(hk:∀q c' p',Plain q->Cu c'->Plain p'->Ends (k0 (l++[q]) c' p') Q):Ends (nA k0 l z n c p) Q:=by
 unfold nA;refine Ends.cond (λh6=>?_) λ_=>adr hl hc hp λc' p' h1 h2=>hk _ _ _ hp h1 h2;have h6:p.2.2.2.2.2.2.2.2.1=6:=by simpa using h6
 refine(iR (P:=λx=>0<=x/\x<=31) hc (by decide) (by decide)).bind λr8 p8=>(G2 p8.2 z).bind λr9 p9=>?_;have a9:=p9.1.2.1 (by omega) (by omega);have hs:=yG hp.1;have hq:Plain (p.1,p.2.1,p.2.2.1,p.2.2.2.1,p.2.2.2.2.1,p.2.2.2.2.2.1,p.2.2.2.2.2.2.1,p.2.2.2.2.2.2.2.1,p.2.2.2.2.2.2.2.2.1,p.2.2.2.2.2.2.2.2.2.1,p.2.2.2.2.2.2.2.2.2.2.1,p.2.2.2.2.2.2.2.2.2.2.2.1,p.2.2.2.2.2.2.2.2.2.2.2.2.1,r8.1,p.2.2.2.2.2.2.2.2.2.2.2.2.2.2.1,r9.1):=⟨Av hp.1 (KL hp.1) (LL hs h6 (Yb hs h6).2.2.1 p8.1 (by omega)),by show r9.1.length<=40;omega⟩
 exact adr hl p9.2 hq λc' p' h1 h2=>hk _ _ _ hq h1 h2
theorem agN {Q:R->Prop}{k0:ax aP->Int->OF->aP->ay R}{l:ax aP}{z:Int}(hl:l.length<=1000)(hz:1<=z/\z<=40)(hc:Cu c)(hp:Plain p)(hk:∀q z' c' p',Plain q->(1<=z'/\z'<=40)->Cu c'->Plain p'->Ends (k0 (l++[q]) z' c' p') Q):Ends (oN k0 l z n c p) Q:=by unfold oN;refine(vZ hc 6).bind λr6 p6=>Ends.cond (λ_=>?_) λ_=>adq hl hz p6 hp λq c' p' h1 h2 h3=>hk _ _ _ _ h1 hz h2 h3;refine(gE p6 (by decide)).bind λr7 p7=>?_;have a7:=p7.1;rw[ak (n:=1+r7.1)];exact adq hl (by omega) p7.2 hp λq c' p' h1 h2 h3=>hk _ _ _ _ h1 (by omega) h2 h3
theorem akl {Q:R->Prop}{k0:ax aP->Int->Int->OF->aP->ay R}{l:ax aP}{z:Int}(hl:l.length<=1000)(hz:1<=z/\z<=40)(hn:0<n/\n<=1000)(hc:Cu c)(hp:Plain p)(hk:∀q z' c' p',Plain q->(1<=z'/\z'<=40)->Cu c'->Plain p'->Ends (k0 (l++[q]) z' (n-1) c' p') Q):Ends (sU k0 l z n c p) Q:=by unfold sU;have e:ar (n-1)=n-1:=ak;refine(vZ hc 5).bind λr4 p4=>Ends.cond (λ_=>?_) λ_=>?_;refine(Gx p4).bind λr5 p5=>agN hl hz p5.2 p5.1 λq z' c' p' h1 h2 h3 h4=>?_;unfold oM;rw[e];exact hk _ _ _ _ h1 h2 h3 h4;refine agN hl hz p4 hp λq z' c' p' h1 h2 h3 h4=>?_;unfold oM;rw[e];exact hk _ _ _ _ h1 h2 h3 h4
theorem afO (h:Cu c){m:Int}(h0:0<m)(h1:m<=100):Ends (xT c m) λr=>((∀p∈r.1,Plain p)/\0<r.1.length/\(r.1.length:Int)<=m)/\Cu r.2:=by unfold xT;refine(Gx h).bind λr1 p1=>(gE p1.2 (by decide)).bind λr2 p2=>(gE p2.2 h0).bind λr3 p3=>?_;have a2:=p2.1;have a3:=p3.1;rw[ak (n:=r2.1*8),ak (n:=8+r2.1*8),ak (n:=1+r3.1)];refine Ends.wL (λx=>(∀p∈x.1,Plain p)/\(1<=x.2.1/\x.2.1<=40)/\0<=x.2.2.1/\(x.1.length:Int)+x.2.2.1=1+r3.1/\Cu x.2.2.2.1/\Plain x.2.2.2.2) (λx=>x.2.2.1.toNat) ⟨by simp,(by dsimp only;omega),(by dsimp only;omega),by simp,p3.2,p1.1⟩ (by simp;omega) λx nx hx hn=>?_;unfold xp;refine Ends.cond (λk=>?_) λk=>?_;have k:=bk k;refine akl (by omega) hx.2.1 (by omega) hx.2.2.2.2.1 hx.2.2.2.2.2 λq z' c' p' h1 h2 h3 h4=>hn _ ⟨?_,h2,?_,?_,h3,h4⟩ ?_;intro y hy;rcases az.1 hy with hy|hy;exact hx.1 y hy;simp only[cp]at hy;rw[hy];exact h1;show 0<=x.2.2.1-1;omega;show((x.1++[q]).length:Int)+(x.2.2.1-1)=1+r3.1;have:=hx.2.2.2.1;simp;omega;show(x.2.2.1-1).toNat<x.2.2.1.toNat;omega;have k:=fA k;have:=hx.2.2.2.1;have:=hx.2.2.1;exact Ends.pure ⟨⟨hx.1,(by dsimp only;omega),(by dsimp only;omega)⟩,hx.2.2.2.2.1⟩
theorem afV (h:Cu c){l:ax aP}(hl:l.length<=1000000):Ends (xU c l) λr=>(r.1.length<=l.length/\∀s∈r.1,s.2.2.1=[])/\Cu r.2:=by unfold xU;refine Ends.wL (λx=>0<=x.2.1/\(x.1.length:Int)<=x.2.1/\x.2.1<=(l.length:Int)/\(∀s∈x.1,s.2.2.1=[])/\Cu x.2.2) (λx=>((l.length:Int)-x.2.1).toNat) ⟨by simp,by simp,by simp,by simp,h⟩ (by simp;omega) λx nx hx hn=>?_;have e:x.2.1<(l.length:Int)->ar (x.2.1+1)=x.2.1+1:=λ_=>ak;unfold xq;refine Ends.cond (λk=>?_) λk=>Ends.pure ⟨⟨(by dsimp only;omega),hx.2.2.2.1⟩,hx.2.2.2.2⟩;have k:=bk k;rw[e k];have skip:∀c',Cu c'->Ends (nx (x.1,x.2.1+1,c')) _:=λc' xz=>hn _ ⟨by show 0<=x.2.1+1;omega,by show(x.1.length:Int)<=x.2.1+1;omega,by show x.2.1+1<=_;omega,hx.2.2.2.1,xz⟩ (by show((l.length:Int)-(x.2.1+1)).toNat<_;omega);refine Ends.idx hx.1 k λhi=>?_;rw[aeb,ab];refine Ends.cond (λ_=>?_) λ_=>skip _ hx.2.2.2.2;rw[aef _ _ (by omega),ab];refine Ends.cond (λ_=>?_) λ_=>skip _ hx.2.2.2.2;refine(vZ hx.2.2.2.2 6).bind λr4 p4=>Ends.cond (λ_=>?_) λ_=>skip _ p4;refine Ends.idx hx.1 k λhi=>(iR (P:=λ_=>True) p4 (by decide) (by simp)).bind λr6 p6=>Ends.room (by simp;omega) (hn _ ⟨by show 0<=x.2.1+1;omega,?_,by show x.2.1+1<=_;omega,?_,p6.2⟩ (by show((l.length:Int)-(x.2.1+1)).toNat<_;omega));show((x.1++[_]).length:Int)<=x.2.1+1;simp;omega;intro s hs;rcases az.1 hs with hs|hs;exact hx.2.2.2.1 s hs;simp only[cp]at hs;rw[hs]
theorem ail (h:Cu c):Ends (zQ c) λr=>r.1.length=16/\Cu r.2:=by unfold zQ;exact(G2 h 16).bind λr hr=>Ends.pure ⟨by have:=hr.1.2.1 (by omega) (by omega);omega,hr.2⟩
theorem YT (h:Cu c):Ends (xV c) λr=>Cu r.2:=by unfold xV;refine(iR (P:=λ_=>True) h (by decide) (by simp)).bind λr1 p1=>(KQ p1.2).bind λr2 p2=>(gE p2.2 (by decide)).bind λr3 p3=>?_;exact(iR (P:=λ_=>True) p3.2 (by decide) (by simp)).bind λr4 p4=>Ends.pure p4.2
theorem aa5 (h:Cu c):Ends (uN c) λr=>(r.1.1.1.length=16/\r.1.1.2.length<=8/\1<=r.1.2/\r.1.2<=4)/\Cu r.2:=by unfold uN;refine(gE h (by decide)).bind λr1 p1=>(ail p1.2).bind λr2 p2=>(iR (P:=λx=>0<=x/\x<=8) p2.2 (by decide) (by decide)).bind λr3 p3=>?_;have a1:=p1.1;have a3:=p3.1;rw[ak (n:=1+r1.1)];refine Ends.wL (λx=>0<=x.1/\x.1+(x.2.2.2.length:Int)=r3.1/\x.2.2.1.length=16/\Cu x.2.1) (λx=>x.1.toNat) ⟨by omega,by simp,p2.1,p3.2⟩ (by simp;omega) λx nx hx hn=>?_;unfold uO;refine Ends.cond (λk=>?_) λk=>Ends.pure ⟨⟨hx.2.2.1,by have:=hx.1;have:=hx.2.1;show x.2.2.2.length<=8;omega,by show(1:Int)<=1+r1.1;omega,by show 1+r1.1<=(4:Int);omega⟩,hx.2.2.2⟩;have k:=bk k;rw[ak (n:=x.1-1) (by omega) (by have:=hx.2.1;omega)];refine(Fy hx.2.2.2 _).bind λr4 p4=>Ends.room (by have:=hx.2.1;simp;omega) (hn _ ⟨?_,?_,hx.2.2.1,p4.2⟩ ?_);show 0<=x.1-1;omega;show x.1-1+((x.2.2.2++[r4.1]).length:Int)=r3.1;have:=hx.2.1;simp;omega;show(x.1-1).toNat<x.1.toNat;omega
theorem af0 (h:Cu c):Ends (xX c) λr=>Cu r.2:=by unfold xX;refine(gE h (by decide)).bind λr1 p1=>(iR (P:=λ_=>True) p1.2 (by decide) (by simp)).bind λr2 p2=>(KQ p2.2).bind λr3 p3=>?_;refine(iR (P:=λ_=>True) p3.2 (by decide) (by simp)).bind λr4 p4=>(iR (P:=λ_=>True) p4.2 (by decide) (by simp)).bind λr5 p5=>(iR (P:=λ_=>True) p5.2 (by decide) (by simp)).bind λr6 p6=>?_;refine(iR (P:=λ_=>True) p6.2 (by decide) (by simp)).bind λr7 p7=>(iR (P:=λ_=>True) p7.2 (by decide) (by simp)).bind λr8 p8=>?_;exact Ends.cond (λ_=>(gE p8.2 (by decide)).bind λr9 p9=>Ends.pure p9.2) λ_=>Ends.pure p8.2
theorem adY (h:Cu c):Ends (wu c) λr=>r.1.length<=4/\Cu r.2:=by unfold wu;refine(gE h (by decide)).bind λr1 p1=>?_;have a1:=p1.1;refine Ends.wL (λx=>0<=x.2.1/\x.2.1+(x.1.length:Int)=r1.1/\Cu x.2.2) (λx=>x.2.1.toNat) ⟨a1.1,by simp,p1.2⟩ (by simp;omega) λx nx hx hn=>?_;unfold vy;refine Ends.cond (λk=>?_) λk=>Ends.pure ⟨by have:=hx.1;have:=hx.2.1;show x.1.length<=4;omega,hx.2.2⟩;have k:=bk k;rw[ak (n:=x.2.1-1) (by omega) (by have:=hx.2.1;omega)];refine(af0 hx.2.2).bind λr2 p2=>Ends.room (by have:=hx.2.1;simp;omega) (hn _ ⟨?_,?_,p2⟩ ?_);show 0<=x.2.1-1;omega;show x.2.1-1+((x.1++[r2.1]).length:Int)=r1.1;have:=hx.2.1;simp;omega;show(x.2.1-1).toNat<x.2.1.toNat;omega
theorem Mf (t:ax Slot)(f:iM):∀n k,walk t f n k= -1\/(0<=walk t f n k/\walk t f n k<8)
 |0,_=>Or.inl rfl
 |n+1,k=>by rw[walk];have:=DU f k;split;exact Or.inl rfl;split;exact Or.inr ⟨by omega,by omega⟩;exact Mf t f n (k+1)
theorem abd {t:ax Slot}(h:ow t=true):t.length=8:=by unfold ow at h;simp only[ae,aV]at h;exact h.1
theorem aiE (t:ax Slot)(f:iM)(q:Int)(hl:t.length<=1000):Ends (xQ t f q) λr=>r.1.length=t.length:=by
 unfold xQ;rw[Es _ (by omega),ab,Oq,ab];refine Ends.bind (P:=λb=>b=false->ow t=true) ?_ λb hb=>Ends.cond (λ_=>Ends.pure rfl) λJM=>?_;refine Ends.cond (λ_=>Ends.pure λh=>by cases h) λh=>?_;rw[ez,ab];exact Ends.pure λ_=>by simpa using h
 ·have h8:=abd (hb JM);rw[Tx _ _ h8,ab];have hw:=Mf t f 8 0;refine Ends.wL (λx=>(x.1= -1\/(0<=x.1/\x.1<8))/\0<=x.2/\x.2<=8) (λx=>(8-x.2).toNat) ⟨hw,by simp,by simp⟩ (by simp) λx nx hx hn=>?_;unfold xo;refine Ends.bind (P:=λb=>b=true->x.2<8) (Ends.cond (λh=>Ends.pure λ_=>bk h) λh=>Ends.pure λh=>by cases h) λb hb=>Ends.cond (λJM=>?_) λ_=>?_
  ·have hb:=hb JM;rw[Ty,ab];have hh:=KP f;rw[ak (n:=Ay f+x.2),ak (n:=x.2+1)];have m1:=Int.tmod_nonneg 8 (a:=Ay f+x.2) (by omega);have m2:=Int.tmod_lt_of_pos (Ay f+x.2) (b:=8) (by omega);refine Ends.ifn (by decide) (Ends.idx m1 (by omega) λ_=>Ends.cond (λ_=>hn _ ⟨Or.inr ⟨m1,m2⟩,?_,?_⟩ ?_) λ_=>hn _ ⟨hx.1,?_,?_⟩ ?_);all_goals simp only
   all_goals omega
  refine Ends.cond (λ_=>Ends.pure rfl) λh=>?_;have h:=fA h;have h0:0<=x.1/\x.1<8:=by omega
  exact Ends.idx h0.1 (by omega) λ_=>Ends.idx h0.1 (by omega) λ_=>Ends.pure (by simp)
structure vE (s:cQ):Prop where
 r:s.1.length<=100
 t:s.2.1.length<=100
 k:s.2.2.1.length=16
 p:s.2.2.2.length<=100
theorem aeg (h:Cu c):Ends (rm c) λr=>(vE r.1.1/\1<=r.1.2/\r.1.2<=4)/\Cu r.2:=by
 unfold rm;have RX:mr=some (List.replicate 8 (0,(0,0,0,0,0),0)):=by unfold mr;rw[aH (by decide),aX (by decide)];rfl
 rw[RX,ab];refine(aa5 h).bind λr2 p2=>(vZ p2.2 2).bind λr3 p3=>?_;have t11:∀(n:Int)(s:cQ)(c':OF),n<=4->vE s->Cu c'->Ends (ba (ib (λ(_:Int) DW Fj=>some ((Fj,r2.1.2),DW)) r2.1.2 (([]:ax iE),([]:ax Slot),([]:Bytes),([]:cZ))) fuel (n,c',s)) λr:(cQ×Int)×OF=>(vE r.1.1/\1<=r.1.2/\r.1.2<=4)/\Cu r.2:=by intro n s c' hn hs hc;refine Ends.wL (λx=>x.1<=4/\vE x.2.2/\Cu x.2.1) (λx=>x.1.toNat) ⟨hn,hs,hc⟩ (by simp;omega) λx nx hx hn=>?_;unfold ib;refine Ends.cond (λk=>?_) λk=>Ends.pure ⟨⟨hx.2.1,p2.1.2.2⟩,hx.2.2⟩;have k:=bk k;rw[ak (n:=x.1-1) (by omega) (by have:=hx.1;omega)];refine(YT hx.2.2).bind λwa p11=>(Fy p11 _).bind λsa p12=>(aiE _ _ _ (by have:=hx.2.1.t;omega)).bind λwY p13=>hn _ ⟨?_,⟨hx.2.1.r,by have:=hx.2.1.t;show wY.1.length<=100;omega,hx.2.1.k,hx.2.1.p⟩,p12.2⟩ ?_;show x.1-1<=4;have:=hx.1;omega;show(x.1-1).toNat<x.1.toNat;omega
 have t7:∀(s:cQ)(c' b:OF),vE s->s.1.length<=4->Cu c'->Ends (ba (jV (λ(_:Int) y9=>aa (cf c' 4) λqC=>ba (ib (λ(_:Int) DW Fj=>some ((Fj,r2.1.2),DW)) r2.1.2 (([]:ax iE),([]:ax Slot),([]:Bytes),([]:cZ))) fuel (qC.1,qC.2,y9)) r2.1.2 b (([]:ax iE),([]:ax Slot),([]:Bytes),([]:cZ))) fuel (0,s)) λr:(cQ×Int)×OF=>(vE r.1.1/\1<=r.1.2/\r.1.2<=4)/\Cu r.2:=by intro s c' b hs hl hc;refine Ends.wL (λx=>0<=x.1/\x.2.1.length=s.1.length/\vE x.2) (λx=>((s.1.length:Int)-x.1).toNat) ⟨by simp,rfl,hs⟩ (by simp;omega) λx nx hx hn=>?_;unfold jV;refine Ends.cond (λk=>?_) λk=>(gE hc (by decide)).bind λqC p10=>t11 _ _ _ (by have:=p10.1;omega) hx.2.2 p10.2;have k:=bk k;rw[ak (n:=x.1+1) (by omega) (by have:=hx.2.1;omega)];refine Ends.idx hx.1 k λ_=>Ends.ifn (by have:=p2.1.2.2;omega) (Ends.idx hx.1 k λ_=>Ends.idx hx.1 k λ_=>hn _ ⟨?_,?_,⟨?_,hx.2.2.t,hx.2.2.k,hx.2.2.p⟩⟩ ?_);show 0<=x.1+1;have:=hx.1;omega;show(List.set _ _ _).length=_;rw[aC];exact hx.2.1;show(List.set _ _ _).length<=100;rw[aC];exact hx.2.2.r;show((s.1.length:Int)-(x.1+1)).toNat<_;have:=hx.2.1;omega
 refine Ends.cond (λ_=>(adY p3).bind λr4 p4=>t7 _ _ _ ⟨by have:=p4.1;show r4.1.length<=100;omega,by simp,p2.1.1,by have:=p2.1.2.1;show r2.1.1.2.length<=100;omega⟩ p4.1 p4.2) λ_=>t7 _ _ _ ⟨by simp,by simp,p2.1.1,by have:=p2.1.2.1;show r2.1.1.2.length<=100;omega⟩ (by simp) p3
theorem Ro (h:Cu c):Ends (uS c) λr=>(r.1.1=2/\(r.1.2.2=[7]\/r.1.2.2=[]))/\Cu r.2:=by unfold uS;exact(vZ h 4).bind λr1 p1=>(vZ p1 2).bind λr2 p2=>Ends.cond (λ_=>Ends.pure ⟨⟨rfl,Or.inl rfl⟩,p2⟩) λ_=>Ends.pure ⟨⟨rfl,Or.inr rfl⟩,p2⟩
def Jm (a:Act):Prop:=a.2.1.2.2.2.2.2.2.2.2.2.2.2.2.2.2.2.length<=1000/\a.2.2.2.2.1.length<=382/\0<=a.1/\a.1<=6
def Fs (r:Bool)(a:Act):Prop:=Jm a/\(a.1=6->r=true)
theorem Fw {r:Bool}{l:ax Act}{a:Act}(h:Fs r a):(l++[a]).length<=l.length+1/\∀y∈l++[a],y∈l\/Fs r y:=by refine⟨by simp,λy hy=>?_⟩;rcases az.1 hy with hy|hy;exact Or.inl hy;rw[cp.1 hy];exact Or.inr h
theorem Ud {Q:R->Prop}{k0:ax Act->OF->ay R}{r:Bool}{l:ax Act}{i:Int}{b:Bool}(hl:l.length<=1000)(hc:Cu c)(hk:∀l' c',l'.length<=l.length+1->(∀y∈l',y∈l\/Fs r y)->Cu c'->Ends (k0 l' c') Q):Ends (kI k0 r l ps i x b c) Q:=by
 have add:∀(a:Act)(c':OF),Fs r a->Cu c'->Ends (k0 (l++[a]) c') Q:=λa c' ha xz=>by have k:=Fw (r:=r) (l:=l) (a:=a) ha;exact hk _ _ k.1 k.2 xz
 have keep:∀c',Cu c'->Ends (k0 l c') Q:=λc' xz=>hk _ _ (by omega) (λy hy=>Or.inl hy) xz;unfold kI;refine Ends.cond (λ_=>(gE hc (by decide)).bind λr9 p9=>Ends.room (by simp;omega) (by exact add _ _ (by simp[Fs,Jm]) p9.2)) λ_=>?_;refine Ends.cond (λ_=>(N9 hc).bind λqC p10=>(gE p10.2 (by decide)).bind λwa p11=>(iR (P:=λ_=>True) p11.2 (by decide) (by simp)).bind λsa p12=>Ends.room (by simp;omega) (by exact add _ _ ⟨⟨by have:=p10.1.2.1;show qC.1.2.2.2.2.2.2.2.2.2.2.2.2.2.2.2.length<=1000;omega,by simp⟩,by simp⟩ p12.2)) λ_=>?_;refine Ends.cond (λ_=>Ends.room (by simp;omega) (by exact add _ _ (by simp[Fs,Jm]) hc)) λ_=>?_;exact Ends.cond (λ_=>Ends.cond (λkr=>Ends.room (by simp;omega) (by exact add _ _ ⟨by simp[Jm],λ_=>kr⟩ hc)) λ_=>keep _ hc) λ_=>keep _ hc
theorem abx {Q:R->Prop}{k0:ax Act->OF->ay R}{r:Bool}{l:ax Act}{i:Int}{b:Bool}(hl:l.length<=1000)(hc:Cu c)(hk:∀l' c',l'.length<=l.length+1->(∀y∈l',y∈l\/Fs r y)->Cu c'->Ends (k0 l' c') Q):Ends (nD k0 r l ps i x b c) Q:=by unfold nD;refine Ends.cond (λ_=>Ends.room (by simp;omega) ?_) λ_=>?_;have k:=Fw (r:=r) (l:=l) (a:=(4,(0,0,0,0,0,0,0,0,0,0,0,0,0,0,0,([]:Bytes)),0,0,([]:Bytes),0)) (by simp[Fs,Jm]);exact hk _ _ k.1 k.2 hc;exact Ends.cond (λ_=>Ud hl hc hk) λ_=>Ends.cond (λ_=>Ud hl hc hk) λ_=>Ud hl hc hk
theorem agt {Q:R->Prop}{k0:ax Act->OF->ay R}{r:Bool}{l:ax Act}{i:Int}{x:Bytes}(hl:l.length<=900)(hx:x.length<=382)(hc:Cu c)(hk:∀l' c',l'.length<=l.length+2->(∀y∈l',y∈l\/Fs r y)->Cu c'->Ends (k0 l' c') Q):Ends (oQ k0 r l ps i x c) Q:=by unfold oQ;have k:=Fw (r:=r) (l:=l) (a:=(2,(0,0,0,0,0,0,0,0,0,0,0,0,0,0,0,([]:Bytes)),0,0,x,0)) ⟨⟨by simp,hx,by simp,by simp⟩,by simp⟩;generalize hL:l++[((2,(0,0,0,0,0,0,0,0,0,0,0,0,0,0,0,([]:Bytes)),0,0,x,0):Act)]=L at k⊢;have hk2:∀l' c',l'.length<=L.length+1->(∀y∈l',y∈L\/Fs r y)->Cu c'->Ends (k0 l' c') Q:=λl' c' h1 h2 h3=>hk _ _ (by omega) (λy hy=>by rcases h2 y hy with h|h;exact k.2 y h;exact Or.inr h) h3;refine Ends.room (by simp;omega) ((gE hc (by decide)).bind λr8 p8=>?_);refine Ends.cond (λ_=>Ends.room (by simp;omega) ?_) λ_=>?_;have k:=Fw (r:=r) (l:=L) (a:=(3,(0,0,0,0,0,0,0,0,0,0,0,0,0,0,0,([]:Bytes)),0,0,([]:Bytes),0)) (by simp[Fs,Jm]);exact hk2 _ _ k.1 k.2 p8.2;exact Ends.cond (λ_=>abx (by omega) p8.2 hk2) λ_=>abx (by omega) p8.2 hk2
theorem ajo {Q:R->Prop}{k0:ax Act->Int->OF->ay R}{r:Bool}{l:ax Act}{i:Int}(hl:l.length<=900)(h0:0<=i)(h1:i<(ps.length:Int))(hn:ps.length<=1000)(hc:Cu c)(hk:∀l' c',l'.length<=l.length+2->(∀y∈l',y∈l\/Fs r y)->Cu c'->Ends (k0 l' (i+1) c') Q):Ends (sW k0 r l ps i c) Q:=by
 have e:ar (i+1)=i+1:=ak;unfold sW;refine Ends.idx h0 h1 λhi=>?_;have hf:=Nx ps[i.toNat];rw[aaW,ab];refine(vZ hc 12).bind λr4 p4=>Ends.cond (λ_=>?_) λ_=>agt hl hf p4 λl' c' g1 g2 g3=>by unfold oP;rw[e];exact hk _ _ g1 g2 g3
 refine(Fy p4 _).bind λr5 p5=>(G2 p5.2 1).bind λr6 p6=>?_;rw[GR _ _ _,ab];exact agt hl (by rw[wQ];exact hf) p6.2 λl' c' g1 g2 g3=>by unfold oP;rw[e];exact hk _ _ g1 g2 g3
theorem ae3 (h:Cu c)(r:Bool):Ends (yd c r) λx=>(x.1.length<=20/\∀a∈x.1,Fs r a)/\Cu x.2:=by unfold yd;refine(afO h (m:=10) (by omega) (by omega)).bind λr1 p1=>?_;have hn:=p1.1.2.2;refine Ends.wL (λx=>0<=x.2.1/\(x.1.length:Int)<=2*x.2.1/\x.2.1<=(r1.1.length:Int)/\(∀a∈x.1,Fs r a)/\Cu x.2.2) (λx=>((r1.1.length:Int)-x.2.1).toNat) ⟨by simp,by simp,by simp,by simp,p1.2⟩ (by simp;omega) λx nx hx hn=>?_;unfold xu;refine Ends.cond (λk=>?_) λk=>Ends.pure ⟨⟨by have:=hx.2.1;have:=hx.2.2.1;show x.1.length<=20;omega,hx.2.2.2.1⟩,hx.2.2.2.2⟩;have k:=bk k;have h2:=hx.2.1;refine ajo (by omega) hx.1 k (by omega) hx.2.2.2.2 λl' c' g1 g2 g3=>hn _ ⟨?_,?_,?_,?_,g3⟩ ?_;show 0<=x.2.1+1;have:=hx.1;omega;show(l'.length:Int)<=2*(x.2.1+1);omega;show x.2.1+1<=(r1.1.length:Int);omega;intro a ha;rcases g2 a ha with h|h;exact hx.2.2.2.1 a h;exact h;show((r1.1.length:Int)-(x.2.1+1)).toNat<((r1.1.length:Int)-x.2.1).toNat;omega
theorem Wd (h:cx m=true)(a:Int)(s:Bytes):cx (me m a s).1=true:=by unfold me;cases hw:gD m a (s.length:Int);exact h;simp only[gD,ae,aD]at hw;exact kF.2 (yj s.length (kF.1 hw.1) (by omega)).1
theorem SI:∀(q:ax (Int×Int)){m:bR}(s:Bytes),cx m=true->cx (E4 q m s)=true
 |[],_,_,h=>h
 |p::q,m,s,h=>by rw[E4];exact SI q _ (Wd h _ _)
theorem CS (h:cx m=true)(l:ax aB)(d a:Int)(s:Bytes)(w:Bool):cx (gy l m d a s w).1=true:=by unfold gy;cases (jU l m d a (s.length:Int) w).2 with|false=>exact h|true=>exact SI _ _ h
theorem IK (h:cx m=true)(l:ax aB)(d:Int)(r:kx)(s:Bytes):cx (cy l m d r s).1=true:=by
 unfold cy;cases (nI r==0)||((s.length:Int) !=16);case true=>exact h
 cases (gy l m d (nr r r.2.2.2) s true).2 with|false=>exact h|true=>exact CS h ..
theorem CZ {y:Int}(hb:0<=b/\b<=130944:=by omega)(hn:n=2\/n=4\/n=8\/n=16:=by omega)(hx:0<=x/\x<=2*n-1:=by omega)(hy:0<=y/\y<=2*n-1:=by omega)(hu:(y-x)%(2*n)<=n:=by omega):cV (b,n,x,y)=true:=by have hs:iW n=true:=gQ.2 hn;simp only[cV,bG,hs,bh.2 hb,bh.2 hx,bh.2 hy,bQ,bq,aD];exact hu
theorem DM (h:cV r=true):bG r=(r.2.2.2-r.2.2.1)%(2*r.2.1)/\0<=bG r/\bG r<=r.2.1:=by
 have k:=lg h;have e:bG r=(r.2.2.2-r.2.2.1)%(2*r.2.1):=by unfold bG;rw[aH (gQ.2 k.2.2.1)]
 simp only[cV,ae,aD]at h;exact⟨e,by rw[e];exact eL _ (by omega),h.2.2.2.2⟩
theorem Il (hn:0<n:=by omega)(hx:0<=x/\x<=n-1:=by omega):tmod (x+1) n=if x+1=n then 0 else x+1:=by rw[dg (by omega)];split;rename_i h;rw[h];exact Int.emod_self;exact Int.emod_eq_of_lt (by omega) (by omega)
theorem aaI (h:cV r=true)(hf:bG r<r.2.1):cV (r.1,r.2.1,r.2.2.1,tmod (r.2.2.2+1) (2*r.2.1))=true/\bG (r.1,r.2.1,r.2.2.1,tmod (r.2.2.2+1) (2*r.2.1))=bG r+1:=by
 have k:=lg h;have u:=DM h;have e:=Il (x:=r.2.2.2) (n:=2*r.2.1);have u2:(tmod (r.2.2.2+1) (2*r.2.1)-r.2.2.1)%(2*r.2.1)=bG r+1:=by
  have h1:(tmod (r.2.2.2+1) (2*r.2.1)-r.2.2.1)%(2*r.2.1)=(r.2.2.2+1-r.2.2.1)%(2*r.2.1):=by rw[e];split;rename_i hh;rw[<-hh,show(r.2.2.2+1-r.2.2.1)=(0-r.2.2.1)+(r.2.2.2+1) by omega,Int.add_emod_right];rfl
  rw[h1,show r.2.2.2+1-r.2.2.1=(r.2.2.2-r.2.2.1)+1 by omega];have h0:=u.1;generalize r.2.2.2-r.2.2.1=d at h0⊢;rw[Int.add_emod,<-h0,Int.emod_eq_of_lt (a:=1) (by omega) (by omega),Int.emod_eq_of_lt (by omega) (by omega)]
 refine⟨CZ ⟨k.1,k.2.1⟩ k.2.2.1 ⟨k.2.2.2.1,k.2.2.2.2.1⟩ (by rw[e];split<;>omega) (by rw[u2];omega),?_⟩;unfold bG;rw[aH (gQ.2 k.2.2.1)];exact u2
theorem adV (h:cV r=true)(hf:bG r≠0):cV (r.1,r.2.1,tmod (r.2.2.1+1) (2*r.2.1),r.2.2.2)=true/\bG (r.1,r.2.1,tmod (r.2.2.1+1) (2*r.2.1),r.2.2.2)=bG r-1:=by
 have k:=lg h;have u:=DM h;have e:=Il (x:=r.2.2.1) (n:=2*r.2.1);have u2:(r.2.2.2-tmod (r.2.2.1+1) (2*r.2.1))%(2*r.2.1)=bG r-1:=by
  have h1:(r.2.2.2-tmod (r.2.2.1+1) (2*r.2.1))%(2*r.2.1)=(r.2.2.2-(r.2.2.1+1))%(2*r.2.1):=by rw[e];split;rename_i hh;rw[<-hh,show(r.2.2.2-0)=(r.2.2.2-(r.2.2.1+1))+(r.2.2.1+1) by omega,Int.add_emod_right];rfl
  rw[h1,show r.2.2.2-(r.2.2.1+1)=(r.2.2.2-r.2.2.1)-1 by omega];have h0:=u.1;generalize r.2.2.2-r.2.2.1=d at h0⊢;rw[Int.sub_emod,<-h0,Int.emod_eq_of_lt (a:=1) (by omega) (by omega),Int.emod_eq_of_lt (by omega) (by omega)]
 refine⟨CZ ⟨k.1,k.2.1⟩ k.2.2.1 (by rw[e];split<;>omega) ⟨k.2.2.2.2.2.1,k.2.2.2.2.2.2⟩ (by rw[u2];omega),?_⟩;unfold bG;rw[aH (gQ.2 k.2.2.1)];exact u2
theorem YW (h:cV r=true):nI r=r.2.1-bG r:=by have k:=lg h;have u:=DM h;unfold nI;rw[h,ah,ak]
theorem Th (h:cV r=true)(l:ax aB)(m:bR)(d:Int)(s:Bytes):cV (cy l m d r s).2.1=true/\(cy l m d r s).2.1.2.1=r.2.1:=by
 unfold cy;cases hc:(nI r==0)||((s.length:Int) !=16);case true=>exact⟨h,rfl⟩
 cases (gy l m d (nr r r.2.2.2) s true).2 with
 |false=>exact⟨h,rfl⟩
 |true=>
  simp only[ch]at hc;have h1:nI r≠0:=by simpa using hc.1
  rw[YW h]at h1;have u:=DM h;exact⟨(aaI h (by omega)).1,rfl⟩
theorem Ok (h:cV r=true)(l:ax aB)(m:bR)(d:Int):cV (bg l m d r).2.1=true/\(bg l m d r).2.1.2.1=r.2.1:=by
 unfold bg;cases hc: !cV r||(bG r==0);case true=>exact⟨h,rfl⟩
 cases (qb l m d (nr r r.2.2.1) 16).2 with|false=>exact⟨h,rfl⟩|true=>simp only[ch]at hc;exact⟨(adV h (by simpa using hc.2)).1,rfl⟩
theorem acD {l:cZ}:(List.range l.length).all (Cy n l)=true↔(∀x∈l,0<=x/\x<=n-1)/\l.Nodup:=by
 rw[aF];constructor;intro h;have k:∀i (hi:i<l.length),(0<=l[i]/\l[i]<=n-1)/\l[i]∉l.take i:=by intro i hi;have:=h i (bK.2 hi);unfold Cy at this;rw[ca hi,ae,bh]at this;exact⟨this.1,by simpa using this.2⟩
 refine⟨λx hx=>?_,?_⟩;obtain⟨i,hi,rfl⟩:=fb hx;exact(k i hi).1;rw[List.Nodup,List.pairwise_iff_getElem];intro i j hi hj hij he;refine(k j hj).2 ?_;rw[<-he];exact List.mem_take_iff_getElem.2 ⟨i,by omega,rfl⟩;rintro⟨h1,h2⟩ i hi;have hi:=bK.1 hi;unfold Cy;rw[ca hi,ae,bh];refine⟨h1 _ (aZ hi),?_⟩;have:l[i]∉l.take i:=by intro hm;obtain⟨j,hj,he⟩:=List.mem_take_iff_getElem.1 hm;rw[List.Nodup,List.pairwise_iff_getElem]at h2;exact h2 j i (by omega) hi (by omega) he
 simpa using this
theorem AK {p:cK}:dy p=true↔(0<=p.1/\p.1<=130944)/\(1<=p.2.1/\p.2.1<=512)/\(0<=p.2.2.1/\p.2.2.1<=16)/\(∀x∈p.2.2.2,0<=x/\x<=p.2.2.1-1)/\p.2.2.2.Nodup:=by unfold dy;simp only[ae,bh,acD]
theorem CW {p:cK}(h:dy p=true){l:cZ}(hl:l.Sublist p.2.2.2):dy (p.1,p.2.1,p.2.2.1,l)=true:=by have k:=AK.1 h;exact AK.2 ⟨k.1,k.2.1,k.2.2.1,λx hx=>k.2.2.2.1 x (hl.subset hx),k.2.2.2.2.sublist hl⟩
theorem aay {p:cK}(h:dy p=true)(l:cZ):dy (ER p l).1=true:=by unfold ER;cases hg:As p l with|false=>exact h|true=>unfold As at hg;simp only[ae]at hg;exact hg.2
theorem GM {s:kz}:oh n s=true↔(1<=s.2.1/\s.2.1<=n)/\0<=s.1/\s.1<=65535:=by unfold oh;simp only[ae,bh]
structure Fv (t:dx):Prop where
 ring:cV t.1=true
 next:0<=t.2.2.2/\t.2.2.2<=65535
 sent:∀x∈t.2.2.1,(1<=x.2.1/\x.2.1<=t.1.2.1)/\0<=x.1/\x.1<=65535
 pool:dy (gx t.2.1 (bu t.2.2.1))=true
 Ca:dI t.2.2.1<=t.1.2.1
theorem Fv.free (h:Fv t):dy t.2.1=true:=CW h.pool (List.sublist_append_left _ _)
theorem aiQ:Mb t=true↔Fv t:=by constructor;intro h;unfold Mb at h;simp only[ae,bh,aF,GM,aD]at h;obtain⟨h1,h2,h3,h4,h5,h6⟩:=h;unfold As at h5;simp only[ae]at h5;exact⟨h1,h3,h4,h5.2,h6⟩;·intro h;unfold Mb As;simp only[ae,bh,aF,GM,aD];exact⟨h.ring,h.free,h.next,h.sent,⟨h.free,h.pool⟩,h.Ca⟩
theorem Ir (a b:ax kz):bu (a++b)=bu a++bu b:=by simp[bu]
theorem Nd (a b:ax kz):dI (a++b)=dI a+dI b:=by simp[dI]
theorem NA:∀(l:ax kz)(p:cK),dy (gx p (bu l))=true->qj p l=gx p (bu l)
 |[],p,_=>by simp[qj,bu,gx]
 |x::l,p,h=>by
  have e:bu (x::l)=x.2.2++bu l:=by simp[bu]
  rw[e]at h;have h1:dy (gx p x.2.2)=true:=CW (p:=gx p (x.2.2++bu l)) h (by show(p.2.2.2++x.2.2).Sublist (p.2.2.2++(x.2.2++bu l));rw[<-aR];exact List.sublist_append_left _ _);have h0:dy p=true:=CW (p:=gx p x.2.2) h1 (List.sublist_append_left _ _);have hg:(ER p x.2.2).1=gx p x.2.2:=by unfold ER As;rw[h0,h1];rfl
  have ea:gx (gx p x.2.2) (bu l)=gx p (x.2.2++bu l):=by simp[gx]
  rw[qj,hg,NA l _ (by rw[ea];exact h),ea,e]
theorem agj (h:Fv t)(hr:cV r=true)(hn:r.2.1=t.1.2.1):Fv (r,t.2):=
 ⟨hr,h.next,λx hx=>by show(1<=x.2.1/\x.2.1<=r.2.1)/\_;rw[hn];exact h.sent x hx,h.pool,by show dI t.2.2.1<=r.2.1;rw[hn];exact h.Ca⟩
theorem TP (h:Fv t)(n:Int):Fv (mX t n).1:=by
 unfold mX;cases hc:Mb t&&di n 0 (t.2.2.1.length:Int);exact h;simp only[ae,bh]at hc;have hs:t.2.2.1.take n.toNat++t.2.2.1.drop n.toNat=t.2.2.1:=cm _ _;have hb:bu t.2.2.1=bu (t.2.2.1.take n.toNat)++bu (t.2.2.1.drop n.toNat):=by rw[<-Ir,hs]
 have hp:dy (gx t.2.1 (bu (t.2.2.1.take n.toNat)))=true:=CW (p:=gx t.2.1 (bu t.2.2.1)) h.pool (by show(t.2.1.2.2.2++_).Sublist (t.2.1.2.2.2++_);rw[hb];exact(List.sublist_append_left _ _).append_left _);have hg:=NA _ _ hp;refine⟨h.ring,h.next,λx hx=>h.sent x (List.mem_of_mem_drop hx),?_,?_⟩;show dy (gx (qj t.2.1 (t.2.2.1.take n.toNat)) (bu (t.2.2.1.drop n.toNat)))=true;rw[hg,show gx (gx t.2.1 (bu (t.2.2.1.take n.toNat))) (bu (t.2.2.1.drop n.toNat))=gx t.2.1 (bu t.2.2.1) by rw[hb];simp[gx]];exact h.pool;show dI (t.2.2.1.drop n.toNat)<=t.1.2.1;have h1:dI t.2.2.1=dI (t.2.2.1.take n.toNat)+dI (t.2.2.1.drop n.toNat):=by rw[<-Nd,hs]
 have h2:0<=dI (t.2.2.1.take n.toNat):=xB t.1.2.1 _ (by rw[aF];exact λx hx=>GM.2 (h.sent x (List.mem_of_mem_take hx)));have:=h.Ca;omega
theorem Kd (l:ax aB)(m:bR)(d:Int):∀(n:Nat)(acc:ax Cd)(r:kx),cV r=true->cV (pq l m d n acc r).2.1=true/\(pq l m d n acc r).2.1.2.1=r.2.1
 |0,acc,r,h=>⟨h,rfl⟩
 |n+1,acc,r,h=>by have k:=lg h;have ht:=Ok h l m d;rw[pq];cases !(bg l m d r).2.2|| !(cI (bg l m d r).1).2 with|true=>exact⟨CZ ⟨k.1,k.2.1⟩ k.2.2.1 ⟨k.2.2.2.2.2.1,k.2.2.2.2.2.2⟩ ⟨k.2.2.2.2.2.1,k.2.2.2.2.2.2⟩ (by rw[Int.sub_self,Int.zero_emod];omega),rfl⟩|false=>cases U9 (cI (bg l m d r).1).1 with|true=>exact ht|false=>have:=Kd l m d n (acc++[(cI (bg l m d r).1).1]) _ ht.1;exact⟨this.1,this.2.trans ht.2⟩
theorem Ux (h:cV r=true)(l:ax aB)(m:bR)(d:Int):cV (cR l m d r).2.1=true/\(cR l m d r).2.1.2.1=r.2.1:=by unfold cR;cases !cV r||(bG r==0)with|true=>exact⟨h,rfl⟩|false=>exact Kd l m d _ _ _ h
theorem SS (h:cV r=true)(l:ax aB)(m:bR)(d:Int):cV (gZ l m d r).1=true/\(gZ l m d r).1.2.1=r.2.1:=by
 have hc:=Ux h l m d;unfold gZ;cases !cV r||(bG r==0);case true=>exact⟨h,rfl⟩
 cases !(cR l m d r).2.2|| !(fE (cR l m d r).1).2.2.2;case true=>exact hc
 cases !(ka l m d (fE (cR l m d r).1).1).2||(!(xy (ka l m d (fE (cR l m d r).1).1).1).2||((jT (xy (ka l m d (fE (cR l m d r).1).1).1).1).2 !=0))with|true=>exact hc|false=>exact hc
theorem Df (l:ax aB)(m:bR)(d:Int):∀(n:Nat)(fr:bR)(dn bd:Nat)(r:kx),cV r=true->cV (mw l m d n fr dn bd r).1=true/\(mw l m d n fr dn bd r).1.2.1=r.2.1
 |0,fr,dn,bd,r,h=>⟨h,rfl⟩
 |n+1,fr,dn,bd,r,h=>by
  have k:=SS h l m d;rw[mw];cases (gZ l m d r).2.2==0;case true=>exact⟨h,rfl⟩
  cases (gZ l m d r).2.2==1 with|true=>have:=Df l m d n (fr++(gZ l m d r).2.1) (dn+1) bd _ k.1;exact⟨this.1,this.2.trans k.2⟩|false=>have:=Df l m d n (fr++(gZ l m d r).2.1) dn (bd+1) _ k.1;exact⟨this.1,this.2.trans k.2⟩
theorem Gz (l:ax aB)(d:Int):∀(q:bR)(m:bR)(r:kx){x},kh l d q m r=some x->(cV r=true->cV x.2=true/\x.2.2.1=r.2.1)/\(cx m=true->cx x.1=true)
 |[],m,r,x,h=>by cases h;exact⟨λh=>⟨h,rfl⟩,λh=>h⟩
 |s::q,m,r,x,h=>by rw[kh]at h;cases hq:(cy l m d r s).2.2 with|false=>rw[hq]at h;cases h|true=>rw[hq]at h;have k:=Gz l d q _ _ h;refine⟨λhr=>?_,λhm=>k.2 (IK hm ..)⟩;have hp:=Th hr l m d s;have:=k.1 hp.1;exact⟨this.1,this.2.trans hp.2⟩
theorem N0 (l:ax aB)(d:Int)(p:cK)(z:Nat):∀(q:cZ)(s:Bytes)(m:bR)(a:ax gh){x},qi l d p z q s m a=some x->cx m=true->cx x.2=true
 |[],s,m,a,x,h,hm=>by cases h;exact hm
 |b::q,s,m,a,x,h,hm=>by rw[qi]at h;cases hq:(gy l m d (nG p b) (s.take z) false).2 with|false=>rw[hq]at h;cases h|true=>rw[hq]at h;exact N0 l d p z q _ _ _ h (CS hm ..)
theorem aaz {p:cK}(h:dy p=true){l:cZ}(hl:l.Perm p.2.2.2):dy (p.1,p.2.1,p.2.2.1,l)=true:=by have k:=AK.1 h;exact AK.2 ⟨k.1,k.2.1,k.2.2.1,λx hx=>k.2.2.2.1 x (hl.mem_iff.1 hx),hl.nodup_iff.2 k.2.2.2.2⟩
theorem aaS (h:Fv t)(hm:cx m=true)(l:ax aB)(d c:Int){n:Nat}(hf:FL t n=true)(x:ax gh×bR)(hx:cx x.2=true):cx (Er l m d t c n x).1=true/\Fv (Er l m d t c n x).2.1:=by
 unfold Er oe;cases hp:kh l d ((oy x.1 c t.2.2.2).map wD) x.2 t.1 with
 |none=>exact⟨hm,h⟩
 |some y=>
  have k:=Gz l d _ _ _ hp;have kr:=k.1 h.ring;refine⟨k.2 hx,?_⟩;unfold FL at hf;simp only[ae,aK,cU]at hf;have ht:jW t.2.1 (n:Int)=((t.2.1.1,t.2.1.2.1,t.2.1.2.2.1,t.2.1.2.2.2.drop n),t.2.1.2.2.2.take n,true):=by have h1:=hf.1;unfold jW at h1⊢;cases hc:dy t.2.1&&di (n:Int) 0 (t.2.1.2.2.2.length:Int)with|false=>rw[hc]at h1;cases h1|true=>simp only[ah,aA]
  have h0:0<=dI t.2.2.1:=xB t.1.2.1 _ (by rw[aF];exact λx hx=>GM.2 (h.sent x hx));show Fv (y.2,(jW t.2.1 (n:Int)).1,t.2.2.1++[(t.2.2.2,(n:Int)+1,(jW t.2.1 (n:Int)).2.1)],tmod (t.2.2.2+1) 65536);rw[ht];have hn:=h.next
  refine⟨kr.1,?_,?_,?_,?_⟩;have:=Il (x:=t.2.2.2) (n:=65536);show 0<=tmod (t.2.2.2+1) 65536/\tmod (t.2.2.2+1) 65536<=65535;rw[this];split<;>omega;intro s hs;show(1<=s.2.1/\s.2.1<=y.2.2.1)/\0<=s.1/\s.1<=65535;rw[kr.2];rcases az.1 hs with hs|hs;exact h.sent s hs;rw[cp.1 hs];show(1<=(n:Int)+1/\(n:Int)+1<=t.1.2.1)/\0<=t.2.2.2/\t.2.2.2<=65535;omega;refine aaz (p:=gx t.2.1 (bu t.2.2.1)) h.pool ?_;show(t.2.1.2.2.2.drop n++bu (t.2.2.1++[_])).Perm (t.2.1.2.2.2++bu t.2.2.1);rw[Ir,show bu [(t.2.2.2,(n:Int)+1,t.2.1.2.2.2.take n)]=t.2.1.2.2.2.take n by simp[bu]];refine(List.perm_append_comm_assoc _ _ _).trans ?_;refine(List.perm_append_comm).trans ?_;exact((List.perm_append_comm.trans (by rw[cm])).append_right _);show dI (t.2.2.1++[_])<=y.2.2.1;rw[Nd,kr.2,show dI [(t.2.2.2,(n:Int)+1,t.2.1.2.2.2.take n)]=(n:Int)+1 by simp[dI]];omega
theorem aaR (h:Fv t)(hm:cx m=true)(l:ax aB)(d:Int)(p:aP)(c z:Int):cx (og l m d t p c z).1=true/\Fv (og l m d t p c z).2.1:=by unfold og;cases Mb t&&(dw p&&(di z 1 t.2.1.2.1&&di c 1 128));exact⟨hm,h⟩;cases hf:FL t (xb p z.toNat);exact⟨hm,h⟩;simp only[ah];cases hw:qi l d t.2.1 z.toNat (jW t.2.1 (xb p z.toNat:Int)).2.1 (jL p).1 m []with|none=>exact⟨hm,h⟩|some x=>exact aaS h hm l d c hf x (N0 l d _ _ _ _ _ _ hw hm)
theorem Dr (v:Vector):Cq v=true↔1<=v.2.2.1/\(v.1<=v.2.2.1\/v.2.1<=v.2.2.2.1):=by unfold Cq;by_cases h1:v.2.2.1>=1;rw[aw h1,ah];by_cases h2:v.2.2.1>=v.1;rw[aw h2];simp;omega;rw[au h2,af,aD];omega;rw[au h1];simp;omega
theorem aiR (v:Vector):eG v=(di v.1 1 64&&(di v.2.1 0 64&&(di v.2.2.1 0 1000000&&(di v.2.2.2.1 0 1000000&&((decide (v.2.2.1>0)||(v.2.2.2.1==0))&&(v.2.2.2.2.2==(Cq v&& !v.2.2.2.2.1))))))):=by have h:=E9 v;unfold mu at h;simp only[ez,af5,ab]at h;generalize eG v=w at h⊢;revert h;cases di v.1 1 64;(intro h;cases h;rfl);cases di v.2.1 0 64;(intro h;cases h;rfl);cases di v.2.2.1 0 1000000;(intro h;cases h;rfl);cases di v.2.2.2.1 0 1000000;(intro h;cases h;rfl);cases decide (v.2.2.1>0)<;>cases (v.2.2.2.1==0)<;>cases Cq v<;>(intro h;cases h;rfl)
theorem wA (v:Vector):eG v=true↔(1<=v.1/\v.1<=64)/\(0<=v.2.1/\v.2.1<=64)/\(0<=v.2.2.1/\v.2.2.1<=1000000)/\(0<=v.2.2.2.1/\v.2.2.2.1<=1000000)/\(v.2.2.1>0\/v.2.2.2.1=0)/\v.2.2.2.2.2=(Cq v&& !v.2.2.2.2.1):=by rw[aiR];simp only[ae,bh,cE,aD,aV]
theorem FC (h1:1<=v.1/\v.1<=64)(h2:0<=v.2.1/\v.2.1<=64)(h3:0<=v.2.2.1/\v.2.2.1<=1000000)(h4:0<=v.2.2.2.1/\v.2.2.2.1<=1000000)(h5:v.2.2.1>0\/v.2.2.2.1=0)(hr:v.2.2.2.2.2=true->Cq v=true/\v.2.2.2.2.1=false):eG (Cg v)=true:=by unfold Cg;cases hd:Cq v&& !v.2.2.2.2.1 with|true=>exact(wA _).2 ⟨h1,h2,h3,h4,h5,by show true=(Cq v&& !v.2.2.2.2.1);rw[hd]⟩|false=>refine(wA _).2 ⟨h1,h2,h3,h4,h5,?_⟩;rw[af,hd];cases hv:v.2.2.2.2.2 with|false=>rfl|true=>have:=hr hv;rw[this.1,this.2]at hd;cases hd
theorem Bx (h:eG v=true)(hr:v.2.2.2.2.2=true):Cq v=true/\v.2.2.2.2.1=false:=by have:=((wA v).1 h).2.2.2.2.2;rw[hr]at this;cases hd:Cq v with|false=>rw[hd]at this;cases this|true=>rw[hd]at this;cases hm:v.2.2.2.2.1 with|true=>rw[hm]at this;cases this|false=>exact⟨rfl,rfl⟩
theorem aeN (h:0<=n/\n<=1000000):n<=upM n/\0<upM n/\upM n<=1000000:=by unfold upM;rw[ak];split<;>omega
theorem aiS (h:eG v=true):eG (evV v)=true:=by have k:=(wA v).1 h;have u:=aeN k.2.2.1;unfold evV;rw[h,ah];refine FC (v:=(v.1,v.2.1,upM v.2.2.1,v.2.2.2)) k.1 k.2.1 ⟨by show 0<=upM v.2.2.1;omega,u.2.2⟩ k.2.2.2.1 (Or.inl u.2.1) λhr=>?_;have d:=Bx h hr;have d1:=(Dr v).1 d.1;exact⟨(Dr _).2 ⟨by show 1<=upM v.2.2.1;omega,by show v.1<=upM v.2.2.1\/v.2.1<=v.2.2.2.1;omega⟩,d.2⟩
theorem aeR (h:eG v=true):eG (TN v)=true:=by have k:=(wA v).1 h;have u:=aeN k.2.2.2.1;unfold TN;rw[h,ah];by_cases h0:v.2.2.1>0;rw[aw h0,ah];refine FC (v:=(v.1,v.2.1,v.2.2.1,upM v.2.2.2.1,v.2.2.2.2)) k.1 k.2.1 k.2.2.1 ⟨by show 0<=upM v.2.2.2.1;omega,u.2.2⟩ (Or.inl h0) λhr=>?_;have d:=Bx h hr;have d1:=(Dr v).1 d.1;exact⟨(Dr _).2 ⟨d1.1,by show v.1<=v.2.2.1\/v.2.1<=upM v.2.2.2.1;omega⟩,d.2⟩;rw[au h0,af];exact FC k.1 k.2.1 k.2.2.1 k.2.2.2.1 k.2.2.2.2.1 λhr=>Bx h hr
theorem aeQ (h:eG v=true):eG (AP v).1=true:=by have k:=(wA v).1 h;unfold AP;cases eG v&&v.2.2.2.2.2 with|false=>exact h|true=>exact(wA _).2 ⟨k.1,k.2.1,⟨dW _,by show(0:Int)<=1000000;omega⟩,⟨dW _,by show(0:Int)<=1000000;omega⟩,Or.inr rfl,by show false=(_&& !true);simp⟩
theorem Xe (h:eG v=true):eG (G7 v)=true:=by have k:=(wA v).1 h;unfold G7;rw[h,ah];refine FC (v:=(v.1,v.2.1,v.2.2.1,v.2.2.2.1,false,v.2.2.2.2.2)) k.1 k.2.1 k.2.2.1 k.2.2.2.1 k.2.2.2.2.1 λhr=>?_;exact⟨(Dr _).2 ((Dr v).1 (Bx h hr).1),rfl⟩
theorem abj (h:eG v=true):eG (v.1,v.2.1,0,0,false,false)=true:=by have k:=(wA v).1 h;exact(wA _).2 ⟨k.1,k.2.1,⟨dW _,by show(0:Int)<=1000000;omega⟩,⟨dW _,by show(0:Int)<=1000000;omega⟩,Or.inr rfl,by simp[Cq]⟩
structure ze (n:Int) (r:bJ):Prop where
 ring:cV r.1=true
 dev:fF r.2.1=true
 drv:fF r.2.2.1=true
 base:r.2.1.1=r.2.2.1.1
 size:r.2.1.2.1=r.2.2.1.2.1
 drop:0<=r.2.2.2.2.2/\r.2.2.2.2.2<=n
 held:r.2.2.2.2.1=true->dw r.2.2.2.1.1=true/\(0<=r.2.2.2.1.2.1/\r.2.2.2.1.2.1<=320)/\1<=r.2.2.2.1.2.2/\r.2.2.2.1.2.2<=320
 free:r.2.2.2.2.1=false->r.2.2.2.1=abc
theorem ad0 (r:bJ):D2 r=true↔ze 1000000000000 r:=by constructor;intro h;unfold D2 at h;rw[ae]at h;simp only[ae,aV,bh]at h;obtain⟨⟨h1,h2,h3,h4,h5,h6⟩,h7⟩:=h;refine⟨h1,h2,h3,h4,h5,h6,λhh=>?_,λhh=>?_⟩;rw[hh,ah]at h7;simp only[ae,bh]at h7;exact⟨h7.1,h7.2.1,h7.2.2⟩;rw[hh,af]at h7;exact(aeh _).1 h7;intro h;unfold D2;rw[ae];simp only[ae,aV,bh];refine⟨⟨h.ring,h.dev,h.drv,h.base,h.size,h.drop⟩,?_⟩;cases hh:r.2.2.2.2.1 with|true=>have:=h.held hh;simp only[ah,ae,bh];exact⟨this.1,this.2.1,this.2.2⟩|false=>rw[af];exact(aeh _).2 (h.free hh)
theorem ze.mono {m:Int}{r:bJ}(h:ze n r)(hn:n<=m:=by omega):ze m r:=⟨h.ring,h.dev,h.drv,h.base,h.size,⟨h.drop.1,by have:=h.drop.2;omega⟩,h.held,h.free⟩
theorem ze.rx {r:bJ}(h:ze n r)(hn:n<=1000000000000):D2 r=true:=(ad0 r).2 (h.mono hn)
theorem Z5 (h:cx m=true)(l:ax aB)(d:Int)(q:JD)(x:D4):cx (wR l m d q x).1=true:=by
 unfold wR;cases !fF q|| !xc x;case true=>exact h
 cases (gy l m d (pW q) (Kr x (vn q)) true).2 with|false=>exact h|true=>exact CS h ..
theorem Z6 (h:cx m=true)(l:ax aB)(d:Int)(q:bJ)(k s:Bytes):cx (gC l m d q k s).1=true:=by
 unfold gC;cases !(cI s).2||(((cI s).1.1 !=3)||decide ((cI s).1.2.2.1<((dp q.2.2.2.1.1).1.length:Int)));case true=>exact h
 cases (gy l m d (cI s).1.2.2.2.1 (dp q.2.2.2.1.1).1 true).2 with|false=>exact h|true=>exact Z5 (CS h ..) ..
theorem age {k s:Bytes}(hm:cx m=true)(hq:fF q.2.1=true):fF (gC l m d q k s).2.1=true/\(gC l m d q k s).2.1.1=q.2.1.1/\(gC l m d q k s).2.1.2.1=q.2.1.2.1:=(Ou (n:=128) (by omega) (Ob (by omega) (kF.1 hm)) hq).2.2
theorem EN (hn:n<=900000000000)(h:ze n q)(hm:cx m=true)(l:ax aB)(d:Int)(k:Bytes):cx (gW l m d q k).1=true/\ze (n+320) (gW l m d q k).2:=by
 unfold gW;cases hc: !D2 q||(!q.2.2.2.2.1||((k.length:Int) !=16));case true=>exact⟨hm,h.mono⟩
 simp only[ch,dB]at hc;have hh:=h.held hc.2.1;have hd:=h.drop;have hr:=Ok h.ring l m d;have hs:=age (l:=l) (d:=d) (k:=k) (s:=(bg l m d q.1).1) hm h.dev;simp only[af];cases (bg l m d q.1).2.2&&(gC l m d q k (bg l m d q.1).1).2.2 with|true=>exact⟨Z6 hm ..,hr.1,hs.1,h.drv,hs.2.1.trans h.base,hs.2.2.trans h.size,⟨hd.1,by show q.2.2.2.2.2<=n+320;omega⟩,λhf=>(by cases hf),λ_=>rfl⟩|false=>refine⟨hm,hr.1,h.dev,h.drv,h.base,h.size,?_,λhf=>(by cases hf),λ_=>rfl⟩;show 0<=ar (q.2.2.2.2.2+q.2.2.2.1.2.2)/\ar (q.2.2.2.2.2+q.2.2.2.1.2.2)<=n+320;rw[ak];omega
theorem afG {s:rq}(h:FB s p=true):dw (Ej s p).1=true/\(0<=(Ej s p).2.1/\(Ej s p).2.1<=320)/\1<=(Ej s p).2.2/\(Ej s p).2.2<=320:=by
 have hl:=OR h;unfold Ej;rw[h,ah];simp only[FB,acK,Ye,ae,aD,bh,aV]at h;obtain⟨⟨hs,hp,ajW,h6,h16,hf⟩,⟨hz,hc,hn,DC,aj3⟩,_⟩:=h;have ao9:s.2.2+1<=320:=by
  have:s.2.2<=s.2.1*s.2.2:=by have:=Int.mul_le_mul_of_nonneg_right hz (show 0<=s.2.2 by omega);omega
  omega
 have aj6:s.2.1<=320:=by
  have:s.2.1<=s.2.1*s.2.2:=by have:=Int.mul_le_mul_of_nonneg_left hc.1 (show 0<=s.2.1 by omega);omega
  omega
 refine⟨?_,⟨by show 0<=s.2.1;omega,aj6⟩,?_⟩;have hh:pC s.1=true:=by unfold dw at hs;simp only[ae]at hs;exact hs.1
 have hk:s.1.2.2.2.2.2.2.2.2.1=6:=by
  have e:s.1.2.2.2.2.2.2.2.2.1=p.2.2.2.2.2.2.2.2.1:=by have h2:=ajW;unfold SW at h2;simp only[ae,aV]at h2;exact h2.2.2.2.2.2.2.2.1
  rw[e];exact h6
 have hsg:=yG hh;have hfl:di p.2.2.2.2.2.2.2.2.2.2.2.2.2.1 0 31=true:=Gv hp (by rw[h6];rfl);have hg:=LL hsg hk (Yb hsg hk).2.2.1 (bh.1 hfl) (x:=s.1.2.2.2.2.2.2.2.2.2.2.2.2.2.2.2++p.2.2.2.2.2.2.2.2.2.2.2.2.2.2.2) (by rw[ai];omega);unfold dw;rw[ae];refine⟨Av hh (KL hh) hg,?_⟩;show(_||(s.1.2.2.2.2.2.2.2.2.1==6)&&Bc p.2.2.2.2.2.2.2.2.2.2.2.2.2.1)=true;rw[hk,hf];simp;show 1<=ar (s.2.2+1)/\ar (s.2.2+1)<=320;rw[ak];omega
theorem afm (h:ze n q){s:rq}(hs:dw s.1=true)(h1:0<=s.2.1/\s.2.1<=320)(h2:1<=s.2.2/\s.2.2<=320):ze n (KM q s):=⟨h.ring,h.dev,h.drv,h.base,h.size,h.drop,λ_=>⟨hs,h1,h2⟩,λhf=>(by cases hf)⟩
theorem aaV (h:fZ p=true):dw (my p).1=true/\(0<=(my p).2.1/\(my p).2.1<=320)/\1<=(my p).2.2/\(my p).2.2<=320:=by
 have hl:=E2 h;have hs:dw p=true:=by unfold fZ at h;simp only[ae]at h;exact h.1
 refine⟨hs,?_,by show(1:Int)<=1/\(1:Int)<=320;omega⟩;show 0<=(p.2.2.2.2.2.2.2.2.2.2.2.2.2.2.2.length:Int)/\(p.2.2.2.2.2.2.2.2.2.2.2.2.2.2.2.length:Int)<=320;omega
theorem QX (hn:n<=800000000000)(h:ze n q)(hm:cx m=true)(l:ax aB)(d:Int)(k:Bytes)(p:aP)(c:Bool):cx (jv l m d q k p c).1=true/\ze (n+640) (jv l m d q k p c).2:=by
 unfold jv;cases hc: !D2 q||(!fZ p||((k.length:Int) !=16));case true=>exact⟨hm,h.mono⟩
 simp only[ch,dB]at hc;have hs:=aaV hc.2.1;have hf:=EN (by omega) h hm l d k;have Bf:=afm hf.2 hs.1 hs.2.1 hs.2.2;simp only[af];cases hj:c&&(q.2.2.2.2.1&&FB q.2.2.2.1 p)with|true=>simp only[ae]at hj;have j:=afG hj.2.2;exact⟨hm,h.ring,h.dev,h.drv,h.base,h.size,⟨h.drop.1,by show q.2.2.2.2.2<=n+640;have:=h.drop.2;omega⟩,λ_=>j,λhf=>(by have hf:q.2.2.2.2.1=false:=hf;rw[hj.2.1]at hf;cases hf)⟩|false=>simp only[af];cases c with|true=>exact⟨hf.1,Bf.mono⟩|false=>have:=EN (by omega) Bf hf.1 l d k;exact⟨this.1,this.2.mono⟩
theorem aiA {q:JD}(h:fF q=true):fF (oH l m d q).2.1=true/\(oH l m d q).2.1.1=q.1/\(oH l m d q).2.1.2.1=q.2.1:=by unfold oH;cases JR l m d q with|false=>exact⟨h,rfl,rfl⟩|true=>have k:=uz h;refine⟨?_,rfl,rfl⟩;have e:=QF (a:=q.2.2+1) (b:=2*q.2.1);simp only[ah,agO,fF,ae,bh]at h⊢;refine⟨h.1,h.2.1,?_⟩;rw[yu h.2.1];omega
theorem Ww {s:ax Stream×bJ×cK}(h:ze n s.2.1)(hp:dy s.2.2=true)(l:ax aB)(m:bR)(d:Int):ze n (zI l m d s).2.1/\dy (zI l m d s).2.2=true:=by have k:=aiA (l:=l) (m:=m) (d:=d) h.drv;exact⟨⟨h.ring,h.dev,k.1,h.base.trans k.2.1.symm,h.size.trans k.2.2.symm,h.drop,h.held,h.free⟩,aay hp _⟩
theorem Lx (l:ax aB)(m:bR)(d:Int):∀(k:Nat)(s:ax Stream×bJ×cK),ze n s.2.1->dy s.2.2=true->ze n (iA l m d k s).2.2.1/\dy (iA l m d k s).2.2.2=true
 |0,s,h,hp=>⟨h,hp⟩
 |k+1,s,h,hp=>by rw[iA];cases (oH l m d s.2.1.2.2.1).2.2 with|false=>exact⟨h,hp⟩|true=>have e:=Ww h hp l m d;exact Lx l m d k _ e.1 e.2
theorem Kx (l:ax aB)(d:Int)(p:cK):∀(q:cZ)(m:bR)(r:kx),cx m=true->cV r=true->cx (jw l d p q m r).2.1=true/\cV (jw l d p q m r).2.2=true
 |[],m,r,hm,hr=>⟨hm,hr⟩
 |b::q,m,r,hm,hr=>by rw[jw];cases (cy l m d r (ee p b)).2.2 with|false=>exact⟨hm,hr⟩|true=>exact Kx l d p q _ _ (IK hm ..) (Th hr ..).1
theorem Ns (hm:cx m=true)(hr:cV r=true){p:cK}(hp:dy p=true)(l:ax aB)(d:Int):cx (rr l m d r p).1=true/\cV (rr l m d r p).2.1=true/\dy (rr l m d r p).2.2.1=true:=by unfold rr;rw[hr,hp];have k:=Kx l d p p.2.2.2 m r hm hr;exact⟨k.1,k.2,CW hp (List.drop_sublist _ _)⟩
theorem Oi {rx:bJ}(h:ze n rx)(hm:cx m=true){pl:cK}(hp:dy pl=true)(l:ax aB)(d:Int)(st:ax Stream)(c:Int):cx (iT l m d rx pl st c).1=true/\ze n (iT l m d rx pl st c).2.1/\dy (iT l m d rx pl st c).2.2.1=true:=by
 unfold iT;cases !D2 rx||(!dy pl|| !di c 0 1000);case true=>exact⟨hm,h,hp⟩
 have k:=Lx l m d c.toNat (st,rx,pl) h hp;have f:=Ns hm k.1.ring k.2 l d;exact⟨f.1,⟨f.2.1,k.1.dev,k.1.drv,k.1.base,k.1.size,k.1.drop,k.1.held,k.1.free⟩,f.2.2⟩
structure Good (n:Int) (h:Host):Prop where
 mem:cx h.1=true
 maps:dj h.2.1=true
 tx:Fv h.2.2.1
 Jo:qF h.2.2.2.2.2.2.2.1=true
 lens:ry h=true
 Ot:fw h.2.2.2.2.2.2.2.2.1 (h.2.2.2.1.length:Int)=true
 rx:∀r∈h.2.2.2.1,ze n r
 pool:∀p∈h.2.2.2.2.1,dy p=true
 vec:∀v∈h.2.2.2.2.2.1,eG v=true
 Ca:∀x∈iw h,0<=x/\x<=n
theorem Good.mono {m:Int}(g:Good n h)(hn:n<=m:=by omega):Good m h:=⟨g.mem,g.maps,g.tx,g.Jo,g.lens,g.Ot,λr hr=>(g.rx r hr).mono hn,g.pool,g.vec,λx hx=>⟨(g.Ca x hx).1,by have:=(g.Ca x hx).2;omega⟩⟩
theorem acQ (h:Host):dF h=true↔Good 1000000000000 h:=by unfold dF Ti;simp only[ae,aF,bh,aiQ,ad0];constructor;rintro⟨h1,h2,h3,h4,h5,h6,⟨h7,h8,h9⟩,h10⟩;exact⟨h1,h2,h3,h4,h5,h6,h7,h8,h9,h10⟩;intro g;exact⟨g.mem,g.maps,g.tx,g.Jo,g.lens,g.Ot,⟨g.rx,g.pool,g.vec⟩,g.Ca⟩
theorem Good.ok (g:Good n h)(hn:n<=1000000000000):dF h=true:=(acQ h).2 (g.mono hn)
theorem sq {P:α->Prop}{l:ax α}{v:α}(h:∀x∈l,P x)(hv:P v):∀x∈l.set i v,P x:=by intro x hx;rcases dJ hx with g|g;exact h x g;rw[g];exact hv
theorem afi (g:Good n h)(k:Nat):Good n (evS k h):=by unfold evS;cases hv:h.2.2.2.2.2.1[k]? with|none=>exact g|some v=>exact⟨g.mem,g.maps,g.tx,g.Jo,by have:=g.lens;unfold ry at this⊢;rw[aC];exact this,g.Ot,g.rx,g.pool,sq g.vec (aiS (g.vec v (bp hv))),g.Ca⟩
theorem RF (g:Good n h)(k:Nat):∀i,Good n (Vc k i h)
 |0=>g
 |i+1=>afi (RF g k i) k
theorem IA (g:Good n h)(k:Nat)(b:Int){f:bR×bJ}(h1:cx f.1=true)(h2:ze n f.2):Good n (BK h k b f):=by refine RF (h:=GB h k f) ⟨h1,g.maps,g.tx,g.Jo,?_,?_,sq g.rx h2,g.pool,g.vec,g.Ca⟩ _ _;have:=g.lens;unfold ry GB at*;simp only[aC];exact this;show fw _ ((h.2.2.2.1.set k f.2).length:Int)=true;rw[aC];exact g.Ot
theorem RG (hn:n<=800000000000)(g:Good n h)(k:Nat):Good (n+320) (mh k h):=by unfold mh;cases hx:h.2.2.2.1[k]? with|none=>exact g.mono|some x=>have f:=EN (by omega) (g.rx x (bp hx)) g.mem h.2.1 0 h.2.2.2.2.2.2.2.2.1.2.2.1;exact IA (g.mono) k _ f.1 f.2
theorem Vn (hn:n<=700000000000)(g:Good n h):Good (n+640) (xf h):=by
 unfold xf;have hl:=qZ g.lens;cases dF h with
 |false=>exact g.mono
 |true=>
  have key:∀k:Nat,k<=2->Good (n+320*(k:Int)) (kq mh k h):=by intro k;induction k with|zero=>intro _;exact g.mono|succ k ih=>intro hk;exact(RG (by omega) (ih (by omega)) k).mono
  exact(key _ hl.1).mono (by have:=hl.1;omega)
theorem YZ (g:Good n h):Good n (zR h):=by
 unfold zR;cases dF h with
 |false=>exact g
 |true=>
  have key:∀k,Good n (kq tE k h):=by intro k;induction k with|zero=>exact g|succ k ih=>show Good n (tE k (kq tE k h));generalize kq tE k h=s at ih⊢;unfold tE;cases hv:s.2.2.2.2.2.1[k]? with|none=>exact ih|some v=>exact⟨ih.mem,ih.maps,ih.tx,ih.Jo,by have:=ih.lens;unfold ry at this⊢;rw[aC];exact this,ih.Ot,ih.rx,ih.pool,sq ih.vec (aeR (ih.vec v (bp hv))),ih.Ca⟩
  exact key _
theorem YY (g:Good n h)(p:aP)(c z:Int):Good n (yU h p c z).1:=by unfold yU;cases dF h with|false=>exact g|true=>have k:=aaR g.tx g.mem h.2.1 0 p c z;exact⟨k.1,g.maps,k.2,g.Jo,g.lens,g.Ot,g.rx,g.pool,g.vec,g.Ca⟩
theorem Mw (g:Good n h):Good n (lA h):=by unfold lA;cases dF h with|false=>exact g|true=>have r:=Df h.2.1 h.1 0 17 [] 0 0 h.2.2.1.1 g.tx.ring;exact⟨g.mem,g.maps,TP (agj g.tx r.1 r.2) _,g.Jo,g.lens,g.Ot,g.rx,g.pool,g.vec,g.Ca⟩
theorem Ci (h:0<=x/\x<=n)(hn:n<=800000000000:=by omega):0<=ar (x+1)/\ar (x+1)<=n+1:=by rw[ak];omega
theorem Bd (hn:n<=800000000000)(g:Good n h){a c:Int}(ha:0<=a/\a<=n+1)(hb:0<=b/\b<=n+1)(hc:0<=c/\c<=n+1)(hd:0<=d/\d<=n+1):Good (n+1) (xd h a b c d):=by have k:=g.mono (show n<=n+1 by omega);refine⟨k.mem,k.maps,k.tx,k.Jo,k.lens,k.Ot,k.rx,k.pool,k.vec,λx hx=>?_⟩;have h1:=Ci (g.Ca _ (List.mem_cons_self ..)) hn;simp only[iw,xd,cn,List.not_mem_nil,or_false]at hx;rcases hx with rfl|rfl|rfl|rfl|rfl;exact h1;exact ha;exact hb;exact hc;exact hd
theorem Pt (hn:n<=700000000000)(g:Good n h)(x:Bytes):Good (n+641) (lS h x):=by
 have c1:=g.Ca h.2.2.2.2.2.2.2.2.2.2.2.2.2.2.2.1 (by simp[iw]);have c2:=g.Ca h.2.2.2.2.2.2.2.2.2.2.2.2.2.2.2.2.1 (by simp[iw]);have c3:=g.Ca h.2.2.2.2.2.2.2.2.2.2.2.2.2.2.2.2.2.1 (by simp[iw]);have c4:=g.Ca h.2.2.2.2.2.2.2.2.2.2.2.2.2.2.2.2.2.2 (by simp[iw]);have u:∀{y:Int},0<=y/\y<=n->0<=y/\y<=n+1:=λhy=>⟨hy.1,by omega⟩
 unfold lS;cases dF h;exact g.mono;cases (oI x).2 !=0;case true=>exact(Bd (by omega) g (Ci c1) (u c2) (u c3) (u c4)).mono
 cases !wB h.2.2.2.2.2.2.2.1 (oI x).1;case true=>exact(Bd (by omega) g (u c1) (Ci c2) (u c3) (u c4)).mono
 cases rE h.2.2.2.2.2.2.2.2.1 (h.2.2.2.1.length:Int) (oI x).1== -1;case true=>exact(Bd (by omega) g (u c1) (u c2) (Ci c3) (u c4)).mono
 simp only[aj,af];cases hq:h.2.2.2.1[(rE h.2.2.2.2.2.2.2.2.1 (h.2.2.2.1.length:Int) (oI x).1).toNat]? with|none=>exact g.mono|some q=>have a:=QX (by omega) (g.rx q (bp hq)) g.mem h.2.1 0 h.2.2.2.2.2.2.2.2.1.2.2.1 (oI x).1 h.2.2.2.2.2.2.2.2.2.2.1;exact IA ((Bd (by omega) g (u c1) (u c2) (u c3) (Ci c4)).mono) _ _ a.1 (a.2.mono)
theorem RH (g:Good n h)(i:Nat)(c:Int):Good n (ux h i c).2:=by unfold ux;rcases h1:h.2.2.2.1[i]? with _|rx;exact g;rcases h2:h.2.2.2.2.1[i]? with _|pl;exact g;have k:=Oi (g.rx rx (bp h1)) g.mem (g.pool pl (bp h2)) h.2.1 0 h.2.2.2.2.2.2.2.2.2.1 c;refine⟨k.1,g.maps,g.tx,g.Jo,?_,?_,sq g.rx k.2.1,sq g.pool k.2.2,g.vec,g.Ca⟩;have:=g.lens;unfold ry at*;simp only[aC];exact this;show fw _ ((h.2.2.2.1.set i _).length:Int)=true;rw[aC];exact g.Ot
theorem RJ (b:Int)(k:Nat){s:Int×Host}(g:Good n s.2):Good n (uC b k s).2:=by unfold uC;rcases h1:s.2.2.2.2.2.2.1[k]? with _|v;exact g;rcases h2:s.2.2.2.2.2.2.2.1[k]? with _|p;exact g;rcases h3:s.2.2.2.2.1[k]? with _|x;exact g;rcases h4:s.2.2.2.2.2.1[k]? with _|pl;exact g;have hv:=aeQ (g.vec v (bp h1));simp only;cases p||(AP v).2 with|false=>refine⟨g.mem,g.maps,g.tx,g.Jo,?_,g.Ot,g.rx,g.pool,sq g.vec hv,g.Ca⟩;have:=g.lens;unfold ry at*;simp only[af,aC];exact this|true=>have e:=Oi (g.rx x (bp h3)) g.mem (g.pool pl (bp h4)) s.2.2.1 0 s.2.2.2.2.2.2.2.2.2.2.1 b;refine⟨e.1,g.maps,g.tx,g.Jo,?_,?_,sq g.rx e.2.1,sq g.pool e.2.2,sq g.vec ?_,g.Ca⟩;have:=g.lens;unfold ry at*;simp only[ah,aC];exact this;show fw _ ((s.2.2.2.2.1.set k _).length:Int)=true;rw[aC];exact g.Ot;cases decide ((iT s.2.2.1 s.2.1 0 x pl s.2.2.2.2.2.2.2.2.2.2.1 b).2.2.2.2<b)with|true=>exact Xe hv|false=>exact hv
theorem KI (b:Int)(g:Good n h):∀k,Good n (nq b k h).2
 |0=>g
 |k+1=>RJ b k (KI b g k)
theorem Pv (g:Good n h)(b:Int):Good n (lT h b).1:=by unfold lT;cases dF h&&di b 1 1000 with|false=>exact g|true=>exact KI b g _
theorem FQ (g:Good n h):∀k,Good n (od h k)
 |0=>g
 |k+1=>RH (FQ g k) k 1000
theorem YX (g:Good n h)(l:cZ):Good n (adU h l):=⟨g.mem,g.maps,g.tx,g.Jo,g.lens,g.Ot,g.rx,g.pool,g.vec,g.Ca⟩
theorem Ea (g:Good n h):∀k,Good n (returned h k)
 |0=>FQ g _
 |k+1=>by show Good n (GI h.2.2.1.2.2.1 k (returned h k));have:=Ea g k;unfold GI;cases h.2.2.1.2.2.1[k]? with|none=>exact this|some x=>exact YX this _
theorem S5 {a:Int}(ha:0<=a/\a<=130944:=by omega)(hb:1<=b/\b<=512:=by omega)(hn:0<=n/\n<=16:=by omega):ia a b n=((a,b,n,upto n.toNat),true)/\dy (a,b,n,upto n.toNat)=true:=by have h1:dy (a,b,n,[])=true:=AK.2 ⟨ha,hb,hn,by simp,List.nodup_nil⟩;refine⟨by unfold ia;rw[h1];rfl,AK.2 ⟨ha,hb,hn,?_,?_⟩⟩;intro x hx;simp only[upto,List.mem_map,bK]at hx;obtain⟨i,hi,rfl⟩:=hx;show 0<=Int.ofNat i/\Int.ofNat i<=n-1;simp only[Int.ofNat_eq_natCast];omega;show(upto n.toNat).Nodup;unfold upto;rw[List.Nodup,List.pairwise_map];exact List.nodup_range.imp λh he=>h (Int.ofNat.inj he)
theorem aeL (c:Int)(hc:0<=c/\c<=65535):Fv (EA.1,EA.2.1,EA.2.2.1,c):=by
 have p:=S5 (a:=256) (b:=128) (n:=8);refine⟨CZ,hc,λx hx=>(by cases hx),?_,by show(0:Int)<=16;omega⟩;show dy (gx (ia 256 128 8).1 [])=true;rw[p.1];have e:gx (256,128,8,upto (8:Int).toNat) []=(256,128,8,upto (8:Int).toNat):=by simp[gx]
 show dy (gx (256,128,8,upto (8:Int).toNat) [])=true;rw[e];exact p.2
theorem Ps (g:Good n h):Good n (nM h):=by have k:=Ea g h.2.2.1.2.2.1.length;exact⟨k.mem,k.maps,aeL _ k.tx.next,k.Jo,k.lens,k.Ot,k.rx,k.pool,k.vec,k.Ca⟩
theorem Xl (h:i<=8):0<=hU i/\hU i<=16000:=by unfold hU;omega
theorem N6 (hm:cx m=true)(l:ax aB)(hi:i<=8):cx (pS l m i).1=true/\cV (pS l m i).2.1=true/\dy (pS l m i).2.2.1=true:=by have hb:=Xl hi;have p:=S5 (a:=hU i+128) (b:=384) (n:=4);unfold pS;rw[p.1];exact Ns (CS hm ..) (CZ) p.2 l 0
theorem Tm (hi:i<=8)(hr:cV r=true)(hd:0<=d/\d<=n):ze n (r,(hU i+64,4,0),(hU i+64,4,0),((0,0,0,0,0,0,0,0,0,0,0,0,0,0,0,([]:Bytes)),0,0),false,d):=by
 have hb:=Xl hi;have hq:fF (hU i+64,4,0)=true:=by have hs:iW 4=true:=gQ.2 (by omega);unfold fF;rw[ae,ae];exact⟨bh.2 (by omega),hs,by rw[yu hs];rfl⟩
 exact⟨hr,hq,hq,rfl,rfl,hd,λhf=>(by cases hf),λ_=>rfl⟩
theorem RI (hn:n<=800000000000)(g:Good n h)(hi:i<=8):Good (n+320) (uB i h):=by
 have gm:=g.mono (show n<=n+320 by omega);unfold uB;rcases h1:h.2.2.2.1[i]? with _|x;exact gm;rcases h2:h.2.2.2.2.2.1[i]? with _|v;exact gm;have o:=N6 g.mem h.2.1 hi;have hx:=g.rx x (bp h1);have hd:0<=D6 x/\D6 x<=n+320:=by have d:=hx.drop;unfold D6;cases hh:x.2.2.2.2.1 with|false=>simp only[af];omega|true=>have:=hx.held hh;rw[ah,ak];omega
 refine⟨o.1,gm.maps,gm.tx,gm.Jo,?_,?_,sq gm.rx (Tm hi o.2.1 hd),sq gm.pool o.2.2,sq gm.vec (abj (g.vec v (bp h2))),gm.Ca⟩;have:=g.lens;unfold ry CU at*;simp only[aC];exact this;show fw _ (((CU h i (D6 x)).2.2.2.1).length:Int)=true;unfold CU;simp only[aC];exact g.Ot
theorem D9 (hn:n<=700000000000)(g:Good n h):∀k:Nat,k<=8->Good (n+320*(k:Int)) (gP h k)
 |0,_=>g.mono
 |k+1,hk=>(RI (by omega) (D9 hn g k (by omega)) (i:=k) (by omega)).mono
theorem Vo (hn:n<=700000000000)(g:Good n h):Good (n+640) (tf h):=by have hl:=qZ g.lens;unfold tf;cases dF h with|false=>exact g.mono|true=>exact(D9 hn (Ps g) _ (by omega)).mono (by have:=hl.1;omega)
structure mA (a b:Host):Prop where
 maps:b.2.1=a.2.1
 mem:b.1.length=a.1.length
theorem mA.refl (a:Host):mA a a:=⟨rfl,rfl⟩
theorem mA.trans {a b c:Host}(h:mA a b)(g:mA b c):mA a c:=⟨g.maps.trans h.maps,g.mem.trans h.mem⟩
theorem mA.of {a b:Host}(h:lp k a b):mA a b:=⟨h.maps,h.mem⟩
theorem agd (l:ax aB)(m:bR)(d:Int)(q:bJ)(k s:Bytes):(gC l m d q k s).1.length=m.length:=by
 unfold gC;cases !(cI s).2||(((cI s).1.1 !=3)||decide ((cI s).1.2.2.1<((dp q.2.2.2.1.1).1.length:Int)));case true=>rfl
 cases (gy l m d (cI s).1.2.2.2.1 (dp q.2.2.2.1.1).1 true).2 with
 |false=>rfl
 |true=>
  simp only[af,aj];unfold wR;cases !fF q.2.1|| !xc _;case true=>exact jR ..
  cases (gy l (gy l m d (cI s).1.2.2.2.1 (dp q.2.2.2.1.1).1 true).1 d (pW q.2.1) _ true).2 with|false=>exact jR ..|true=>exact(jR ..).trans (jR ..)
theorem Pq (l:ax aB)(m:bR)(d:Int)(q:bJ)(k:Bytes):(gW l m d q k).1.length=m.length:=by
 unfold gW;cases !D2 q||(!q.2.2.2.2.1||((k.length:Int) !=16));case true=>rfl
 cases (bg l m d q.1).2.2&&(gC l m d q k (bg l m d q.1).1).2.2 with|true=>exact agd ..|false=>rfl
theorem abB (l:ax aB)(m:bR)(d:Int)(q:bJ)(k:Bytes)(p:aP)(c:Bool):(jv l m d q k p c).1.length=m.length:=by
 unfold jv;cases !D2 q||(!fZ p||((k.length:Int) !=16));case true=>rfl
 cases c&&(q.2.2.2.2.1&&FB q.2.2.2.1 p);case true=>rfl
 cases c with|true=>exact Pq ..|false=>exact(Pq ..).trans (Pq ..)
theorem ad4 (l:ax aB)(m:bR)(d:Int)(t:dx)(p:aP)(c z:Int):(og l m d t p c z).1.length=m.length:=by unfold og;cases Mb t&&(dw p&&(di z 1 t.2.1.2.1&&di c 1 128));rfl;cases FL t (xb p z.toNat);rfl;simp only[ah];cases hw:qi l d t.2.1 z.toNat (jW t.2.1 (xb p z.toNat:Int)).2.1 (jL p).1 m []with|none=>rfl|some x=>have hx:=(FJ _ _ _ _ _ _ _ _ hw).1;simp only;unfold Er oe;cases hp:kh l d ((oy x.1 c t.2.2.2).map wD) x.2 t.1 with|none=>rfl|some y=>exact(IU _ _ _ _ _ hp).trans hx
theorem aa6 (h:Host)(p:aP)(c z:Int):mA h (yU h p c z).1:=by unfold yU;cases dF h with|false=>exact mA.refl h|true=>exact⟨rfl,ad4 ..⟩
theorem MW (h:Host):mA h (lA h):=by unfold lA;cases dF h with|false=>exact mA.refl h|true=>exact⟨rfl,rfl⟩
theorem W3 (h:Host):mA h (xf h):=by unfold xf;cases dF h with|false=>exact mA.refl h|true=>exact mA.of (vA Cx h _)
theorem aa7 (h:Host):mA h (zR h):=by unfold zR;cases dF h with|false=>exact mA.refl h|true=>exact mA.of (vA Fc h _)
theorem Qt (h:Host)(b:Int):mA h (lT h b).1:=by unfold lT;cases dF h&&di b 1 1000 with|false=>exact mA.refl h|true=>exact mA.of (DQ b h _)
theorem Qs (h:Host)(x:Bytes):mA h (lS h x):=by
 unfold lS;cases dF h;exact mA.refl h;cases (oI x).2 !=0;case true=>exact⟨rfl,rfl⟩
 cases !wB h.2.2.2.2.2.2.2.1 (oI x).1;case true=>exact⟨rfl,rfl⟩
 cases rE h.2.2.2.2.2.2.2.2.1 (h.2.2.2.1.length:Int) (oI x).1== -1;case true=>exact⟨rfl,rfl⟩
 simp only[aj,af];cases hq:h.2.2.2.1[(rE h.2.2.2.2.2.2.2.2.1 (h.2.2.2.1.length:Int) (oI x).1).toNat]? with|none=>exact mA.refl h|some q=>exact mA.trans (b:=xd h _ _ _ _) ⟨rfl,rfl⟩ (mA.of (Dh (abB ..)))
theorem GX (h:Host):∀k,mA h (od h k)
 |0=>mA.refl h
 |k+1=>by refine(GX h k).trans ?_;show mA (od h k) (ux (od h k) k 1000).2;generalize od h k=s;unfold ux;rcases s.2.2.2.1[k]? with _|rx;exact mA.refl s;rcases s.2.2.2.2.1[k]? with _|pl;exact mA.refl s;exact⟨rfl,X4 ..⟩
theorem Ev (h:Host):∀k,mA h (returned h k)
 |0=>GX h _
 |k+1=>by refine(Ev h k).trans ?_;show mA (returned h k) (GI h.2.2.1.2.2.1 k (returned h k));unfold GI;cases h.2.2.1.2.2.1[k]? with|none=>exact mA.refl _|some x=>exact⟨rfl,rfl⟩
theorem W4 (h:Host):mA h (tf h):=by unfold tf;cases dF h with|false=>exact mA.refl h|true=>have k:=wb (nM h) h.2.2.2.1.length;have r:=Ev h h.2.2.1.2.2.1.length;exact⟨k.maps.trans r.maps,k.mem.trans r.mem⟩
def ru (h:Host)(a:Act):Host×Int:=
 bif a.1==0 then((yU h a.2.1 a.2.2.1 a.2.2.2.1).1,aiB (yU h a.2.1 a.2.2.1 a.2.2.2.1).2) else
 bif a.1==1 then(lA h,0) else
 bif a.1==2 then(lS h a.2.2.2.2.1,0) else
 bif a.1==3 then(xf h,0) else
 bif a.1==4 then(zR h,0) else
 lT h a.2.2.2.2.2
theorem ae7 (b:Bool):DK b=some (aiB b):=by unfold DK aiB;cases b<;>rfl
theorem afk (h:Host)(a:Act)(k:AW 90000000 h)(hx:a.2.2.2.2.1.length<=10^9)(h0:0<=a.1)(h5:a.1<=5):nY h a=some (true,ru h a):=by
 have z:cW 1000000000 dD h:=k.z.mono;unfold nY ru;simp only[ab,ZE h _ _ _ (k.mono),PX h (k.mono),PV h _ (k.mono) hx,VD h (k.mono),adj h (k.sz (by omega)) z,Se h _ (k.mono),ae7];cases e0:a.1==0;case true=>rfl
 cases e1:a.1==1;case true=>rfl
 cases e2:a.1==2;case true=>rfl
 cases e3:a.1==3;case true=>rfl
 cases e4:a.1==4;case true=>rfl
 have e5:(a.1==5)=true:=by simp only[cH,ne_eq]at e0 e1 e2 e3 e4;simp only[aV];omega
 rw[e5];rfl
def jx (s:Host×Int)(a:Act):Host×Int:=
 bif a.1==6 then(tf s.1,s.2) else((ru s.1 a).1,bif a.1==0 then ar (s.2+(ru s.1 a).2) else s.2)
def acE (h:Host)(l:ax Act):Host×Int:=l.foldl jx (h,0)
theorem EP (hn:n<=700000000000)(g:Good n h)(a:Act)(s:Int):Good (n+641) (jx (h,s) a).1:=by
 unfold jx;cases a.1==6 with
 |true=>exact(Vo hn g).mono
 |false=>
  show Good _ (ru h a).1;unfold ru;cases a.1==0;case true=>exact(YY g _ _ _).mono
  cases a.1==1;case true=>exact(Mw g).mono
  cases a.1==2;case true=>exact Pt hn g _
  cases a.1==3;case true=>exact(Vn hn g).mono
  cases a.1==4;case true=>exact(YZ g).mono
  exact(Pv g _).mono
theorem Vm (h:Host)(a:Act)(s:Int):mA h (jx (h,s) a).1:=by
 unfold jx;cases a.1==6 with
 |true=>exact W4 h
 |false=>
  show mA h (ru h a).1;unfold ru;cases a.1==0;case true=>exact aa6 ..
  cases a.1==1;case true=>exact MW h
  cases a.1==2;case true=>exact Qs ..
  cases a.1==3;case true=>exact W3 h
  cases a.1==4;case true=>exact aa7 h
  exact Qt ..
theorem acF {n:Nat}(hn:1000<=n)(a:Act)(s:Int)(k:AW n h)(f:Few h):AW (n+645000) (jx (h,s) a).1:=by
 unfold jx;cases a.1==6 with
 |true=>exact(aaF hn k f).1
 |false=>
  show AW _ (ru h a).1;unfold ru;cases a.1==0;case true=>exact(ad3 hn _ _ _ k).mono
  cases a.1==1;case true=>exact(QG (by omega) k).mono
  cases a.1==2;case true=>exact(Te hn _ k).1.mono
  cases a.1==3;case true=>exact(YU hn k).mono
  cases a.1==4;case true=>exact(aeI hn k).mono
  exact(Tr hn _ k).mono
structure Ft (n:Nat) (h0:Host) (k:Nat) (h:Host):Prop where
 Mv:Good ((n:Int)+641*(k:Int)) h
 sz:AW (n+645000*k) h
 stay:mA h0 h
theorem Ht {n:Nat}(hn:1000<=n/\n<=20000000)(hk:k<=1000)(f:Ft n h0 k h)(a:Act)(s:Int):Ft n h0 (k+1) (jx (h,s) a).1:=by refine⟨(EP (by omega) f.Mv a s).mono (by push_cast;omega),(acF (by omega) a s f.sz (aht (f.Mv.ok (by omega)))).mono,f.stay.trans (Vm h a s)⟩
theorem Pr {n:Nat}(hn:1000<=n/\n<=20000000):∀(l:ax Act){k:Nat}{h:Host}(s:Int),k+l.length<=1000->Ft n h0 k h->Ft n h0 (k+l.length) (l.foldl jx (h,s)).1
 |[],k,h,s,_,f=>f
 |a::l,k,h,s,hk,f=>by simp only[bz]at hk;have i:=Pr hn l (k:=k+1) (h:=(jx (h,s) a).1) (jx (h,s) a).2 (by omega) (Ht hn (by omega) f a s);rw[List.foldl_cons,bz,show k+(l.length+1)=k+1+l.length by omega];exact i
theorem Lq (x:α):N4 (some (true,x))=some (true,x):=rfl
theorem FN {n:Nat}(hn:1000<=n/\n<=20000000)(hk:k<=100)(f:Ft n h0 k h)(a:Act)(ha:Jm a)(h6:(a.1==6)=false):nY h a=some (true,ru h a):=by refine afk h a (f.sz.mono) (by have:=ha.2.1;omega) ha.2.2.1 ?_;have:=ha.2.2.2;simp only[cH,ne_eq]at h6;omega
theorem Ny {n:Nat}(hn:1000<=n/\n<=20000000)(k0:Int->Int->Host->ay R)(l:ax Act)(b:Host){h0:Host}(hl:l.length<=100)(ha:∀a∈l,Jm a):∀(m i:Nat)(s:Int)(h:Host)(f:Nat),i+m=l.length->m<f->Ft n h0 i h->
 ba (hY k0 l b) f (s,(i:Int),h)=k0 ((l.drop i).foldl jx (h,s)).2 (l.length:Int) ((l.drop i).foldl jx (h,s)).1
 |0,i,s,h,f+1,e,_,_=>by rw[ba];unfold hY;simp only;rw[cP,af,cC (by omega)];show k0 s (i:Int) h=k0 s _ h;rw[show i=l.length by omega]
 |m+1,i,s,h,f+1,e,hf,q=>by
  have hi:i<l.length:=by omega
  have hx:=ha _ (aZ hi);have st:=Ht hn (by omega) q l[i] s;have go:=λs' h'=>Ny (h0:=h0) hn k0 l b hl ha m (i+1) s' h' f (by omega) (by omega);have ei:ar ((i:Int)+1)=((i+1:Nat):Int):=by rw[ak];rfl
  have hd:l.drop i=l[i]::l.drop (i+1):=(bO hi)
  rw[ba];generalize ba (hY k0 l b) f=T at go⊢;unfold hY;simp only[ei];rw[ks,ah,bl hi,ab,hd,List.foldl_cons];have fs:jx (h,s) l[i]=bif l[i].1==6 then(tf h,s) else((ru h l[i]).1,bif l[i].1==0 then ar (s+(ru h l[i]).2) else s):=rfl
  rw[fs]at st⊢;cases h6:l[i].1==6 with|true=>rw[h6]at st;rw[ah,Eh h (q.sz.sz (by omega)) (q.sz.z.mono),ab];exact go s _ st|false=>rw[h6]at st;simp only[ab,ah,af,FN hn (by omega) q l[i] hx h6,Lq]at st⊢;cases h00:l[i].1==0 with|true=>exact go _ _ st|false=>exact go _ _ st
theorem XH {n:Nat}(hn:1000<=n/\n<=20000000)(h:Host)(l:ax Act)(hl:l.length<=100)(ha:∀a∈l,Jm a)(g:Good (n:Int) h)(z:AW n h):pc h l=some (!l.isEmpty,acE h l):=by
 have q:Ft n h 0 h:=⟨by simpa using g,by simpa using z,mA.refl h⟩
 unfold pc;cases l with
 |nil=>rfl
 |cons a t=>
  have hx:=ha a (List.mem_cons_self ..);have st:=Ht hn (by omega) q a 0;have go:=λ{R:Type} (k0:Int->Int->Host->ay R) (b:Host) s' h'=>Ny (R:=R) (h0:=h) hn k0 (a::t) b hl ha t.length 1 s' h' fuel (by simp;omega) (by have:=eh;simp at hl;omega);have ei:ar ((0:Int)+1)=((1:Nat):Int):=by decide
  have hd:(a::t).drop 1=t:=rfl;have e0:idx (a::t) 0=some a:=rfl;have fs:jx (h,0) a=bif a.1==6 then(tf h,0) else((ru h a).1,bif a.1==0 then ar (0+(ru h a).2) else 0):=rfl
  rw[aw (by simp),ah,e0,ei];simp only[ab];have fa:acE h (a::t)=t.foldl jx (jx (h,0) a):=rfl;rw[fa,fs];rw[fs]at st;cases h6:a.1==6 with|true=>rw[h6]at st;rw[ah,Eh h (z.sz (by omega)) (z.z.mono),ab];simp only[ah]at st⊢;rw[go _ _ _ _ st];rfl|false=>rw[h6]at st;simp only[ab,ah,af,FN hn (by omega) q a hx h6,Lq]at st⊢;cases h00:a.1==0 with|true=>simp only[ah];rw[go _ _ _ _ st];rfl|false=>simp only[af];rw[go _ _ _ _ st];rfl
structure iD (n s:Nat) (h h':Host):Prop where
 maps:lC n s h.2.1 h'.2.1
 mem:ij n s h.1 h'.1
 rest:h'.2.2=h.2.2
theorem iD.of {n:Nat}{l':ax aB}(k:lC n s l l'){m':bR}(hs:ij n s m m')(X:dx×ax bJ×ax cK×ax Vector×ax Bool×Filter×cQ×ax Stream×Bool×bR×cZ×cZ×Int×Int×Int×Int×Int):iD n s (m,l,X) (m',l',X):=⟨k,hs,rfl⟩
theorem ahr {n:Nat}(k:Nat)(q:iD n s h h'):iD n s (evS k h) (evS k h'):=by obtain⟨m,l,X⟩:=h;obtain⟨m',l',X'⟩:=h';have e:X'=X:=q.rest;subst e;unfold evS;simp only;cases X'.2.2.2.1[k]? with|none=>exact q|some v=>exact⟨q.maps,q.mem,rfl⟩
theorem XB {n:Nat}(k:Nat)(q:iD n s h h'):∀i,iD n s (Vc k i h) (Vc k i h')
 |0=>q
 |i+1=>ahr k (XB k q i)
theorem Mh {n:Nat}(q:iD n s h h')(k:Nat)(b:Int){f f':bR×bJ}(e:Fu n s f f'):iD n s (BK h k b f) (BK h' k b f'):=by
 unfold BK;rw[e.1];refine XB k ?_ _;obtain⟨m,l,X⟩:=h;obtain⟨m',l',X'⟩:=h';have e2:X'=X:=q.rest;subst e2;refine⟨q.maps,e.2,?_⟩;show(X'.1,X'.2.1.set k f'.2,X'.2.2)=(X'.1,X'.2.1.set k f.2,X'.2.2)
 rw[e.1]
theorem aaO {n:Nat}(q:iD n s h h')(b:dF h=true)(b':dF h'=true)(p:aP)(c z:Int):iD n s (yU h p c z).1 (yU h' p c z).1/\(yU h' p c z).2=(yU h p c z).2:=by
 unfold yU;rw[b,b',ah,ah];obtain⟨m,l,X⟩:=h;obtain⟨m',l',X'⟩:=h';have e2:X'=X:=q.rest;subst e2;have p1:=ad5 q.maps q.mem 0 X'.1 p c z;refine⟨⟨q.maps,p1.2,?_⟩,?_⟩;show((og l' m' 0 X'.1 p c z).2.1,X'.2)=((og l m 0 X'.1 p c z).2.1,X'.2)
 rw[p1.1];show(og l' m' 0 X'.1 p c z).2.2=(og l m 0 X'.1 p c z).2.2;rw[p1.1]
theorem QH {n:Nat}(q:iD n s h h')(b:dF h=true)(b':dF h'=true):iD n s (lA h) (lA h'):=by unfold lA;rw[b,b',ah,ah];obtain⟨m,l,X⟩:=h;obtain⟨m',l',X'⟩:=h';have e2:X'=X:=q.rest;subst e2;have t:=abh q.maps q.mem 0 X'.1.1;refine⟨q.maps,q.mem,?_⟩;simp only at t⊢;rw[t]
theorem Tf {n:Nat}(q:iD n s h h')(b:dF h=true)(b':dF h'=true)(y:Bytes):iD n s (lS h y) (lS h' y):=by
 have Ca:∀a b c d,iD n s (xd h a b c d) (xd h' a b c d):=by intro a b c d;obtain⟨m,l,X⟩:=h;obtain⟨m',l',X'⟩:=h';have e2:X'=X:=q.rest;subst e2;exact⟨q.maps,q.mem,rfl⟩
 unfold lS;rw[b,b',q.rest];simp only[aj,af];cases (oI y).2 !=0;case true=>exact Ca ..
 cases !wB h.2.2.2.2.2.2.2.1 (oI y).1;case true=>exact Ca ..
 cases rE h.2.2.2.2.2.2.2.2.1 (h.2.2.2.1.length:Int) (oI y).1== -1;case true=>exact Ca ..
 simp only[af];cases h.2.2.2.1[(rE h.2.2.2.2.2.2.2.2.1 (h.2.2.2.1.length:Int) (oI y).1).toNat]? with|none=>exact q|some x=>exact Mh (Ca ..) _ _ (Ui q.maps q.mem 0 _ _ _ _)
theorem Ii {n:Nat}{g:Nat->Host->Host}(hg:∀k h h',iD n s h h'->iD n s (g k h) (g k h'))(q:iD n s h h'):∀k,iD n s (kq g k h) (kq g k h')
 |0=>q
 |k+1=>hg k _ _ (Ii hg q k)
theorem Vh {n:Nat}(k:Nat)(h h':Host)(q:iD n s h h'):iD n s (mh k h) (mh k h'):=by unfold mh;rw[q.rest];cases h.2.2.2.1[k]? with|none=>exact q|some x=>exact Mh q _ _ (Hs q.maps q.mem 0 _ _)
theorem Vg {n:Nat}(q:iD n s h h')(b:dF h=true)(b':dF h'=true):iD n s (xf h) (xf h'):=by unfold xf;rw[b,b',q.rest,ah,ah];exact Ii Vh q _
theorem abg {n:Nat}(k:Nat)(h h':Host)(q:iD n s h h'):iD n s (tE k h) (tE k h'):=by obtain⟨m,l,X⟩:=h;obtain⟨m',l',X'⟩:=h';have e:X'=X:=q.rest;subst e;unfold tE;simp only;cases X'.2.2.2.1[k]? with|none=>exact q|some v=>exact⟨q.maps,q.mem,rfl⟩
theorem aeJ {n:Nat}(q:iD n s h h')(b:dF h=true)(b':dF h'=true):iD n s (zR h) (zR h'):=by unfold zR;rw[b,b',q.rest,ah,ah];exact Ii abg q _
theorem WM {n:Nat}(b:Int)(k:Nat){t t':Int}(et:t'=t)(q:iD n s h h'):(uC b k (t',h')).1=(uC b k (t,h)).1/\iD n s (uC b k (t,h)).2 (uC b k (t',h')).2:=by subst et;obtain⟨m,l,X⟩:=h;obtain⟨m',l',X'⟩:=h';have e:X'=X:=q.rest;subst e;unfold uC;simp only;rcases X'.2.2.2.1[k]? with _|v;exact⟨rfl,q⟩;rcases X'.2.2.2.2.1[k]? with _|p;exact⟨rfl,q⟩;rcases X'.2.1[k]? with _|x;exact⟨rfl,q⟩;rcases X'.2.2.1[k]? with _|pl;exact⟨rfl,q⟩;simp only;have p1:=S3 q.maps q.mem 0 x pl X'.2.2.2.2.2.2.2.1 b;have e1:=p1.1;have e2:=p1.2;simp only at e1 e2;cases p||(AP v).2 with|false=>exact⟨rfl,q.maps,q.mem,rfl⟩|true=>simp only[ah];rw[e1];exact⟨rfl,q.maps,e2,rfl⟩
theorem LP {n:Nat}(b:Int)(q:iD n s h h'):∀k,(nq b k h').1=(nq b k h).1/\iD n s (nq b k h).2 (nq b k h').2
 |0=>⟨rfl,q⟩
 |k+1=>by have i:=LP b q k;exact WM b k i.1 i.2
theorem Ts {n:Nat}(q:iD n s h h')(b:dF h=true)(b':dF h'=true)(c:Int):iD n s (lT h c).1 (lT h' c).1/\(lT h' c).2=(lT h c).2:=by unfold lT;rw[b,b',q.rest,bq];have i:=LP c q h.2.2.2.1.length;cases di c 1 1000 with|false=>exact⟨q,rfl⟩|true=>exact⟨i.2,i.1⟩
theorem Wv {n:Nat}(i:Nat)(c:Int)(q:iD n s h h'):iD n s (ux h i c).2 (ux h' i c).2:=by obtain⟨m,l,X⟩:=h;obtain⟨m',l',X'⟩:=h';have e:X'=X:=q.rest;subst e;unfold ux;simp only;rcases X'.2.1[i]? with _|x;exact q;rcases X'.2.2.1[i]? with _|pl;exact q;simp only;have p1:=S3 q.maps q.mem 0 x pl X'.2.2.2.2.2.2.2.1 c;have e1:=p1.1;have e2:=p1.2;simp only at e1 e2;rw[e1];exact⟨q.maps,e2,rfl⟩
theorem IT {n:Nat}(q:iD n s h h'):∀k,iD n s (od h k) (od h' k)
 |0=>q
 |k+1=>Wv k 1000 (IT q k)
theorem adT {n:Nat}(W:ax kz)(i:Nat)(q:iD n s h h'):iD n s (GI W i h) (GI W i h'):=by unfold GI;cases W[i]? with|none=>exact q|some x=>obtain⟨m,l,X⟩:=h;obtain⟨m',l',X'⟩:=h';have e:X'=X:=q.rest;subst e;exact⟨q.maps,q.mem,rfl⟩
theorem GJ {n:Nat}(q:iD n s h h'):∀k,iD n s (returned h k) (returned h' k)
 |0=>by show iD n s (od h h.2.2.2.1.length) (od h' h'.2.2.2.1.length);rw[q.rest];exact IT q _
 |k+1=>by show iD n s (GI h.2.2.1.2.2.1 k (returned h k)) (GI h'.2.2.1.2.2.1 k (returned h' k));rw[q.rest];exact adT _ k (GJ q k)
theorem Rh {n:Nat}(q:iD n s h h'):iD n s (nM h) (nM h'):=by unfold nM;rw[q.rest];have r:=GJ q h.2.2.1.2.2.1.length;generalize returned h h.2.2.1.2.2.1.length=a at r⊢;generalize returned h' h.2.2.1.2.2.1.length=b at r⊢;obtain⟨m,l,X⟩:=a;obtain⟨m',l',X'⟩:=b;have e:X'=X:=r.rest;subst e;exact⟨r.maps,r.mem,rfl⟩
theorem WE {n:Nat}(i:Nat)(q:iD n s h h'):iD n s (uB i h) (uB i h'):=by obtain⟨m,l,X⟩:=h;obtain⟨m',l',X'⟩:=h';have e:X'=X:=q.rest;subst e;unfold uB;simp only;rcases X'.2.1[i]? with _|x;exact q;rcases X'.2.2.2.1[i]? with _|v;exact q;unfold CU;simp only;have p1:=adE q.maps q.mem i;have e1:=p1.1;have e2:=p1.2;simp only at e1 e2;rw[e1];exact⟨q.maps,e2,rfl⟩
theorem GH {n:Nat}(q:iD n s h h'):∀k,iD n s (gP h k) (gP h' k)
 |0=>q
 |k+1=>WE k (GH q k)
theorem aaG {n:Nat}(q:iD n s h h')(b:dF h=true)(b':dF h'=true):iD n s (tf h) (tf h'):=by unfold tf;rw[b,b',q.rest,ah,ah];exact GH (Rh q) _
theorem acG {n:Nat}(q:iD n s h h')(b:dF h=true)(b':dF h'=true)(a:Act)(t:Int):iD n s (jx (h,t) a).1 (jx (h',t) a).1/\(jx (h',t) a).2=(jx (h,t) a).2:=by
 have key:iD n s (ru h a).1 (ru h' a).1/\(ru h' a).2=(ru h a).2:=by
  unfold ru;cases a.1==0 with|true=>have p:=aaO q b b' a.2.1 a.2.2.1 a.2.2.2.1;simp only[ah];exact⟨p.1,by rw[p.2]⟩|false=> ?_
  cases a.1==1;case true=>exact⟨QH q b b',rfl⟩
  cases a.1==2;case true=>exact⟨Tf q b b' _,rfl⟩
  cases a.1==3;case true=>exact⟨Vg q b b',rfl⟩
  cases a.1==4;case true=>exact⟨aeJ q b b',rfl⟩
  exact Ts q b b' _
 unfold jx;cases a.1==6 with
 |true=>exact⟨aaG q b b',rfl⟩
 |false=>
  refine⟨key.1,?_⟩;show(bif a.1==0 then ar (t+(ru h' a).2) else t)=(bif a.1==0 then ar (t+(ru h a).2) else t)
  rw[key.2]
theorem Nz {n s:Nat}{N:Int}:∀(l:ax Act){h h':Host}(k:Nat)(t:Int),N+641*((k+l.length:Nat):Int)<=600000000000->iD n s h h'->Good (N+641*(k:Int)) h->Good (N+641*(k:Int)) h'->iD n s (l.foldl jx (h,t)).1 (l.foldl jx (h',t)).1/\(l.foldl jx (h',t)).2=(l.foldl jx (h,t)).2
 |[],h,h',k,t,_,q,_,_=>⟨q,rfl⟩
 |a::l,h,h',k,t,hk,q,g,g'=>by
  simp only[bz]at hk;have f:=acG q (g.ok (by omega)) (g'.ok (by omega)) a t;have e1:=EP (by omega) g a t;have e2:=EP (by omega) g' a t;have i:=Nz (n:=n) (s:=s) (N:=N) l (h:=(jx (h,t) a).1) (h':=(jx (h',t) a).1) (k+1) (jx (h,t) a).2 (by omega) f.1 (e1.mono (by push_cast;omega)) (e2.mono (by push_cast;omega));rw[List.foldl_cons,List.foldl_cons];have e3:jx (h',t) a=((jx (h',t) a).1,(jx (h,t) a).2):=by rw[<-f.2]
  rw[e3];exact i
theorem ahk {k:Bool->ay Bool}(ht:k true=some true)(hk:a.length<=1048576->Ends (k false) (λb=>b=true)):Ends (aa (Gm a) k) (λb=>b=true):=by unfold Gm;rw[ab];by_cases h:((a.length:Int))>1048576;rw[aw h,ht];exact Ends.pure rfl;rw[au h];exact hk (by omega)
theorem Ends.true {o:ay Bool}(h:Ends o (λb=>b=true)):o=some true:=by obtain⟨x,h1,rfl⟩:=h;exact h1
theorem LJ (l:bR)(h:l.length<=10^9):jt l l=some true:=by refine Ends.true ?_;unfold jt;rw[bne_self_eq_false,af];refine Ends.wL (λx=>0<=x/\x<=(l.length:Int)) (λx=>((l.length:Int)-x).toNat) ⟨by omega,by omega⟩ (by omega) λx nx hx hn=>?_;unfold uu;refine Ends.cond (λk=>?_) λ_=>Ends.pure rfl;have k:=bk k;refine Ends.idx hx.1 k λ_=>Ends.idx hx.1 k λ_=>?_;rw[gI,aj,af,ak];exact hn _ ⟨by omega,by omega⟩ (by omega)
theorem ajt (ha:Yw (.sl (.int .u8)) a)(hl:a.length<=1048576){i:Int}(h0:0<=i)(h1:i<=1000000):Ends (JQ a i) λx=>0<=x/\x<=255:=by
 unfold JQ;refine Ends.cond (λ_=>Ends.pure ⟨dW _,by omega⟩) λk=>?_;have k:((a.length:Int))≠0:=by simpa using k
 have m1:=Int.tmod_nonneg (a.length:Int) (a:=i*5+1) (by omega);have m2:=Int.tmod_lt_of_pos (i*5+1) (b:=(a.length:Int)) (by omega);rw[ak (n:=i*5),ak (n:=i*5+1)];refine Ends.ifn k (Ends.idx m1 m2 λhi=>Ends.pure ?_);have hx:0<=a[(tmod (i*5+1) (a.length:Int)).toNat]/\a[(tmod (i*5+1) (a.length:Int)).toNat]<=255:=ha.2 _ (aZ hi);rw[ak];exact hx
theorem map_take {β:Type}(f:α->β)(l:ax α)(i:Nat)(hi:i<l.length):(l.take i).map f++[f l[i]]=(l.take (i+1)).map f:=by rw[bL hi,dS];rfl
def Jw (n:Nat):bR:=List.replicate n (wX 128)
theorem Z4 (n:Nat):Jw (n+1)=Jw n++[wX 128]:=List.replicate_succ'
theorem WX (n:Nat)(h:n<=64):qz (n:Int)=some (Jw n):=by have hz:iB 128 0=some (wX 128):=LS 128;unfold qz;refine eD (λi=>((i:Int),Jw i)) n (by omega) (λi nx hi=>?_) (λnx=>?_);simp only[pY];rw[aw (show(i:Int)<n by omega),ah,ks,ab,ah,hz,ab,aX (by simp[Jw];omega),ak,Z4];rfl;simp only[pY];rw[au (show¬(n:Int)<n by omega),af,ab,af]
def xk (a b:Int):Vector×Bool:=bif eG (a,b,0,0,false,false) then((a,b,0,0,false,false),true) else((0,0,0,0,false,false),false)
theorem WY (a b:Int):uH a b=some (xk a b):=by unfold uH xk;rw[E9,ab];cases eG (a,b,0,0,false,false)<;>rfl
def AG (i:Nat):ax aB:=(List.range i).map λ(p:Nat)=>(0,(p:Int),37-(p:Int), !di (p:Int) 2 9)
theorem V6 (i:Nat):AG (i+1)=AG i++[(0,(i:Int),37-(i:Int), !di (i:Int) 2 9)]:=by simp[AG,List.range_succ]
theorem HK (i:Nat):(AG i).length=i:=by simp[AG]
def XK (f:Filter)(s:cQ)(c:Bool)(i:Nat):Host:=(Jw 38,AG i,EA,([]:ax bJ),([]:ax cK),([]:ax Vector),([]:ax Bool),f,s,([]:ax Stream),c,([]:bR),([]:cZ),([]:cZ),0,0,0,0,0)
theorem aim:dj (AG 38)=true:=by decide+kernel
def yI (f:Filter)(s:cQ)(c:Bool):ax Vector->Host
 |[]=>XK f s c 38
 |v::vs=>N5 ((yI f s c vs).1,(yI f s c vs).2.1,(yI f s c vs).2.2.1,(yI f s c vs).2.2.2.1++[((0,0,0,0),(0,0,0),(0,0,0),((0,0,0,0,0,0,0,0,0,0,0,0,0,0,0,([]:Bytes)),0,0),false,0)],(yI f s c vs).2.2.2.2.1++[(0,0,0,([]:cZ))],(yI f s c vs).2.2.2.2.2.1++[v],(yI f s c vs).2.2.2.2.2.2.1++[false],(yI f s c vs).2.2.2.2.2.2.2) vs.length
def abI (h:Host):=(h.1,h.2.1,h.2.2.1,h.2.2.2.1,h.2.2.2.2.1,h.2.2.2.2.2.1,h.2.2.2.2.2.2.1)
structure Made (f:Filter) (s:cQ) (c:Bool) (k:Nat) (h:Host):Prop where
 mem:cx h.1=true
 ml:h.1.length=38
 maps:h.2.1=AG 38
 tx:h.2.2.1=EA
 rx:h.2.2.2.1.length=k
 rxs:∀r∈h.2.2.2.1,ze 0 r/\r.2.2.2.2.1=false
 pl:h.2.2.2.2.1.length=k
 pls:∀p∈h.2.2.2.2.1,dy p=true/\p.2.2.2.length<=1000
 vec:h.2.2.2.2.2.1.length=k
 TS:∀v∈h.2.2.2.2.2.1,eG v=true
 Wt:h.2.2.2.2.2.2.1.length=k
 rest:h.2.2.2.2.2.2.2=(f,s,([]:List Stream),c,([]:List Bytes),([]:List Int),([]:List Int),0,0,0,0,0)
 is:∃vs,vs.length=k/\h=yI f s c vs/\∀v∈vs,v.2.1<=3/\v.2.2.2.2.1=false
theorem Tt (l:ax α)(x y:α):(l++[x]).set l.length y=l++[y]:=by simp
theorem afR {n:Nat}(h:n<=64):cx (Jw n)=true:=kF.2 ⟨λx hx=>by rw[(List.mem_replicate.1 hx).2];exact DX 128,by simp[Jw];exact h⟩
theorem Z1 {s:cQ}{c:Bool}(m:Made f s c k h)(hk:k<=8)(hv:eG v=true)(h3:v.2.1<=3/\v.2.2.2.2.1=false):Ends (uT (h.1,h.2.1,h.2.2.1,h.2.2.2.1++[((0,0,0,0),(0,0,0),(0,0,0),((0,0,0,0,0,0,0,0,0,0,0,0,0,0,0,([]:Bytes)),0,0),false,0)],h.2.2.2.2.1++[(0,0,0,([]:cZ))],h.2.2.2.2.2.1++[v],h.2.2.2.2.2.2.1++[false],h.2.2.2.2.2.2.2) (k:Int)) λr=>Made f s c (k+1) r.2:=by
 refine Ends.of (aed _ k hk (by simp[m.rx]) (by simp[m.pl]) (by show h.2.1.length<=_;rw[m.maps,HK];omega) (by show h.1.length<=_;rw[m.ml];omega)) ?_;have o:=N6 m.mem h.2.1 hk;have e1:(h.2.2.2.1++[(((0,0,0,0),(0,0,0),(0,0,0),((0,0,0,0,0,0,0,0,0,0,0,0,0,0,0,([]:Bytes)),0,0),false,0):bJ)])[k]?=some ((0,0,0,0),(0,0,0),(0,0,0),((0,0,0,0,0,0,0,0,0,0,0,0,0,0,0,([]:Bytes)),0,0),false,0):=by rw[<-m.rx];simp
 have e2:∀y:bJ,(h.2.2.2.1++[(((0,0,0,0),(0,0,0),(0,0,0),((0,0,0,0,0,0,0,0,0,0,0,0,0,0,0,([]:Bytes)),0,0),false,0):bJ)]).set k y=h.2.2.2.1++[y]:=λy=>by rw[<-m.rx];exact Tt _ _ _
 have e3:∀y:cK,(h.2.2.2.2.1++[(((0,0,0,([]:cZ))):cK)]).set k y=h.2.2.2.2.1++[y]:=λy=>by rw[<-m.pl];exact Tt _ _ _
 obtain⟨vs,vl,ve,vb⟩:=m.is;have is0:N5 (h.1,h.2.1,h.2.2.1,h.2.2.2.1++[((0,0,0,0),(0,0,0),(0,0,0),((0,0,0,0,0,0,0,0,0,0,0,0,0,0,0,([]:Bytes)),0,0),false,0)],h.2.2.2.2.1++[(0,0,0,([]:cZ))],h.2.2.2.2.2.1++[v],h.2.2.2.2.2.2.1++[false],h.2.2.2.2.2.2.2) k=yI f s c (v::vs):=by rw[yI,<-ve,vl]
 unfold N5 at is0⊢;simp only[e1,e2,e3]at is0⊢;have hp:(pS h.2.1 h.1 k).2.2.1.2.2.2.length<=1000:=by unfold pS;exact bw (EL ..) (oa _ _ _)
 refine⟨o.1,?_,m.maps,m.tx,by show(_++[_]).length=_;rw[ai,m.rx];rfl,?_,by show(_++[_]).length=_;rw[ai,m.pl];rfl,?_,by show(_++[_]).length=_;rw[ai,m.vec];rfl,?_,by show(_++[_]).length=_;rw[ai,m.Wt];rfl,m.rest,⟨v::vs,by simp[vl],is0,λw hw=>?_⟩⟩;show(pS h.2.1 h.1 k).1.length=38;rw[HR,m.ml];intro r hr;rcases az.1 hr with hr|hr;exact m.rxs r hr;rw[cp.1 hr];exact⟨Tm hk o.2.1 ⟨dW _,dW _⟩,rfl⟩;intro p hp';rcases az.1 hp' with hp'|hp';exact m.pls p hp';rw[cp.1 hp'];exact⟨o.2.2,hp⟩;intro w hw;rcases az.1 hw with hw|hw;exact m.TS w hw;rw[cp.1 hw];exact hv;rcases cn.1 hw with e|e;rw[e];exact h3;exact vb w e
def agc (h:Host):cQ:=h.2.2.2.2.2.2.2.2.1
structure Im (h:Host):Prop where
 Mv:Good 0 h
 sz:AW 2000 h
 maps:∀m∈h.2.1,m.2.2.1<(h.1.length:Int)
 led:h.2.2.1.2.2.1=[]/\h.2.2.2.2.2.2.2.2.2.2.2.1=[]/\h.2.2.2.2.2.2.2.2.2.2.2.2.1=[]/\h.2.2.2.2.2.2.2.2.2.2.2.2.2.1=[]
 is:∃f s c vs,vs.length<=2/\abI h=abI (yI f s c vs)/\∀v∈vs,v.2.1<=3/\v.2.2.2.2.1=false
theorem V4 {s:cQ}{c:Bool}(m:Made f s c k h)(hk:1<=k/\k<=2)(hf:qF f=true)(Bf:f.2.2.length<=1000)(hs:fw s (k:Int)=true)(hz:vE s):Im h:=by have h4:=oa 256 128 8;obtain⟨vs,vl,ve,vb⟩:=m.is;obtain⟨m1,m2,m3,m4,m5,m6,m7,m8,m9,m10,m11,m12,_⟩:=m;obtain⟨mem,maps,tx,rx,pl,vec,Wt,rest⟩:=h;simp only at m1 m2 m3 m4 m5 m6 m7 m8 m9 m10 m11 m12;subst m12 m3 m4;refine⟨⟨m1,aim,aeL 0 (by omega),hf,?_,by show fw s (rx.length:Int)=true;rw[m5];exact hs,λr hr=>(m6 r hr).1,λp hp=>(m8 p hp).1,m10,?_⟩,⟨?_,?_⟩,?_,⟨rfl,rfl,rfl,rfl⟩,⟨f,s,c,vs,by omega,congrArg abI ve,vb⟩⟩;unfold ry;simp only[ae,bh,aV];omega;intro x hx;simp only[iw,cn,List.not_mem_nil,or_false,or_self]at hx;omega;have hm:=(kF.1 m1).1;refine⟨⟨by show mem.length<=2000;omega,λx hx=>by show x.length<=2000;rw[hm x hx];omega⟩,⟨by show(AG 38).length<=2000;rw[HK];omega,λ_ _=>⟨cq,cq,cq,cq⟩⟩,?_,?_,?_,?_,?_,⟨cq,cq,by show f.2.2.length<=2000;omega,λ_ _=>trivial⟩,?_,⟨bU _,λx hx=>by cases hx⟩,cq,⟨bU _,λx hx=>by cases hx⟩,⟨bU _,λx hx=>by cases hx⟩,⟨bU _,λx hx=>by cases hx⟩,cq,cq,cq,cq,cq⟩;exact⟨⟨cq,cq,cq,cq⟩,⟨cq,cq,cq,by show List.length (ia 256 128 8).1.2.2.2<=2000;omega,λ_ _=>trivial⟩,⟨bU _,λx hx=>by cases hx⟩,cq⟩;refine⟨by show rx.length<=2000;omega,λx hx=>?_⟩;have e:=(m6 x hx).1.free (m6 x hx).2;refine⟨⟨cq,cq,cq,cq⟩,⟨cq,cq,cq⟩,⟨cq,cq,cq⟩,?_,cq,cq⟩;rw[e];exact⟨⟨cq,cq,cq,cq,cq,cq,cq,cq,cq,cq,cq,cq,cq,cq,cq,bU _⟩,cq,cq⟩;exact⟨by show pl.length<=2000;omega,λx hx=>⟨cq,cq,cq,by have:=(m8 x hx).2;show x.2.2.2.length<=2000;omega,λ_ _=>trivial⟩⟩;exact⟨by show vec.length<=2000;omega,λx hx=>⟨cq,cq,cq,cq,cq,cq⟩⟩;exact⟨by show Wt.length<=2000;omega,λx hx=>trivial⟩;exact⟨⟨by have:=hz.r;show s.1.length<=2000;omega,λ_ _=>⟨cq,cq,cq,cq,cq,cq,cq,cq,cq⟩⟩,⟨by have:=hz.t;show s.2.1.length<=2000;omega,λ_ _=>⟨cq,⟨cq,cq,cq,cq,cq⟩,cq⟩⟩,by have:=hz.k;show s.2.2.1.length<=2000;omega,by have:=hz.p;show s.2.2.2.length<=2000;omega,λ_ _=>trivial⟩;show List.length (ia 256 128 8).1.2.2.2+0<=2000;omega;intro m hm;have hm:m∈AG 38:=hm;simp only[AG,List.mem_map,bK]at hm;obtain⟨i,hi,rfl⟩:=hm;show 37-(i:Int)<(mem.length:Int);omega
theorem aak {a:Int}(h:(xk a b).2=true):eG (xk a b).1=true:=by unfold xk at h⊢;cases hv:eG (a,b,0,0,false,false)with|false=>rw[hv]at h;cases h|true=>exact hv
theorem adA {a:Int}(h:(xk a b).2=true)(hb:b<=3):(xk a b).1.2.1<=3/\(xk a b).1.2.2.2.2.1=false:=by unfold xk at h⊢;cases hv:eG (a,b,0,0,false,false)with|false=>rw[hv]at h;cases h|true=>exact⟨hb,rfl⟩
theorem Lo (q:Int)(f:Filter)(s:cQ)(c:Bool)(a b:Int)(hf:f.2.2.length<=1000)(hs:vE s)(hb3:b<=3):Ends (uF q f s c a b) λr=>(r.2=true->Im r.1/\agc r.1=s)/\((1<=q/\q<=2)->qF f=true->fw s q=true->(xk a b).2=true->r.2=true):=by
 have z1:=hs.r;have z2:=hs.t;have z3:=hs.p;unfold uF;rw[WY,ab,ez,ab];refine Ends.bind (P:=λx=>(x=false->(1<=q/\q<=2)/\qF f=true/\fw s q=true/\(xk a b).2=true)/\(x=true->(1<=q/\q<=2)->qF f=true->fw s q=true->(xk a b).2=true->False)) ?_ λx hx=>Ends.cond (λXM=>Ends.pure ⟨(λh=>by cases h),λg1 g2 g3 g4=>(hx.2 XM g1 g2 g3 g4).elim⟩) λh=>?_;refine Ends.cond (λk=>Ends.pure ⟨(λh=>by cases h),λ_ g1 _ _ _=>by rw[bh.2 g1]at k;cases k⟩) λh1=>?_;rw[WV f (by omega),ab];refine Ends.cond (λk=>Ends.pure ⟨(λh=>by cases h),λ_ _ g2 _ _=>by rw[g2]at k;cases k⟩) λh2=>?_;rw[Qq s q (by omega) (by omega) (by omega),ab];refine Ends.cond (λk=>Ends.pure ⟨(λh=>by cases h),λ_ _ _ g3 _=>by rw[g3]at k;cases k⟩) λh3=>Ends.pure ⟨λh4=>?_,λk _ _ _ g4=>by rw[g4]at k;cases k⟩;exact⟨bh.1 (by simpa using h1),by simpa using h2,by simpa using h3,by simpa using h4⟩;obtain⟨hq,h1,h2,h3⟩:=hx.1 h;have hm:qz 38=some (Jw 38):=WX 38 (by omega);rw[hm,ab,aa2,ab,LR f (by omega),ab,MU s (by omega) (by omega) (by omega),ab];have hv:=aak h3;refine Ends.wL (λx=>0<=x.1/\x.1<=38/\x.2=XK f s c x.1.toNat) (λx=>(38-x.1).toNat) ⟨by simp,by simp,rfl⟩ (by simp) λx nx hx hn=>?_;obtain⟨i,y⟩:=x;obtain⟨x1,x2,x3⟩:=hx;simp only at x1 x2 x3;unfold xn;refine Ends.cond (λk=>?_) λk=>?_;have k:=bk k;have hl:=HK i.toNat;simp only at k;rw[ez,ab];simp only;rw[ak (n:=i+1),ak (n:=37-i)];subst x3;refine Ends.room (by show(AG i.toNat).length+1<=_;omega) (hn _ ⟨by show 0<=i+1;omega,by show i+1<=38;omega,?_⟩ (by show(38-(i+1)).toNat<(38-i).toNat;omega));have e:(i+1).toNat=i.toNat+1:=by omega
 show(Jw 38,AG i.toNat++_,_)=XK f s c (i+1).toNat;rw[e];unfold XK;rw[V6,show((i.toNat:Nat):Int)=i by omega];have k:=fA k;simp only at k;have e:i.toNat=38:=by omega
 rw[e]at x3;have hm0:Made f s c 0 y:=by rw[x3];exact⟨afR (by omega),by show(Jw 38).length=38;simp[Jw],rfl,rfl,rfl,(λ_ hr=>by cases hr),rfl,(λ_ hr=>by cases hr),rfl,(λ_ hr=>by cases hr),rfl,rfl,⟨[],rfl,rfl,λ_ hv=>by cases hv⟩⟩
 simp only;refine Ends.wL (λx=>0<=x.1/\x.1<=q/\Made f s c x.1.toNat x.2) (λx=>(q-x.1).toNat) ⟨by simp,by show(0:Int)<=q;omega,hm0⟩ (by simp;omega) λx nx hx hn=>?_;obtain⟨i,y⟩:=x;obtain⟨x1,x2,m⟩:=hx;simp only at x1 x2 m;unfold vu;refine Ends.cond (λk=>?_) λk=>Ends.pure ⟨λ_=>?_,λ_ _ _ _=>rfl⟩;have k:=bk k;simp only at k;have l1:=m.rx;have l2:=m.pl;have l3:=m.vec;have l4:=m.Wt;refine Ends.room (by simp;omega) (Ends.room (by simp;omega) (Ends.room (by simp;omega) (Ends.room (by simp;omega) ?_)));have ho:=Z1 m (by omega) hv (adA h3 hb3);rw[show((i.toNat:Nat):Int)=i by omega]at ho;refine ho.bind λr hr=>?_;simp only;rw[ak (n:=i+1)];refine hn _ ⟨by show 0<=i+1;omega,by show i+1<=q;omega,?_⟩ (by show(q-(i+1)).toNat<(q-i).toNat;omega);show Made f s c (i+1).toNat r.2;rw[show(i+1).toNat=i.toNat+1 by omega];exact hr;have k:=fA k;simp only at k;have hi:i=q:=by omega
 subst hi;exact⟨V4 m (by omega) h1 hf (by rw[show((i.toNat:Nat):Int)=i by omega];exact h2) hs,congrArg (λx=>x.2.1) m.rest⟩
theorem afP (n x:Int)(h0:0<=n)(h1:n<=1000000):Ends (iB n x) λr=>(r.length:Int)=n:=by unfold iB;rw[aH ⟨h0,dW _⟩];refine Ends.room (by omega) (Ends.wL (λy=>(y.1.length:Int)=n/\0<=y.2/\y.2<=n) (λy=>(n-y.2).toNat) ⟨by simp;omega,by simp,h0⟩ (by simp;omega) λy nx hy hn=>?_);unfold oK;refine Ends.cond (λk=>?_) λk=>Ends.pure (by simp[aL];exact hy.1);have k:=bk k;rw[ak (n:=y.2+1)];refine Ends.idx hy.2.1 (by omega) λ_=>Ends.idx hy.2.1 (by omega) λ_=>hn _ ⟨?_,?_,?_⟩ ?_;show((List.set _ _ _).length:Int)=n;rw[aC];exact hy.1;show 0<=y.2+1;omega;show y.2+1<=n;omega;show(n-(y.2+1)).toNat<(n-y.2).toNat;omega
theorem SR:mr=some (List.replicate 8 (0,(0,0,0,0,0),0)):=by unfold mr;rw[aH (by decide),aX (by decide)];rfl
theorem VZ {k:Bytes}(hk:k.length=16):fw (([]:ax iE),List.replicate 8 (0,(0,0,0,0,0),0),k,[0]) 1=true:=by
 have ht:ow (List.replicate 8 (0,(0,0,0,0,0),0))=true:=by decide+kernel
 have hs:rn (k,[0]) 1=true:=by unfold rn;simp only[hk];decide+kernel
 unfold fw;rw[show xl ([]:ax iE)=true from rfl,ht,hs];rfl
def Vl (l:ax iE):Prop:=∀r∈l,r.2.2.2.2.2.2.1= -2
theorem Zj (h:Cu c):Ends (yc c) λr=>(Im r.1/\Vl (agc r.1).1)/\Cu r.2:=by
 unfold yc;refine Ends.wL (λx=>0<=x.1/\x.1<=4/\Cu x.2) (λx=>(4-x.1).toNat) ⟨by simp,by simp,h⟩ (by simp) λx nx hx hn=>?_;unfold xr;refine Ends.cond (λk=>?_) λk=>?_;have k:=bk k;refine(aeg hx.2.2).bind λr1 p1=>?_;refine Ends.wL (λy=>(0<=y.1/\∀(j:Nat) r,(j:Int)<y.1->y.2.1[j]?=some r->r.2.2.2.2.2.2.1= -2)/\vE y.2) (λy=>((y.2.1.length:Int)-y.1).toNat) ⟨⟨by simp,λj r hj=>by simp at hj;omega⟩,p1.1.1⟩ (by have:=p1.1.1.r;simp;omega) λy ny hy hm=>?_;unfold xt;refine Ends.cond (λk2=>?_) λk2=>?_;have k2:=bk k2;have hr:=hy.2.r;rw[ak (n:=y.1+1)];refine Ends.idx hy.1.1 k2 λ_=>Ends.idx hy.1.1 k2 λ_=>hm _ ⟨⟨?_,λj r hj hr'=>?_⟩,⟨?_,hy.2.t,hy.2.k,hy.2.p⟩⟩ ?_;show 0<=y.1+1;have:=hy.1.1;omega;have hj:(j:Int)<y.1+1:=hj;have h0:=hy.1.1;by_cases hjy:j=y.1.toNat;subst hjy;rw[List.getElem?_set_self (by omega)]at hr';rw[<-du hr'];rw[aN (λe=>hjy e.symm)]at hr';exact hy.1.2 j r (by omega) hr';show(List.set _ _ _).length<=100;rw[aC];exact hr;show(((List.set _ _ _).length:Int)-(y.1+1)).toNat<_;rw[aC];omega;refine(Ro p1.2).bind λr6 p6=>(gE p6.2 (by decide)).bind λr7 p7=>(gE p7.2 (by decide)).bind λr8 p8=>(gE p8.2 (by decide)).bind λr9 p9=>?_;have hf:r6.1.2.2.length<=1000:=by rcases p6.1.2 with e|e<;>rw[e]<;>simp
 have vl:Vl y.2.1:=λr hr=>by obtain⟨j,hj⟩:=List.getElem?_of_mem hr;obtain⟨gY,_⟩:=aG.1 hj;exact hy.1.2 j r (by have:=fA k2;omega) hj
 refine(Lo _ _ _ _ _ _ hf hy.2 (by have:=p9.1;omega)).bind λqC p10=>Ends.cond (λk3=>Ends.pure ⟨⟨(p10.1 k3).1,by rw[(p10.1 k3).2];exact vl⟩,p9.2⟩) λ_=>?_;rw[ak (n:=x.1+1) (by omega) (by have:=hx.2.1;omega)];refine hn _ ⟨by show 0<=x.1+1;have:=hx.1;omega,by show x.1+1<=4;omega,p9.2⟩ (by show(4-(x.1+1)).toNat<(4-x.1).toNat;omega);simp only[SR,ab];refine(afP 16 5 (by omega) (by omega)).bind λT8 p14=>?_;refine(Lo 1 (2,false,([]:cZ)) (([]:ax iE),List.replicate 8 (0,(0,0,0,0,0),0),T8,[0]) true 1 0 (by simp) ⟨by simp,by simp,by show T8.length=16;omega,by simp⟩ (by omega)).bind λAL p15=>?_;have f15:=p15.1 (p15.2 (by omega) (by decide+kernel) (VZ (by omega)) (by decide+kernel));exact Ends.pure ⟨⟨f15.1,by rw[f15.2];exact λr hr=>by cases hr⟩,hx.2.2⟩
def TU (h:Host)(s:ax Stream):Host:=(h.1,h.2.1,h.2.2.1,h.2.2.2.1,h.2.2.2.2.1,h.2.2.2.2.2.1,h.2.2.2.2.2.2.1,h.2.2.2.2.2.2.2.1,h.2.2.2.2.2.2.2.2.1,s,h.2.2.2.2.2.2.2.2.2.2)
theorem Mu (f:Im h){s:ax Stream}(h1:s.length<=2000)(h2:∀x∈s,x.2.2.1=[]):Im (TU h s):=by have g:=f.Mv;have z:=f.sz.z;refine⟨⟨g.mem,g.maps,g.tx,g.Jo,g.lens,g.Ot,g.rx,g.pool,g.vec,g.Ca⟩,⟨⟨z.1,z.2.1,z.2.2.1,z.2.2.2.1,z.2.2.2.2.1,z.2.2.2.2.2.1,z.2.2.2.2.2.2.1,z.2.2.2.2.2.2.2.1,z.2.2.2.2.2.2.2.2.1,⟨h1,λx hx=>?_⟩,z.2.2.2.2.2.2.2.2.2.2⟩,f.sz.t⟩,f.maps,f.led,f.is⟩;refine⟨⟨cq,cq,cq,cq,cq⟩,cq,?_,cq⟩;show x.2.2.1.length<=2000;rw[h2 x hx];simp
theorem Vj (h:Cu c){l:ax Act}(hl:l.length<=20)(ha:∀a∈l,Jm a):Ends (wy c l) λr=>(Im r.1/\Vl (agc r.1).1)/\Cu r.2:=by unfold wy;refine(Zj h).bind λr1 p1=>?_;refine Ends.wL (λx=>0<=x.2/\(x.1.length:Int)<=x.2/\x.2<=(l.length:Int)) (λx=>((l.length:Int)-x.2).toNat) ⟨by simp,by simp,by simp⟩ (by simp;omega) λx nx hx hn=>?_;unfold vz;refine Ends.cond (λk=>?_) λk=>?_;have k:=bk k;rw[ak (n:=x.2+1)];refine Ends.idx hx.1 k λhi=>?_;have XM:=ha _ (aZ hi);replace XM:=XM.2.1;rw[aaZ _ (by omega),ab];refine Ends.cond (λ_=>Ends.room (by simp;omega) (hn _ ⟨?_,?_,?_⟩ ?_)) λ_=>hn _ ⟨?_,?_,?_⟩ ?_;show 0<=x.2+1;omega;show((x.1++[_]).length:Int)<=x.2+1;simp;omega;show x.2+1<=_;omega;show((l.length:Int)-(x.2+1)).toNat<_;omega;show 0<=x.2+1;omega;show(x.1.length:Int)<=x.2+1;omega;show x.2+1<=_;omega;show((l.length:Int)-(x.2+1)).toNat<_;omega;exact(afV p1.2 (by omega)).bind λr6 p6=>Ends.pure ⟨⟨Mu p1.1.1 (by omega) p6.1.2,p1.1.2⟩,p6.2⟩
theorem QI (ha:a.length<=1048576):Ends (nu a) λr=>(Im r.1/\Vl (agc r.1).1)/\r.2.length<=20/\∀x∈r.2,Jm x:=by unfold nu;exact(aiy ha).bind λr1 p1=>(ae3 p1 true).bind λr2 p2=>(Vj p2.2 p2.1.1 λx hx=>(p2.1.2 x hx).1).bind λr3 p3=>Ends.pure ⟨p3.1,p2.1.1,λx hx=>(p2.1.2 x hx).1⟩
theorem Xc (ha:a.length<=1048576):Ends (nu a) λr=>Im r.1/\r.2.length<=20/\∀x∈r.2,Jm x:=(QI ha).mono λr hr=>⟨hr.1.1,hr.2⟩
theorem Sj (a b:bR)(h:a.length<=10^9):mR a b=some (yz a b):=by unfold mR;refine vH (λx y=>x==y) (λx y=>aV) a b h (λhl i hi nN nx=>?_) (λnx=>?_);simp only[km];rw[ks,bl hi,bl nN,ak];rfl;simp only[km];rw[cP];rfl
theorem Zr (a b:ax Bool)(h:a.length<=10^9):pV a b=some (yz a b):=by unfold pV;refine vH (λx y=>x==y) (λx y=>aV) a b h (λhl i hi nN nx=>?_) (λnx=>?_);simp only[lX];rw[ks,bl hi,bl nN,ak];rfl;simp only[lX];rw[cP];rfl
def aiI (x1 x2:bJ):Bool:=(x1.1.1==x2.1.1)&&((x1.1.2.1==x2.1.2.1)&&((x1.1.2.2.1==x2.1.2.2.1)&&((x1.1.2.2.2==x2.1.2.2.2)&&((x1.2.1.1==x2.2.1.1)&&((x1.2.1.2.1==x2.2.1.2.1)&&((x1.2.1.2.2==x2.2.1.2.2)&&((x1.2.2.1.1==x2.2.2.1.1)&&((x1.2.2.1.2.1==x2.2.2.1.2.1)&&((x1.2.2.1.2.2==x2.2.2.1.2.2)&&((x1.2.2.2.1.1.1==x2.2.2.2.1.1.1)&&((x1.2.2.2.1.1.2.1==x2.2.2.2.1.1.2.1)&&((x1.2.2.2.1.1.2.2.1==x2.2.2.2.1.1.2.2.1)&&((x1.2.2.2.1.1.2.2.2.1==x2.2.2.2.1.1.2.2.2.1)&&((x1.2.2.2.1.1.2.2.2.2.1==x2.2.2.2.1.1.2.2.2.2.1)&&((x1.2.2.2.1.1.2.2.2.2.2.1==x2.2.2.2.1.1.2.2.2.2.2.1)&&((x1.2.2.2.1.1.2.2.2.2.2.2.1==x2.2.2.2.1.1.2.2.2.2.2.2.1)&&((x1.2.2.2.1.1.2.2.2.2.2.2.2.1==x2.2.2.2.1.1.2.2.2.2.2.2.2.1)&&((x1.2.2.2.1.1.2.2.2.2.2.2.2.2.1==x2.2.2.2.1.1.2.2.2.2.2.2.2.2.1)&&((x1.2.2.2.1.1.2.2.2.2.2.2.2.2.2.1==x2.2.2.2.1.1.2.2.2.2.2.2.2.2.2.1)&&((x1.2.2.2.1.1.2.2.2.2.2.2.2.2.2.2.1==x2.2.2.2.1.1.2.2.2.2.2.2.2.2.2.2.1)&&((x1.2.2.2.1.1.2.2.2.2.2.2.2.2.2.2.2.1==x2.2.2.2.1.1.2.2.2.2.2.2.2.2.2.2.2.1)&&((x1.2.2.2.1.1.2.2.2.2.2.2.2.2.2.2.2.2.1==x2.2.2.2.1.1.2.2.2.2.2.2.2.2.2.2.2.2.1)&&((x1.2.2.2.1.1.2.2.2.2.2.2.2.2.2.2.2.2.2.1==x2.2.2.2.1.1.2.2.2.2.2.2.2.2.2.2.2.2.2.1)&&((x1.2.2.2.1.1.2.2.2.2.2.2.2.2.2.2.2.2.2.2.1==x2.2.2.2.1.1.2.2.2.2.2.2.2.2.2.2.2.2.2.2.1)&&((x1.2.2.2.1.1.2.2.2.2.2.2.2.2.2.2.2.2.2.2.2==x2.2.2.2.1.1.2.2.2.2.2.2.2.2.2.2.2.2.2.2.2)&&((x1.2.2.2.1.2.1==x2.2.2.2.1.2.1)&&((x1.2.2.2.1.2.2==x2.2.2.2.1.2.2)&&((x1.2.2.2.2.1==x2.2.2.2.2.1)&&((x1.2.2.2.2.2==x2.2.2.2.2.2)&&true)))))))))))))))))))))))))))))
theorem adZ (x y:bJ):aiI x y=true↔x=y:=by obtain⟨⟨a1,a2,a3,a4⟩,⟨a5,a6,a7⟩,⟨a8,a9,a10⟩,⟨⟨b1,b2,b3,b4,b5,b6,b7,b8,b9,b10,b11,b12,b13,b14,b15,b16⟩,b17,b18⟩,a11,a12⟩:=x;obtain⟨⟨c1,c2,c3,c4⟩,⟨c5,c6,c7⟩,⟨c8,c9,c10⟩,⟨⟨d1,d2,d3,d4,d5,d6,d7,d8,d9,d10,d11,d12,d13,d14,d15,d16⟩,d17,d18⟩,c11,c12⟩:=y;simp only[aiI,dR,ae,aV,Prod.mk.injEq,and_assoc]
theorem afA (a b:ax bJ)(h:a.length<=10^9):lV a b=some (yz a b):=by unfold lV;refine vH aiI adZ a b h (λhl i hi nN nx=>?_) (λnx=>?_);simp only[jC];rw[ks,bl hi,bl nN,ak];rfl;simp only[jC];rw[cP];rfl
def aeP (x1 x2:Vector):Bool:=(x1.1==x2.1)&&((x1.2.1==x2.2.1)&&((x1.2.2.1==x2.2.2.1)&&((x1.2.2.2.1==x2.2.2.2.1)&&((x1.2.2.2.2.1==x2.2.2.2.2.1)&&((x1.2.2.2.2.2==x2.2.2.2.2.2)&&true)))))
theorem abi (x y:Vector):aeP x y=true↔x=y:=by obtain⟨a1,a2,a3,a4,a5,a6⟩:=x;obtain⟨c1,c2,c3,c4,c5,c6⟩:=y;simp only[aeP,dR,ae,aV,Prod.mk.injEq,and_assoc]
theorem Sk (a b:ax Vector)(h:a.length<=10^9):mP a b=some (yz a b):=by unfold mP;refine vH aeP abi a b h (λhl i hi nN nx=>?_) (λnx=>?_);simp only[kl];rw[ks,bl hi,bl nN,ak];rfl;simp only[kl];rw[cP];rfl
def WH (x1 x2:iE):Bool:=(x1.1==x2.1)&&((x1.2.1==x2.2.1)&&((x1.2.2.1==x2.2.2.1)&&((x1.2.2.2.1==x2.2.2.2.1)&&((x1.2.2.2.2.1==x2.2.2.2.2.1)&&((x1.2.2.2.2.2.1==x2.2.2.2.2.2.1)&&((x1.2.2.2.2.2.2.1==x2.2.2.2.2.2.2.1)&&((x1.2.2.2.2.2.2.2.1==x2.2.2.2.2.2.2.2.1)&&((x1.2.2.2.2.2.2.2.2==x2.2.2.2.2.2.2.2.2)&&true))))))))
theorem WI (x y:iE):WH x y=true↔x=y:=by obtain⟨a1,a2,a3,a4,a5,a6,a7,a8,a9⟩:=x;obtain⟨c1,c2,c3,c4,c5,c6,c7,c8,c9⟩:=y;simp only[WH,dR,ae,aV,Prod.mk.injEq,and_assoc]
theorem ZC (a b:ax iE)(h:a.length<=10^9):pT a b=some (yz a b):=by unfold pT;refine vH WH WI a b h (λhl i hi nN nx=>?_) (λnx=>?_);simp only[lU];rw[ks,bl hi,bl nN,ak];rfl;simp only[lU];rw[cP];rfl
def WR (x1 x2:Slot):Bool:=(x1.1==x2.1)&&((x1.2.1.1==x2.2.1.1)&&((x1.2.1.2.1==x2.2.1.2.1)&&((x1.2.1.2.2.1==x2.2.1.2.2.1)&&((x1.2.1.2.2.2.1==x2.2.1.2.2.2.1)&&((x1.2.1.2.2.2.2==x2.2.1.2.2.2.2)&&((x1.2.2==x2.2.2)&&true))))))
theorem WS (x y:Slot):WR x y=true↔x=y:=by obtain⟨a1,⟨a2,a3,a4,a5,a6⟩,a7⟩:=x;obtain⟨c1,⟨c2,c3,c4,c5,c6⟩,c7⟩:=y;simp only[WR,dR,ae,aV,Prod.mk.injEq,and_assoc]
theorem VM (a b:ax Slot)(h:a.length<=10^9):pU a b=some (yz a b):=by unfold pU;refine vH WR WS a b h (λhl i hi nN nx=>?_) (λnx=>?_);simp only[lW];rw[ks,bl hi,bl nN,ak];rfl;simp only[lW];rw[cP];rfl
def L3 (x1 x2:Stream):Bool:=(x1.1.1==x2.1.1)&&((x1.1.2.1==x2.1.2.1)&&((x1.1.2.2.1==x2.1.2.2.1)&&((x1.1.2.2.2.1==x2.1.2.2.2.1)&&((x1.1.2.2.2.2==x2.1.2.2.2.2)&&((x1.2.1==x2.2.1)&&((x1.2.2.1==x2.2.2.1)&&((x1.2.2.2==x2.2.2.2)&&true)))))))
theorem Qx (x y:Stream):L3 x y=true↔x=y:=by obtain⟨⟨a2,a3,a4,a5,a6⟩,a7,a8,a9⟩:=x;obtain⟨⟨c2,c3,c4,c5,c6⟩,c7,c8,c9⟩:=y;simp only[L3,dR,ae,aV,Prod.mk.injEq,and_assoc]
theorem Si (a b:ax Stream)(h:a.length<=10^9):mO a b=some (yz a b):=by unfold mO;refine vH L3 Qx a b h (λhl i hi nN nx=>?_) (λnx=>?_);simp only[kj];rw[ks,bl hi,bl nN,ak];rfl;simp only[kj];rw[cP];rfl
theorem K4 (a b:cK)(h:a.2.2.2.length<=10^9):rX a b=some (yz a b):=by simp only[rX,Az _ _ h,ab,bP,cF,jO a b,jO a.2 b.2,jO a.2.2 b.2.2,QZ]
theorem VK (a b:kz)(h:a.2.2.length<=10^9):vY a b=some (yz a b):=by simp only[vY,Az _ _ h,ab,bP,cF,jO a b,jO a.2 b.2,QZ]
theorem ZG (a b:ax kz)(h:a.length<=10^9)(hx:∀x∈a,x.2.2.length<=10^9):lj a b=some (yz a b):=by unfold lj;refine vH yz (λ_ _=>zA) a b h (λhl i hi nN nx=>?_) (λnx=>?_);simp only[jh];rw[ks,bl hi,bl nN,ak];simp only[ah,ab,VK _ _ (hx _ (aZ hi))];rfl;simp only[jh];rw[cP];rfl
theorem ZA (a b:ax cK)(h:a.length<=10^9)(hx:∀x∈a,x.2.2.2.length<=10^9):lh a b=some (yz a b):=by unfold lh;refine vH yz (λ_ _=>zA) a b h (λhl i hi nN nx=>?_) (λnx=>?_);simp only[jg];rw[ks,bl hi,bl nN,ak];simp only[ah,ab,K4 _ _ (hx _ (aZ hi))];rfl;simp only[jg];rw[cP];rfl
def ringEq (a b:Ring):Bool:=(a.1==b.1)&&((a.2.1==b.2.1)&&((a.2.2.1==b.2.2.1)&&((a.2.2.2==b.2.2.2)&&true)))
theorem aaH (a b:Ring):ringEq a b=yz a b:=by simp only[ringEq,jO a b,jO a.2 b.2,jO a.2.2 b.2.2,QZ,dR]
theorem adk (a b:dx)(h1:a.2.2.1.length<=10^9)(h2:a.2.1.2.2.2.length<=10^9)(h3:∀x∈a.2.2.1,x.2.2.length<=10^9):zE a b=some (yz a b):=by unfold zE;rw[show((a.1.1==b.1.1)&&((a.1.2.1==b.1.2.1)&&((a.1.2.2.1==b.1.2.2.1)&&((a.1.2.2.2==b.1.2.2.2)&&true))))=yz a.1 b.1 from aaH a.1 b.1];simp only[K4 _ _ h2,ZG _ _ h1 h3,ab,bP,cF,jO a b,jO a.2 b.2,jO a.2.2 b.2.2,QZ];cases yz a.1 b.1<;>cases yz a.2.1 b.2.1<;>cases yz a.2.2.1 b.2.2.1<;>cases yz a.2.2.2 b.2.2.2<;>rfl
theorem Sh (a b:cQ)(h1:a.1.length<=10^9)(h2:a.2.1.length<=10^9)(h3:a.2.2.2.length<=10^9):pP a b=some (yz a b):=by simp only[pP,ZC _ _ h1,VM _ _ h2,Az _ _ h3,ab,bP,cF,jO a b,jO a.2 b.2,jO a.2.2 b.2.2,QZ]
structure OH (h:Host):Prop where
 z:Hg h
 t3:∀x∈h.2.2.1.2.2.1,x.2.2.length<=10^9
 r:h.2.2.2.1.length<=10^9
 p:h.2.2.2.2.1.length<=10^9
 v:h.2.2.2.2.2.1.length<=10^9
 b:h.2.2.2.2.2.2.1.length<=10^9
 s:h.2.2.2.2.2.2.2.2.2.1.length<=10^9
 l:h.2.2.2.2.2.2.2.2.2.2.2.1.length<=10^9
 i:h.2.2.2.2.2.2.2.2.2.2.2.2.1.length<=10^9
 j:h.2.2.2.2.2.2.2.2.2.2.2.2.2.1.length<=10^9
theorem VA (a b:Host)(z:OH a):sJ a b=some (yz a.2.2 b.2.2):=by have ht:=z.z.t2;simp only[sJ,adk _ _ z.z.t1 (by omega) z.t3,afA _ _ z.r,ZA _ _ z.p z.z.p1,Sk _ _ z.v,Zr _ _ z.b,PO _ _ z.z.f1,Sh _ _ z.z.s1 z.z.s2 z.z.s3,Si _ _ z.s,Sj _ _ z.l,Az _ _ z.i,Az _ _ z.j,ab,bP,cF,QZ];congr 1;apply Pj;simp only[dR,ae,zA,Prod.ext_iff]
def viewAt (a b:Host)(m n:aB):Bool:=(m.1==n.1)&&((m.2.1==n.2.1)&&((m.2.2.2==n.2.2.2)&&(decide (m.2.2.1<(a.1.length:Int))&&(decide (n.2.2.1<(b.1.length:Int))&&(a.1.getD m.2.2.1.toNat []==b.1.getD n.2.2.1.toNat [])))))
def Md (a b:Host):Bool:=a.2.1.all (λm=>b.2.1.any (viewAt a b m))
theorem XN {xs:ax α}{i:Int}(d:α)(h0:0<=i)(h1:i<(xs.length:Int)):idx xs i=some (xs.getD i.toNat d):=by
 have e:i=((i.toNat:Nat):Int):=by omega
 have hl:i.toNat<xs.length:=by omega
 rw[ca hl];have:=bl hl;rwa[<-e]at this
theorem V5 (h:dj l=true){m:aB}(hm:m∈l):0<=m.2.2.1:=by unfold dj at h;simp only[ae,aF,bK]at h;obtain⟨i,hi,rfl⟩:=fb hm;have:=h.2 i hi;unfold Gp at this;rw[ca hi]at this;simp only[ae]at this;have:=this.1;unfold CR at this;simp only[ae,bh]at this;exact this.2.2.1
theorem XZ (h:dj l=true):l.length<=96:=by unfold dj at h;simp only[ae,aD]at h;omega
theorem afQ (h:dj l=true){j:Nat}(hi:i<l.length)(hj:j<i):kT l[i].1 l[i].2.1 (l[j]'(by omega))=false:=by unfold dj at h;simp only[ae,aF,bK]at h;have:=h.2 i hi;unfold Gp at this;simp only[ae,aF,bK]at this;have:=this.2 j hj;rw[ca hi,ca (show j<l.length by omega)]at this;simpa using this
theorem Yy {b:Host}(hb:dj b.2.1=true)(a:Host)(m:aB):b.2.1.any (viewAt a b m)=(match b.2.1.findIdx? (kT m.1 m.2.1)with|some k=>viewAt a b m (b.2.1.getD k B9)|none=>false):=by
 cases hq:b.2.1.findIdx? (kT m.1 m.2.1)with
 |none=>rw[List.findIdx?_eq_none_iff]at hq;rw[Bool.eq_false_iff,ne_eq,List.any_eq_true];rintro⟨n,hn,hv⟩;have:=hq n hn;unfold viewAt at hv;simp only[ae,aV]at hv;simp[kT,hv.1,hv.2.1]at this
 |some k=>
  rw[List.findIdx?_eq_some_iff_getElem]at hq;obtain⟨hk,hpk,gY⟩:=hq;simp only[ca hk];rw[cD,List.any_eq_true];constructor;rintro⟨n,hn,hv⟩;obtain⟨j,hj,rfl⟩:=fb hn;have PJ:=hv;unfold viewAt at PJ;simp only[ae,aV]at PJ;have hat:kT m.1 m.2.1 b.2.1[j]=true:=by simp[kT,PJ.1,PJ.2.1]
  rcases Nat.lt_trichotomy j k with hjk|hjk|hjk;have:=gY j hjk;rw[hat]at this;simp at this;subst hjk;exact hv;have:=afQ hb hj hjk;rw[<-PJ.1,<-PJ.2.1,hpk]at this;cases this;intro hv;exact⟨_,aZ hk,hv⟩
theorem ac9 (a b:Host)(ha:dj a.2.1=true)(hb:dj b.2.1=true)(v4:Bool)(k0:Int->ay R)(k1:Bool->Int->ay R)(fin hit:ay R)(h0:∀x,k0 x=fin)(h1:∀x,k1 false x=hit): ba (nd k0 k1 v4 a.2.1 (a.2.1.length:Int) a b) fuel 0=cond (Md a b) fin hit:=by
 have la:=XZ ha;have lb:=XZ hb;refine oW (λm=>b.2.1.any (viewAt a b m)) a.2.1 (by omega) (λi hi nx=>?_) (λnx=>?_);simp only[nd];rw[ks,ak (n:=(i:Int)+1),bl hi,Yy hb];simp only[ah,ab,K2 _ _ _ (show b.2.1.length<=10^9 by omega),Oa];have m0:=V5 ha (aZ hi);cases hq:b.2.1.findIdx? (kT a.2.1[i].1 a.2.1[i].2.1)with
 |none=>exact h1 _
 |some k=>
  rw[List.findIdx?_eq_some_iff_getElem]at hq;obtain⟨hk,hpk,gY⟩:=hq;simp only[ca hk];have n0:=V5 hb (aZ hk);rw[au (show¬(k:Int)<0 by omega),bl hk];generalize b.2.1[k]=n at*;generalize a.2.1[i]=m at*;simp only[kT,ae,aV]at hpk;unfold viewAt;rw[show(m.1==n.1)=true by simp[hpk.1],show(m.2.1==n.2.1)=true by simp[hpk.2],show(m.2.2.2==n.2.2.2)=(n.2.2.2==m.2.2.2) from Bool.beq_comm];simp only[af,ab];cases n.2.2.2==m.2.2.2 with
  |false=>exact h1 _
  |true=>
   have g1:decide (m.2.2.1>=(a.1.length:Int))= !decide (m.2.2.1<(a.1.length:Int)):=by rw[cD];simp
   have g2:decide (n.2.2.1>=(b.1.length:Int))= !decide (n.2.2.1<(b.1.length:Int)):=by rw[cD];simp
   simp only[af,aj,bq];rw[g1,g2];by_cases c1:m.2.2.1<(a.1.length:Int);by_cases c2:n.2.2.1<(b.1.length:Int);rw[aw c1,aw c2,XN [] m0 c1,XN [] n0 c2,h1];simp only[aj,af,ab,bq];rfl;rw[aw c1,au c2,h1];rfl;rw[au c1,h1];rfl
 simp only[nd];rw[cP,h0];rfl
def C1 (a b:Host):Bool:=dF a&&(dF b&&(yz a.2.2 b.2.2&&(yz (a.2.1.length:Int) (b.2.1.length:Int)&&Md a b)))
theorem NF (k:dF h=true):dj h.2.1=true:=by unfold dF at k;simp only[ae]at k;exact k.2.1
theorem Sl (a b:Host)(za:OH a)(zb:OH b):fR a b=some (C1 a b):=by unfold fR C1;simp only[qn _ za.z,qn _ zb.z,VA a b za,ab];cases ha:dF a;rfl;cases hb:dF b;rfl;rw[ac9 a b (NF ha) (NF hb) _ _ _ (some true) (some false) (λ_=>rfl) (λ_=>rfl)];simp only[ab,bP,cT,cN,cF,aj,af,bq,bne,QZ];cases yz a.2.2 b.2.2<;>cases yz (a.2.1.length:Int) (b.2.1.length:Int)<;>cases Md a b<;>rfl
theorem Ri (a:α):yz a a=true:=by unfold yz;simp
theorem Ys {n:Nat}(z:AW n h)(hn:n<=10^9:=by omega):OH h:=by have y:cW 1000000000 dD h:=z.z.mono hn;exact⟨z.sz hn,λx hx=>(y.2.2.1.2.2.1.2 x hx).2.2.1,y.2.2.2.1.1,y.2.2.2.2.1.1,y.2.2.2.2.2.1.1,y.2.2.2.2.2.2.1.1,y.2.2.2.2.2.2.2.2.2.1.1,y.2.2.2.2.2.2.2.2.2.2.2.1.1,y.2.2.2.2.2.2.2.2.2.2.2.2.1.1,y.2.2.2.2.2.2.2.2.2.2.2.2.2.1.1⟩
theorem X3 {n:Nat}(hn:m.length=n):∀k,k<=n->∀i,i<k->(SX m s k).getD ((i+s)%n) []=m.getD i []
 |0,_,i,hi=>by omega
 |k+1,hk,i,hi=>by have hl:=Gw m s k;have hm:(k+s)%n<n:=gk _ (by omega);have hm2:(i+s)%n<n:=gk _ (by omega);rw[SX,hn,bA];by_cases e:i=k;subst e;rw[List.getElem?_set_self (by omega)];rfl;have g:(k+s)%n≠(i+s)%n:=λh=>e (Om (by omega) (by omega) h).symm;rw[aN g,<-bA];exact X3 hn k (by omega) i (by omega)
theorem SY (hm:∀x∈m,x.length=128):∀k,k<=m.length->∀x∈SX m s k,x.length=128
 |0,_=>hm
 |k+1,hk=>λx hx=>by rw[SX]at hx;rcases dJ hx with g|g;exact SY hm k (by omega) x g;rw[g,ca (by omega)];exact hm _ (aZ _)
theorem Wa {n:Nat}(hn:0<n/\n<=64)(hs:s<=64)(h:dj l=true)(hp:∀x∈l,0<=x.2.2.1/\x.2.2.1<(n:Int)):lC n s l (l.map (xm (n:Int) (s:Int))):=by
 refine⟨hn,hs,h,?_,rfl,hp⟩;unfold dj at h⊢;rw[cb];simp only[ae,aF,bK]at h⊢;refine⟨h.1,λi hi=>?_⟩;have hx:=hp _ (aZ hi);have e:∀j,j<l.length->(l.map (xm (n:Int) (s:Int))).getD j B9=xm (n:Int) (s:Int) (l.getD j B9):=by intro j hj;rw[ca (by rw[cb];exact hj),List.getElem_map,ca hj]
 have q:=h.2 i hi;unfold Gp at q⊢;rw[e i hi];simp only[ae,aF,bK]at q⊢;refine⟨?_,λj hj=>?_⟩;have q1:=q.1;unfold CR at q1⊢;simp only[ae,bh]at q1⊢;refine⟨q1.1,q1.2.1,?_⟩;rw[ca hi];show 0<=tmod (ar (l[i].2.2.1+(s:Int))) (n:Int)/\tmod (ar (l[i].2.2.1+(s:Int))) (n:Int)<=63;rw[ak,show l[i].2.2.1+(s:Int)=((l[i].2.2.1.toNat+s:Nat):Int) by omega,G3];have:=gk (l[i].2.2.1.toNat+s) hn.1;omega;rw[e j (by omega)];exact q.2 j hj
theorem WO {N:Int}(g:Good N h)(hN:N<=1000000000000)(hl:h.1.length=38)(hm:∀m∈h.2.1,m.2.2.1<(h.1.length:Int))(hs:s<=38):∃h',H9 h (s:Int)=(h',true)/\iD 38 s h h'/\Good N h':=by
 have hb:=g.ok hN;have hp:∀x∈h.2.1,0<=x.2.2.1/\x.2.2.1<((38:Nat):Int):=λx hx=>⟨V5 g.maps hx,by have:=hm x hx;omega⟩
 have ph:SZ h=true:=by unfold SZ;rw[aF];intro i hi;have hi:=bK.1 hi;rw[ca hi,au (by have:=hm _ (aZ hi);omega)];rfl
 have ok:zM h (s:Int)=true:=by unfold zM;rw[hb,hl,bh.2 ⟨by omega,by omega⟩];rfl
 have em:rA (h.1.length:Int) (s:Int) h.2.1 h.2.1.length=h.2.1.map (xm ((38:Nat):Int) (s:Int)):=by unfold rA;rw[eo,gH,bS,hl]
 have sh:=Wa (n:=38) (s:=s) (by omega) (by omega) g.maps hp;have pm:=(kF.1 g.mem).1;have sim:ij 38 s h.1 (SX h.1 s h.1.length):=⟨hl,by rw[Gw];exact hl,pm,SY pm _ (aS _),λi hi=>X3 hl _ (by omega) i (by omega)⟩
 refine⟨(SX h.1 s h.1.length,h.2.1.map (xm ((38:Nat):Int) (s:Int)),h.2.2),?_,⟨sh,sim,rfl⟩,⟨(sim.mem (by omega)).2,sh.ok',g.tx,g.Jo,g.lens,g.Ot,g.rx,g.pool,g.vec,g.Ca⟩⟩;unfold H9;rw[ok,ph,em];rfl
theorem X2 {n:Nat}{m':bR}(h:ij n s m m'){f:Int}(h0:0<=f)(h1:f<(n:Int))(hn:n<=64)(hs:s<=64):m.getD f.toNat []=m'.getD (tmod (ar (f+(s:Int))) (n:Int)).toNat []/\tmod (ar (f+(s:Int))) (n:Int)<(n:Int):=by have e:=h.eq f.toNat (by omega);rw[ak,show f+(s:Int)=((f.toNat+s:Nat):Int) by omega,G3,aA];have:=gk (f.toNat+s) (show 0<n by omega);exact⟨e.symm,by omega⟩
theorem aeS {n:Nat}(q:iD n s h h')(b:dF h=true)(b':dF h'=true):C1 h h'=true/\C1 h' h=true:=by
 have hl:=q.mem.ln;have Zi:=q.mem.ln';have hn:=q.maps.n0;have hs:=q.maps.s0;have el:h'.2.1.length=h.2.1.length:=by rw[q.maps.e,cb]
 have v1:Md h h'=true:=by unfold Md;rw[aF];intro m hm;rw[List.any_eq_true];have hp:=q.maps.ph m hm;have pe:=X2 q.mem hp.1 hp.2 (by omega) hs;refine⟨xm (n:Int) (s:Int) m,by rw[q.maps.e];exact List.mem_map_of_mem hm,?_⟩;unfold viewAt;rw[hl,Zi];show((m.1==m.1)&&((m.2.1==m.2.1)&&((m.2.2.2==m.2.2.2)&&(decide (m.2.2.1<(n:Int))&&(decide (tmod (ar (m.2.2.1+(s:Int))) (n:Int)<(n:Int))&&(h.1.getD m.2.2.1.toNat []==h'.1.getD (tmod (ar (m.2.2.1+(s:Int))) (n:Int)).toNat []))))))=true;rw[aw hp.2,aw pe.2,pe.1];simp only[gI,dH]
 have v2:Md h' h=true:=by unfold Md;rw[aF];intro m' hm';rw[q.maps.e]at hm';obtain⟨m,hm,rfl⟩:=List.mem_map.1 hm';rw[List.any_eq_true];have hp:=q.maps.ph m hm;have pe:=X2 q.mem hp.1 hp.2 (by omega) hs;refine⟨m,hm,?_⟩;unfold viewAt;rw[hl,Zi];show((m.1==m.1)&&((m.2.1==m.2.1)&&((m.2.2.2==m.2.2.2)&&(decide (tmod (ar (m.2.2.1+(s:Int))) (n:Int)<(n:Int))&&(decide (m.2.2.1<(n:Int))&&(h'.1.getD (tmod (ar (m.2.2.1+(s:Int))) (n:Int)).toNat []==h.1.getD m.2.2.1.toNat []))))))=true;rw[aw hp.2,aw pe.2,pe.1];simp only[gI,dH]
 unfold C1;rw[b,b',q.rest,el,Ri,Ri,v1,v2];exact⟨rfl,rfl⟩
theorem ND (fl:Filter)(st:cQ)(c:Bool):∀vs,(yI fl st c vs).1.length=38
 |[]=>by show(List.replicate 38 (wX 128)).length=38;simp
 |v::vs=>by have i:=ND fl st c vs;rw[yI];unfold N5;show(pS _ _ _).1.length=38;rw[HR];exact i
theorem Jx (a:cZ)(ha:Yw (.sl (.int .u8)) a):ur a=some true:=by
 refine Ends.true ?_;unfold ur;refine ahk rfl λhl=>?_;rw[af];refine(Xc hl).bind λr2 p2=>(ajt ha hl (i:=0) (by omega) (by omega)).bind λr3 p3=>Ends.ifn (by decide) ?_;obtain⟨h,l⟩:=r2;simp only at p2⊢;obtain⟨f,hn,ajw⟩:=p2;have t0:=Int.tmod_nonneg 39 p3.1;have t1:=Int.tmod_lt_of_pos r3 (b:=39) (by omega);obtain⟨s,hs⟩:=aQ t0;rw[hs];have aol:h.1.length=38:=by obtain⟨fl,st,c,vs,_,e,_⟩:=f.is;have e1:h.1=(yI fl st c vs).1:=congrArg (·.1) e;rw[e1,ND]
 obtain⟨g,e1,sim,gg⟩:=WO f.Mv (by omega) aol f.maps (s:=s) (by omega);have zg:AW 2000 g:=by have z:=WN (s:=(s:Int)) f.sz.z;rw[e1]at z;refine⟨z,?_⟩;have e2:g.2.2.1=h.2.2.1:=congrArg (·.1) sim.rest;rw[e2];exact f.sz.t
 rw[ZH h _ (f.sz.z.mono) (f.sz.sz (by omega)),ab,e1];have q0:Ft 2000 h 0 h:=⟨f.Mv.mono,by simpa using f.sz,mA.refl h⟩
 have q1:Ft 2000 g 0 g:=⟨gg.mono,by simpa using zg,mA.refl g⟩
 have fe:=XH (n:=2000) (by omega) h l (by omega) ajw (f.Mv.mono) f.sz;have fe2:=XH (n:=2000) (by omega) g l (by omega) ajw (gg.mono) zg;have r0:=Pr (by omega) l 0 (by omega) q0;have r1:=Pr (by omega) l 0 (by omega) q1;have sm:=Nz (N:=2000) l 0 0 (by omega) sim (f.Mv.mono) (gg.mono);unfold acE at fe fe2;simp only[fe,fe2,ab];generalize l.foldl jx (h,0)=x at r0 sm⊢;generalize l.foldl jx (g,0)=y at r1 sm⊢;have b0:=r0.Mv.ok (by omega);have b1:=r1.Mv.ok (by omega);have vw:=aeS sm.1 b0 b1;have v0:=Ys r0.sz;have v1:=Ys r1.sz;have ho:=qn x.1 (r0.sz.sz (by omega));rw[b0]at ho;have ew:y.1.2.2.2.2.2.2.2.2.2.2.2.1=x.1.2.2.2.2.2.2.2.2.2.2.2.1:=by rw[sm.1.rest]
 have hw:x.1.2.2.2.2.2.2.2.2.2.2.2.1.length<=10^9:=v0.l;have body:Ends (aa (cond (x.2==y.2) (aa (fR x.1 y.1) λr7=>cond r7 (aa (fR y.1 x.1) λr8=>cond r8 (aa (jt x.1.2.2.2.2.2.2.2.2.2.2.2.1 y.1.2.2.2.2.2.2.2.2.2.2.2.1) λr9=>cond r9 (aa (fB x.1) λqC=>some qC) (some false)) (some false)) (some false)) (some false)) λWB=>some WB) (λb=>b=true):=by rw[sm.2,gI,ah,Sl _ _ v0 v1,ab,vw.1,ah,Sl _ _ v1 v0,ab,vw.2,ah,ew,LJ _ hw,ab,ah,ho];exact Ends.pure rfl
 cases l.isEmpty with|true=>exact body|false=>exact body
end
end Go.Pu
