import Derived.Test.YtinkcmefgciifaaGreatPuX2
namespace Go.Pu
open Go.Dn
open Int (tmod)
set_option linter.unusedSimpArgs false
set_option linter.unusedVariables false
noncomputable section
variable {c:Og} {f:Filter} {h:Host} {b d n x:Int} {i k:Nat} {p:cR} {q:bR} {s:cS} {t:dD} {R α:Type} {v:Vector} {l:aw aA} {ps:aw aN} {a:cw} {m:bM} {r:lN}
/- Draws: keys, spreads, rules, flow tables, steerings, filters. -/
theorem ahG (h:Cu c):Ends (zF c) λr=>r.1.length=16/\Cu r.2:=by unfold zF;exact(GK h 16).bind λr hr=>Ends.pure ⟨by have:=hr.1.2.1 (by omega) (by omega);omega,hr.2⟩
theorem Yk (h:Cu c):Ends (xG c) λr=>Cu r.2:=by unfold xG;refine(iI (P:=λ_=>True) h (by decide) (by simp)).bind λr1 p1=>(Ku p1.2).bind λr2 p2=>(gw p2.2 (by decide)).bind λr3 p3=>?_;exact(iI (P:=λ_=>True) p3.2 (by decide) (by simp)).bind λr4 p4=>Ends.pure p4.2
theorem aax (h:Cu c):Ends (uw c) λr=>(r.1.1.1.length=16/\r.1.1.2.length<=8/\1<=r.1.2/\r.1.2<=4)/\Cu r.2:=by unfold uw;refine(gw h (by decide)).bind λr1 p1=>(ahG p1.2).bind λr2 p2=>(iI (P:=λx=>0<=x/\x<=8) p2.2 (by decide) (by decide)).bind λr3 p3=>?_;have a1:=p1.1;have a3:=p3.1;rw[ak (n:=1+r1.1)];refine Ends.wv (λx=>0<=x.1/\x.1+(x.2.2.2.length:Int)=r3.1/\x.2.2.1.length=16/\Cu x.2.1) (λx=>x.1.toNat) ⟨by omega,by simp,p2.1,p3.2⟩ (by simp;omega) λx nx hx hn=>?_;unfold ux;refine Ends.cond (λk=>?_) λk=>Ends.pure ⟨⟨hx.2.2.1,by have:=hx.1;have:=hx.2.1;show x.2.2.2.length<=8;omega,by show(1:Int)<=1+r1.1;omega,by show 1+r1.1<=(4:Int);omega⟩,hx.2.2.2⟩;have k:=bl k;rw[ak (n:=x.1-1) (by omega) (by have:=hx.2.1;omega)];refine(Fp hx.2.2.2 _).bind λr4 p4=>Ends.room (by have:=hx.2.1;simp;omega) (hn _ ⟨?_,?_,hx.2.2.1,p4.2⟩ ?_);show 0<=x.1-1;omega;show x.1-1+((x.2.2.2++[r4.1]).length:Int)=r3.1;have:=hx.2.1;simp;omega;show(x.1-1).toNat<x.1.toNat;omega
theorem afj (h:Cu c):Ends (xI c) λr=>Cu r.2:=by unfold xI;refine(gw h (by decide)).bind λr1 p1=>(iI (P:=λ_=>True) p1.2 (by decide) (by simp)).bind λr2 p2=>(Ku p2.2).bind λr3 p3=>?_;refine(iI (P:=λ_=>True) p3.2 (by decide) (by simp)).bind λr4 p4=>(iI (P:=λ_=>True) p4.2 (by decide) (by simp)).bind λr5 p5=>(iI (P:=λ_=>True) p5.2 (by decide) (by simp)).bind λr6 p6=>?_;refine(iI (P:=λ_=>True) p6.2 (by decide) (by simp)).bind λr7 p7=>(iI (P:=λ_=>True) p7.2 (by decide) (by simp)).bind λr8 p8=>?_;exact Ends.cond (λ_=>(gw p8.2 (by decide)).bind λr9 p9=>Ends.pure p9.2) λ_=>Ends.pure p8.2
theorem adm (h:Cu c):Ends (vY c) λr=>r.1.length<=4/\Cu r.2:=by unfold vY;refine(gw h (by decide)).bind λr1 p1=>?_;have a1:=p1.1;refine Ends.wv (λx=>0<=x.2.1/\x.2.1+(x.1.length:Int)=r1.1/\Cu x.2.2) (λx=>x.2.1.toNat) ⟨a1.1,by simp,p1.2⟩ (by simp;omega) λx nx hx hn=>?_;unfold vg;refine Ends.cond (λk=>?_) λk=>Ends.pure ⟨by have:=hx.1;have:=hx.2.1;show x.1.length<=4;omega,hx.2.2⟩;have k:=bl k;rw[ak (n:=x.2.1-1) (by omega) (by have:=hx.2.1;omega)];refine(afj hx.2.2).bind λr2 p2=>Ends.room (by have:=hx.2.1;simp;omega) (hn _ ⟨?_,?_,p2⟩ ?_);show 0<=x.2.1-1;omega;show x.2.1-1+((x.1++[r2.1]).length:Int)=r1.1;have:=hx.2.1;simp;omega;show(x.2.1-1).toNat<x.2.1.toNat;omega
theorem LY (t:aw Slot)(f:iB):∀n k,walk t f n k= -1\/(0<=walk t f n k/\walk t f n k<8)
 |0,_=>Or.inl rfl
 |n+1,k=>by rw[walk];have:=DK f k;split;exact Or.inl rfl;split;exact Or.inr ⟨by omega,by omega⟩;exact LY t f n (k+1)
theorem aaE {t:aw Slot}(h:nT t=true):t.length=8:=by unfold nT at h;simp only[ae,aQ]at h;exact h.1
theorem ahZ (t:aw Slot)(f:iB)(q:Int)(hl:t.length<=1000):Ends (xB t f q) λr=>r.1.length=t.length:=by
 unfold xB;rw[Eh _ (by omega),ab,N5,ab];refine Ends.bind (P:=λb=>b=false->nT t=true) ?_ λb hb=>Ends.cond (λ_=>Ends.pure rfl) λJq=>?_;refine Ends.cond (λ_=>Ends.pure λh=>by cases h) λh=>?_;rw[eu,ab];exact Ends.pure λ_=>by simpa using h
 ·have h8:=aaE (hb Jq);rw[Tb _ _ h8,ab];have hw:=LY t f 8 0;refine Ends.wv (λx=>(x.1= -1\/(0<=x.1/\x.1<8))/\0<=x.2/\x.2<=8) (λx=>(8-x.2).toNat) ⟨hw,by simp,by simp⟩ (by simp) λx nx hx hn=>?_;unfold wW;refine Ends.bind (P:=λb=>b=true->x.2<8) (Ends.cond (λh=>Ends.pure λ_=>bl h) λh=>Ends.pure λh=>by cases h) λb hb=>Ends.cond (λJq=>?_) λ_=>?_
  ·have hb:=hb Jq;rw[Tc,ab];have hh:=Kt f;rw[ak (n:=Ao f+x.2),ak (n:=x.2+1)];have m1:=Int.tmod_nonneg 8 (a:=Ao f+x.2) (by omega);have m2:=Int.tmod_lt_of_pos (Ao f+x.2) (b:=8) (by omega);refine Ends.ifn (by decide) (Ends.idx m1 (by omega) λ_=>Ends.cond (λ_=>hn _ ⟨Or.inr ⟨m1,m2⟩,?_,?_⟩ ?_) λ_=>hn _ ⟨hx.1,?_,?_⟩ ?_);all_goals simp only
   all_goals omega
  refine Ends.cond (λ_=>Ends.pure rfl) λh=>?_;have h:=eK h;have h0:0<=x.1/\x.1<8:=by omega
  exact Ends.idx h0.1 (by omega) λ_=>Ends.idx h0.1 (by omega) λ_=>Ends.pure (by simp)
structure vn (s:cS):Prop where
 r:s.1.length<=100
 t:s.2.1.length<=100
 k:s.2.2.1.length=16
 p:s.2.2.2.length<=100
theorem adC (h:Cu c):Ends (qN c) λr=>(vn r.1.1/\1<=r.1.2/\r.1.2<=4)/\Cu r.2:=by
 unfold qN;have RF:lU=some (List.replicate 8 (0,(0,0,0,0,0),0)):=by unfold lU;rw[aE (by decide),aP (by decide)];rfl
 rw[RF,ab];refine(aax h).bind λr2 p2=>(vM p2.2 2).bind λr3 p3=>?_;have t11:∀(n:Int)(s:cS)(c':Og),n<=4->vn s->Cu c'->Ends (aX (gW (λ(_:Int) Fi H0=>some ((H0,r2.1.2),Fi)) r2.1.2 (([]:aw iC),([]:aw Slot),([]:Bytes),([]:cw))) fuel (n,c',s)) λr:(cS×Int)×Og=>(vn r.1.1/\1<=r.1.2/\r.1.2<=4)/\Cu r.2:=by intro n s c' hn hs hc;refine Ends.wv (λx=>x.1<=4/\vn x.2.2/\Cu x.2.1) (λx=>x.1.toNat) ⟨hn,hs,hc⟩ (by simp;omega) λx nx hx hn=>?_;unfold gW;refine Ends.cond (λk=>?_) λk=>Ends.pure ⟨⟨hx.2.1,p2.1.2.2⟩,hx.2.2⟩;have k:=bl k;rw[ak (n:=x.1-1) (by omega) (by have:=hx.1;omega)];refine(Yk hx.2.2).bind λuH p11=>(Fp p11 _).bind λsM p12=>(ahZ _ _ _ (by have:=hx.2.1.t;omega)).bind λxh p13=>hn _ ⟨?_,⟨hx.2.1.r,by have:=hx.2.1.t;show xh.1.length<=100;omega,hx.2.1.k,hx.2.1.p⟩,p12.2⟩ ?_;show x.1-1<=4;have:=hx.1;omega;show(x.1-1).toNat<x.1.toNat;omega
 have t7:∀(s:cS)(c' b:Og),vn s->s.1.length<=4->Cu c'->Ends (aX (jJ (λ(_:Int) y9=>aa (cd c' 4) λqW=>aX (gW (λ(_:Int) Fi H0=>some ((H0,r2.1.2),Fi)) r2.1.2 (([]:aw iC),([]:aw Slot),([]:Bytes),([]:cw))) fuel (qW.1,qW.2,y9)) r2.1.2 b (([]:aw iC),([]:aw Slot),([]:Bytes),([]:cw))) fuel (0,s)) λr:(cS×Int)×Og=>(vn r.1.1/\1<=r.1.2/\r.1.2<=4)/\Cu r.2:=by intro s c' b hs hl hc;refine Ends.wv (λx=>0<=x.1/\x.2.1.length=s.1.length/\vn x.2) (λx=>((s.1.length:Int)-x.1).toNat) ⟨by simp,rfl,hs⟩ (by simp;omega) λx nx hx hn=>?_;unfold jJ;refine Ends.cond (λk=>?_) λk=>(gw hc (by decide)).bind λqW p10=>t11 _ _ _ (by have:=p10.1;omega) hx.2.2 p10.2;have k:=bl k;rw[ak (n:=x.1+1) (by omega) (by have:=hx.2.1;omega)];refine Ends.idx hx.1 k λ_=>Ends.ifn (by have:=p2.1.2.2;omega) (Ends.idx hx.1 k λ_=>Ends.idx hx.1 k λ_=>hn _ ⟨?_,?_,⟨?_,hx.2.2.t,hx.2.2.k,hx.2.2.p⟩⟩ ?_);show 0<=x.1+1;have:=hx.1;omega;show(List.set _ _ _).length=_;rw[aC];exact hx.2.1;show(List.set _ _ _).length<=100;rw[aC];exact hx.2.2.r;show((s.1.length:Int)-(x.1+1)).toNat<_;have:=hx.2.1;omega
 refine Ends.cond (λ_=>(adm p3).bind λr4 p4=>t7 _ _ _ ⟨by have:=p4.1;show r4.1.length<=100;omega,by simp,p2.1.1,by have:=p2.1.2.1;show r2.1.1.2.length<=100;omega⟩ p4.1 p4.2) λ_=>t7 _ _ _ ⟨by simp,by simp,p2.1.1,by have:=p2.1.2.1;show r2.1.1.2.length<=100;omega⟩ (by simp) p3
theorem Q6 (h:Cu c):Ends (uB c) λr=>(r.1.1=2/\(r.1.2.2=[7]\/r.1.2.2=[]))/\Cu r.2:=by unfold uB;exact(vM h 4).bind λr1 p1=>(vM p1 2).bind λr2 p2=>Ends.cond (λ_=>Ends.pure ⟨⟨rfl,Or.inl rfl⟩,p2⟩) λ_=>Ends.pure ⟨⟨rfl,Or.inr rfl⟩,p2⟩
def I2 (a:Act):Prop:=a.2.1.2.2.2.2.2.2.2.2.2.2.2.2.2.2.2.length<=1000/\a.2.2.2.2.1.length<=382/\0<=a.1/\a.1<=6
def Fj (r:Bool)(a:Act):Prop:=I2 a/\(a.1=6->r=true)
theorem Fl {r:Bool}{l:aw Act}{a:Act}(h:Fj r a):(l++[a]).length<=l.length+1/\∀y∈l++[a],y∈l\/Fj r y:=by refine⟨by simp,λy hy=>?_⟩;rcases ay.1 hy with hy|hy;exact Or.inl hy;rw[cf.1 hy];exact Or.inr h
theorem TN {Q:R->Prop}{k0:aw Act->Og->ax R}{r:Bool}{l:aw Act}{i:Int}{b:Bool}(hl:l.length<=1000)(hc:Cu c)(hk:∀l' c',l'.length<=l.length+1->(∀y∈l',y∈l\/Fj r y)->Cu c'->Ends (k0 l' c') Q):Ends (km k0 r l ps i x b c) Q:=by
 have add:∀(a:Act)(c':Og),Fj r a->Cu c'->Ends (k0 (l++[a]) c') Q:=λa c' ha xg=>by have k:=Fl (r:=r) (l:=l) (a:=a) ha;exact hk _ _ k.1 k.2 xg
 have keep:∀c',Cu c'->Ends (k0 l c') Q:=λc' xg=>hk _ _ (by omega) (λy hy=>Or.inl hy) xg;unfold km;refine Ends.cond (λ_=>(gw hc (by decide)).bind λr9 p9=>Ends.room (by simp;omega) (by exact add _ _ (by simp[Fj,I2]) p9.2)) λ_=>?_;refine Ends.cond (λ_=>(NR hc).bind λqW p10=>(gw p10.2 (by decide)).bind λuH p11=>(iI (P:=λ_=>True) p11.2 (by decide) (by simp)).bind λsM p12=>Ends.room (by simp;omega) (by exact add _ _ ⟨⟨by have:=p10.1.2.1;show qW.1.2.2.2.2.2.2.2.2.2.2.2.2.2.2.2.length<=1000;omega,by simp⟩,by simp⟩ p12.2)) λ_=>?_;refine Ends.cond (λ_=>Ends.room (by simp;omega) (by exact add _ _ (by simp[Fj,I2]) hc)) λ_=>?_;exact Ends.cond (λ_=>Ends.cond (λkr=>Ends.room (by simp;omega) (by exact add _ _ ⟨by simp[I2],λ_=>kr⟩ hc)) λ_=>keep _ hc) λ_=>keep _ hc
theorem aaU {Q:R->Prop}{k0:aw Act->Og->ax R}{r:Bool}{l:aw Act}{i:Int}{b:Bool}(hl:l.length<=1000)(hc:Cu c)(hk:∀l' c',l'.length<=l.length+1->(∀y∈l',y∈l\/Fj r y)->Cu c'->Ends (k0 l' c') Q):Ends (nk k0 r l ps i x b c) Q:=by unfold nk;refine Ends.cond (λ_=>Ends.room (by simp;omega) ?_) λ_=>?_;have k:=Fl (r:=r) (l:=l) (a:=(4,(0,0,0,0,0,0,0,0,0,0,0,0,0,0,0,([]:Bytes)),0,0,([]:Bytes),0)) (by simp[Fj,I2]);exact hk _ _ k.1 k.2 hc;exact Ends.cond (λ_=>TN hl hc hk) λ_=>Ends.cond (λ_=>TN hl hc hk) λ_=>TN hl hc hk
theorem afM {Q:R->Prop}{k0:aw Act->Og->ax R}{r:Bool}{l:aw Act}{i:Int}{x:Bytes}(hl:l.length<=900)(hx:x.length<=382)(hc:Cu c)(hk:∀l' c',l'.length<=l.length+2->(∀y∈l',y∈l\/Fj r y)->Cu c'->Ends (k0 l' c') Q):Ends (oy k0 r l ps i x c) Q:=by unfold oy;have k:=Fl (r:=r) (l:=l) (a:=(2,(0,0,0,0,0,0,0,0,0,0,0,0,0,0,0,([]:Bytes)),0,0,x,0)) ⟨⟨by simp,hx,by simp,by simp⟩,by simp⟩;generalize hL:l++[((2,(0,0,0,0,0,0,0,0,0,0,0,0,0,0,0,([]:Bytes)),0,0,x,0):Act)]=L at k⊢;have hk2:∀l' c',l'.length<=L.length+1->(∀y∈l',y∈L\/Fj r y)->Cu c'->Ends (k0 l' c') Q:=λl' c' h1 h2 h3=>hk _ _ (by omega) (λy hy=>by rcases h2 y hy with h|h;exact k.2 y h;exact Or.inr h) h3;refine Ends.room (by simp;omega) ((gw hc (by decide)).bind λr8 p8=>?_);refine Ends.cond (λ_=>Ends.room (by simp;omega) ?_) λ_=>?_;have k:=Fl (r:=r) (l:=L) (a:=(3,(0,0,0,0,0,0,0,0,0,0,0,0,0,0,0,([]:Bytes)),0,0,([]:Bytes),0)) (by simp[Fj,I2]);exact hk2 _ _ k.1 k.2 p8.2;exact Ends.cond (λ_=>aaU (by omega) p8.2 hk2) λ_=>aaU (by omega) p8.2 hk2
theorem aiK {Q:R->Prop}{k0:aw Act->Int->Og->ax R}{r:Bool}{l:aw Act}{i:Int}(hl:l.length<=900)(h0:0<=i)(h1:i<(ps.length:Int))(hn:ps.length<=1000)(hc:Cu c)(hk:∀l' c',l'.length<=l.length+2->(∀y∈l',y∈l\/Fj r y)->Cu c'->Ends (k0 l' (i+1) c') Q):Ends (sF k0 r l ps i c) Q:=by
 have e:au (i+1)=i+1:=ak;unfold sF;refine Ends.idx h0 h1 λhi=>?_;have hf:=Nd ps[i.toNat];rw[aao,ab];refine(vM hc 12).bind λr4 p4=>Ends.cond (λ_=>?_) λ_=>afM hl hf p4 λl' c' g1 g2 g3=>by unfold ox;rw[e];exact hk _ _ g1 g2 g3
 refine(Fp p4 _).bind λr5 p5=>(GK p5.2 1).bind λr6 p6=>?_;rw[GB _ _ _,ab];exact afM hl (by rw[wB];exact hf) p6.2 λl' c' g1 g2 g3=>by unfold ox;rw[e];exact hk _ _ g1 g2 g3
theorem ael (h:Cu c)(r:Bool):Ends (xO c r) λx=>(x.1.length<=20/\∀a∈x.1,Fj r a)/\Cu x.2:=by unfold xO;refine(ae7 h (m:=10) (by omega) (by omega)).bind λr1 p1=>?_;have hn:=p1.1.2.2;refine Ends.wv (λx=>0<=x.2.1/\(x.1.length:Int)<=2*x.2.1/\x.2.1<=(r1.1.length:Int)/\(∀a∈x.1,Fj r a)/\Cu x.2.2) (λx=>((r1.1.length:Int)-x.2.1).toNat) ⟨by simp,by simp,by simp,by simp,p1.2⟩ (by simp;omega) λx nx hx hn=>?_;unfold xb;refine Ends.cond (λk=>?_) λk=>Ends.pure ⟨⟨by have:=hx.2.1;have:=hx.2.2.1;show x.1.length<=20;omega,hx.2.2.2.1⟩,hx.2.2.2.2⟩;have k:=bl k;have h2:=hx.2.1;refine aiK (by omega) hx.1 k (by omega) hx.2.2.2.2 λl' c' g1 g2 g3=>hn _ ⟨?_,?_,?_,?_,g3⟩ ?_;show 0<=x.2.1+1;have:=hx.1;omega;show(l'.length:Int)<=2*(x.2.1+1);omega;show x.2.1+1<=(r1.1.length:Int);omega;intro a ha;rcases g2 a ha with h|h;exact hx.2.2.2.1 a h;exact h;show((r1.1.length:Int)-(x.2.1+1)).toNat<((r1.1.length:Int)-x.2.1).toNat;omega
theorem VH (h:cE m=true)(a:Int)(s:Bytes):cE (qR m a s).1=true:=by unfold qR;cases hw:gu m a (s.length:Int);exact h;simp only[gu,ae,aB]at hw;exact qC.2 (xT s.length (qC.1 hw.1) (by omega)).1
theorem Sq:∀(q:aw (Int×Int)){m:bM}(s:Bytes),cE m=true->cE (Ll q m s)=true
 |[],_,_,h=>h
 |p::q,m,s,h=>by rw[Ll];exact Sq q _ (VH h _ _)
theorem CH (h:cE m=true)(l:aw aA)(d a:Int)(s:Bytes)(w:Bool):cE (hY l m d a s w).1=true:=by unfold hY;cases (kD l m d a (s.length:Int) w).2 with|false=>exact h|true=>exact Sq _ _ h
theorem Is (h:cE m=true)(l:aw aA)(d:Int)(r:lN)(s:Bytes):cE (cM l m d r s).1=true:=by
 unfold cM;cases (nW r==0)||((s.length:Int) !=16);case true=>exact h
 cases (hY l m d (om r r.2.2.2) s true).2 with|false=>exact h|true=>exact CH h ..
theorem CO {y:Int}(hb:0<=b/\b<=130944:=by omega)(hn:n=2\/n=4\/n=8\/n=16:=by omega)(hx:0<=x/\x<=2*n-1:=by omega)(hy:0<=y/\y<=2*n-1:=by omega)(hu:(y-x)%(2*n)<=n:=by omega):cW (b,n,x,y)=true:=by have hs:iO n=true:=gI.2 hn;simp only[cW,bE,hs,bg.2 hb,bg.2 hx,bg.2 hy,bN,bp,aB];exact hu
theorem DC (h:cW r=true):bE r=(r.2.2.2-r.2.2.1)%(2*r.2.1)/\0<=bE r/\bE r<=r.2.1:=by
 have k:=kL h;have e:bE r=(r.2.2.2-r.2.2.1)%(2*r.2.1):=by unfold bE;rw[aE (gI.2 k.2.2.1)]
 simp only[cW,ae,aB]at h;exact⟨e,by rw[e];exact eI _ (by omega),h.2.2.2.2⟩
theorem HY (hn:0<n:=by omega)(hx:0<=x/\x<=n-1:=by omega):tmod (x+1) n=if x+1=n then 0 else x+1:=by rw[df (by omega)];split;rename_i h;rw[h];exact Int.emod_self;exact Int.emod_eq_of_lt (by omega) (by omega)
theorem aaa (h:cW r=true)(hf:bE r<r.2.1):cW (r.1,r.2.1,r.2.2.1,tmod (r.2.2.2+1) (2*r.2.1))=true/\bE (r.1,r.2.1,r.2.2.1,tmod (r.2.2.2+1) (2*r.2.1))=bE r+1:=by
 have k:=kL h;have u:=DC h;have e:=HY (x:=r.2.2.2) (n:=2*r.2.1);have u2:(tmod (r.2.2.2+1) (2*r.2.1)-r.2.2.1)%(2*r.2.1)=bE r+1:=by
  have h1:(tmod (r.2.2.2+1) (2*r.2.1)-r.2.2.1)%(2*r.2.1)=(r.2.2.2+1-r.2.2.1)%(2*r.2.1):=by rw[e];split;rename_i hh;rw[<-hh,show(r.2.2.2+1-r.2.2.1)=(0-r.2.2.1)+(r.2.2.2+1) by omega,Int.add_emod_right];rfl
  rw[h1,show r.2.2.2+1-r.2.2.1=(r.2.2.2-r.2.2.1)+1 by omega];have h0:=u.1;generalize r.2.2.2-r.2.2.1=d at h0⊢;rw[Int.add_emod,<-h0,Int.emod_eq_of_lt (a:=1) (by omega) (by omega),Int.emod_eq_of_lt (by omega) (by omega)]
 refine⟨CO ⟨k.1,k.2.1⟩ k.2.2.1 ⟨k.2.2.2.1,k.2.2.2.2.1⟩ (by rw[e];split<;>omega) (by rw[u2];omega),?_⟩;unfold bE;rw[aE (gI.2 k.2.2.1)];exact u2
theorem adj (h:cW r=true)(hf:bE r≠0):cW (r.1,r.2.1,tmod (r.2.2.1+1) (2*r.2.1),r.2.2.2)=true/\bE (r.1,r.2.1,tmod (r.2.2.1+1) (2*r.2.1),r.2.2.2)=bE r-1:=by
 have k:=kL h;have u:=DC h;have e:=HY (x:=r.2.2.1) (n:=2*r.2.1);have u2:(r.2.2.2-tmod (r.2.2.1+1) (2*r.2.1))%(2*r.2.1)=bE r-1:=by
  have h1:(r.2.2.2-tmod (r.2.2.1+1) (2*r.2.1))%(2*r.2.1)=(r.2.2.2-(r.2.2.1+1))%(2*r.2.1):=by rw[e];split;rename_i hh;rw[<-hh,show(r.2.2.2-0)=(r.2.2.2-(r.2.2.1+1))+(r.2.2.1+1) by omega,Int.add_emod_right];rfl
  rw[h1,show r.2.2.2-(r.2.2.1+1)=(r.2.2.2-r.2.2.1)-1 by omega];have h0:=u.1;generalize r.2.2.2-r.2.2.1=d at h0⊢;rw[Int.sub_emod,<-h0,Int.emod_eq_of_lt (a:=1) (by omega) (by omega),Int.emod_eq_of_lt (by omega) (by omega)]
 refine⟨CO ⟨k.1,k.2.1⟩ k.2.2.1 (by rw[e];split<;>omega) ⟨k.2.2.2.2.2.1,k.2.2.2.2.2.2⟩ (by rw[u2];omega),?_⟩;unfold bE;rw[aE (gI.2 k.2.2.1)];exact u2
theorem Yn (h:cW r=true):nW r=r.2.1-bE r:=by have k:=kL h;have u:=DC h;unfold nW;rw[h,ah,ak]
theorem SW (h:cW r=true)(l:aw aA)(m:bM)(d:Int)(s:Bytes):cW (cM l m d r s).2.1=true/\(cM l m d r s).2.1.2.1=r.2.1:=by
 unfold cM;cases hc:(nW r==0)||((s.length:Int) !=16);case true=>exact⟨h,rfl⟩
 cases (hY l m d (om r r.2.2.2) s true).2 with
 |false=>exact⟨h,rfl⟩
 |true=>
  simp only[cg]at hc;have h1:nW r≠0:=by simpa using hc.1
  rw[Yn h]at h1;have u:=DC h;exact⟨(aaa h (by omega)).1,rfl⟩
theorem N0 (h:cW r=true)(l:aw aA)(m:bM)(d:Int):cW (bm l m d r).2.1=true/\(bm l m d r).2.1.2.1=r.2.1:=by
 unfold bm;cases hc: !cW r||(bE r==0);case true=>exact⟨h,rfl⟩
 cases (qY l m d (om r r.2.2.1) 16).2 with|false=>exact⟨h,rfl⟩|true=>simp only[cg]at hc;exact⟨(adj h (by simpa using hc.2)).1,rfl⟩
theorem abW {l:cw}:(List.range l.length).all (Cn n l)=true↔(∀x∈l,0<=x/\x<=n-1)/\l.Nodup:=by
 rw[aG];constructor;intro h;have k:∀i (hi:i<l.length),(0<=l[i]/\l[i]<=n-1)/\l[i]∉l.take i:=by intro i hi;have:=h i (bT.2 hi);unfold Cn at this;rw[cL hi,ae,bg]at this;exact⟨this.1,by simpa using this.2⟩
 refine⟨λx hx=>?_,?_⟩;obtain⟨i,hi,rfl⟩:=eZ hx;exact(k i hi).1;rw[List.Nodup,List.pairwise_iff_getElem];intro i j hi hj hij he;refine(k j hj).2 ?_;rw[<-he];exact List.mem_take_iff_getElem.2 ⟨i,by omega,rfl⟩;rintro⟨h1,h2⟩ i hi;have hi:=bT.1 hi;unfold Cn;rw[cL hi,ae,bg];refine⟨h1 _ (bk hi),?_⟩;have:l[i]∉l.take i:=by intro hm;obtain⟨j,hj,he⟩:=List.mem_take_iff_getElem.1 hm;rw[List.Nodup,List.pairwise_iff_getElem]at h2;exact h2 j i (by omega) hi (by omega) he
 simpa using this
theorem AA:dx p=true↔(0<=p.1/\p.1<=130944)/\(1<=p.2.1/\p.2.1<=512)/\(0<=p.2.2.1/\p.2.2.1<=16)/\(∀x∈p.2.2.2,0<=x/\x<=p.2.2.1-1)/\p.2.2.2.Nodup:=by unfold dx;simp only[ae,bg,abW]
theorem CL (h:dx p=true){l:cw}(hl:l.Sublist p.2.2.2):dx (p.1,p.2.1,p.2.2.1,l)=true:=by have k:=AA.1 h;exact AA.2 ⟨k.1,k.2.1,k.2.2.1,λx hx=>k.2.2.2.1 x (hl.subset hx),k.2.2.2.2.sublist hl⟩
theorem ZY (h:dx p=true)(l:cw):dx (EG p l).1=true:=by unfold EG;cases hg:Ah p l with|false=>exact h|true=>unfold Ah at hg;simp only[ae]at hg;exact hg.2
theorem Gw {s:kO}:nM n s=true↔(1<=s.2.1/\s.2.1<=n)/\0<=s.1/\s.1<=65535:=by unfold nM;simp only[ae,bg]
structure Fk (t:dD):Prop where
 ring:cW t.1=true
 next:0<=t.2.2.2/\t.2.2.2<=65535
 sent:∀x∈t.2.2.1,(1<=x.2.1/\x.2.1<=t.1.2.1)/\0<=x.1/\x.1<=65535
 pool:dx (gj t.2.1 (bu t.2.2.1))=true
 E9:dH t.2.2.1<=t.1.2.1
theorem Fk.free (h:Fk t):dx t.2.1=true:=CL h.pool (List.sublist_append_left _ _)
theorem aib:L7 t=true↔Fk t:=by constructor;intro h;unfold L7 at h;simp only[ae,bg,aG,Gw,aB]at h;obtain⟨h1,h2,h3,h4,h5,h6⟩:=h;unfold Ah at h5;simp only[ae]at h5;exact⟨h1,h3,h4,h5.2,h6⟩;·intro h;unfold L7 Ah;simp only[ae,bg,aG,Gw,aB];exact⟨h.ring,h.free,h.next,h.sent,⟨h.free,h.pool⟩,h.E9⟩
theorem H5 (a b:aw kO):bu (a++b)=bu a++bu b:=by simp[bu]
theorem MU (a b:aw kO):dH (a++b)=dH a+dH b:=by simp[dH]
theorem Ng:∀(l:aw kO)(p:cR),dx (gj p (bu l))=true->pL p l=gj p (bu l)
 |[],p,_=>by simp[pL,bu,gj]
 |x::l,p,h=>by
  have e:bu (x::l)=x.2.2++bu l:=by simp[bu]
  rw[e]at h;have h1:dx (gj p x.2.2)=true:=CL (p:=gj p (x.2.2++bu l)) h (by show(p.2.2.2++x.2.2).Sublist (p.2.2.2++(x.2.2++bu l));rw[<-aR];exact List.sublist_append_left _ _);have h0:dx p=true:=CL (p:=gj p x.2.2) h1 (List.sublist_append_left _ _);have hg:(EG p x.2.2).1=gj p x.2.2:=by unfold EG Ah;rw[h0,h1];rfl
  have ea:gj (gj p x.2.2) (bu l)=gj p (x.2.2++bu l):=by simp[gj]
  rw[pL,hg,Ng l _ (by rw[ea];exact h),ea,e]
theorem afB (h:Fk t)(hr:cW r=true)(hn:r.2.1=t.1.2.1):Fk (r,t.2):=
 ⟨hr,h.next,λx hx=>by show(1<=x.2.1/\x.2.1<=r.2.1)/\_;rw[hn];exact h.sent x hx,h.pool,by show dH t.2.2.1<=r.2.1;rw[hn];exact h.E9⟩
theorem Tt (h:Fk t)(n:Int):Fk (mH t n).1:=by
 unfold mH;cases hc:L7 t&&dm n 0 (t.2.2.1.length:Int);exact h;simp only[ae,bg]at hc;have hs:t.2.2.1.take n.toNat++t.2.2.1.drop n.toNat=t.2.2.1:=cl _ _;have hb:bu t.2.2.1=bu (t.2.2.1.take n.toNat)++bu (t.2.2.1.drop n.toNat):=by rw[<-H5,hs]
 have hp:dx (gj t.2.1 (bu (t.2.2.1.take n.toNat)))=true:=CL (p:=gj t.2.1 (bu t.2.2.1)) h.pool (by show(t.2.1.2.2.2++_).Sublist (t.2.1.2.2.2++_);rw[hb];exact(List.sublist_append_left _ _).append_left _);have hg:=Ng _ _ hp;refine⟨h.ring,h.next,λx hx=>h.sent x (List.mem_of_mem_drop hx),?_,?_⟩;show dx (gj (pL t.2.1 (t.2.2.1.take n.toNat)) (bu (t.2.2.1.drop n.toNat)))=true;rw[hg,show gj (gj t.2.1 (bu (t.2.2.1.take n.toNat))) (bu (t.2.2.1.drop n.toNat))=gj t.2.1 (bu t.2.2.1) by rw[hb];simp[gj]];exact h.pool;show dH (t.2.2.1.drop n.toNat)<=t.1.2.1;have h1:dH t.2.2.1=dH (t.2.2.1.take n.toNat)+dH (t.2.2.1.drop n.toNat):=by rw[<-MU,hs]
 have h2:0<=dH (t.2.2.1.take n.toNat):=xj t.1.2.1 _ (by rw[aG];exact λx hx=>Gw.2 (h.sent x (List.mem_of_mem_take hx)));have:=h.E9;omega
theorem JR (l:aw aA)(m:bM)(d:Int):∀(n:Nat)(acc:aw Db)(r:lN),cW r=true->cW (tp l m d n acc r).2.1=true/\(tp l m d n acc r).2.1.2.1=r.2.1
 |0,acc,r,h=>⟨h,rfl⟩
 |n+1,acc,r,h=>by have k:=kL h;have ht:=N0 h l m d;rw[tp];cases !(bm l m d r).2.2|| !(cQ (bm l m d r).1).2 with|true=>exact⟨CO ⟨k.1,k.2.1⟩ k.2.2.1 ⟨k.2.2.2.2.2.1,k.2.2.2.2.2.2⟩ ⟨k.2.2.2.2.2.1,k.2.2.2.2.2.2⟩ (by rw[Int.sub_self,Int.zero_emod];omega),rfl⟩|false=>cases UI (cQ (bm l m d r).1).1 with|true=>exact ht|false=>have:=JR l m d n (acc++[(cQ (bm l m d r).1).1]) _ ht.1;exact⟨this.1,this.2.trans ht.2⟩
theorem T7 (h:cW r=true)(l:aw aA)(m:bM)(d:Int):cW (de l m d r).2.1=true/\(de l m d r).2.1.2.1=r.2.1:=by unfold de;cases !cW r||(bE r==0)with|true=>exact⟨h,rfl⟩|false=>exact JR l m d _ _ _ h
theorem SA (h:cW r=true)(l:aw aA)(m:bM)(d:Int):cW (iG l m d r).1=true/\(iG l m d r).1.2.1=r.2.1:=by
 have hc:=T7 h l m d;unfold iG;cases !cW r||(bE r==0);case true=>exact⟨h,rfl⟩
 cases !(de l m d r).2.2|| !(fD (de l m d r).1).2.2.2;case true=>exact hc
 cases !(mh l m d (fD (de l m d r).1).1).2||(!(xe (mh l m d (fD (de l m d r).1).1).1).2||((jI (xe (mh l m d (fD (de l m d r).1).1).1).1).2 !=0))with|true=>exact hc|false=>exact hc
theorem C4 (l:aw aA)(m:bM)(d:Int):∀(n:Nat)(fr:bM)(dn bd:Nat)(r:lN),cW r=true->cW (qb l m d n fr dn bd r).1=true/\(qb l m d n fr dn bd r).1.2.1=r.2.1
 |0,fr,dn,bd,r,h=>⟨h,rfl⟩
 |n+1,fr,dn,bd,r,h=>by
  have k:=SA h l m d;rw[qb];cases (iG l m d r).2.2==0;case true=>exact⟨h,rfl⟩
  cases (iG l m d r).2.2==1 with|true=>have:=C4 l m d n (fr++(iG l m d r).2.1) (dn+1) bd _ k.1;exact⟨this.1,this.2.trans k.2⟩|false=>have:=C4 l m d n (fr++(iG l m d r).2.1) dn (bd+1) _ k.1;exact⟨this.1,this.2.trans k.2⟩
theorem Gn (l:aw aA)(d:Int):∀(q:bM)(m:bM)(r:lN){x},qD l d q m r=some x->(cW r=true->cW x.2=true/\x.2.2.1=r.2.1)/\(cE m=true->cE x.1=true)
 |[],m,r,x,h=>by cases h;exact⟨λh=>⟨h,rfl⟩,λh=>h⟩
 |s::q,m,r,x,h=>by rw[qD]at h;cases hq:(cM l m d r s).2.2 with|false=>rw[hq]at h;cases h|true=>rw[hq]at h;have k:=Gn l d q _ _ h;refine⟨λhr=>?_,λhm=>k.2 (Is hm ..)⟩;have hp:=SW hr l m d s;have:=k.1 hp.1;exact⟨this.1,this.2.trans hp.2⟩
theorem NF (l:aw aA)(d:Int)(p:cR)(z:Nat):∀(q:cw)(s:Bytes)(m:bM)(a:aw gv){x},wh l d p z q s m a=some x->cE m=true->cE x.2=true
 |[],s,m,a,x,h,hm=>by cases h;exact hm
 |b::q,s,m,a,x,h,hm=>by rw[wh]at h;cases hq:(hY l m d (nV p b) (s.take z) false).2 with|false=>rw[hq]at h;cases h|true=>rw[hq]at h;exact NF l d p z q _ _ _ h (CH hm ..)
theorem ZZ (h:dx p=true){l:cw}(hl:l.Perm p.2.2.2):dx (p.1,p.2.1,p.2.2.1,l)=true:=by have k:=AA.1 h;exact AA.2 ⟨k.1,k.2.1,k.2.2.1,λx hx=>k.2.2.2.1 x (hl.mem_iff.1 hx),hl.nodup_iff.2 k.2.2.2.2⟩
theorem aak (h:Fk t)(hm:cE m=true)(l:aw aA)(d c:Int){n:Nat}(hf:Ia t n=true)(x:aw gv×bM)(hx:cE x.2=true):cE (Lx l m d t c n x).1=true/\Fk (Lx l m d t c n x).2.1:=by
 unfold Lx uc;cases hp:qD l d ((pK x.1 c t.2.2.2).map xk) x.2 t.1 with
 |none=>exact⟨hm,h⟩
 |some y=>
  have k:=Gn l d _ _ _ hp;have kr:=k.1 h.ring;refine⟨k.2 hx,?_⟩;unfold Ia at hf;simp only[ae,aK,cP]at hf;have ht:jZ t.2.1 (n:Int)=((t.2.1.1,t.2.1.2.1,t.2.1.2.2.1,t.2.1.2.2.2.drop n),t.2.1.2.2.2.take n,true):=by have h1:=hf.1;unfold jZ at h1⊢;cases hc:dx t.2.1&&dm (n:Int) 0 (t.2.1.2.2.2.length:Int)with|false=>rw[hc]at h1;cases h1|true=>simp only[ah,az]
  have h0:0<=dH t.2.2.1:=xj t.1.2.1 _ (by rw[aG];exact λx hx=>Gw.2 (h.sent x hx));show Fk (y.2,(jZ t.2.1 (n:Int)).1,t.2.2.1++[(t.2.2.2,(n:Int)+1,(jZ t.2.1 (n:Int)).2.1)],tmod (t.2.2.2+1) 65536);rw[ht];have hn:=h.next
  refine⟨kr.1,?_,?_,?_,?_⟩;have:=HY (x:=t.2.2.2) (n:=65536);show 0<=tmod (t.2.2.2+1) 65536/\tmod (t.2.2.2+1) 65536<=65535;rw[this];split<;>omega;intro s hs;show(1<=s.2.1/\s.2.1<=y.2.2.1)/\0<=s.1/\s.1<=65535;rw[kr.2];rcases ay.1 hs with hs|hs;exact h.sent s hs;rw[cf.1 hs];show(1<=(n:Int)+1/\(n:Int)+1<=t.1.2.1)/\0<=t.2.2.2/\t.2.2.2<=65535;omega;refine ZZ (p:=gj t.2.1 (bu t.2.2.1)) h.pool ?_;show(t.2.1.2.2.2.drop n++bu (t.2.2.1++[_])).Perm (t.2.1.2.2.2++bu t.2.2.1);rw[H5,show bu [(t.2.2.2,(n:Int)+1,t.2.1.2.2.2.take n)]=t.2.1.2.2.2.take n by simp[bu]];refine(List.perm_append_comm_assoc _ _ _).trans ?_;refine(List.perm_append_comm).trans ?_;exact((List.perm_append_comm.trans (by rw[cl])).append_right _);show dH (t.2.2.1++[_])<=y.2.2.1;rw[MU,kr.2,show dH [(t.2.2.2,(n:Int)+1,t.2.1.2.2.2.take n)]=(n:Int)+1 by simp[dH]];omega
theorem aaj (h:Fk t)(hm:cE m=true)(l:aw aA)(d:Int)(p:aN)(c z:Int):cE (wU l m d t p c z).1=true/\Fk (wU l m d t p c z).2.1:=by unfold wU;cases L7 t&&(dw p&&(dm z 1 t.2.1.2.1&&dm c 1 128));exact⟨hm,h⟩;cases hf:Ia t (yj p z.toNat);exact⟨hm,h⟩;simp only[ah];cases hw:wh l d t.2.1 z.toNat (jZ t.2.1 (yj p z.toNat:Int)).2.1 (jU p).1 m []with|none=>exact⟨hm,h⟩|some x=>exact aak h hm l d c hf x (NF l d _ _ _ _ _ _ hw hm)
theorem Dg (v:Vector):Cf v=true↔1<=v.2.2.1/\(v.1<=v.2.2.1\/v.2.1<=v.2.2.2.1):=by unfold Cf;by_cases h1:v.2.2.1>=1;rw[ar h1,ah];by_cases h2:v.2.2.1>=v.1;rw[ar h2];simp;omega;rw[aq h2,af,aB];omega;rw[aq h1];simp;omega
theorem aic (v:Vector):eD v=(dm v.1 1 64&&(dm v.2.1 0 64&&(dm v.2.2.1 0 1000000&&(dm v.2.2.2.1 0 1000000&&((decide (v.2.2.1>0)||(v.2.2.2.1==0))&&(v.2.2.2.2.2==(Cf v&& !v.2.2.2.2.1))))))):=by have h:=E0 v;unfold lV at h;simp only[eu,afo,ab]at h;generalize eD v=w at h⊢;revert h;cases dm v.1 1 64;(intro h;cases h;rfl);cases dm v.2.1 0 64;(intro h;cases h;rfl);cases dm v.2.2.1 0 1000000;(intro h;cases h;rfl);cases dm v.2.2.2.1 0 1000000;(intro h;cases h;rfl);cases decide (v.2.2.1>0)<;>cases (v.2.2.2.1==0)<;>cases Cf v<;>(intro h;cases h;rfl)
theorem we (v:Vector):eD v=true↔(1<=v.1/\v.1<=64)/\(0<=v.2.1/\v.2.1<=64)/\(0<=v.2.2.1/\v.2.2.1<=1000000)/\(0<=v.2.2.2.1/\v.2.2.2.1<=1000000)/\(v.2.2.1>0\/v.2.2.2.1=0)/\v.2.2.2.2.2=(Cf v&& !v.2.2.2.2.1):=by rw[aic];simp only[ae,bg,cz,aB,aQ]
theorem Ft (h1:1<=v.1/\v.1<=64)(h2:0<=v.2.1/\v.2.1<=64)(h3:0<=v.2.2.1/\v.2.2.1<=1000000)(h4:0<=v.2.2.2.1/\v.2.2.2.1<=1000000)(h5:v.2.2.1>0\/v.2.2.2.1=0)(hr:v.2.2.2.2.2=true->Cf v=true/\v.2.2.2.2.1=false):eD (B5 v)=true:=by unfold B5;cases hd:Cf v&& !v.2.2.2.2.1 with|true=>exact(we _).2 ⟨h1,h2,h3,h4,h5,by show true=(Cf v&& !v.2.2.2.2.1);rw[hd]⟩|false=>refine(we _).2 ⟨h1,h2,h3,h4,h5,?_⟩;rw[af,hd];cases hv:v.2.2.2.2.2 with|false=>rfl|true=>have:=hr hv;rw[this.1,this.2]at hd;cases hd
theorem Bq (h:eD v=true)(hr:v.2.2.2.2.2=true):Cf v=true/\v.2.2.2.2.1=false:=by have:=((we v).1 h).2.2.2.2.2;rw[hr]at this;cases hd:Cf v with|false=>rw[hd]at this;cases this|true=>rw[hd]at this;cases hm:v.2.2.2.2.1 with|true=>rw[hm]at this;cases this|false=>exact⟨rfl,rfl⟩
theorem ad7 (h:0<=n/\n<=1000000):n<=upM n/\0<upM n/\upM n<=1000000:=by unfold upM;rw[ak];split<;>omega
theorem aid (h:eD v=true):eD (evV v)=true:=by have k:=(we v).1 h;have u:=ad7 k.2.2.1;unfold evV;rw[h,ah];refine Ft (v:=(v.1,v.2.1,upM v.2.2.1,v.2.2.2)) k.1 k.2.1 ⟨by show 0<=upM v.2.2.1;omega,u.2.2⟩ k.2.2.2.1 (Or.inl u.2.1) λhr=>?_;have d:=Bq h hr;have d1:=(Dg v).1 d.1;exact⟨(Dg _).2 ⟨by show 1<=upM v.2.2.1;omega,by show v.1<=upM v.2.2.1\/v.2.1<=v.2.2.2.1;omega⟩,d.2⟩
theorem aeb (h:eD v=true):eD (Tr v)=true:=by have k:=(we v).1 h;have u:=ad7 k.2.2.2.1;unfold Tr;rw[h,ah];by_cases h0:v.2.2.1>0;rw[ar h0,ah];refine Ft (v:=(v.1,v.2.1,v.2.2.1,upM v.2.2.2.1,v.2.2.2.2)) k.1 k.2.1 k.2.2.1 ⟨by show 0<=upM v.2.2.2.1;omega,u.2.2⟩ (Or.inl h0) λhr=>?_;have d:=Bq h hr;have d1:=(Dg v).1 d.1;exact⟨(Dg _).2 ⟨d1.1,by show v.1<=v.2.2.1\/v.2.1<=upM v.2.2.2.1;omega⟩,d.2⟩;rw[aq h0,af];exact Ft k.1 k.2.1 k.2.2.1 k.2.2.2.1 k.2.2.2.2.1 λhr=>Bq h hr
theorem aea (h:eD v=true):eD (BT v).1=true:=by have k:=(we v).1 h;unfold BT;cases eD v&&v.2.2.2.2.2 with|false=>exact h|true=>exact(we _).2 ⟨k.1,k.2.1,⟨dL _,by show(0:Int)<=1000000;omega⟩,⟨dL _,by show(0:Int)<=1000000;omega⟩,Or.inr rfl,by show false=(_&& !true);simp⟩
theorem WB (h:eD v=true):eD (GO v)=true:=by have k:=(we v).1 h;unfold GO;rw[h,ah];refine Ft (v:=(v.1,v.2.1,v.2.2.1,v.2.2.2.1,false,v.2.2.2.2.2)) k.1 k.2.1 k.2.2.1 k.2.2.2.1 k.2.2.2.2.1 λhr=>?_;exact⟨(Dg _).2 ((Dg v).1 (Bq h hr).1),rfl⟩
theorem aaI (h:eD v=true):eD (v.1,v.2.1,0,0,false,false)=true:=by have k:=(we v).1 h;exact(we _).2 ⟨k.1,k.2.1,⟨dL _,by show(0:Int)<=1000000;omega⟩,⟨dL _,by show(0:Int)<=1000000;omega⟩,Or.inr rfl,by simp[Cf]⟩
structure yS (n:Int) (r:bR):Prop where
 ring:cW r.1=true
 dev:fI r.2.1=true
 drv:fI r.2.2.1=true
 base:r.2.1.1=r.2.2.1.1
 size:r.2.1.2.1=r.2.2.1.2.1
 drop:0<=r.2.2.2.2.2/\r.2.2.2.2.2<=n
 held:r.2.2.2.2.1=true->dw r.2.2.2.1.1=true/\(0<=r.2.2.2.1.2.1/\r.2.2.2.1.2.1<=320)/\1<=r.2.2.2.1.2.2/\r.2.2.2.1.2.2<=320
 free:r.2.2.2.2.1=false->r.2.2.2.1=aaD
theorem ado (r:bR):Fg r=true↔yS 1000000000000 r:=by constructor;intro h;unfold Fg at h;rw[ae]at h;simp only[ae,aQ,bg]at h;obtain⟨⟨h1,h2,h3,h4,h5,h6⟩,h7⟩:=h;refine⟨h1,h2,h3,h4,h5,h6,λhh=>?_,λhh=>?_⟩;rw[hh,ah]at h7;simp only[ae,bg]at h7;exact⟨h7.1,h7.2.1,h7.2.2⟩;rw[hh,af]at h7;exact(adD _).1 h7;intro h;unfold Fg;rw[ae];simp only[ae,aQ,bg];refine⟨⟨h.ring,h.dev,h.drv,h.base,h.size,h.drop⟩,?_⟩;cases hh:r.2.2.2.2.1 with|true=>have:=h.held hh;simp only[ah,ae,bg];exact⟨this.1,this.2.1,this.2.2⟩|false=>rw[af];exact(adD _).2 (h.free hh)
theorem yS.mono {m:Int}{r:bR}(h:yS n r)(hn:n<=m:=by omega):yS m r:=⟨h.ring,h.dev,h.drv,h.base,h.size,⟨h.drop.1,by have:=h.drop.2;omega⟩,h.held,h.free⟩
theorem yS.rx {r:bR}(h:yS n r)(hn:n<=1000000000000):Fg r=true:=(ado r).2 (h.mono hn)
theorem Zw (h:cE m=true)(l:aw aA)(d:Int)(q:L2)(x:Er):cE (zA l m d q x).1=true:=by
 unfold zA;cases !fI q|| !yk x;case true=>exact h
 cases (hY l m d (qX q) (OX x (yC q)) true).2 with|false=>exact h|true=>exact CH h ..
theorem Zx (h:cE m=true)(l:aw aA)(d:Int)(q:bR)(k s:Bytes):cE (hG l m d q k s).1=true:=by
 unfold hG;cases !(cQ s).2||(((cQ s).1.1 !=3)||decide ((cQ s).1.2.2.1<((dy q.2.2.2.1.1).1.length:Int)));case true=>exact h
 cases (hY l m d (cQ s).1.2.2.2.1 (dy q.2.2.2.1.1).1 true).2 with|false=>exact h|true=>exact Zw (CH h ..) ..
theorem afx {k s:Bytes}(hm:cE m=true)(hq:fI q.2.1=true):fI (hG l m d q k s).2.1=true/\(hG l m d q k s).2.1.1=q.2.1.1/\(hG l m d q k s).2.1.2.1=q.2.1.2.1:=(N6 (n:=128) (by omega) (NT (by omega) (qC.1 hm)) hq).2.2
theorem EE (hn:n<=900000000000)(h:yS n q)(hm:cE m=true)(l:aw aA)(d:Int)(k:Bytes):cE (iE l m d q k).1=true/\yS (n+320) (iE l m d q k).2:=by
 unfold iE;cases hc: !Fg q||(!q.2.2.2.2.1||((k.length:Int) !=16));case true=>exact⟨hm,h.mono⟩
 simp only[cg,dz]at hc;have hh:=h.held hc.2.1;have hd:=h.drop;have hr:=N0 h.ring l m d;have hs:=afx (l:=l) (d:=d) (k:=k) (s:=(bm l m d q.1).1) hm h.dev;simp only[af];cases (bm l m d q.1).2.2&&(hG l m d q k (bm l m d q.1).1).2.2 with|true=>exact⟨Zx hm ..,hr.1,hs.1,h.drv,hs.2.1.trans h.base,hs.2.2.trans h.size,⟨hd.1,by show q.2.2.2.2.2<=n+320;omega⟩,λhf=>(by cases hf),λ_=>rfl⟩|false=>refine⟨hm,hr.1,h.dev,h.drv,h.base,h.size,?_,λhf=>(by cases hf),λ_=>rfl⟩;show 0<=au (q.2.2.2.2.2+q.2.2.2.1.2.2)/\au (q.2.2.2.2.2+q.2.2.2.1.2.2)<=n+320;rw[ak];omega
theorem aeZ {s:qS}{p:aN}(h:G2 s p=true):dw (D8 s p).1=true/\(0<=(D8 s p).2.1/\(D8 s p).2.1<=320)/\1<=(D8 s p).2.2/\(D8 s p).2.2<=320:=by
 have hl:=Ov h;unfold D8;rw[h,ah];simp only[G2,ab2,XF,ae,aB,bg,aQ]at h;obtain⟨⟨hs,hp,ajg,h6,h16,hf⟩,⟨hz,hc,hn,Ds,aou⟩,_⟩:=h;have aor:s.2.2+1<=320:=by
  have:s.2.2<=s.2.1*s.2.2:=by have:=Int.mul_le_mul_of_nonneg_right hz (show 0<=s.2.2 by omega);omega
  omega
 have ajp:s.2.1<=320:=by
  have:s.2.1<=s.2.1*s.2.2:=by have:=Int.mul_le_mul_of_nonneg_left hc.1 (show 0<=s.2.1 by omega);omega
  omega
 refine⟨?_,⟨by show 0<=s.2.1;omega,ajp⟩,?_⟩;have hh:oV s.1=true:=by unfold dw at hs;simp only[ae]at hs;exact hs.1
 have hk:s.1.2.2.2.2.2.2.2.2.1=6:=by
  have e:s.1.2.2.2.2.2.2.2.2.1=p.2.2.2.2.2.2.2.2.1:=by have h2:=ajg;unfold SE at h2;simp only[ae,aQ]at h2;exact h2.2.2.2.2.2.2.2.1
  rw[e];exact h6
 have hsg:=yu hh;have hfl:dm p.2.2.2.2.2.2.2.2.2.2.2.2.2.1 0 31=true:=Gk hp (by rw[h6];rfl);have hg:=Lu hsg hk (XC hsg hk).2.2.1 (bg.1 hfl) (x:=s.1.2.2.2.2.2.2.2.2.2.2.2.2.2.2.2++p.2.2.2.2.2.2.2.2.2.2.2.2.2.2.2) (by rw[ai];omega);unfold dw;rw[ae];refine⟨Aj hh (Ko hh) hg,?_⟩;show(_||(s.1.2.2.2.2.2.2.2.2.1==6)&&AO p.2.2.2.2.2.2.2.2.2.2.2.2.2.1)=true;rw[hk,hf];simp;show 1<=au (s.2.2+1)/\au (s.2.2+1)<=320;rw[ak];omega
theorem aeE (h:yS n q){s:qS}(hs:dw s.1=true)(h1:0<=s.2.1/\s.2.1<=320)(h2:1<=s.2.2/\s.2.2<=320):yS n (Kq q s):=⟨h.ring,h.dev,h.drv,h.base,h.size,h.drop,λ_=>⟨hs,h1,h2⟩,λhf=>(by cases hf)⟩
theorem aan {p:aN}(h:fV p=true):dw (lX p).1=true/\(0<=(lX p).2.1/\(lX p).2.1<=320)/\1<=(lX p).2.2/\(lX p).2.2<=320:=by
 have hl:=EV h;have hs:dw p=true:=by unfold fV at h;simp only[ae]at h;exact h.1
 refine⟨hs,?_,by show(1:Int)<=1/\(1:Int)<=320;omega⟩;show 0<=(p.2.2.2.2.2.2.2.2.2.2.2.2.2.2.2.length:Int)/\(p.2.2.2.2.2.2.2.2.2.2.2.2.2.2.2.length:Int)<=320;omega
theorem QI (hn:n<=800000000000)(h:yS n q)(hm:cE m=true)(l:aw aA)(d:Int)(k:Bytes)(p:aN)(c:Bool):cE (ld l m d q k p c).1=true/\yS (n+640) (ld l m d q k p c).2:=by
 unfold ld;cases hc: !Fg q||(!fV p||((k.length:Int) !=16));case true=>exact⟨hm,h.mono⟩
 simp only[cg,dz]at hc;have hs:=aan hc.2.1;have hf:=EE (by omega) h hm l d k;have AW:=aeE hf.2 hs.1 hs.2.1 hs.2.2;simp only[af];cases hj:c&&(q.2.2.2.2.1&&G2 q.2.2.2.1 p)with|true=>simp only[ae]at hj;have j:=aeZ hj.2.2;exact⟨hm,h.ring,h.dev,h.drv,h.base,h.size,⟨h.drop.1,by show q.2.2.2.2.2<=n+640;have:=h.drop.2;omega⟩,λ_=>j,λhf=>(by have hf:q.2.2.2.2.1=false:=hf;rw[hj.2.1]at hf;cases hf)⟩|false=>simp only[af];cases c with|true=>exact⟨hf.1,AW.mono⟩|false=>have:=EE (by omega) AW hf.1 l d k;exact⟨this.1,this.2.mono⟩
theorem ahV {q:L2}(h:fI q=true):fI (qV l m d q).2.1=true/\(qV l m d q).2.1.1=q.1/\(qV l m d q).2.1.2.1=q.2.1:=by unfold qV;cases PK l m d q with|false=>exact⟨h,rfl,rfl⟩|true=>have k:=ue h;refine⟨?_,rfl,rfl⟩;have e:=Qp (a:=q.2.2+1) (b:=2*q.2.1);simp only[ah,agb,fI,ae,bg]at h⊢;refine⟨h.1,h.2.1,?_⟩;rw[ye h.2.1];omega
theorem VZ {s:aw Stream×bR×cR}(h:yS n s.2.1)(hp:dx s.2.2=true)(l:aw aA)(m:bM)(d:Int):yS n (CK l m d s).2.1/\dx (CK l m d s).2.2=true:=by have k:=ahV (l:=l) (m:=m) (d:=d) h.drv;exact⟨⟨h.ring,h.dev,k.1,h.base.trans k.2.1.symm,h.size.trans k.2.2.symm,h.drop,h.held,h.free⟩,ZY hp _⟩
theorem Lg (l:aw aA)(m:bM)(d:Int):∀(k:Nat)(s:aw Stream×bR×cR),yS n s.2.1->dx s.2.2=true->yS n (jF l m d k s).2.2.1/\dx (jF l m d k s).2.2.2=true
 |0,s,h,hp=>⟨h,hp⟩
 |k+1,s,h,hp=>by rw[jF];cases (qV l m d s.2.1.2.2.1).2.2 with|false=>exact⟨h,hp⟩|true=>have e:=VZ h hp l m d;exact Lg l m d k _ e.1 e.2
theorem J9 (l:aw aA)(d:Int)(p:cR):∀(q:cw)(m:bM)(r:lN),cE m=true->cW r=true->cE (lY l d p q m r).2.1=true/\cW (lY l d p q m r).2.2=true
 |[],m,r,hm,hr=>⟨hm,hr⟩
 |b::q,m,r,hm,hr=>by rw[lY];cases (cM l m d r (eP p b)).2.2 with|false=>exact⟨hm,hr⟩|true=>exact J9 l d p q _ _ (Is hm ..) (SW hr ..).1
theorem M8 (hm:cE m=true)(hr:cW r=true)(hp:dx p=true)(l:aw aA)(d:Int):cE (tu l m d r p).1=true/\cW (tu l m d r p).2.1=true/\dx (tu l m d r p).2.2.1=true:=by unfold tu;rw[hr,hp];have k:=J9 l d p p.2.2.2 m r hm hr;exact⟨k.1,k.2,CL hp (List.drop_sublist _ _)⟩
theorem NY {rx:bR}(h:yS n rx)(hm:cE m=true){pl:cR}(hp:dx pl=true)(l:aw aA)(d:Int)(st:aw Stream)(c:Int):cE (jq l m d rx pl st c).1=true/\yS n (jq l m d rx pl st c).2.1/\dx (jq l m d rx pl st c).2.2.1=true:=by
 unfold jq;cases !Fg rx||(!dx pl|| !dm c 0 1000);case true=>exact⟨hm,h,hp⟩
 have k:=Lg l m d c.toNat (st,rx,pl) h hp;have f:=M8 hm k.1.ring k.2 l d;exact⟨f.1,⟨f.2.1,k.1.dev,k.1.drv,k.1.base,k.1.size,k.1.drop,k.1.held,k.1.free⟩,f.2.2⟩
structure Good (n:Int) (h:Host):Prop where
 mem:cE h.1=true
 maps:dF h.2.1=true
 tx:Fk h.2.2.1
 Jn:qf h.2.2.2.2.2.2.2.1=true
 lens:qU h=true
 Qf:fu h.2.2.2.2.2.2.2.2.1 (h.2.2.2.1.length:Int)=true
 rx:∀r∈h.2.2.2.1,yS n r
 pool:∀p∈h.2.2.2.2.1,dx p=true
 vec:∀v∈h.2.2.2.2.2.1,eD v=true
 E9:∀x∈ig h,0<=x/\x<=n
theorem Good.mono {m:Int}(g:Good n h)(hn:n<=m:=by omega):Good m h:=⟨g.mem,g.maps,g.tx,g.Jn,g.lens,g.Qf,λr hr=>(g.rx r hr).mono hn,g.pool,g.vec,λx hx=>⟨(g.E9 x hx).1,by have:=(g.E9 x hx).2;omega⟩⟩
theorem ab8 (h:Host):fy h=true↔Good 1000000000000 h:=by unfold fy SX;simp only[ae,aG,bg,aib,ado];constructor;rintro⟨h1,h2,h3,h4,h5,h6,⟨h7,h8,h9⟩,h10⟩;exact⟨h1,h2,h3,h4,h5,h6,h7,h8,h9,h10⟩;intro g;exact⟨g.mem,g.maps,g.tx,g.Jn,g.lens,g.Qf,⟨g.rx,g.pool,g.vec⟩,g.E9⟩
theorem Good.ok (g:Good n h)(hn:n<=1000000000000):fy h=true:=(ab8 h).2 (g.mono hn)
theorem rQ {P:α->Prop}{l:aw α}{v:α}(h:∀x∈l,P x)(hv:P v):∀x∈l.set i v,P x:=by intro x hx;rcases List.mem_or_eq_of_mem_set hx with g|g;exact h x g;rw[g];exact hv
theorem aeB (g:Good n h)(k:Nat):Good n (evS k h):=by unfold evS;cases hv:h.2.2.2.2.2.1[k]? with|none=>exact g|some v=>exact⟨g.mem,g.maps,g.tx,g.Jn,by have:=g.lens;unfold qU at this⊢;rw[aC];exact this,g.Qf,g.rx,g.pool,rQ g.vec (aid (g.vec v (bn hv))),g.E9⟩
theorem Rm (g:Good n h)(k:Nat):∀i,Good n (Ye k i h)
 |0=>g
 |i+1=>aeB (Rm g k i) k
theorem Ig (g:Good n h)(k:Nat)(b:Int){f:bM×bR}(h1:cE f.1=true)(h2:yS n f.2):Good n (HZ h k b f):=by refine Rm (h:=Gq h k f) ⟨h1,g.maps,g.tx,g.Jn,?_,?_,rQ g.rx h2,g.pool,g.vec,g.E9⟩ _ _;have:=g.lens;unfold qU Gq at*;simp only[aC];exact this;show fu _ ((h.2.2.2.1.set k f.2).length:Int)=true;rw[aC];exact g.Qf
theorem Rn (hn:n<=800000000000)(g:Good n h)(k:Nat):Good (n+320) (oO k h):=by unfold oO;cases hx:h.2.2.2.1[k]? with|none=>exact g.mono|some x=>have f:=EE (by omega) (g.rx x (bn hx)) g.mem h.2.1 0 h.2.2.2.2.2.2.2.2.1.2.2.1;exact Ig (g.mono) k _ f.1 f.2
theorem UU (hn:n<=700000000000)(g:Good n h):Good (n+640) (AP h):=by
 unfold AP;have hl:=qB g.lens;cases fy h with
 |false=>exact g.mono
 |true=>
  have key:∀k:Nat,k<=2->Good (n+320*(k:Int)) (kV oO k h):=by intro k;induction k with|zero=>intro _;exact g.mono|succ k ih=>intro hk;exact(Rn (by omega) (ih (by omega)) k).mono
  exact(key _ hl.1).mono (by have:=hl.1;omega)
theorem Yq (g:Good n h):Good n (C2 h):=by
 unfold C2;cases fy h with
 |false=>exact g
 |true=>
  have key:∀k,Good n (kV wG k h):=by intro k;induction k with|zero=>exact g|succ k ih=>show Good n (wG k (kV wG k h));generalize kV wG k h=s at ih⊢;unfold wG;cases hv:s.2.2.2.2.2.1[k]? with|none=>exact ih|some v=>exact⟨ih.mem,ih.maps,ih.tx,ih.Jn,by have:=ih.lens;unfold qU at this⊢;rw[aC];exact this,ih.Qf,ih.rx,ih.pool,rQ ih.vec (aeb (ih.vec v (bn hv))),ih.E9⟩
  exact key _
theorem Yp (g:Good n h)(p:aN)(c z:Int):Good n (Eg h p c z).1:=by unfold Eg;cases fy h with|false=>exact g|true=>have k:=aaj g.tx g.mem h.2.1 0 p c z;exact⟨k.1,g.maps,k.2,g.Jn,g.lens,g.Qf,g.rx,g.pool,g.vec,g.E9⟩
theorem Mf (g:Good n h):Good n (qP h):=by unfold qP;cases fy h with|false=>exact g|true=>have r:=C4 h.2.1 h.1 0 17 [] 0 0 h.2.2.1.1 g.tx.ring;exact⟨g.mem,g.maps,Tt (afB g.tx r.1 r.2) _,g.Jn,g.lens,g.Qf,g.rx,g.pool,g.vec,g.E9⟩
theorem B7 (h:0<=x/\x<=n)(hn:n<=800000000000:=by omega):0<=au (x+1)/\au (x+1)<=n+1:=by rw[ak];omega
theorem AR (hn:n<=800000000000)(g:Good n h){a c:Int}(ha:0<=a/\a<=n+1)(hb:0<=b/\b<=n+1)(hc:0<=c/\c<=n+1)(hd:0<=d/\d<=n+1):Good (n+1) (zK h a b c d):=by have k:=g.mono (show n<=n+1 by omega);refine⟨k.mem,k.maps,k.tx,k.Jn,k.lens,k.Qf,k.rx,k.pool,k.vec,λx hx=>?_⟩;have h1:=B7 (g.E9 _ (List.mem_cons_self ..)) hn;simp only[ig,zK,bO,List.not_mem_nil,or_false]at hx;rcases hx with rfl|rfl|rfl|rfl|rfl;exact h1;exact ha;exact hb;exact hc;exact hd
theorem O7 (hn:n<=700000000000)(g:Good n h)(x:Bytes):Good (n+641) (pX h x):=by
 have c1:=g.E9 h.2.2.2.2.2.2.2.2.2.2.2.2.2.2.2.1 (by simp[ig]);have c2:=g.E9 h.2.2.2.2.2.2.2.2.2.2.2.2.2.2.2.2.1 (by simp[ig]);have c3:=g.E9 h.2.2.2.2.2.2.2.2.2.2.2.2.2.2.2.2.2.1 (by simp[ig]);have c4:=g.E9 h.2.2.2.2.2.2.2.2.2.2.2.2.2.2.2.2.2.2 (by simp[ig]);have u:∀{y:Int},0<=y/\y<=n->0<=y/\y<=n+1:=λhy=>⟨hy.1,by omega⟩
 unfold pX;cases fy h;exact g.mono;cases (rG x).2 !=0;case true=>exact(AR (by omega) g (B7 c1) (u c2) (u c3) (u c4)).mono
 cases !yg h.2.2.2.2.2.2.2.1 (rG x).1;case true=>exact(AR (by omega) g (u c1) (B7 c2) (u c3) (u c4)).mono
 cases uD h.2.2.2.2.2.2.2.2.1 (h.2.2.2.1.length:Int) (rG x).1== -1;case true=>exact(AR (by omega) g (u c1) (u c2) (B7 c3) (u c4)).mono
 simp only[aj,af];cases hq:h.2.2.2.1[(uD h.2.2.2.2.2.2.2.2.1 (h.2.2.2.1.length:Int) (rG x).1).toNat]? with|none=>exact g.mono|some q=>have a:=QI (by omega) (g.rx q (bn hq)) g.mem h.2.1 0 h.2.2.2.2.2.2.2.2.1.2.2.1 (rG x).1 h.2.2.2.2.2.2.2.2.2.2.1;exact Ig ((AR (by omega) g (u c1) (u c2) (u c3) (B7 c4)).mono) _ _ a.1 (a.2.mono)
theorem Ro (g:Good n h)(i:Nat)(c:Int):Good n (yF h i c).2:=by unfold yF;rcases h1:h.2.2.2.1[i]? with _|rx;exact g;rcases h2:h.2.2.2.2.1[i]? with _|pl;exact g;have k:=NY (g.rx rx (bn h1)) g.mem (g.pool pl (bn h2)) h.2.1 0 h.2.2.2.2.2.2.2.2.2.1 c;refine⟨k.1,g.maps,g.tx,g.Jn,?_,?_,rQ g.rx k.2.1,rQ g.pool k.2.2,g.vec,g.E9⟩;have:=g.lens;unfold qU at*;simp only[aC];exact this;show fu _ ((h.2.2.2.1.set i _).length:Int)=true;rw[aC];exact g.Qf
theorem Rq (b:Int)(k:Nat){s:Int×Host}(g:Good n s.2):Good n (Bu b k s).2:=by unfold Bu;rcases h1:s.2.2.2.2.2.2.1[k]? with _|v;exact g;rcases h2:s.2.2.2.2.2.2.2.1[k]? with _|p;exact g;rcases h3:s.2.2.2.2.1[k]? with _|x;exact g;rcases h4:s.2.2.2.2.2.1[k]? with _|pl;exact g;have hv:=aea (g.vec v (bn h1));simp only;cases p||(BT v).2 with|false=>refine⟨g.mem,g.maps,g.tx,g.Jn,?_,g.Qf,g.rx,g.pool,rQ g.vec hv,g.E9⟩;have:=g.lens;unfold qU at*;simp only[af,aC];exact this|true=>have e:=NY (g.rx x (bn h3)) g.mem (g.pool pl (bn h4)) s.2.2.1 0 s.2.2.2.2.2.2.2.2.2.2.1 b;refine⟨e.1,g.maps,g.tx,g.Jn,?_,?_,rQ g.rx e.2.1,rQ g.pool e.2.2,rQ g.vec ?_,g.E9⟩;have:=g.lens;unfold qU at*;simp only[ah,aC];exact this;show fu _ ((s.2.2.2.2.1.set k _).length:Int)=true;rw[aC];exact g.Qf;cases decide ((jq s.2.2.1 s.2.1 0 x pl s.2.2.2.2.2.2.2.2.2.2.1 b).2.2.2.2<b)with|true=>exact WB hv|false=>exact hv
theorem Kl (b:Int)(g:Good n h):∀k,Good n (rb b k h).2
 |0=>g
 |k+1=>Rq b k (Kl b g k)
theorem O8 (g:Good n h)(b:Int):Good n (ug h b).1:=by unfold ug;cases fy h&&dm b 1 1000 with|false=>exact g|true=>exact Kl b g _
theorem FF (g:Good n h):∀k,Good n (ub h k)
 |0=>g
 |k+1=>Ro (FF g k) k 1000
theorem Yo (g:Good n h)(l:cw):Good n (adi h l):=⟨g.mem,g.maps,g.tx,g.Jn,g.lens,g.Qf,g.rx,g.pool,g.vec,g.E9⟩
theorem DY (g:Good n h):∀k,Good n (returned h k)
 |0=>FF g _
 |k+1=>by show Good n (PX h.2.2.1.2.2.1 k (returned h k));have:=DY g k;unfold PX;cases h.2.2.1.2.2.1[k]? with|none=>exact this|some x=>exact Yo this _
theorem SK {a:Int}(ha:0<=a/\a<=130944:=by omega)(hb:1<=b/\b<=512:=by omega)(hn:0<=n/\n<=16:=by omega):gV a b n=((a,b,n,upto n.toNat),true)/\dx (a,b,n,upto n.toNat)=true:=by have h1:dx (a,b,n,[])=true:=AA.2 ⟨ha,hb,hn,by simp,List.nodup_nil⟩;refine⟨by unfold gV;rw[h1];rfl,AA.2 ⟨ha,hb,hn,?_,?_⟩⟩;intro x hx;simp only[upto,List.mem_map,bT]at hx;obtain⟨i,hi,rfl⟩:=hx;show 0<=Int.ofNat i/\Int.ofNat i<=n-1;simp only[Int.ofNat_eq_natCast];omega;show(upto n.toNat).Nodup;unfold upto;rw[List.Nodup,List.pairwise_map];exact List.nodup_range.imp λh he=>h (Int.ofNat.inj he)
theorem ad5 (c:Int)(hc:0<=c/\c<=65535):Fk (Eo.1,Eo.2.1,Eo.2.2.1,c):=by
 have p:=SK (a:=256) (b:=128) (n:=8);refine⟨CO,hc,λx hx=>(by cases hx),?_,by show(0:Int)<=16;omega⟩;show dx (gj (gV 256 128 8).1 [])=true;rw[p.1];have e:gj (256,128,8,upto (8:Int).toNat) []=(256,128,8,upto (8:Int).toNat):=by simp[gj]
 show dx (gj (256,128,8,upto (8:Int).toNat) [])=true;rw[e];exact p.2
theorem O6 (g:Good n h):Good n (rT h):=by have k:=DY g h.2.2.1.2.2.1.length;exact⟨k.mem,k.maps,ad5 _ k.tx.next,k.Jn,k.lens,k.Qf,k.rx,k.pool,k.vec,k.E9⟩
theorem WN (h:i<=8):0<=gR i/\gR i<=16000:=by unfold gR;omega
theorem NP (hm:cE m=true)(l:aw aA)(hi:i<=8):cE (sX l m i).1=true/\cW (sX l m i).2.1=true/\dx (sX l m i).2.2.1=true:=by have hb:=WN hi;have p:=SK (a:=gR i+128) (b:=384) (n:=4);unfold sX;rw[p.1];exact M8 (CH hm ..) (CO) p.2 l 0
theorem S1 (hi:i<=8)(hr:cW r=true)(hd:0<=d/\d<=n):yS n (r,(gR i+64,4,0),(gR i+64,4,0),((0,0,0,0,0,0,0,0,0,0,0,0,0,0,0,([]:Bytes)),0,0),false,d):=by
 have hb:=WN hi;have hq:fI (gR i+64,4,0)=true:=by have hs:iO 4=true:=gI.2 (by omega);unfold fI;rw[ae,ae];exact⟨bg.2 (by omega),hs,by rw[ye hs];rfl⟩
 exact⟨hr,hq,hq,rfl,rfl,hd,λhf=>(by cases hf),λ_=>rfl⟩
theorem Rp (hn:n<=800000000000)(g:Good n h)(hi:i<=8):Good (n+320) (yH i h):=by
 have gm:=g.mono (show n<=n+320 by omega);unfold yH;rcases h1:h.2.2.2.1[i]? with _|x;exact gm;rcases h2:h.2.2.2.2.2.1[i]? with _|v;exact gm;have o:=NP g.mem h.2.1 hi;have hx:=g.rx x (bn h1);have hd:0<=DU x/\DU x<=n+320:=by have d:=hx.drop;unfold DU;cases hh:x.2.2.2.2.1 with|false=>simp only[af];omega|true=>have:=hx.held hh;rw[ah,ak];omega
 refine⟨o.1,gm.maps,gm.tx,gm.Jn,?_,?_,rQ gm.rx (S1 hi o.2.1 hd),rQ gm.pool o.2.2,rQ gm.vec (aaI (g.vec v (bn h2))),gm.E9⟩;have:=g.lens;unfold qU Eb at*;simp only[aC];exact this;show fu _ (((Eb h i (DU x)).2.2.2.1).length:Int)=true;unfold Eb;simp only[aC];exact g.Qf
theorem DX (hn:n<=700000000000)(g:Good n h):∀k:Nat,k<=8->Good (n+320*(k:Int)) (im h k)
 |0,_=>g.mono
 |k+1,hk=>(Rp (by omega) (DX hn g k (by omega)) (i:=k) (by omega)).mono
theorem UW (hn:n<=700000000000)(g:Good n h):Good (n+640) (wS h):=by have hl:=qB g.lens;unfold wS;cases fy h with|false=>exact g.mono|true=>exact(DX hn (O6 g) _ (by omega)).mono (by have:=hl.1;omega)
structure mc (a b:Host):Prop where
 maps:b.2.1=a.2.1
 mem:b.1.length=a.1.length
theorem mc.refl (a:Host):mc a a:=⟨rfl,rfl⟩
theorem mc.trans {a b c:Host}(h:mc a b)(g:mc b c):mc a c:=⟨g.maps.trans h.maps,g.mem.trans h.mem⟩
theorem mc.of {a b:Host}(h:kQ k a b):mc a b:=⟨h.maps,h.mem⟩
theorem afw (l:aw aA)(m:bM)(d:Int)(q:bR)(k s:Bytes):(hG l m d q k s).1.length=m.length:=by
 unfold hG;cases !(cQ s).2||(((cQ s).1.1 !=3)||decide ((cQ s).1.2.2.1<((dy q.2.2.2.1.1).1.length:Int)));case true=>rfl
 cases (hY l m d (cQ s).1.2.2.2.1 (dy q.2.2.2.1.1).1 true).2 with
 |false=>rfl
 |true=>
  simp only[af,aj];unfold zA;cases !fI q.2.1|| !yk _;case true=>exact jG ..
  cases (hY l (hY l m d (cQ s).1.2.2.2.1 (dy q.2.2.2.1.1).1 true).1 d (qX q.2.1) _ true).2 with|false=>exact jG ..|true=>exact(jG ..).trans (jG ..)
theorem O5 (l:aw aA)(m:bM)(d:Int)(q:bR)(k:Bytes):(iE l m d q k).1.length=m.length:=by
 unfold iE;cases !Fg q||(!q.2.2.2.2.1||((k.length:Int) !=16));case true=>rfl
 cases (bm l m d q.1).2.2&&(hG l m d q k (bm l m d q.1).1).2.2 with|true=>exact afw ..|false=>rfl
theorem aaY (l:aw aA)(m:bM)(d:Int)(q:bR)(k:Bytes)(p:aN)(c:Bool):(ld l m d q k p c).1.length=m.length:=by
 unfold ld;cases !Fg q||(!fV p||((k.length:Int) !=16));case true=>rfl
 cases c&&(q.2.2.2.2.1&&G2 q.2.2.2.1 p);case true=>rfl
 cases c with|true=>exact O5 ..|false=>exact(O5 ..).trans (O5 ..)
theorem ads (l:aw aA)(m:bM)(d:Int)(t:dD)(p:aN)(c z:Int):(wU l m d t p c z).1.length=m.length:=by unfold wU;cases L7 t&&(dw p&&(dm z 1 t.2.1.2.1&&dm c 1 128));rfl;cases Ia t (yj p z.toNat);rfl;simp only[ah];cases hw:wh l d t.2.1 z.toNat (jZ t.2.1 (yj p z.toNat:Int)).2.1 (jU p).1 m []with|none=>rfl|some x=>have hx:=(FA _ _ _ _ _ _ _ _ hw).1;simp only;unfold Lx uc;cases hp:qD l d ((pK x.1 c t.2.2.2).map xk) x.2 t.1 with|none=>rfl|some y=>exact(Iy _ _ _ _ _ hp).trans hx
theorem aay (h:Host)(p:aN)(c z:Int):mc h (Eg h p c z).1:=by unfold Eg;cases fy h with|false=>exact mc.refl h|true=>exact⟨rfl,ads ..⟩
theorem MF (h:Host):mc h (qP h):=by unfold qP;cases fy h with|false=>exact mc.refl h|true=>exact⟨rfl,rfl⟩
theorem Wq (h:Host):mc h (AP h):=by unfold AP;cases fy h with|false=>exact mc.refl h|true=>exact mc.of (vi Cm h _)
theorem aaz (h:Host):mc h (C2 h):=by unfold C2;cases fy h with|false=>exact mc.refl h|true=>exact mc.of (vi E3 h _)
theorem Qe (h:Host)(b:Int):mc h (ug h b).1:=by unfold ug;cases fy h&&dm b 1 1000 with|false=>exact mc.refl h|true=>exact mc.of (DF b h _)
theorem Qd (h:Host)(x:Bytes):mc h (pX h x):=by
 unfold pX;cases fy h;exact mc.refl h;cases (rG x).2 !=0;case true=>exact⟨rfl,rfl⟩
 cases !yg h.2.2.2.2.2.2.2.1 (rG x).1;case true=>exact⟨rfl,rfl⟩
 cases uD h.2.2.2.2.2.2.2.2.1 (h.2.2.2.1.length:Int) (rG x).1== -1;case true=>exact⟨rfl,rfl⟩
 simp only[aj,af];cases hq:h.2.2.2.1[(uD h.2.2.2.2.2.2.2.2.1 (h.2.2.2.1.length:Int) (rG x).1).toNat]? with|none=>exact mc.refl h|some q=>exact mc.trans (b:=zK h _ _ _ _) ⟨rfl,rfl⟩ (mc.of (C6 (aaY ..)))
theorem GH (h:Host):∀k,mc h (ub h k)
 |0=>mc.refl h
 |k+1=>by refine(GH h k).trans ?_;show mc (ub h k) (yF (ub h k) k 1000).2;generalize ub h k=s;unfold yF;rcases s.2.2.2.1[k]? with _|rx;exact mc.refl s;rcases s.2.2.2.2.1[k]? with _|pl;exact mc.refl s;exact⟨rfl,Xu ..⟩
theorem Ek (h:Host):∀k,mc h (returned h k)
 |0=>GH h _
 |k+1=>by refine(Ek h k).trans ?_;show mc (returned h k) (PX h.2.2.1.2.2.1 k (returned h k));unfold PX;cases h.2.2.1.2.2.1[k]? with|none=>exact mc.refl _|some x=>exact⟨rfl,rfl⟩
theorem Wr (h:Host):mc h (wS h):=by unfold wS;cases fy h with|false=>exact mc.refl h|true=>have k:=vN (rT h) h.2.2.2.1.length;have r:=Ek h h.2.2.1.2.2.1.length;exact⟨k.maps.trans r.maps,k.mem.trans r.mem⟩
def yp (h:Host)(a:Act):Host×Int:=
 bif a.1==0 then((Eg h a.2.1 a.2.2.1 a.2.2.2.1).1,ahW (Eg h a.2.1 a.2.2.1 a.2.2.2.1).2) else
 bif a.1==1 then(qP h,0) else
 bif a.1==2 then(pX h a.2.2.2.2.1,0) else
 bif a.1==3 then(AP h,0) else
 bif a.1==4 then(C2 h,0) else
 ug h a.2.2.2.2.2
theorem aep (b:Bool):Dy b=some (ahW b):=by unfold Dy ahW;cases b<;>rfl
theorem aeC (h:Host)(a:Act)(k:BG 90000000 h)(hx:a.2.2.2.2.1.length<=10^9)(h0:0<=a.1)(h5:a.1<=5):nI h a=some (true,yp h a):=by
 have z:cX 1000000000 dC h:=k.z.mono;unfold nI yp;simp only[ab,YU h _ _ _ (k.mono),PB h (k.mono),Pz h _ (k.mono) hx,Vb h (k.mono),acF h (k.sz (by omega)) z,RY h _ (k.mono),aep];cases e0:a.1==0;case true=>rfl
 cases e1:a.1==1;case true=>rfl
 cases e2:a.1==2;case true=>rfl
 cases e3:a.1==3;case true=>rfl
 cases e4:a.1==4;case true=>rfl
 have e5:(a.1==5)=true:=by simp only[cI,ne_eq]at e0 e1 e2 e3 e4;simp only[aQ];omega
 rw[e5];rfl
def xf (s:Host×Int)(a:Act):Host×Int:=
 bif a.1==6 then(wS s.1,s.2) else((yp s.1 a).1,bif a.1==0 then au (s.2+(yp s.1 a).2) else s.2)
def abX (h:Host)(l:aw Act):Host×Int:=l.foldl xf (h,0)
theorem UR (hn:n<=700000000000)(g:Good n h)(a:Act)(s:Int):Good (n+641) (xf (h,s) a).1:=by
 unfold xf;cases a.1==6 with
 |true=>exact(UW hn g).mono
 |false=>
  show Good _ (yp h a).1;unfold yp;cases a.1==0;case true=>exact(Yp g _ _ _).mono
  cases a.1==1;case true=>exact(Mf g).mono
  cases a.1==2;case true=>exact O7 hn g _
  cases a.1==3;case true=>exact(UU hn g).mono
  cases a.1==4;case true=>exact(Yq g).mono
  exact(O8 g _).mono
theorem US (h:Host)(a:Act)(s:Int):mc h (xf (h,s) a).1:=by
 unfold xf;cases a.1==6 with
 |true=>exact Wr h
 |false=>
  show mc h (yp h a).1;unfold yp;cases a.1==0;case true=>exact aay ..
  cases a.1==1;case true=>exact MF h
  cases a.1==2;case true=>exact Qd ..
  cases a.1==3;case true=>exact Wq h
  cases a.1==4;case true=>exact aaz h
  exact Qe ..
theorem abY {n:Nat}(hn:1000<=n)(a:Act)(s:Int)(k:BG n h)(f:Few h):BG (n+645000) (xf (h,s) a).1:=by
 unfold xf;cases a.1==6 with
 |true=>exact(Z8 hn k f).1
 |false=>
  show BG _ (yp h a).1;unfold yp;cases a.1==0;case true=>exact(adr hn _ _ _ k).mono
  cases a.1==1;case true=>exact(Qq (by omega) k).mono
  cases a.1==2;case true=>exact(SU hn _ k).1.mono
  cases a.1==3;case true=>exact(Yl hn k).mono
  cases a.1==4;case true=>exact(ad3 hn k).mono
  exact(S6 hn _ k).mono
structure JE (n:Nat) (h0:Host) (k:Nat) (h:Host):Prop where
 UT:Good ((n:Int)+641*(k:Int)) h
 sz:BG (n+645000*k) h
 stay:mc h0 h
theorem Ha {n:Nat}(hn:1000<=n/\n<=20000000){h0:Host}(hk:k<=1000)(f:JE n h0 k h)(a:Act)(s:Int):JE n h0 (k+1) (xf (h,s) a).1:=by refine⟨(UR (by omega) f.UT a s).mono (by push_cast;omega),(abY (by omega) a s f.sz (agM (f.UT.ok (by omega)))).mono,f.stay.trans (US h a s)⟩
theorem K7 (x:α):NN (some (true,x))=some (true,x):=rfl
theorem FC {n:Nat}(hn:1000<=n/\n<=20000000){h0:Host}(hk:k<=100)(f:JE n h0 k h)(a:Act)(ha:I2 a)(h6:(a.1==6)=false):nI h a=some (true,yp h a):=by refine aeC h a (f.sz.mono) (by have:=ha.2.1;omega) ha.2.2.1 ?_;have:=ha.2.2.2;simp only[cI,ne_eq]at h6;omega
theorem Nf {n:Nat}(hn:1000<=n/\n<=20000000)(k0:Int->Int->Host->ax R)(l:aw Act)(b:Host){h0:Host}(hl:l.length<=100)(ha:∀a∈l,I2 a):∀(m i:Nat)(s:Int)(h:Host)(f:Nat),i+m=l.length->m<f->JE n h0 i h->
 aX (gT k0 l b) f (s,(i:Int),h)=k0 ((l.drop i).foldl xf (h,s)).2 (l.length:Int) ((l.drop i).foldl xf (h,s)).1
 |0,i,s,h,f+1,e,_,_=>by rw[aX];unfold gT;simp only;rw[cB,af,cK (by omega)];show k0 s (i:Int) h=k0 s _ h;rw[show i=l.length by omega]
 |m+1,i,s,h,f+1,e,hf,q=>by
  have hi:i<l.length:=by omega
  have hx:=ha _ (bk hi);have st:=Ha hn (by omega) q l[i] s;have go:=λs' h'=>Nf (h0:=h0) hn k0 l b hl ha m (i+1) s' h' f (by omega) (by omega);have ei:au ((i:Int)+1)=((i+1:Nat):Int):=by rw[ak];rfl
  have hd:l.drop i=l[i]::l.drop (i+1):=(bJ hi)
  rw[aX];generalize aX (gT k0 l b) f=T at go⊢;unfold gT;simp only[ei];rw[jK,ah,bf hi,ab,hd,cZ];have fs:xf (h,s) l[i]=bif l[i].1==6 then(wS h,s) else((yp h l[i]).1,bif l[i].1==0 then au (s+(yp h l[i]).2) else s):=rfl
  rw[fs]at st⊢;cases h6:l[i].1==6 with|true=>rw[h6]at st;rw[ah,D6 h (q.sz.sz (by omega)) (q.sz.z.mono),ab];exact go s _ st|false=>rw[h6]at st;simp only[ab,ah,af,FC hn (by omega) q l[i] hx h6,K7]at st⊢;cases h00:l[i].1==0 with|true=>exact go _ _ st|false=>exact go _ _ st
theorem aeA {n:Nat}(hn:1000<=n/\n<=20000000)(h:Host)(l:aw Act)(hl:l.length<=100)(ha:∀a∈l,I2 a)(g:Good (n:Int) h)(z:BG n h):vL h l=some (!l.isEmpty,abX h l):=by
 have q:JE n h 0 h:=⟨by simpa using g,by simpa using z,mc.refl h⟩
 unfold vL;cases l with
 |nil=>rfl
 |cons a t=>
  have hx:=ha a (List.mem_cons_self ..);have st:=Ha hn (by omega) q a 0;have go:=λ{R:Type} (k0:Int->Int->Host->ax R) (b:Host) s' h'=>Nf (R:=R) (h0:=h) hn k0 (a::t) b hl ha t.length 1 s' h' fuel (by simp;omega) (by have:=dR;simp at hl;omega);have ei:au ((0:Int)+1)=((1:Nat):Int):=by decide
  have hd:(a::t).drop 1=t:=rfl;have e0:idx (a::t) 0=some a:=rfl;have fs:xf (h,0) a=bif a.1==6 then(wS h,0) else((yp h a).1,bif a.1==0 then au (0+(yp h a).2) else 0):=rfl
  rw[ar (by simp),ah,e0,ei];simp only[ab];have fa:abX h (a::t)=t.foldl xf (xf (h,0) a):=rfl;rw[fa,fs];rw[fs]at st;cases h6:a.1==6 with|true=>rw[h6]at st;rw[ah,D6 h (z.sz (by omega)) (z.z.mono),ab];simp only[ah]at st⊢;rw[go _ _ _ _ st];rfl|false=>rw[h6]at st;simp only[ab,ah,af,FC hn (by omega) q a hx h6,K7]at st⊢;cases h00:a.1==0 with|true=>simp only[ah];rw[go _ _ _ _ st];rfl|false=>simp only[af];rw[go _ _ _ _ st];rfl
theorem agE {k:Bool->ax Bool}(ht:k true=some true)(hk:a.length<=1048576->Ends (k false) (λb=>b=true)):Ends (aa (Gc a) k) (λb=>b=true):=by unfold Gc;rw[ab];by_cases h:((a.length:Int))>1048576;rw[ar h,ht];exact Ends.pure rfl;rw[aq h];exact hk (by omega)
theorem Ends.true {o:ax Bool}(h:Ends o (λb=>b=true)):o=some true:=by obtain⟨x,h1,rfl⟩:=h;exact h1
theorem aiO (ha:XW (.sl (.int .u8)) a)(hl:a.length<=1048576){i:Int}(h0:0<=i)(h1:i<=1000000):Ends (Gb a i) λx=>0<=x/\x<=255:=by
 unfold Gb;refine Ends.cond (λ_=>Ends.pure ⟨dL _,by omega⟩) λk=>?_;have k:((a.length:Int))≠0:=by simpa using k
 have m1:=Int.tmod_nonneg (a.length:Int) (a:=i*5+1) (by omega);have m2:=Int.tmod_lt_of_pos (i*5+1) (b:=(a.length:Int)) (by omega);rw[ak (n:=i*5),ak (n:=i*5+1)];refine Ends.ifn k (Ends.idx m1 m2 λhi=>Ends.pure ?_);have hx:0<=a[(tmod (i*5+1) (a.length:Int)).toNat]/\a[(tmod (i*5+1) (a.length:Int)).toNat]<=255:=ha.2 _ (bk hi);rw[ak];exact hx
theorem map_take {β:Type}(f:α->β)(l:aw α)(i:Nat)(hi:i<l.length):(l.take i).map f++[f l[i]]=(l.take (i+1)).map f:=by rw[bQ hi,List.map_append];rfl
def Jb (n:Nat):bM:=List.replicate n (xi 128)
theorem Zu (n:Nat):Jb (n+1)=Jb n++[xi 128]:=List.replicate_succ'
theorem Wk (n:Nat)(h:n<=64):pZ (n:Int)=some (Jb n):=by have hz:iq 128 0=some (xi 128):=LB 128;unfold pZ;refine eG (λi=>((i:Int),Jb i)) n (by omega) (λi nx hi=>?_) (λnx=>?_);simp only[pz];rw[ar (show(i:Int)<n by omega),ah,jK,ab,ah,hz,ab,aP (by simp[Jb];omega),ak,Zu];rfl;simp only[pz];rw[aq (show¬(n:Int)<n by omega),af,ab,af]
def wR (a b:Int):Vector×Bool:=bif eD (a,b,0,0,false,false) then((a,b,0,0,false,false),true) else((0,0,0,0,false,false),false)
theorem Wl (a b:Int):um a b=some (wR a b):=by unfold um wR;rw[E0,ab];cases eD (a,b,0,0,false,false)<;>rfl
def Aw (i:Nat):aw aA:=(List.range i).map λ(p:Nat)=>(0,(p:Int),37-(p:Int), !dm (p:Int) 2 9)
theorem VE (i:Nat):Aw (i+1)=Aw i++[(0,(i:Int),37-(i:Int), !dm (i:Int) 2 9)]:=by simp[Aw,List.range_succ]
theorem Hu (i:Nat):(Aw i).length=i:=by simp[Aw]
def Xc (f:Filter)(s:cS)(c:Bool)(i:Nat):Host:=(Jb 38,Aw i,Eo,([]:aw bR),([]:aw cR),([]:aw Vector),([]:aw Bool),f,s,([]:aw Stream),c,([]:bM),([]:cw),([]:cw),0,0,0,0,0)
theorem ahH:dF (Aw 38)=true:=by decide+kernel
def BQ (f:Filter)(s:cS)(c:Bool):aw Vector->Host
 |[]=>Xc f s c 38
 |v::vs=>SB ((BQ f s c vs).1,(BQ f s c vs).2.1,(BQ f s c vs).2.2.1,(BQ f s c vs).2.2.2.1++[((0,0,0,0),(0,0,0),(0,0,0),((0,0,0,0,0,0,0,0,0,0,0,0,0,0,0,([]:Bytes)),0,0),false,0)],(BQ f s c vs).2.2.2.2.1++[(0,0,0,([]:cw))],(BQ f s c vs).2.2.2.2.2.1++[v],(BQ f s c vs).2.2.2.2.2.2.1++[false],(BQ f s c vs).2.2.2.2.2.2.2) vs.length
def aa5 (h:Host):=(h.1,h.2.1,h.2.2.1,h.2.2.2.1,h.2.2.2.2.1,h.2.2.2.2.2.1,h.2.2.2.2.2.2.1)
structure Made (f:Filter) (s:cS) (c:Bool) (k:Nat) (h:Host):Prop where
 mem:cE h.1=true
 ml:h.1.length=38
 maps:h.2.1=Aw 38
 tx:h.2.2.1=Eo
 rx:h.2.2.2.1.length=k
 rxs:∀r∈h.2.2.2.1,yS 0 r/\r.2.2.2.2.1=false
 pl:h.2.2.2.2.1.length=k
 pls:∀p∈h.2.2.2.2.1,dx p=true/\p.2.2.2.length<=1000
 vec:h.2.2.2.2.2.1.length=k
 Tw:∀v∈h.2.2.2.2.2.1,eD v=true
 VX:h.2.2.2.2.2.2.1.length=k
 rest:h.2.2.2.2.2.2.2=(f,s,([]:List Stream),c,([]:List Bytes),([]:List Int),([]:List Int),0,0,0,0,0)
 is:∃vs,vs.length=k/\h=BQ f s c vs/\∀v∈vs,v.2.1<=3/\v.2.2.2.2.1=false
theorem S7 (l:aw α)(x y:α):(l++[x]).set l.length y=l++[y]:=by simp
theorem afa {n:Nat}(h:n<=64):cE (Jb n)=true:=qC.2 ⟨λx hx=>by rw[(List.mem_replicate.1 hx).2];exact DM 128,by simp[Jb];exact h⟩
theorem Zq {c:Bool}(m:Made f s c k h)(hk:k<=8)(hv:eD v=true)(h3:v.2.1<=3/\v.2.2.2.2.1=false):Ends (uC (h.1,h.2.1,h.2.2.1,h.2.2.2.1++[((0,0,0,0),(0,0,0),(0,0,0),((0,0,0,0,0,0,0,0,0,0,0,0,0,0,0,([]:Bytes)),0,0),false,0)],h.2.2.2.2.1++[(0,0,0,([]:cw))],h.2.2.2.2.2.1++[v],h.2.2.2.2.2.2.1++[false],h.2.2.2.2.2.2.2) (k:Int)) λr=>Made f s c (k+1) r.2:=by
 refine Ends.of (adz _ k hk (by simp[m.rx]) (by simp[m.pl]) (by show h.2.1.length<=_;rw[m.maps,Hu];omega) (by show h.1.length<=_;rw[m.ml];omega)) ?_;have o:=NP m.mem h.2.1 hk;have e1:(h.2.2.2.1++[(((0,0,0,0),(0,0,0),(0,0,0),((0,0,0,0,0,0,0,0,0,0,0,0,0,0,0,([]:Bytes)),0,0),false,0):bR)])[k]?=some ((0,0,0,0),(0,0,0),(0,0,0),((0,0,0,0,0,0,0,0,0,0,0,0,0,0,0,([]:Bytes)),0,0),false,0):=by rw[<-m.rx];simp
 have e2:∀y:bR,(h.2.2.2.1++[(((0,0,0,0),(0,0,0),(0,0,0),((0,0,0,0,0,0,0,0,0,0,0,0,0,0,0,([]:Bytes)),0,0),false,0):bR)]).set k y=h.2.2.2.1++[y]:=λy=>by rw[<-m.rx];exact S7 _ _ _
 have e3:∀y:cR,(h.2.2.2.2.1++[(((0,0,0,([]:cw))):cR)]).set k y=h.2.2.2.2.1++[y]:=λy=>by rw[<-m.pl];exact S7 _ _ _
 obtain⟨vs,vl,ve,vb⟩:=m.is;have is0:SB (h.1,h.2.1,h.2.2.1,h.2.2.2.1++[((0,0,0,0),(0,0,0),(0,0,0),((0,0,0,0,0,0,0,0,0,0,0,0,0,0,0,([]:Bytes)),0,0),false,0)],h.2.2.2.2.1++[(0,0,0,([]:cw))],h.2.2.2.2.2.1++[v],h.2.2.2.2.2.2.1++[false],h.2.2.2.2.2.2.2) k=BQ f s c (v::vs):=by rw[BQ,<-ve,vl]
 unfold SB at is0⊢;simp only[e1,e2,e3]at is0⊢;have hp:(sX h.2.1 h.1 k).2.2.1.2.2.2.length<=1000:=by unfold sX;exact bw (EC ..) (nK _ _ _)
 refine⟨o.1,?_,m.maps,m.tx,by show(_++[_]).length=_;rw[ai,m.rx];rfl,?_,by show(_++[_]).length=_;rw[ai,m.pl];rfl,?_,by show(_++[_]).length=_;rw[ai,m.vec];rfl,?_,by show(_++[_]).length=_;rw[ai,m.VX];rfl,m.rest,⟨v::vs,by simp[vl],is0,λw hw=>?_⟩⟩;show(sX h.2.1 h.1 k).1.length=38;rw[NO,m.ml];intro r hr;rcases ay.1 hr with hr|hr;exact m.rxs r hr;rw[cf.1 hr];exact⟨S1 hk o.2.1 ⟨dL _,dL _⟩,rfl⟩;intro p hp';rcases ay.1 hp' with hp'|hp';exact m.pls p hp';rw[cf.1 hp'];exact⟨o.2.2,hp⟩;intro w hw;rcases ay.1 hw with hw|hw;exact m.Tw w hw;rw[cf.1 hw];exact hv;rcases bO.1 hw with e|e;rw[e];exact h3;exact vb w e
def afv (h:Host):cS:=h.2.2.2.2.2.2.2.2.1
structure H2 (h:Host):Prop where
 UT:Good 0 h
 sz:BG 2000 h
 maps:∀m∈h.2.1,m.2.2.1<(h.1.length:Int)
 led:h.2.2.1.2.2.1=[]/\h.2.2.2.2.2.2.2.2.2.2.2.1=[]/\h.2.2.2.2.2.2.2.2.2.2.2.2.1=[]/\h.2.2.2.2.2.2.2.2.2.2.2.2.2.1=[]
 is:∃f s c vs,vs.length<=2/\aa5 h=aa5 (BQ f s c vs)/\∀v∈vs,v.2.1<=3/\v.2.2.2.2.1=false
theorem VD {c:Bool}(m:Made f s c k h)(hk:1<=k/\k<=2)(hf:qf f=true)(AW:f.2.2.length<=1000)(hs:fu s (k:Int)=true)(hz:vn s):H2 h:=by have h4:=nK 256 128 8;obtain⟨vs,vl,ve,vb⟩:=m.is;obtain⟨m1,m2,m3,m4,m5,m6,m7,m8,m9,m10,m11,m12,_⟩:=m;obtain⟨mem,maps,tx,rx,pl,vec,VX,rest⟩:=h;simp only at m1 m2 m3 m4 m5 m6 m7 m8 m9 m10 m11 m12;subst m12 m3 m4;refine⟨⟨m1,ahH,ad5 0 (by omega),hf,?_,by show fu s (rx.length:Int)=true;rw[m5];exact hs,λr hr=>(m6 r hr).1,λp hp=>(m8 p hp).1,m10,?_⟩,⟨?_,?_⟩,?_,⟨rfl,rfl,rfl,rfl⟩,⟨f,s,c,vs,by omega,congrArg aa5 ve,vb⟩⟩;unfold qU;simp only[ae,bg,aQ];omega;intro x hx;simp only[ig,bO,List.not_mem_nil,or_false,or_self]at hx;omega;have hm:=(qC.1 m1).1;refine⟨⟨by show mem.length<=2000;omega,λx hx=>by show x.length<=2000;rw[hm x hx];omega⟩,⟨by show(Aw 38).length<=2000;rw[Hu];omega,λ_ _=>⟨cv,cv,cv,cv⟩⟩,?_,?_,?_,?_,?_,⟨cv,cv,by show f.2.2.length<=2000;omega,λ_ _=>trivial⟩,?_,⟨bW _,λx hx=>by cases hx⟩,cv,⟨bW _,λx hx=>by cases hx⟩,⟨bW _,λx hx=>by cases hx⟩,⟨bW _,λx hx=>by cases hx⟩,cv,cv,cv,cv,cv⟩;exact⟨⟨cv,cv,cv,cv⟩,⟨cv,cv,cv,by show List.length (gV 256 128 8).1.2.2.2<=2000;omega,λ_ _=>trivial⟩,⟨bW _,λx hx=>by cases hx⟩,cv⟩;refine⟨by show rx.length<=2000;omega,λx hx=>?_⟩;have e:=(m6 x hx).1.free (m6 x hx).2;refine⟨⟨cv,cv,cv,cv⟩,⟨cv,cv,cv⟩,⟨cv,cv,cv⟩,?_,cv,cv⟩;rw[e];exact⟨⟨cv,cv,cv,cv,cv,cv,cv,cv,cv,cv,cv,cv,cv,cv,cv,bW _⟩,cv,cv⟩;exact⟨by show pl.length<=2000;omega,λx hx=>⟨cv,cv,cv,by have:=(m8 x hx).2;show x.2.2.2.length<=2000;omega,λ_ _=>trivial⟩⟩;exact⟨by show vec.length<=2000;omega,λx hx=>⟨cv,cv,cv,cv,cv,cv⟩⟩;exact⟨by show VX.length<=2000;omega,λx hx=>trivial⟩;exact⟨⟨by have:=hz.r;show s.1.length<=2000;omega,λ_ _=>⟨cv,cv,cv,cv,cv,cv,cv,cv,cv⟩⟩,⟨by have:=hz.t;show s.2.1.length<=2000;omega,λ_ _=>⟨cv,⟨cv,cv,cv,cv,cv⟩,cv⟩⟩,by have:=hz.k;show s.2.2.1.length<=2000;omega,by have:=hz.p;show s.2.2.2.length<=2000;omega,λ_ _=>trivial⟩;show List.length (gV 256 128 8).1.2.2.2+0<=2000;omega;intro m hm;have hm:m∈Aw 38:=hm;simp only[Aw,List.mem_map,bT]at hm;obtain⟨i,hi,rfl⟩:=hm;show 37-(i:Int)<(mem.length:Int);omega
theorem ZL {a:Int}(h:(wR a b).2=true):eD (wR a b).1=true:=by unfold wR at h⊢;cases hv:eD (a,b,0,0,false,false)with|false=>rw[hv]at h;cases h|true=>exact hv
theorem acZ {a:Int}(h:(wR a b).2=true)(hb:b<=3):(wR a b).1.2.1<=3/\(wR a b).1.2.2.2.2.1=false:=by unfold wR at h⊢;cases hv:eD (a,b,0,0,false,false)with|false=>rw[hv]at h;cases h|true=>exact⟨hb,rfl⟩
theorem K2 (q:Int)(f:Filter)(s:cS)(c:Bool)(a b:Int)(hf:f.2.2.length<=1000)(hs:vn s)(hb3:b<=3):Ends (uj q f s c a b) λr=>(r.2=true->H2 r.1/\afv r.1=s)/\((1<=q/\q<=2)->qf f=true->fu s q=true->(wR a b).2=true->r.2=true):=by
 have z1:=hs.r;have z2:=hs.t;have z3:=hs.p;unfold uj;rw[Wl,ab,eu,ab];refine Ends.bind (P:=λx=>(x=false->(1<=q/\q<=2)/\qf f=true/\fu s q=true/\(wR a b).2=true)/\(x=true->(1<=q/\q<=2)->qf f=true->fu s q=true->(wR a b).2=true->False)) ?_ λx hx=>Ends.cond (λXe=>Ends.pure ⟨(λh=>by cases h),λg1 g2 g3 g4=>(hx.2 Xe g1 g2 g3 g4).elim⟩) λh=>?_;refine Ends.cond (λk=>Ends.pure ⟨(λh=>by cases h),λ_ g1 _ _ _=>by rw[bg.2 g1]at k;cases k⟩) λh1=>?_;rw[Wi f (by omega),ab];refine Ends.cond (λk=>Ends.pure ⟨(λh=>by cases h),λ_ _ g2 _ _=>by rw[g2]at k;cases k⟩) λh2=>?_;rw[Qb s q (by omega) (by omega) (by omega),ab];refine Ends.cond (λk=>Ends.pure ⟨(λh=>by cases h),λ_ _ _ g3 _=>by rw[g3]at k;cases k⟩) λh3=>Ends.pure ⟨λh4=>?_,λk _ _ _ g4=>by rw[g4]at k;cases k⟩;exact⟨bg.1 (by simpa using h1),by simpa using h2,by simpa using h3,by simpa using h4⟩;obtain⟨hq,h1,h2,h3⟩:=hx.1 h;have hm:pZ 38=some (Jb 38):=Wk 38 (by omega);rw[hm,ab,aau,ab,LA f (by omega),ab,MD s (by omega) (by omega) (by omega),ab];have hv:=ZL h3;refine Ends.wv (λx=>0<=x.1/\x.1<=38/\x.2=Xc f s c x.1.toNat) (λx=>(38-x.1).toNat) ⟨by simp,by simp,rfl⟩ (by simp) λx nx hx hn=>?_;obtain⟨i,y⟩:=x;obtain⟨x1,x2,x3⟩:=hx;simp only at x1 x2 x3;unfold wV;refine Ends.cond (λk=>?_) λk=>?_;have k:=bl k;have hl:=Hu i.toNat;simp only at k;rw[eu,ab];simp only;rw[ak (n:=i+1),ak (n:=37-i)];subst x3;refine Ends.room (by show(Aw i.toNat).length+1<=_;omega) (hn _ ⟨by show 0<=i+1;omega,by show i+1<=38;omega,?_⟩ (by show(38-(i+1)).toNat<(38-i).toNat;omega));have e:(i+1).toNat=i.toNat+1:=by omega
 show(Jb 38,Aw i.toNat++_,_)=Xc f s c (i+1).toNat;rw[e];unfold Xc;rw[VE,show((i.toNat:Nat):Int)=i by omega];have k:=eK k;simp only at k;have e:i.toNat=38:=by omega
 rw[e]at x3;have hm0:Made f s c 0 y:=by rw[x3];exact⟨afa (by omega),by show(Jb 38).length=38;simp[Jb],rfl,rfl,rfl,(λ_ hr=>by cases hr),rfl,(λ_ hr=>by cases hr),rfl,(λ_ hr=>by cases hr),rfl,rfl,⟨[],rfl,rfl,λ_ hv=>by cases hv⟩⟩
 simp only;refine Ends.wv (λx=>0<=x.1/\x.1<=q/\Made f s c x.1.toNat x.2) (λx=>(q-x.1).toNat) ⟨by simp,by show(0:Int)<=q;omega,hm0⟩ (by simp;omega) λx nx hx hn=>?_;obtain⟨i,y⟩:=x;obtain⟨x1,x2,m⟩:=hx;simp only at x1 x2 m;unfold vd;refine Ends.cond (λk=>?_) λk=>Ends.pure ⟨λ_=>?_,λ_ _ _ _=>rfl⟩;have k:=bl k;simp only at k;have l1:=m.rx;have l2:=m.pl;have l3:=m.vec;have l4:=m.VX;refine Ends.room (by simp;omega) (Ends.room (by simp;omega) (Ends.room (by simp;omega) (Ends.room (by simp;omega) ?_)));have ho:=Zq m (by omega) hv (acZ h3 hb3);rw[show((i.toNat:Nat):Int)=i by omega]at ho;refine ho.bind λr hr=>?_;simp only;rw[ak (n:=i+1)];refine hn _ ⟨by show 0<=i+1;omega,by show i+1<=q;omega,?_⟩ (by show(q-(i+1)).toNat<(q-i).toNat;omega);show Made f s c (i+1).toNat r.2;rw[show(i+1).toNat=i.toNat+1 by omega];exact hr;have k:=eK k;simp only at k;have hi:i=q:=by omega
 subst hi;exact⟨VD m (by omega) h1 hf (by rw[show((i.toNat:Nat):Int)=i by omega];exact h2) hs,congrArg (λx=>x.2.1) m.rest⟩
theorem ae8 (n x:Int)(h0:0<=n)(h1:n<=1000000):Ends (iq n x) λr=>(r.length:Int)=n:=by unfold iq;rw[aE ⟨h0,dL _⟩];refine Ends.room (by omega) (Ends.wv (λy=>(y.1.length:Int)=n/\0<=y.2/\y.2<=n) (λy=>(n-y.2).toNat) ⟨by simp;omega,by simp,h0⟩ (by simp;omega) λy nx hy hn=>?_);unfold oq;refine Ends.cond (λk=>?_) λk=>Ends.pure (by simp[aJ];exact hy.1);have k:=bl k;rw[ak (n:=y.2+1)];refine Ends.idx hy.2.1 (by omega) λ_=>Ends.idx hy.2.1 (by omega) λ_=>hn _ ⟨?_,?_,?_⟩ ?_;show((List.set _ _ _).length:Int)=n;rw[aC];exact hy.1;show 0<=y.2+1;omega;show y.2+1<=n;omega;show(n-(y.2+1)).toNat<(n-y.2).toNat;omega
theorem Sz:lU=some (List.replicate 8 (0,(0,0,0,0,0),0)):=by unfold lU;rw[aE (by decide),aP (by decide)];rfl
theorem Vy {k:Bytes}(hk:k.length=16):fu (([]:aw iC),List.replicate 8 (0,(0,0,0,0,0),0),k,[0]) 1=true:=by
 have ht:nT (List.replicate 8 (0,(0,0,0,0,0),0))=true:=by decide+kernel
 have hs:qO (k,[0]) 1=true:=by unfold qO;simp only[hk];decide+kernel
 unfold fu;rw[show wT ([]:aw iC)=true from rfl,ht,hs];rfl
def Vl (l:aw iC):Prop:=∀r∈l,r.2.2.2.2.2.2.1= -2
theorem Yz (h:Cu c):Ends (xN c) λr=>(H2 r.1/\Vl (afv r.1).1)/\Cu r.2:=by
 unfold xN;refine Ends.wv (λx=>0<=x.1/\x.1<=4/\Cu x.2) (λx=>(4-x.1).toNat) ⟨by simp,by simp,h⟩ (by simp) λx nx hx hn=>?_;unfold wZ;refine Ends.cond (λk=>?_) λk=>?_;have k:=bl k;refine(adC hx.2.2).bind λr1 p1=>?_;refine Ends.wv (λy=>(0<=y.1/\∀(j:Nat) r,(j:Int)<y.1->y.2.1[j]?=some r->r.2.2.2.2.2.2.1= -2)/\vn y.2) (λy=>((y.2.1.length:Int)-y.1).toNat) ⟨⟨by simp,λj r hj=>by simp at hj;omega⟩,p1.1.1⟩ (by have:=p1.1.1.r;simp;omega) λy ny hy hm=>?_;unfold xa;refine Ends.cond (λk2=>?_) λk2=>?_;have k2:=bl k2;have hr:=hy.2.r;rw[ak (n:=y.1+1)];refine Ends.idx hy.1.1 k2 λ_=>Ends.idx hy.1.1 k2 λ_=>hm _ ⟨⟨?_,λj r hj hr'=>?_⟩,⟨?_,hy.2.t,hy.2.k,hy.2.p⟩⟩ ?_;show 0<=y.1+1;have:=hy.1.1;omega;have hj:(j:Int)<y.1+1:=hj;have h0:=hy.1.1;by_cases hjy:j=y.1.toNat;subst hjy;rw[List.getElem?_set_self (by omega)]at hr';rw[<-dp hr'];rw[aO (λe=>hjy e.symm)]at hr';exact hy.1.2 j r (by omega) hr';show(List.set _ _ _).length<=100;rw[aC];exact hr;show(((List.set _ _ _).length:Int)-(y.1+1)).toNat<_;rw[aC];omega;refine(Q6 p1.2).bind λr6 p6=>(gw p6.2 (by decide)).bind λr7 p7=>(gw p7.2 (by decide)).bind λr8 p8=>(gw p8.2 (by decide)).bind λr9 p9=>?_;have hf:r6.1.2.2.length<=1000:=by rcases p6.1.2 with e|e<;>rw[e]<;>simp
 have vl:Vl y.2.1:=λr hr=>by obtain⟨j,hj⟩:=List.getElem?_of_mem hr;obtain⟨gS,_⟩:=aF.1 hj;exact hy.1.2 j r (by have:=eK k2;omega) hj
 refine(K2 _ _ _ _ _ _ hf hy.2 (by have:=p9.1;omega)).bind λqW p10=>Ends.cond (λk3=>Ends.pure ⟨⟨(p10.1 k3).1,by rw[(p10.1 k3).2];exact vl⟩,p9.2⟩) λ_=>?_;rw[ak (n:=x.1+1) (by omega) (by have:=hx.2.1;omega)];refine hn _ ⟨by show 0<=x.1+1;have:=hx.1;omega,by show x.1+1<=4;omega,p9.2⟩ (by show(4-(x.1+1)).toNat<(4-x.1).toNat;omega);simp only[Sz,ab];refine(ae8 16 5 (by omega) (by omega)).bind λXy p14=>?_;refine(K2 1 (2,false,([]:cw)) (([]:aw iC),List.replicate 8 (0,(0,0,0,0,0),0),Xy,[0]) true 1 0 (by simp) ⟨by simp,by simp,by show Xy.length=16;omega,by simp⟩ (by omega)).bind λzV p15=>?_;have f15:=p15.1 (p15.2 (by omega) (by decide+kernel) (Vy (by omega)) (by decide+kernel));exact Ends.pure ⟨⟨f15.1,by rw[f15.2];exact λr hr=>by cases hr⟩,hx.2.2⟩
def Tz (h:Host)(s:aw Stream):Host:=(h.1,h.2.1,h.2.2.1,h.2.2.2.1,h.2.2.2.2.1,h.2.2.2.2.2.1,h.2.2.2.2.2.2.1,h.2.2.2.2.2.2.2.1,h.2.2.2.2.2.2.2.2.1,s,h.2.2.2.2.2.2.2.2.2.2)
theorem Me (f:H2 h){s:aw Stream}(h1:s.length<=2000)(h2:∀x∈s,x.2.2.1=[]):H2 (Tz h s):=by have g:=f.UT;have z:=f.sz.z;refine⟨⟨g.mem,g.maps,g.tx,g.Jn,g.lens,g.Qf,g.rx,g.pool,g.vec,g.E9⟩,⟨⟨z.1,z.2.1,z.2.2.1,z.2.2.2.1,z.2.2.2.2.1,z.2.2.2.2.2.1,z.2.2.2.2.2.2.1,z.2.2.2.2.2.2.2.1,z.2.2.2.2.2.2.2.2.1,⟨h1,λx hx=>?_⟩,z.2.2.2.2.2.2.2.2.2.2⟩,f.sz.t⟩,f.maps,f.led,f.is⟩;refine⟨⟨cv,cv,cv,cv,cv⟩,cv,?_,cv⟩;show x.2.2.1.length<=2000;rw[h2 x hx];simp
theorem UP (h:Cu c){l:aw Act}(hl:l.length<=20)(ha:∀a∈l,I2 a):Ends (wb c l) λr=>(H2 r.1/\Vl (afv r.1).1)/\Cu r.2:=by unfold wb;refine(Yz h).bind λr1 p1=>?_;refine Ends.wv (λx=>0<=x.2/\(x.1.length:Int)<=x.2/\x.2<=(l.length:Int)) (λx=>((l.length:Int)-x.2).toNat) ⟨by simp,by simp,by simp⟩ (by simp;omega) λx nx hx hn=>?_;unfold vh;refine Ends.cond (λk=>?_) λk=>?_;have k:=bl k;rw[ak (n:=x.2+1)];refine Ends.idx hx.1 k λhi=>?_;have Xe:=ha _ (bk hi);replace Xe:=Xe.2.1;rw[aar _ (by omega),ab];refine Ends.cond (λ_=>Ends.room (by simp;omega) (hn _ ⟨?_,?_,?_⟩ ?_)) λ_=>hn _ ⟨?_,?_,?_⟩ ?_;show 0<=x.2+1;omega;show((x.1++[_]).length:Int)<=x.2+1;simp;omega;show x.2+1<=_;omega;show((l.length:Int)-(x.2+1)).toNat<_;omega;show 0<=x.2+1;omega;show(x.1.length:Int)<=x.2+1;omega;show x.2+1<=_;omega;show((l.length:Int)-(x.2+1)).toNat<_;omega;exact(afe p1.2 (by omega)).bind λr6 p6=>Ends.pure ⟨⟨Me p1.1.1 (by omega) p6.1.2,p1.1.2⟩,p6.2⟩
theorem Qr (ha:a.length<=1048576):Ends (nb a) λr=>(H2 r.1/\Vl (afv r.1).1)/\r.2.length<=20/\∀x∈r.2,I2 x:=by unfold nb;exact(ahT ha).bind λr1 p1=>(ael p1 true).bind λr2 p2=>(UP p2.2 p2.1.1 λx hx=>(p2.1.2 x hx).1).bind λr3 p3=>Ends.pure ⟨p3.1,p2.1.1,λx hx=>(p2.1.2 x hx).1⟩
theorem Wz (ha:a.length<=1048576):Ends (nb a) λr=>H2 r.1/\r.2.length<=20/\∀x∈r.2,I2 x:=(Qr ha).mono λr hr=>⟨hr.1.1,hr.2⟩
theorem CC (a b:bM)(h:a.length<=10^9):gA a b=some (xm a b):=by unfold gA;refine tt (λx y=>x==y) (λx y=>aQ) a b h (λhl i hi np nx=>?_) (λnx=>?_);simp only[gq];rw[jK,bf hi,bf np,ak];rfl;simp only[gq];rw[cB];rfl
theorem YH (a b:aw Bool)(h:a.length<=10^9):px a b=some (xm a b):=by unfold px;refine tt (λx y=>x==y) (λx y=>aQ) a b h (λhl i hi np nx=>?_) (λnx=>?_);simp only[lH];rw[jK,bf hi,bf np,ak];rfl;simp only[lH];rw[cB];rfl
def ah3 (x1 x2:bR):Bool:=(x1.1.1==x2.1.1)&&((x1.1.2.1==x2.1.2.1)&&((x1.1.2.2.1==x2.1.2.2.1)&&((x1.1.2.2.2==x2.1.2.2.2)&&((x1.2.1.1==x2.2.1.1)&&((x1.2.1.2.1==x2.2.1.2.1)&&((x1.2.1.2.2==x2.2.1.2.2)&&((x1.2.2.1.1==x2.2.2.1.1)&&((x1.2.2.1.2.1==x2.2.2.1.2.1)&&((x1.2.2.1.2.2==x2.2.2.1.2.2)&&((x1.2.2.2.1.1.1==x2.2.2.2.1.1.1)&&((x1.2.2.2.1.1.2.1==x2.2.2.2.1.1.2.1)&&((x1.2.2.2.1.1.2.2.1==x2.2.2.2.1.1.2.2.1)&&((x1.2.2.2.1.1.2.2.2.1==x2.2.2.2.1.1.2.2.2.1)&&((x1.2.2.2.1.1.2.2.2.2.1==x2.2.2.2.1.1.2.2.2.2.1)&&((x1.2.2.2.1.1.2.2.2.2.2.1==x2.2.2.2.1.1.2.2.2.2.2.1)&&((x1.2.2.2.1.1.2.2.2.2.2.2.1==x2.2.2.2.1.1.2.2.2.2.2.2.1)&&((x1.2.2.2.1.1.2.2.2.2.2.2.2.1==x2.2.2.2.1.1.2.2.2.2.2.2.2.1)&&((x1.2.2.2.1.1.2.2.2.2.2.2.2.2.1==x2.2.2.2.1.1.2.2.2.2.2.2.2.2.1)&&((x1.2.2.2.1.1.2.2.2.2.2.2.2.2.2.1==x2.2.2.2.1.1.2.2.2.2.2.2.2.2.2.1)&&((x1.2.2.2.1.1.2.2.2.2.2.2.2.2.2.2.1==x2.2.2.2.1.1.2.2.2.2.2.2.2.2.2.2.1)&&((x1.2.2.2.1.1.2.2.2.2.2.2.2.2.2.2.2.1==x2.2.2.2.1.1.2.2.2.2.2.2.2.2.2.2.2.1)&&((x1.2.2.2.1.1.2.2.2.2.2.2.2.2.2.2.2.2.1==x2.2.2.2.1.1.2.2.2.2.2.2.2.2.2.2.2.2.1)&&((x1.2.2.2.1.1.2.2.2.2.2.2.2.2.2.2.2.2.2.1==x2.2.2.2.1.1.2.2.2.2.2.2.2.2.2.2.2.2.2.1)&&((x1.2.2.2.1.1.2.2.2.2.2.2.2.2.2.2.2.2.2.2.1==x2.2.2.2.1.1.2.2.2.2.2.2.2.2.2.2.2.2.2.2.1)&&((x1.2.2.2.1.1.2.2.2.2.2.2.2.2.2.2.2.2.2.2.2==x2.2.2.2.1.1.2.2.2.2.2.2.2.2.2.2.2.2.2.2.2)&&((x1.2.2.2.1.2.1==x2.2.2.2.1.2.1)&&((x1.2.2.2.1.2.2==x2.2.2.2.1.2.2)&&((x1.2.2.2.2.1==x2.2.2.2.2.1)&&((x1.2.2.2.2.2==x2.2.2.2.2.2)&&true)))))))))))))))))))))))))))))
theorem adn (x y:bR):ah3 x y=true↔x=y:=by obtain⟨⟨a1,a2,a3,a4⟩,⟨a5,a6,a7⟩,⟨a8,a9,a10⟩,⟨⟨b1,b2,b3,b4,b5,b6,b7,b8,b9,b10,b11,b12,b13,b14,b15,b16⟩,b17,b18⟩,a11,a12⟩:=x;obtain⟨⟨c1,c2,c3,c4⟩,⟨c5,c6,c7⟩,⟨c8,c9,c10⟩,⟨⟨d1,d2,d3,d4,d5,d6,d7,d8,d9,d10,d11,d12,d13,d14,d15,d16⟩,d17,d18⟩,c11,c12⟩:=y;simp only[ah3,dS,ae,aQ,Prod.mk.injEq,and_assoc]
theorem aeT (a b:aw bR)(h:a.length<=10^9):lF a b=some (xm a b):=by unfold lF;refine tt ah3 adn a b h (λhl i hi np nx=>?_) (λnx=>?_);simp only[jr];rw[jK,bf hi,bf np,ak];rfl;simp only[jr];rw[cB];rfl
def ad9 (x1 x2:Vector):Bool:=(x1.1==x2.1)&&((x1.2.1==x2.2.1)&&((x1.2.2.1==x2.2.2.1)&&((x1.2.2.2.1==x2.2.2.2.1)&&((x1.2.2.2.2.1==x2.2.2.2.2.1)&&((x1.2.2.2.2.2==x2.2.2.2.2.2)&&true)))))
theorem aaH (x y:Vector):ad9 x y=true↔x=y:=by obtain⟨a1,a2,a3,a4,a5,a6⟩:=x;obtain⟨c1,c2,c3,c4,c5,c6⟩:=y;simp only[ad9,dS,ae,aQ,Prod.mk.injEq,and_assoc]
theorem R3 (a b:aw Vector)(h:a.length<=10^9):mA a b=some (xm a b):=by unfold mA;refine tt ad9 aaH a b h (λhl i hi np nx=>?_) (λnx=>?_);simp only[jS];rw[jK,bf hi,bf np,ak];rfl;simp only[jS];rw[cB];rfl
def V8 (x1 x2:iC):Bool:=(x1.1==x2.1)&&((x1.2.1==x2.2.1)&&((x1.2.2.1==x2.2.2.1)&&((x1.2.2.2.1==x2.2.2.2.1)&&((x1.2.2.2.2.1==x2.2.2.2.2.1)&&((x1.2.2.2.2.2.1==x2.2.2.2.2.2.1)&&((x1.2.2.2.2.2.2.1==x2.2.2.2.2.2.2.1)&&((x1.2.2.2.2.2.2.2.1==x2.2.2.2.2.2.2.2.1)&&((x1.2.2.2.2.2.2.2.2==x2.2.2.2.2.2.2.2.2)&&true))))))))
theorem V9 (x y:iC):V8 x y=true↔x=y:=by obtain⟨a1,a2,a3,a4,a5,a6,a7,a8,a9⟩:=x;obtain⟨c1,c2,c3,c4,c5,c6,c7,c8,c9⟩:=y;simp only[V8,dS,ae,aQ,Prod.mk.injEq,and_assoc]
theorem YS (a b:aw iC)(h:a.length<=10^9):pt a b=some (xm a b):=by unfold pt;refine tt V8 V9 a b h (λhl i hi np nx=>?_) (λnx=>?_);simp only[lE];rw[jK,bf hi,bf np,ak];rfl;simp only[lE];rw[cB];rfl
def We (x1 x2:Slot):Bool:=(x1.1==x2.1)&&((x1.2.1.1==x2.2.1.1)&&((x1.2.1.2.1==x2.2.1.2.1)&&((x1.2.1.2.2.1==x2.2.1.2.2.1)&&((x1.2.1.2.2.2.1==x2.2.1.2.2.2.1)&&((x1.2.1.2.2.2.2==x2.2.1.2.2.2.2)&&((x1.2.2==x2.2.2)&&true))))))
theorem Wf (x y:Slot):We x y=true↔x=y:=by obtain⟨a1,⟨a2,a3,a4,a5,a6⟩,a7⟩:=x;obtain⟨c1,⟨c2,c3,c4,c5,c6⟩,c7⟩:=y;simp only[We,dS,ae,aQ,Prod.mk.injEq,and_assoc]
theorem Vk (a b:aw Slot)(h:a.length<=10^9):pw a b=some (xm a b):=by unfold pw;refine tt We Wf a b h (λhl i hi np nx=>?_) (λnx=>?_);simp only[lG];rw[jK,bf hi,bf np,ak];rfl;simp only[lG];rw[cB];rfl
def LN (x1 x2:Stream):Bool:=(x1.1.1==x2.1.1)&&((x1.1.2.1==x2.1.2.1)&&((x1.1.2.2.1==x2.1.2.2.1)&&((x1.1.2.2.2.1==x2.1.2.2.2.1)&&((x1.1.2.2.2.2==x2.1.2.2.2.2)&&((x1.2.1==x2.2.1)&&((x1.2.2.1==x2.2.2.1)&&((x1.2.2.2==x2.2.2.2)&&true)))))))
theorem Qj (x y:Stream):LN x y=true↔x=y:=by obtain⟨⟨a2,a3,a4,a5,a6⟩,a7,a8,a9⟩:=x;obtain⟨⟨c2,c3,c4,c5,c6⟩,c7,c8,c9⟩:=y;simp only[LN,dS,ae,aQ,Prod.mk.injEq,and_assoc]
theorem R2 (a b:aw Stream)(h:a.length<=10^9):mz a b=some (xm a b):=by unfold mz;refine tt LN Qj a b h (λhl i hi np nx=>?_) (λnx=>?_);simp only[jR];rw[jK,bf hi,bf np,ak];rfl;simp only[jR];rw[cB];rfl
theorem KI (a b:cR)(h:a.2.2.2.length<=10^9):rC a b=some (xm a b):=by simp only[rC,Ap _ _ h,ab,bL,cF,jC a b,jC a.2 b.2,jC a.2.2 b.2.2,QK]
theorem Vi (a b:kO)(h:a.2.2.length<=10^9):vK a b=some (xm a b):=by simp only[vK,Ap _ _ h,ab,bL,cF,jC a b,jC a.2 b.2,QK]
theorem YW (a b:aw kO)(h:a.length<=10^9)(hx:∀x∈a,x.2.2.length<=10^9):kN a b=some (xm a b):=by unfold kN;refine tt xm (λ_ _=>zj) a b h (λhl i hi np nx=>?_) (λnx=>?_);simp only[ja];rw[jK,bf hi,bf np,ak];simp only[ah,ab,Vi _ _ (hx _ (bk hi))];rfl;simp only[ja];rw[cB];rfl
theorem YQ (a b:aw cR)(h:a.length<=10^9)(hx:∀x∈a,x.2.2.2.length<=10^9):kM a b=some (xm a b):=by unfold kM;refine tt xm (λ_ _=>zj) a b h (λhl i hi np nx=>?_) (λnx=>?_);simp only[iZ];rw[jK,bf hi,bf np,ak];simp only[ah,ab,KI _ _ (hx _ (bk hi))];rfl;simp only[iZ];rw[cB];rfl
def ringEq (a b:Ring):Bool:=(a.1==b.1)&&((a.2.1==b.2.1)&&((a.2.2.1==b.2.2.1)&&((a.2.2.2==b.2.2.2)&&true)))
theorem Z9 (a b:Ring):ringEq a b=xm a b:=by simp only[ringEq,jC a b,jC a.2 b.2,jC a.2.2 b.2.2,QK,dS]
theorem acG (a b:dD)(h1:a.2.2.1.length<=10^9)(h2:a.2.1.2.2.2.length<=10^9)(h3:∀x∈a.2.2.1,x.2.2.length<=10^9):zt a b=some (xm a b):=by unfold zt;rw[show((a.1.1==b.1.1)&&((a.1.2.1==b.1.2.1)&&((a.1.2.2.1==b.1.2.2.1)&&((a.1.2.2.2==b.1.2.2.2)&&true))))=xm a.1 b.1 from Z9 a.1 b.1];simp only[KI _ _ h2,YW _ _ h1 h3,ab,bL,cF,jC a b,jC a.2 b.2,jC a.2.2 b.2.2,QK];cases xm a.1 b.1<;>cases xm a.2.1 b.2.1<;>cases xm a.2.2.1 b.2.2.1<;>cases xm a.2.2.2 b.2.2.2<;>rfl
theorem R1 (a b:cS)(h1:a.1.length<=10^9)(h2:a.2.1.length<=10^9)(h3:a.2.2.2.length<=10^9):pn a b=some (xm a b):=by simp only[pn,YS _ _ h1,Vk _ _ h2,Ap _ _ h3,ab,bL,cF,jC a b,jC a.2 b.2,jC a.2.2 b.2.2,QK]
structure Oi (h:Host):Prop where
 z:JF h
 t3:∀x∈h.2.2.1.2.2.1,x.2.2.length<=10^9
 r:h.2.2.2.1.length<=10^9
 p:h.2.2.2.2.1.length<=10^9
 v:h.2.2.2.2.2.1.length<=10^9
 b:h.2.2.2.2.2.2.1.length<=10^9
 s:h.2.2.2.2.2.2.2.2.2.1.length<=10^9
 l:h.2.2.2.2.2.2.2.2.2.2.2.1.length<=10^9
 i:h.2.2.2.2.2.2.2.2.2.2.2.2.1.length<=10^9
 j:h.2.2.2.2.2.2.2.2.2.2.2.2.2.1.length<=10^9
theorem U8 (a b:Host)(z:Oi a):sk a b=some (xm a.2.2 b.2.2):=by have ht:=z.z.t2;simp only[sk,acG _ _ z.z.t1 (by omega) z.t3,aeT _ _ z.r,YQ _ _ z.p z.z.p1,R3 _ _ z.v,YH _ _ z.b,Pt _ _ z.z.f1,R1 _ _ z.z.s1 z.z.s2 z.z.s3,R2 _ _ z.s,CC _ _ z.l,Ap _ _ z.i,Ap _ _ z.j,ab,bL,cF,QK];congr 1;apply OY;simp only[dS,ae,zj,Prod.ext_iff]
def viewAt (a b:Host)(m n:aA):Bool:=(m.1==n.1)&&((m.2.1==n.2.1)&&((m.2.2.2==n.2.2.2)&&(decide (m.2.2.1<(a.1.length:Int))&&(decide (n.2.2.1<(b.1.length:Int))&&(a.1.getD m.2.2.1.toNat []==b.1.getD n.2.2.1.toNat [])))))
def Tx (a b:Host):Bool:=a.2.1.all (λm=>b.2.1.any (viewAt a b m))
theorem Xf {xs:aw α}{i:Int}(d:α)(h0:0<=i)(h1:i<(xs.length:Int)):idx xs i=some (xs.getD i.toNat d):=by
 have e:i=((i.toNat:Nat):Int):=by omega
 have hl:i.toNat<xs.length:=by omega
 rw[cL hl];have:=bf hl;rwa[<-e]at this
theorem acR (h:dF l=true){m:aA}(hm:m∈l):0<=m.2.2.1:=by unfold dF at h;simp only[ae,aG,bT]at h;obtain⟨i,hi,rfl⟩:=eZ hm;have:=h.2 i hi;unfold Hs at this;rw[cL hi]at this;simp only[ae]at this;have:=this.1;unfold EP at this;simp only[ae,bg]at this;exact this.2.2.1
theorem Xr (h:dF l=true):l.length<=96:=by unfold dF at h;simp only[ae,aB]at h;omega
theorem ae9 (h:dF l=true){j:Nat}(hi:i<l.length)(hj:j<i):kB l[i].1 l[i].2.1 (l[j]'(by omega))=false:=by unfold dF at h;simp only[ae,aG,bT]at h;have:=h.2 i hi;unfold Hs at this;simp only[ae,aG,bT]at this;have:=this.2 j hj;rw[cL hi,cL (show j<l.length by omega)]at this;simpa using this
theorem XY {b:Host}(hb:dF b.2.1=true)(a:Host)(m:aA):b.2.1.any (viewAt a b m)=(match b.2.1.findIdx? (kB m.1 m.2.1)with|some k=>viewAt a b m (b.2.1.getD k Ht)|none=>false):=by
 cases hq:b.2.1.findIdx? (kB m.1 m.2.1)with
 |none=>rw[List.findIdx?_eq_none_iff]at hq;rw[Bool.eq_false_iff,ne_eq,List.any_eq_true];rintro⟨n,hn,hv⟩;have:=hq n hn;unfold viewAt at hv;simp only[ae,aQ]at hv;simp[kB,hv.1,hv.2.1]at this
 |some k=>
  rw[List.findIdx?_eq_some_iff_getElem]at hq;obtain⟨hk,hpk,gS⟩:=hq;simp only[cL hk];rw[cq,List.any_eq_true];constructor;rintro⟨n,hn,hv⟩;obtain⟨j,hj,rfl⟩:=eZ hn;have Pn:=hv;unfold viewAt at Pn;simp only[ae,aQ]at Pn;have hat:kB m.1 m.2.1 b.2.1[j]=true:=by simp[kB,Pn.1,Pn.2.1]
  rcases Nat.lt_trichotomy j k with hjk|hjk|hjk;have:=gS j hjk;rw[hat]at this;simp at this;subst hjk;exact hv;have:=ae9 hb hj hjk;rw[<-Pn.1,<-Pn.2.1,hpk]at this;cases this;intro hv;exact⟨_,bk hk,hv⟩
theorem acw (a b:Host)(ha:dF a.2.1=true)(hb:dF b.2.1=true)(v4:Bool)(k0:Int->ax R)(k1:Bool->Int->ax R)(fin hit:ax R)(h0:∀x,k0 x=fin)(h1:∀x,k1 false x=hit): aX (mO k0 k1 v4 a.2.1 (a.2.1.length:Int) a b) fuel 0=cond (Tx a b) fin hit:=by
 have la:=Xr ha;have lb:=Xr hb;refine oE (λm=>b.2.1.any (viewAt a b m)) a.2.1 (by omega) (λi hi nx=>?_) (λnx=>?_);simp only[mO];rw[jK,ak (n:=(i:Int)+1),bf hi,XY hb];simp only[ah,ab,KG _ _ _ (show b.2.1.length<=10^9 by omega),NS];have m0:=acR ha (bk hi);cases hq:b.2.1.findIdx? (kB a.2.1[i].1 a.2.1[i].2.1)with
 |none=>exact h1 _
 |some k=>
  rw[List.findIdx?_eq_some_iff_getElem]at hq;obtain⟨hk,hpk,gS⟩:=hq;simp only[cL hk];have n0:=acR hb (bk hk);rw[aq (show¬(k:Int)<0 by omega),bf hk];generalize b.2.1[k]=n at*;generalize a.2.1[i]=m at*;simp only[kB,ae,aQ]at hpk;unfold viewAt;rw[show(m.1==n.1)=true by simp[hpk.1],show(m.2.1==n.2.1)=true by simp[hpk.2],show(m.2.2.2==n.2.2.2)=(n.2.2.2==m.2.2.2) from Bool.beq_comm];simp only[af,ab];cases n.2.2.2==m.2.2.2 with
  |false=>exact h1 _
  |true=>
   have g1:decide (m.2.2.1>=(a.1.length:Int))= !decide (m.2.2.1<(a.1.length:Int)):=by rw[cq];simp
   have g2:decide (n.2.2.1>=(b.1.length:Int))= !decide (n.2.2.1<(b.1.length:Int)):=by rw[cq];simp
   simp only[af,aj,bp];rw[g1,g2];by_cases c1:m.2.2.1<(a.1.length:Int);by_cases c2:n.2.2.1<(b.1.length:Int);rw[ar c1,ar c2,Xf [] m0 c1,Xf [] n0 c2,h1];simp only[aj,af,ab,bp];rfl;rw[ar c1,aq c2,h1];rfl;rw[aq c1,h1];rfl
 simp only[mO];rw[cB,h0];rfl
def Gu (a b:Host):Bool:=fy a&&(fy b&&(xm a.2.2 b.2.2&&(xm (a.2.1.length:Int) (b.2.1.length:Int)&&Tx a b)))
theorem Nj (k:fy h=true):dF h.2.1=true:=by unfold fy at k;simp only[ae]at k;exact k.2.1
theorem acH (a b:Host)(za:Oi a)(zb:Oi b):vF a b=some (Gu a b):=by unfold vF Gu;simp only[tB _ za.z,tB _ zb.z,U8 a b za,ab];cases ha:fy a;rfl;cases hb:fy b;rfl;rw[acw a b (Nj ha) (Nj hb) _ _ _ (some true) (some false) (λ_=>rfl) (λ_=>rfl)];simp only[ab,bL,cT,cN,cF,aj,af,bp,bne,QK];cases xm a.2.2 b.2.2<;>cases xm (a.2.1.length:Int) (b.2.1.length:Int)<;>cases Tx a b<;>rfl
def mapsIn (h:Host):Prop:=∀m∈h.2.1,m.2.2.1<(h.1.length:Int)
theorem Q0 (a:α):xm a a=true:=by unfold xm;simp
theorem aad (g:Good n h)(hn:n<=1000000000000)(hm:mapsIn h):Gu h h=true:=by
 unfold Gu;rw[g.ok hn,Q0,Q0];have:Tx h h=true:=by unfold Tx;rw[aG];intro m hh;rw[List.any_eq_true];refine⟨m,hh,?_⟩;unfold viewAt;have:=hm m hh;simp only[beq_self_eq_true,bp,ar this]
 rw[this];rfl
theorem afD {n:Nat}(z:BG n h)(hn:n<=10^9):Oi h:=by have y:cX 1000000000 dC h:=z.z.mono hn;exact⟨z.sz hn,λx hx=>(y.2.2.1.2.2.1.2 x hx).2.2.1,y.2.2.2.1.1,y.2.2.2.2.1.1,y.2.2.2.2.2.1.1,y.2.2.2.2.2.2.1.1,y.2.2.2.2.2.2.2.2.2.1.1,y.2.2.2.2.2.2.2.2.2.2.2.1.1,y.2.2.2.2.2.2.2.2.2.2.2.2.1.1,y.2.2.2.2.2.2.2.2.2.2.2.2.2.1.1⟩
theorem Zr {a b:Host}(h:mapsIn a)(s:mc a b):mapsIn b:=by intro m hm;rw[s.maps]at hm;rw[s.mem];exact h m hm
theorem Sp (p x:Int):∀l:cw,x∈Hl p l↔x=p\/x∈l
 |[]=>by simp[Hl]
 |y::r=>by unfold Hl;split;simp;rw[bO,Sp p x r,bO];exact or_left_comm
theorem Zv (s:Move)(p x:Int):x∈(uM s p).2.1↔x∈s.2.1\/x=p:=by unfold uM;split;rename_i h;rw[List.any_eq_true]at h;obtain⟨y,hy,e⟩:=h;have e:=aQ.1 e;subst e;constructor;exact Or.inl;rintro(h|rfl);exact h;exact hy;show x∈Hl p s.2.1↔_;rw[Sp];exact or_comm
theorem NG (x:Int):∀(l:cw)(s:Move),x∈(l.foldl uM s).2.1↔x∈s.2.1\/x∈l
 |[],s=>by simp
 |p::l,s=>by rw[cZ,NG x l,Zv,bO,or_assoc]
theorem K5:∀(l:cw)(s:Move),(l.foldl uM s).2.2=s.2.2
 |[],_=>rfl
 |p::l,s=>by rw[cZ,K5 l];unfold uM;split<;>rfl
theorem Ir (a:bM):∀(b:bM)(i p:Nat),p<b.length->a[i+p]?≠b[p]?->((i+p:Nat):Int)∈gB a b i
 |[],_,p,h,_=>by simp at h
 |q::r,i,0,_,h=>by have h:a[i]?≠some q:=h;unfold gB;rw[aH h];simp
 |q::r,i,p+1,h,h2=>by unfold gB;refine ay.2 (Or.inr ?_);have:=Ir a r (i+1) p (by simpa using h) (by rw[show i+1+p=i+(p+1) by omega];simpa using h2);rw[show i+1+p=i+(p+1) by omega]at this;exact this
theorem Lr (m:bM):∀(l:cw)(s:Move),s.1.length=m.length->∀p,p<m.length->(l.foldl (iP m) s).1[p]?=if(p:Int)∈l then m[p]? else s.1[p]?
 |[],s,_,p,_=>by simp
 |q::l,s,hs,p,hp=>by
  rw[cZ,Lr m l (iP m s q) (by rw[Lq];exact hs) p hp];by_cases h:(p:Int)∈l;rw[aE h,aE (ec _ h)];rw[aH h];unfold iP;by_cases hq:q=(p:Int)
  subst hq;rw[aE (List.mem_cons_self ..),aE ⟨by omega,by omega,by omega⟩];show(s.1.set (p:Int).toNat (m.getD (p:Int).toNat []))[p]?=m[p]?;rw[az,List.getElem?_set_self (by omega),al hp,cm,al hp];rfl;have hn:¬(p:Int)∈q::l:=by simp only[bO,not_or];exact⟨λe=>hq e.symm,h⟩
  rw[aH hn];split;show(s.1.set q.toNat _)[p]?=_;rw[aO (by omega)];rfl
theorem IC (m:bM):∀(l:cw)(s:Move),0<=s.2.2->s.2.2+(l.length:Int)<=1000000000000->s.2.2<=(l.foldl (iP m) s).2.2/\(l.foldl (iP m) s).2.2<=s.2.2+(l.length:Int)
 |[],s,_,_=>by simp
 |q::l,s,h0,h1=>by
  simp only[bc]at h1;have e:(iP m s q).2.2=s.2.2+1\/(iP m s q).2.2=s.2.2:=by unfold iP;split;exact Or.inl (ak);exact Or.inr rfl
  have i:=IC m l (iP m s q) (by omega) (by omega);rw[cZ,bc];push_cast;omega
structure Mov (v:Move) (m:List Bytes) (k:Nat):Prop where
 len:v.1.length=m.length
 same:∀p,p<m.length->(p:Int)∈v.2.1\/v.1[p]?=m[p]?
 dirty:v.2.1.length<=2000*k
 sent:(m.length:Int)<=v.2.2/\v.2.2<=2000+2000000*(k:Int)
theorem acV {v:Move}(q:Mov v m k){m2:bM}(e:m2.length=m.length)(hl:m.length<=2000):Mov ((gB m m2 0).foldl uM v) m2 (k+1):=by refine⟨by rw[ET,e];exact q.len,λp hp=>?_,?_,?_⟩;rw[NG,ET];by_cases h:m[p]?=m2[p]?;rcases q.same p (by omega)with g|g;exact Or.inl (Or.inl g);exact Or.inr (g.trans h);have:=Ir m m2 0 p hp (by rw[ca];exact h);rw[ca]at this;exact Or.inl (Or.inr this);have h1:=NM (gB m m2 0) v;have h2:=B4 m m2 0;have h3:=q.dirty;omega;have:=q.sent;rw[K5,e];push_cast;omega
theorem NH {v:Move}(q:Mov v m k)(hl:m.length<=2000:=by omega)(hk:k<=100:=by omega):Mov (v.2.1.foldl (iP m) (v.1,([]:cw),v.2.2)) m (k+1)/\(v.2.1.foldl (iP m) (v.1,([]:cw),v.2.2)).2.1=[]/\(v.2.1.foldl (iP m) (v.1,([]:cw),v.2.2)).1=m:=by
 have hd:=Gs m v.2.1 (v.1,([]:cw),v.2.2);have hn:=EW m v.2.1 (v.1,([]:cw),v.2.2);have hg:=Lr m v.2.1 (v.1,([]:cw),v.2.2) q.len;have hq:=q.sent;have hdl:=q.dirty;have hs:=IC m v.2.1 (v.1,([]:cw),v.2.2) (by show 0<=v.2.2;omega) (by show v.2.2+_<=_;omega);have all:∀p,p<m.length->(v.2.1.foldl (iP m) (v.1,([]:cw),v.2.2)).1[p]?=m[p]?:=by intro p hp;rw[hg p hp];split;rfl;rename_i h;exact(q.same p hp).resolve_left h
 have hn:(v.2.1.foldl (iP m) (v.1,([]:cw),v.2.2)).1.length=m.length:=hn.trans q.len;refine⟨⟨hn,λp hp=>Or.inr (all p hp),by rw[hd];simp,?_⟩,hd,?_⟩;have h1:v.2.2<=_:=hs.1;have h2:_<=v.2.2+(v.2.1.length:Int):=hs.2;push_cast;omega;apply cn;intro p;by_cases hp:p<m.length;exact all p hp;rw[bh (by omega),bh (by omega)]
theorem aeO (v:Move)(h:Host)(z:cX 1000000000 dC h)(h1:v.1.length<=10^9)(h2:v.2.1.length<=10^9):rY v h=some (O2 v h):=by have hl:=EW h.1 v.2.1 (v.1,([]:cw),v.2.2);simp only[rY,lp h z,D4 v h.1,CC _ h.1 (show(v.2.1.foldl (iP h.1) (v.1,([]:cw),v.2.2)).1.length<=10^9 by rw[hl];exact h1),ab];rfl
theorem VJ (a:cw)(ha:XW (.sl (.int .u8)) a):Bl a=some true:=by
 refine Ends.true ?_;unfold Bl;refine agE rfl λhl=>?_;rw[af];refine(Wz hl).bind λr2 p2=>?_;obtain⟨h,l⟩:=r2;simp only at p2⊢;obtain⟨f,hn,anm⟩:=p2;have hm:h.1.length<=2000:=f.sz.z.1.1;have es:tP h.1=some (h.1,([]:cw),(h.1.length:Int)):=by unfold tP;rw[eS _];rfl
 rw[es,ab];have q0:JE 2000 h 0 h:=⟨f.UT.mono,by simpa using f.sz,mc.refl h⟩
 have m0:Mov (h.1,([]:cw),(h.1.length:Int)) h.1 0:=⟨rfl,λp _=>Or.inr rfl,by simp,⟨dL _,by show(h.1.length:Int)<=_;omega⟩⟩
 refine Ends.wv (λx=>0<=x.1/\x.1<=(l.length:Int)/\JE 2000 h x.1.toNat x.2.1/\Mov x.2.2 x.2.1.1 (2*x.1.toNat)) (λx=>((l.length:Int)-x.1).toNat) ⟨by simp,by simp,q0,m0⟩ (by simp;omega) λx nx hx AJ=>?_;obtain⟨i,g,v⟩:=x;obtain⟨x1,x2,x3,x4⟩:=hx;simp only at x1 x2 x3 x4;obtain⟨n,rfl⟩:∃n:Nat,i=n:=⟨i.toNat,by omega⟩
 rw[az]at x3 x4;have hgm:=x3.stay.mem;unfold wQ;refine Ends.cond (λk=>?_) λk=>?_;have k:=bl k;simp only at k⊢;have hi:n<l.length:=by omega
 have ei:au ((n:Int)+1)=((n+1:Nat):Int):=by rw[ak];rfl
 have sb:sub l (n:Int) ((n+1:Nat):Int)=some [l[n]]:=by rw[Jy _ _ _,bJ hi,show n+1-n=1 by omega];rfl
 have hx:=anm _ (bk hi);have fe:=aeA (n:=2000+645000*n) ⟨by omega,by omega⟩ g [l[n]] (by simp) (by intro y hy;rw[cf.1 hy];exact hx) (x3.UT.mono) x3.sz;have st:=Ha (n:=2000) (by omega) (by omega) x3 l[n] 0;have e2:abX g [l[n]]=xf (g,0) l[n]:=rfl;rw[ei,sb,ab,fe,ab,e2];generalize xf (g,0) l[n]=y at st⊢;obtain⟨y,ys⟩:=y;simp only at st;have hym:=st.stay.mem;have nt:=acV x4 (m2:=y.1) (by omega) (by omega);have rd:=NH nt;have hd:=nt.dirty;show Ends (aa (kc v g.1 y.1) _) _;rw[acy v g.1 y.1 (by rw[x4.len];omega) (by have:=x4.dirty;omega) (by omega),ab];have hlen:=nt.len;generalize (gB g.1 y.1 0).foldl uM v=w at nt rd hd hlen⊢;have nx1:∀u,Mov u y.1 (2*(n+1))->Ends (nx (((n+1:Nat):Int),y,u)) (λb=>b=true):=λu mu=>AJ _ ⟨by show(0:Int)<=((n+1:Nat):Int);omega,by show((n+1:Nat):Int)<=_;omega,by rw[az];exact st,by rw[az];exact mu⟩ (by show((l.length:Int)-((n+1:Nat):Int)).toNat<((l.length:Int)-(n:Int)).toNat;omega);refine(aiO ha hl (i:=(n:Int)) (by omega) (by omega)).bind λr7 p7=>Ends.ifn (by decide) (Ends.cond (λ_=>?_) λ_=>?_);rw[D4 w y.1,ab];rw[rd.2.1];exact nx1 _ rd.1;exact nx1 _ ⟨nt.len,nt.same,by have:=nt.dirty;omega,by have:=nt.sent;push_cast at this⊢;omega⟩;have k:=eK k;simp only at k⊢;have rd:=NH x4;have gm:mapsIn g:=Zr f.maps x3.stay;have sv:=aad x3.UT (by omega) gm;have vz:=afD x3.sz (by omega);have hd:=x4.dirty;have fin:O2 v g=(g,true):=by unfold O2;rw[rd.2.2,Q1 rfl]
 rw[aeO v g (x3.sz.z.mono) (by rw[x4.len];omega) (by omega),ab,fin];simp only[ah];rw[acH _ _ vz vz,ab,sv,ah,beq_self_eq_true,ah];exact Ends.pure (ar x4.sent.1)
end
end Go.Pu
