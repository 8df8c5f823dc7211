import Derived.Test.YtnmppgnbjfdffaaGreatPuX2
namespace Go.Pu
open Go.Dn
open Int (tmod)
set_option linter.unusedSimpArgs false
set_option linter.unusedVariables false
noncomputable section
variable {c:Oi} {f:Filter} {h:Host} {b d n x:Int} {i k:Nat} {p:cR} {q:bR} {s:cS} {t:dD} {R α:Type} {v:Vector} {l:aw aA} {ps:aw aN} {a:cw} {m:bM} {r:lN}
/- Draws: keys, spreads, rules, flow tables, steerings, filters. -/
theorem ahG (h:Cu c):Ends (zF c) λr=>r.1.length=16/\Cu r.2:=by unfold zF;exact(GJ h 16).bind λr hr=>Ends.pure ⟨by have:=hr.1.2.1 (by omega) (by omega);omega,hr.2⟩
theorem Yh (h:Cu c):Ends (xF c) λr=>Cu r.2:=by unfold xF;refine(iG (P:=λ_=>True) h (by decide) (by simp)).bind λr1 p1=>(Kv p1.2).bind λr2 p2=>(gv p2.2 (by decide)).bind λr3 p3=>?_;exact(iG (P:=λ_=>True) p3.2 (by decide) (by simp)).bind λr4 p4=>Ends.pure p4.2
theorem aau (h:Cu c):Ends (uv c) λr=>(r.1.1.1.length=16/\r.1.1.2.length<=8/\1<=r.1.2/\r.1.2<=4)/\Cu r.2:=by unfold uv;refine(gv h (by decide)).bind λr1 p1=>(ahG p1.2).bind λr2 p2=>(iG (P:=λx=>0<=x/\x<=8) p2.2 (by decide) (by decide)).bind λr3 p3=>?_;have a1:=p1.1;have a3:=p3.1;rw[ak (n:=1+r1.1)];refine Ends.wv (λx=>0<=x.1/\x.1+(x.2.2.2.length:Int)=r3.1/\x.2.2.1.length=16/\Cu x.2.1) (λx=>x.1.toNat) ⟨by omega,by simp,p2.1,p3.2⟩ (by simp;omega) λx nx hx hn=>?_;unfold uw;refine Ends.cond (λk=>?_) λk=>Ends.pure ⟨⟨hx.2.2.1,by have:=hx.1;have:=hx.2.1;show x.2.2.2.length<=8;omega,by show(1:Int)<=1+r1.1;omega,by show 1+r1.1<=(4:Int);omega⟩,hx.2.2.2⟩;have k:=bl k;rw[ak (n:=x.1-1) (by omega) (by have:=hx.2.1;omega)];refine(Fo hx.2.2.2 _).bind λr4 p4=>Ends.room (by have:=hx.2.1;simp;omega) (hn _ ⟨?_,?_,hx.2.2.1,p4.2⟩ ?_);show 0<=x.1-1;omega;show x.1-1+((x.2.2.2++[r4.1]).length:Int)=r3.1;have:=hx.2.1;simp;omega;show(x.1-1).toNat<x.1.toNat;omega
theorem afg (h:Cu c):Ends (xH c) λr=>Cu r.2:=by unfold xH;refine(gv h (by decide)).bind λr1 p1=>(iG (P:=λ_=>True) p1.2 (by decide) (by simp)).bind λr2 p2=>(Kv p2.2).bind λr3 p3=>?_;refine(iG (P:=λ_=>True) p3.2 (by decide) (by simp)).bind λr4 p4=>(iG (P:=λ_=>True) p4.2 (by decide) (by simp)).bind λr5 p5=>(iG (P:=λ_=>True) p5.2 (by decide) (by simp)).bind λr6 p6=>?_;refine(iG (P:=λ_=>True) p6.2 (by decide) (by simp)).bind λr7 p7=>(iG (P:=λ_=>True) p7.2 (by decide) (by simp)).bind λr8 p8=>?_;exact Ends.cond (λ_=>(gv p8.2 (by decide)).bind λr9 p9=>Ends.pure p9.2) λ_=>Ends.pure p8.2
theorem adl (h:Cu c):Ends (vY c) λr=>r.1.length<=4/\Cu r.2:=by unfold vY;refine(gv h (by decide)).bind λr1 p1=>?_;have a1:=p1.1;refine Ends.wv (λx=>0<=x.2.1/\x.2.1+(x.1.length:Int)=r1.1/\Cu x.2.2) (λx=>x.2.1.toNat) ⟨a1.1,by simp,p1.2⟩ (by simp;omega) λx nx hx hn=>?_;unfold vf;refine Ends.cond (λk=>?_) λk=>Ends.pure ⟨by have:=hx.1;have:=hx.2.1;show x.1.length<=4;omega,hx.2.2⟩;have k:=bl k;rw[ak (n:=x.2.1-1) (by omega) (by have:=hx.2.1;omega)];refine(afg hx.2.2).bind λr2 p2=>Ends.room (by have:=hx.2.1;simp;omega) (hn _ ⟨?_,?_,p2⟩ ?_);show 0<=x.2.1-1;omega;show x.2.1-1+((x.1++[r2.1]).length:Int)=r1.1;have:=hx.2.1;simp;omega;show(x.2.1-1).toNat<x.2.1.toNat;omega
theorem LZ (t:aw Slot)(f:iz):∀n k,walk t f n k= -1\/(0<=walk t f n k/\walk t f n k<8)
 |0,_=>Or.inl rfl
 |n+1,k=>by rw[walk];have:=DJ f k;split;exact Or.inl rfl;split;exact Or.inr ⟨by omega,by omega⟩;exact LZ t f n (k+1)
theorem aaB {t:aw Slot}(h:nT t=true):t.length=8:=by unfold nT at h;simp only[ae,aS]at h;exact h.1
theorem ahY (t:aw Slot)(f:iz)(q:Int)(hl:t.length<=1000):Ends (xA t f q) λr=>r.1.length=t.length:=by
 unfold xA;rw[Eg _ (by omega),ab,N7,ab];refine Ends.bind (P:=λb=>b=false->nT t=true) ?_ λb hb=>Ends.cond (λ_=>Ends.pure rfl) λJs=>?_;refine Ends.cond (λ_=>Ends.pure λh=>by cases h) λh=>?_;rw[eu,ab];exact Ends.pure λ_=>by simpa using h
 ·have h8:=aaB (hb Js);rw[Td _ _ h8,ab];have hw:=LZ t f 8 0;refine Ends.wv (λx=>(x.1= -1\/(0<=x.1/\x.1<8))/\0<=x.2/\x.2<=8) (λx=>(8-x.2).toNat) ⟨hw,by simp,by simp⟩ (by simp) λx nx hx hn=>?_;unfold wW;refine Ends.bind (P:=λb=>b=true->x.2<8) (Ends.cond (λh=>Ends.pure λ_=>bl h) λh=>Ends.pure λh=>by cases h) λb hb=>Ends.cond (λJs=>?_) λ_=>?_
  ·have hb:=hb Js;rw[Te,ab];have hh:=Ku f;rw[ak (n:=Ao f+x.2),ak (n:=x.2+1)];have m1:=Int.tmod_nonneg 8 (a:=Ao f+x.2) (by omega);have m2:=Int.tmod_lt_of_pos (Ao f+x.2) (b:=8) (by omega);refine Ends.ifn (by decide) (Ends.idx m1 (by omega) λ_=>Ends.cond (λ_=>hn _ ⟨Or.inr ⟨m1,m2⟩,?_,?_⟩ ?_) λ_=>hn _ ⟨hx.1,?_,?_⟩ ?_);all_goals simp only
   all_goals omega
  refine Ends.cond (λ_=>Ends.pure rfl) λh=>?_;have h:=eK h;have h0:0<=x.1/\x.1<8:=by omega
  exact Ends.idx h0.1 (by omega) λ_=>Ends.idx h0.1 (by omega) λ_=>Ends.pure (by simp)
structure vm (s:cS):Prop where
 r:s.1.length<=100
 t:s.2.1.length<=100
 k:s.2.2.1.length=16
 p:s.2.2.2.length<=100
theorem adB (h:Cu c):Ends (qN c) λr=>(vm r.1.1/\1<=r.1.2/\r.1.2<=4)/\Cu r.2:=by
 unfold qN;have RH:lU=some (List.replicate 8 (0,(0,0,0,0,0),0)):=by unfold lU;rw[aE (by decide),aP (by decide)];rfl
 rw[RH,ab];refine(aau h).bind λr2 p2=>(vM p2.2 2).bind λr3 p3=>?_;have t11:∀(n:Int)(s:cS)(c':Oi),n<=4->vm s->Cu c'->Ends (aX (gU (λ(_:Int) Fh H2=>some ((H2,r2.1.2),Fh)) r2.1.2 (([]:aw iA),([]:aw Slot),([]:Bytes),([]:cw))) fuel (n,c',s)) λr:(cS×Int)×Oi=>(vm r.1.1/\1<=r.1.2/\r.1.2<=4)/\Cu r.2:=by intro n s c' hn hs hc;refine Ends.wv (λx=>x.1<=4/\vm x.2.2/\Cu x.2.1) (λx=>x.1.toNat) ⟨hn,hs,hc⟩ (by simp;omega) λx nx hx hn=>?_;unfold gU;refine Ends.cond (λk=>?_) λk=>Ends.pure ⟨⟨hx.2.1,p2.1.2.2⟩,hx.2.2⟩;have k:=bl k;rw[ak (n:=x.1-1) (by omega) (by have:=hx.1;omega)];refine(Yh hx.2.2).bind λuG p11=>(Fo p11 _).bind λsM p12=>(ahY _ _ _ (by have:=hx.2.1.t;omega)).bind λxh p13=>hn _ ⟨?_,⟨hx.2.1.r,by have:=hx.2.1.t;show xh.1.length<=100;omega,hx.2.1.k,hx.2.1.p⟩,p12.2⟩ ?_;show x.1-1<=4;have:=hx.1;omega;show(x.1-1).toNat<x.1.toNat;omega
 have t7:∀(s:cS)(c' b:Oi),vm s->s.1.length<=4->Cu c'->Ends (aX (jI (λ(_:Int) y9=>aa (cd c' 4) λqW=>aX (gU (λ(_:Int) Fh H2=>some ((H2,r2.1.2),Fh)) r2.1.2 (([]:aw iA),([]:aw Slot),([]:Bytes),([]:cw))) fuel (qW.1,qW.2,y9)) r2.1.2 b (([]:aw iA),([]:aw Slot),([]:Bytes),([]:cw))) fuel (0,s)) λr:(cS×Int)×Oi=>(vm r.1.1/\1<=r.1.2/\r.1.2<=4)/\Cu r.2:=by intro s c' b hs hl hc;refine Ends.wv (λx=>0<=x.1/\x.2.1.length=s.1.length/\vm x.2) (λx=>((s.1.length:Int)-x.1).toNat) ⟨by simp,rfl,hs⟩ (by simp;omega) λx nx hx hn=>?_;unfold jI;refine Ends.cond (λk=>?_) λk=>(gv hc (by decide)).bind λqW p10=>t11 _ _ _ (by have:=p10.1;omega) hx.2.2 p10.2;have k:=bl k;rw[ak (n:=x.1+1) (by omega) (by have:=hx.2.1;omega)];refine Ends.idx hx.1 k λ_=>Ends.ifn (by have:=p2.1.2.2;omega) (Ends.idx hx.1 k λ_=>Ends.idx hx.1 k λ_=>hn _ ⟨?_,?_,⟨?_,hx.2.2.t,hx.2.2.k,hx.2.2.p⟩⟩ ?_);show 0<=x.1+1;have:=hx.1;omega;show(List.set _ _ _).length=_;rw[aC];exact hx.2.1;show(List.set _ _ _).length<=100;rw[aC];exact hx.2.2.r;show((s.1.length:Int)-(x.1+1)).toNat<_;have:=hx.2.1;omega
 refine Ends.cond (λ_=>(adl p3).bind λr4 p4=>t7 _ _ _ ⟨by have:=p4.1;show r4.1.length<=100;omega,by simp,p2.1.1,by have:=p2.1.2.1;show r2.1.1.2.length<=100;omega⟩ p4.1 p4.2) λ_=>t7 _ _ _ ⟨by simp,by simp,p2.1.1,by have:=p2.1.2.1;show r2.1.1.2.length<=100;omega⟩ (by simp) p3
theorem Q8 (h:Cu c):Ends (uA c) λr=>(r.1.1=2/\(r.1.2.2=[7]\/r.1.2.2=[]))/\Cu r.2:=by unfold uA;exact(vM h 4).bind λr1 p1=>(vM p1 2).bind λr2 p2=>Ends.cond (λ_=>Ends.pure ⟨⟨rfl,Or.inl rfl⟩,p2⟩) λ_=>Ends.pure ⟨⟨rfl,Or.inr rfl⟩,p2⟩
def I4 (a:Act):Prop:=a.2.1.2.2.2.2.2.2.2.2.2.2.2.2.2.2.2.length<=1000/\a.2.2.2.2.1.length<=382/\0<=a.1/\a.1<=6
def Fi (r:Bool)(a:Act):Prop:=I4 a/\(a.1=6->r=true)
theorem Fk {r:Bool}{l:aw Act}{a:Act}(h:Fi r a):(l++[a]).length<=l.length+1/\∀y∈l++[a],y∈l\/Fi r y:=by refine⟨by simp,λy hy=>?_⟩;rcases ay.1 hy with hy|hy;exact Or.inl hy;rw[cf.1 hy];exact Or.inr h
theorem TP {Q:R->Prop}{k0:aw Act->Oi->ax R}{r:Bool}{l:aw Act}{i:Int}{b:Bool}(hl:l.length<=1000)(hc:Cu c)(hk:∀l' c',l'.length<=l.length+1->(∀y∈l',y∈l\/Fi r y)->Cu c'->Ends (k0 l' c') Q):Ends (km k0 r l ps i x b c) Q:=by
 have add:∀(a:Act)(c':Oi),Fi r a->Cu c'->Ends (k0 (l++[a]) c') Q:=λa c' ha xg=>by have k:=Fk (r:=r) (l:=l) (a:=a) ha;exact hk _ _ k.1 k.2 xg
 have keep:∀c',Cu c'->Ends (k0 l c') Q:=λc' xg=>hk _ _ (by omega) (λy hy=>Or.inl hy) xg;unfold km;refine Ends.cond (λ_=>(gv hc (by decide)).bind λr9 p9=>Ends.room (by simp;omega) (by exact add _ _ (by simp[Fi,I4]) p9.2)) λ_=>?_;refine Ends.cond (λ_=>(NT hc).bind λqW p10=>(gv p10.2 (by decide)).bind λuG p11=>(iG (P:=λ_=>True) p11.2 (by decide) (by simp)).bind λsM p12=>Ends.room (by simp;omega) (by exact add _ _ ⟨⟨by have:=p10.1.2.1;show qW.1.2.2.2.2.2.2.2.2.2.2.2.2.2.2.2.length<=1000;omega,by simp⟩,by simp⟩ p12.2)) λ_=>?_;refine Ends.cond (λ_=>Ends.room (by simp;omega) (by exact add _ _ (by simp[Fi,I4]) hc)) λ_=>?_;exact Ends.cond (λ_=>Ends.cond (λkr=>Ends.room (by simp;omega) (by exact add _ _ ⟨by simp[I4],λ_=>kr⟩ hc)) λ_=>keep _ hc) λ_=>keep _ hc
theorem aaR {Q:R->Prop}{k0:aw Act->Oi->ax R}{r:Bool}{l:aw Act}{i:Int}{b:Bool}(hl:l.length<=1000)(hc:Cu c)(hk:∀l' c',l'.length<=l.length+1->(∀y∈l',y∈l\/Fi r y)->Cu c'->Ends (k0 l' c') Q):Ends (nk k0 r l ps i x b c) Q:=by unfold nk;refine Ends.cond (λ_=>Ends.room (by simp;omega) ?_) λ_=>?_;have k:=Fk (r:=r) (l:=l) (a:=(4,(0,0,0,0,0,0,0,0,0,0,0,0,0,0,0,([]:Bytes)),0,0,([]:Bytes),0)) (by simp[Fi,I4]);exact hk _ _ k.1 k.2 hc;exact Ends.cond (λ_=>TP hl hc hk) λ_=>Ends.cond (λ_=>TP hl hc hk) λ_=>TP hl hc hk
theorem afJ {Q:R->Prop}{k0:aw Act->Oi->ax R}{r:Bool}{l:aw Act}{i:Int}{x:Bytes}(hl:l.length<=900)(hx:x.length<=382)(hc:Cu c)(hk:∀l' c',l'.length<=l.length+2->(∀y∈l',y∈l\/Fi r y)->Cu c'->Ends (k0 l' c') Q):Ends (oy k0 r l ps i x c) Q:=by unfold oy;have k:=Fk (r:=r) (l:=l) (a:=(2,(0,0,0,0,0,0,0,0,0,0,0,0,0,0,0,([]:Bytes)),0,0,x,0)) ⟨⟨by simp,hx,by simp,by simp⟩,by simp⟩;generalize hL:l++[((2,(0,0,0,0,0,0,0,0,0,0,0,0,0,0,0,([]:Bytes)),0,0,x,0):Act)]=L at k⊢;have hk2:∀l' c',l'.length<=L.length+1->(∀y∈l',y∈L\/Fi r y)->Cu c'->Ends (k0 l' c') Q:=λl' c' h1 h2 h3=>hk _ _ (by omega) (λy hy=>by rcases h2 y hy with h|h;exact k.2 y h;exact Or.inr h) h3;refine Ends.room (by simp;omega) ((gv hc (by decide)).bind λr8 p8=>?_);refine Ends.cond (λ_=>Ends.room (by simp;omega) ?_) λ_=>?_;have k:=Fk (r:=r) (l:=L) (a:=(3,(0,0,0,0,0,0,0,0,0,0,0,0,0,0,0,([]:Bytes)),0,0,([]:Bytes),0)) (by simp[Fi,I4]);exact hk2 _ _ k.1 k.2 p8.2;exact Ends.cond (λ_=>aaR (by omega) p8.2 hk2) λ_=>aaR (by omega) p8.2 hk2
theorem aiH {Q:R->Prop}{k0:aw Act->Int->Oi->ax R}{r:Bool}{l:aw Act}{i:Int}(hl:l.length<=900)(h0:0<=i)(h1:i<(ps.length:Int))(hn:ps.length<=1000)(hc:Cu c)(hk:∀l' c',l'.length<=l.length+2->(∀y∈l',y∈l\/Fi r y)->Cu c'->Ends (k0 l' (i+1) c') Q):Ends (sF k0 r l ps i c) Q:=by
 have e:au (i+1)=i+1:=ak;unfold sF;refine Ends.idx h0 h1 λhi=>?_;have hf:=Ng ps[i.toNat];rw[aal,ab];refine(vM hc 12).bind λr4 p4=>Ends.cond (λ_=>?_) λ_=>afJ hl hf p4 λl' c' g1 g2 g3=>by unfold ox;rw[e];exact hk _ _ g1 g2 g3
 refine(Fo p4 _).bind λr5 p5=>(GJ p5.2 1).bind λr6 p6=>?_;rw[GA _ _ _,ab];exact afJ hl (by rw[wB];exact hf) p6.2 λl' c' g1 g2 g3=>by unfold ox;rw[e];exact hk _ _ g1 g2 g3
theorem aeh (h:Cu c)(r:Bool):Ends (xN c r) λx=>(x.1.length<=20/\∀a∈x.1,Fi r a)/\Cu x.2:=by unfold xN;refine(ae4 h (m:=10) (by omega) (by omega)).bind λr1 p1=>?_;have hn:=p1.1.2.2;refine Ends.wv (λx=>0<=x.2.1/\(x.1.length:Int)<=2*x.2.1/\x.2.1<=(r1.1.length:Int)/\(∀a∈x.1,Fi r a)/\Cu x.2.2) (λx=>((r1.1.length:Int)-x.2.1).toNat) ⟨by simp,by simp,by simp,by simp,p1.2⟩ (by simp;omega) λx nx hx hn=>?_;unfold xb;refine Ends.cond (λk=>?_) λk=>Ends.pure ⟨⟨by have:=hx.2.1;have:=hx.2.2.1;show x.1.length<=20;omega,hx.2.2.2.1⟩,hx.2.2.2.2⟩;have k:=bl k;have h2:=hx.2.1;refine aiH (by omega) hx.1 k (by omega) hx.2.2.2.2 λl' c' g1 g2 g3=>hn _ ⟨?_,?_,?_,?_,g3⟩ ?_;show 0<=x.2.1+1;have:=hx.1;omega;show(l'.length:Int)<=2*(x.2.1+1);omega;show x.2.1+1<=(r1.1.length:Int);omega;intro a ha;rcases g2 a ha with h|h;exact hx.2.2.2.1 a h;exact h;show((r1.1.length:Int)-(x.2.1+1)).toNat<((r1.1.length:Int)-x.2.1).toNat;omega
theorem VD (h:cE m=true)(a:Int)(s:Bytes):cE (qR m a s).1=true:=by unfold qR;cases hw:gr m a (s.length:Int);exact h;simp only[gr,ae,aB]at hw;exact qC.2 (xS s.length (qC.1 hw.1) (by omega)).1
theorem Ss:∀(q:aw (Int×Int)){m:bM}(s:Bytes),cE m=true->cE (Lm q m s)=true
 |[],_,_,h=>h
 |p::q,m,s,h=>by rw[Lm];exact Ss q _ (VD h _ _)
theorem CG (h:cE m=true)(l:aw aA)(d a:Int)(s:Bytes)(w:Bool):cE (hH l m d a s w).1=true:=by unfold hH;cases (kD l m d a (s.length:Int) w).2 with|false=>exact h|true=>exact Ss _ _ h
theorem Iu (h:cE m=true)(l:aw aA)(d:Int)(r:lN)(s:Bytes):cE (cM l m d r s).1=true:=by
 unfold cM;cases (nW r==0)||((s.length:Int) !=16);case true=>exact h
 cases (hH l m d (om r r.2.2.2) s true).2 with|false=>exact h|true=>exact CG h ..
theorem CN {y:Int}(hb:0<=b/\b<=130944:=by omega)(hn:n=2\/n=4\/n=8\/n=16:=by omega)(hx:0<=x/\x<=2*n-1:=by omega)(hy:0<=y/\y<=2*n-1:=by omega)(hu:(y-x)%(2*n)<=n:=by omega):cW (b,n,x,y)=true:=by have hs:iL n=true:=gG.2 hn;simp only[cW,bE,hs,bg.2 hb,bg.2 hx,bg.2 hy,bN,bp,aB];exact hu
theorem DA (h:cW r=true):bE r=(r.2.2.2-r.2.2.1)%(2*r.2.1)/\0<=bE r/\bE r<=r.2.1:=by
 have k:=kL h;have e:bE r=(r.2.2.2-r.2.2.1)%(2*r.2.1):=by unfold bE;rw[aE (gG.2 k.2.2.1)]
 simp only[cW,ae,aB]at h;exact⟨e,by rw[e];exact eI _ (by omega),h.2.2.2.2⟩
theorem HZ (hn:0<n:=by omega)(hx:0<=x/\x<=n-1:=by omega):tmod (x+1) n=if x+1=n then 0 else x+1:=by rw[df (by omega)];split;rename_i h;rw[h];exact Int.emod_self;exact Int.emod_eq_of_lt (by omega) (by omega)
theorem Z7 (h:cW r=true)(hf:bE r<r.2.1):cW (r.1,r.2.1,r.2.2.1,tmod (r.2.2.2+1) (2*r.2.1))=true/\bE (r.1,r.2.1,r.2.2.1,tmod (r.2.2.2+1) (2*r.2.1))=bE r+1:=by
 have k:=kL h;have u:=DA h;have e:=HZ (x:=r.2.2.2) (n:=2*r.2.1);have u2:(tmod (r.2.2.2+1) (2*r.2.1)-r.2.2.1)%(2*r.2.1)=bE r+1:=by
  have h1:(tmod (r.2.2.2+1) (2*r.2.1)-r.2.2.1)%(2*r.2.1)=(r.2.2.2+1-r.2.2.1)%(2*r.2.1):=by rw[e];split;rename_i hh;rw[<-hh,show(r.2.2.2+1-r.2.2.1)=(0-r.2.2.1)+(r.2.2.2+1) by omega,Int.add_emod_right];rfl
  rw[h1,show r.2.2.2+1-r.2.2.1=(r.2.2.2-r.2.2.1)+1 by omega];have h0:=u.1;generalize r.2.2.2-r.2.2.1=d at h0⊢;rw[Int.add_emod,<-h0,Int.emod_eq_of_lt (a:=1) (by omega) (by omega),Int.emod_eq_of_lt (by omega) (by omega)]
 refine⟨CN ⟨k.1,k.2.1⟩ k.2.2.1 ⟨k.2.2.2.1,k.2.2.2.2.1⟩ (by rw[e];split<;>omega) (by rw[u2];omega),?_⟩;unfold bE;rw[aE (gG.2 k.2.2.1)];exact u2
theorem adi (h:cW r=true)(hf:bE r≠0):cW (r.1,r.2.1,tmod (r.2.2.1+1) (2*r.2.1),r.2.2.2)=true/\bE (r.1,r.2.1,tmod (r.2.2.1+1) (2*r.2.1),r.2.2.2)=bE r-1:=by
 have k:=kL h;have u:=DA h;have e:=HZ (x:=r.2.2.1) (n:=2*r.2.1);have u2:(r.2.2.2-tmod (r.2.2.1+1) (2*r.2.1))%(2*r.2.1)=bE r-1:=by
  have h1:(r.2.2.2-tmod (r.2.2.1+1) (2*r.2.1))%(2*r.2.1)=(r.2.2.2-(r.2.2.1+1))%(2*r.2.1):=by rw[e];split;rename_i hh;rw[<-hh,show(r.2.2.2-0)=(r.2.2.2-(r.2.2.1+1))+(r.2.2.1+1) by omega,Int.add_emod_right];rfl
  rw[h1,show r.2.2.2-(r.2.2.1+1)=(r.2.2.2-r.2.2.1)-1 by omega];have h0:=u.1;generalize r.2.2.2-r.2.2.1=d at h0⊢;rw[Int.sub_emod,<-h0,Int.emod_eq_of_lt (a:=1) (by omega) (by omega),Int.emod_eq_of_lt (by omega) (by omega)]
 refine⟨CN ⟨k.1,k.2.1⟩ k.2.2.1 (by rw[e];split<;>omega) ⟨k.2.2.2.2.2.1,k.2.2.2.2.2.2⟩ (by rw[u2];omega),?_⟩;unfold bE;rw[aE (gG.2 k.2.2.1)];exact u2
theorem Yk (h:cW r=true):nW r=r.2.1-bE r:=by have k:=kL h;have u:=DA h;unfold nW;rw[h,ah,ak]
theorem SY (h:cW r=true)(l:aw aA)(m:bM)(d:Int)(s:Bytes):cW (cM l m d r s).2.1=true/\(cM l m d r s).2.1.2.1=r.2.1:=by
 unfold cM;cases hc:(nW r==0)||((s.length:Int) !=16);case true=>exact⟨h,rfl⟩
 cases (hH l m d (om r r.2.2.2) s true).2 with
 |false=>exact⟨h,rfl⟩
 |true=>
  simp only[cg]at hc;have h1:nW r≠0:=by simpa using hc.1
  rw[Yk h]at h1;have u:=DA h;exact⟨(Z7 h (by omega)).1,rfl⟩
theorem N2 (h:cW r=true)(l:aw aA)(m:bM)(d:Int):cW (bm l m d r).2.1=true/\(bm l m d r).2.1.2.1=r.2.1:=by
 unfold bm;cases hc: !cW r||(bE r==0);case true=>exact⟨h,rfl⟩
 cases (qY l m d (om r r.2.2.1) 16).2 with|false=>exact⟨h,rfl⟩|true=>simp only[cg]at hc;exact⟨(adi h (by simpa using hc.2)).1,rfl⟩
theorem abV {l:cw}:(List.range l.length).all (Cn n l)=true↔(∀x∈l,0<=x/\x<=n-1)/\l.Nodup:=by
 rw[aG];constructor;intro h;have k:∀i (hi:i<l.length),(0<=l[i]/\l[i]<=n-1)/\l[i]∉l.take i:=by intro i hi;have:=h i (bT.2 hi);unfold Cn at this;rw[cL hi,ae,bg]at this;exact⟨this.1,by simpa using this.2⟩
 refine⟨λx hx=>?_,?_⟩;obtain⟨i,hi,rfl⟩:=eZ hx;exact(k i hi).1;rw[List.Nodup,List.pairwise_iff_getElem];intro i j hi hj hij he;refine(k j hj).2 ?_;rw[<-he];exact List.mem_take_iff_getElem.2 ⟨i,by omega,rfl⟩;rintro⟨h1,h2⟩ i hi;have hi:=bT.1 hi;unfold Cn;rw[cL hi,ae,bg];refine⟨h1 _ (bk hi),?_⟩;have:l[i]∉l.take i:=by intro hm;obtain⟨j,hj,he⟩:=List.mem_take_iff_getElem.1 hm;rw[List.Nodup,List.pairwise_iff_getElem]at h2;exact h2 j i (by omega) hi (by omega) he
 simpa using this
theorem AA:dx p=true↔(0<=p.1/\p.1<=130944)/\(1<=p.2.1/\p.2.1<=512)/\(0<=p.2.2.1/\p.2.2.1<=16)/\(∀x∈p.2.2.2,0<=x/\x<=p.2.2.1-1)/\p.2.2.2.Nodup:=by unfold dx;simp only[ae,bg,abV]
theorem CK {p:cR}(h:dx p=true){l:cw}(hl:l.Sublist p.2.2.2):dx (p.1,p.2.1,p.2.2.1,l)=true:=by have k:=AA.1 h;exact AA.2 ⟨k.1,k.2.1,k.2.2.1,λx hx=>k.2.2.2.1 x (hl.subset hx),k.2.2.2.2.sublist hl⟩
theorem ZV (h:dx p=true)(l:cw):dx (EF p l).1=true:=by unfold EF;cases hg:Ah p l with|false=>exact h|true=>unfold Ah at hg;simp only[ae]at hg;exact hg.2
theorem Gv {s:kO}:nM n s=true↔(1<=s.2.1/\s.2.1<=n)/\0<=s.1/\s.1<=65535:=by unfold nM;simp only[ae,bg]
structure Fj (t:dD):Prop where
 ring:cW t.1=true
 next:0<=t.2.2.2/\t.2.2.2<=65535
 sent:∀x∈t.2.2.1,(1<=x.2.1/\x.2.1<=t.1.2.1)/\0<=x.1/\x.1<=65535
 pool:dx (gj t.2.1 (bu t.2.2.1))=true
 E8:dH t.2.2.1<=t.1.2.1
theorem Fj.free (h:Fj t):dx t.2.1=true:=CK h.pool (List.sublist_append_left _ _)
theorem aia:L8 t=true↔Fj t:=by constructor;intro h;unfold L8 at h;simp only[ae,bg,aG,Gv,aB]at h;obtain⟨h1,h2,h3,h4,h5,h6⟩:=h;unfold Ah at h5;simp only[ae]at h5;exact⟨h1,h3,h4,h5.2,h6⟩;·intro h;unfold L8 Ah;simp only[ae,bg,aG,Gv,aB];exact⟨h.ring,h.free,h.next,h.sent,⟨h.free,h.pool⟩,h.E8⟩
theorem H6 (a b:aw kO):bu (a++b)=bu a++bu b:=by simp[bu]
theorem MW (a b:aw kO):dH (a++b)=dH a+dH b:=by simp[dH]
theorem Ni:∀(l:aw kO)(p:cR),dx (gj p (bu l))=true->pL p l=gj p (bu l)
 |[],p,_=>by simp[pL,bu,gj]
 |x::l,p,h=>by
  have e:bu (x::l)=x.2.2++bu l:=by simp[bu]
  rw[e]at h;have h1:dx (gj p x.2.2)=true:=CK (p:=gj p (x.2.2++bu l)) h (by show(p.2.2.2++x.2.2).Sublist (p.2.2.2++(x.2.2++bu l));rw[<-aQ];exact List.sublist_append_left _ _);have h0:dx p=true:=CK (p:=gj p x.2.2) h1 (List.sublist_append_left _ _);have hg:(EF p x.2.2).1=gj p x.2.2:=by unfold EF Ah;rw[h0,h1];rfl
  have ea:gj (gj p x.2.2) (bu l)=gj p (x.2.2++bu l):=by simp[gj]
  rw[pL,hg,Ni l _ (by rw[ea];exact h),ea,e]
theorem afy (h:Fj t)(hr:cW r=true)(hn:r.2.1=t.1.2.1):Fj (r,t.2):=
 ⟨hr,h.next,λx hx=>by show(1<=x.2.1/\x.2.1<=r.2.1)/\_;rw[hn];exact h.sent x hx,h.pool,by show dH t.2.2.1<=r.2.1;rw[hn];exact h.E8⟩
theorem Tv (h:Fj t)(n:Int):Fj (mH t n).1:=by
 unfold mH;cases hc:L8 t&&dm n 0 (t.2.2.1.length:Int);exact h;simp only[ae,bg]at hc;have hs:t.2.2.1.take n.toNat++t.2.2.1.drop n.toNat=t.2.2.1:=cl _ _;have hb:bu t.2.2.1=bu (t.2.2.1.take n.toNat)++bu (t.2.2.1.drop n.toNat):=by rw[<-H6,hs]
 have hp:dx (gj t.2.1 (bu (t.2.2.1.take n.toNat)))=true:=CK (p:=gj t.2.1 (bu t.2.2.1)) h.pool (by show(t.2.1.2.2.2++_).Sublist (t.2.1.2.2.2++_);rw[hb];exact(List.sublist_append_left _ _).append_left _);have hg:=Ni _ _ hp;refine⟨h.ring,h.next,λx hx=>h.sent x (List.mem_of_mem_drop hx),?_,?_⟩;show dx (gj (pL t.2.1 (t.2.2.1.take n.toNat)) (bu (t.2.2.1.drop n.toNat)))=true;rw[hg,show gj (gj t.2.1 (bu (t.2.2.1.take n.toNat))) (bu (t.2.2.1.drop n.toNat))=gj t.2.1 (bu t.2.2.1) by rw[hb];simp[gj]];exact h.pool;show dH (t.2.2.1.drop n.toNat)<=t.1.2.1;have h1:dH t.2.2.1=dH (t.2.2.1.take n.toNat)+dH (t.2.2.1.drop n.toNat):=by rw[<-MW,hs]
 have h2:0<=dH (t.2.2.1.take n.toNat):=xj t.1.2.1 _ (by rw[aG];exact λx hx=>Gv.2 (h.sent x (List.mem_of_mem_take hx)));have:=h.E8;omega
theorem JT (l:aw aA)(m:bM)(d:Int):∀(n:Nat)(acc:aw Da)(r:lN),cW r=true->cW (tp l m d n acc r).2.1=true/\(tp l m d n acc r).2.1.2.1=r.2.1
 |0,acc,r,h=>⟨h,rfl⟩
 |n+1,acc,r,h=>by have k:=kL h;have ht:=N2 h l m d;rw[tp];cases !(bm l m d r).2.2|| !(cQ (bm l m d r).1).2 with|true=>exact⟨CN ⟨k.1,k.2.1⟩ k.2.2.1 ⟨k.2.2.2.2.2.1,k.2.2.2.2.2.2⟩ ⟨k.2.2.2.2.2.1,k.2.2.2.2.2.2⟩ (by rw[Int.sub_self,Int.zero_emod];omega),rfl⟩|false=>cases UE (cQ (bm l m d r).1).1 with|true=>exact ht|false=>have:=JT l m d n (acc++[(cQ (bm l m d r).1).1]) _ ht.1;exact⟨this.1,this.2.trans ht.2⟩
theorem T9 (h:cW r=true)(l:aw aA)(m:bM)(d:Int):cW (de l m d r).2.1=true/\(de l m d r).2.1.2.1=r.2.1:=by unfold de;cases !cW r||(bE r==0)with|true=>exact⟨h,rfl⟩|false=>exact JT l m d _ _ _ h
theorem SC (h:cW r=true)(l:aw aA)(m:bM)(d:Int):cW (iD l m d r).1=true/\(iD l m d r).1.2.1=r.2.1:=by
 have hc:=T9 h l m d;unfold iD;cases !cW r||(bE r==0);case true=>exact⟨h,rfl⟩
 cases !(de l m d r).2.2|| !(fD (de l m d r).1).2.2.2;case true=>exact hc
 cases !(mh l m d (fD (de l m d r).1).1).2||(!(xe (mh l m d (fD (de l m d r).1).1).1).2||((jG (xe (mh l m d (fD (de l m d r).1).1).1).1).2 !=0))with|true=>exact hc|false=>exact hc
theorem C3 (l:aw aA)(m:bM)(d:Int):∀(n:Nat)(fr:bM)(dn bd:Nat)(r:lN),cW r=true->cW (qb l m d n fr dn bd r).1=true/\(qb l m d n fr dn bd r).1.2.1=r.2.1
 |0,fr,dn,bd,r,h=>⟨h,rfl⟩
 |n+1,fr,dn,bd,r,h=>by
  have k:=SC h l m d;rw[qb];cases (iD l m d r).2.2==0;case true=>exact⟨h,rfl⟩
  cases (iD l m d r).2.2==1 with|true=>have:=C3 l m d n (fr++(iD l m d r).2.1) (dn+1) bd _ k.1;exact⟨this.1,this.2.trans k.2⟩|false=>have:=C3 l m d n (fr++(iD l m d r).2.1) dn (bd+1) _ k.1;exact⟨this.1,this.2.trans k.2⟩
theorem Gm (l:aw aA)(d:Int):∀(q:bM)(m:bM)(r:lN){x},qD l d q m r=some x->(cW r=true->cW x.2=true/\x.2.2.1=r.2.1)/\(cE m=true->cE x.1=true)
 |[],m,r,x,h=>by cases h;exact⟨λh=>⟨h,rfl⟩,λh=>h⟩
 |s::q,m,r,x,h=>by rw[qD]at h;cases hq:(cM l m d r s).2.2 with|false=>rw[hq]at h;cases h|true=>rw[hq]at h;have k:=Gm l d q _ _ h;refine⟨λhr=>?_,λhm=>k.2 (Iu hm ..)⟩;have hp:=SY hr l m d s;have:=k.1 hp.1;exact⟨this.1,this.2.trans hp.2⟩
theorem NH (l:aw aA)(d:Int)(p:cR)(z:Nat):∀(q:cw)(s:Bytes)(m:bM)(a:aw gu){x},wh l d p z q s m a=some x->cE m=true->cE x.2=true
 |[],s,m,a,x,h,hm=>by cases h;exact hm
 |b::q,s,m,a,x,h,hm=>by rw[wh]at h;cases hq:(hH l m d (nV p b) (s.take z) false).2 with|false=>rw[hq]at h;cases h|true=>rw[hq]at h;exact NH l d p z q _ _ _ h (CG hm ..)
theorem ZW (h:dx p=true){l:cw}(hl:l.Perm p.2.2.2):dx (p.1,p.2.1,p.2.2.1,l)=true:=by have k:=AA.1 h;exact AA.2 ⟨k.1,k.2.1,k.2.2.1,λx hx=>k.2.2.2.1 x (hl.mem_iff.1 hx),hl.nodup_iff.2 k.2.2.2.2⟩
theorem aah (h:Fj t)(hm:cE m=true)(l:aw aA)(d c:Int){n:Nat}(hf:Ib t n=true)(x:aw gu×bM)(hx:cE x.2=true):cE (Ly l m d t c n x).1=true/\Fj (Ly l m d t c n x).2.1:=by
 unfold Ly ub;cases hp:qD l d ((pK x.1 c t.2.2.2).map xk) x.2 t.1 with
 |none=>exact⟨hm,h⟩
 |some y=>
  have k:=Gm l d _ _ _ hp;have kr:=k.1 h.ring;refine⟨k.2 hx,?_⟩;unfold Ib at hf;simp only[ae,aK,cP]at hf;have ht:jZ t.2.1 (n:Int)=((t.2.1.1,t.2.1.2.1,t.2.1.2.2.1,t.2.1.2.2.2.drop n),t.2.1.2.2.2.take n,true):=by have h1:=hf.1;unfold jZ at h1⊢;cases hc:dx t.2.1&&dm (n:Int) 0 (t.2.1.2.2.2.length:Int)with|false=>rw[hc]at h1;cases h1|true=>simp only[ah,az]
  have h0:0<=dH t.2.2.1:=xj t.1.2.1 _ (by rw[aG];exact λx hx=>Gv.2 (h.sent x hx));show Fj (y.2,(jZ t.2.1 (n:Int)).1,t.2.2.1++[(t.2.2.2,(n:Int)+1,(jZ t.2.1 (n:Int)).2.1)],tmod (t.2.2.2+1) 65536);rw[ht];have hn:=h.next
  refine⟨kr.1,?_,?_,?_,?_⟩;have:=HZ (x:=t.2.2.2) (n:=65536);show 0<=tmod (t.2.2.2+1) 65536/\tmod (t.2.2.2+1) 65536<=65535;rw[this];split<;>omega;intro s hs;show(1<=s.2.1/\s.2.1<=y.2.2.1)/\0<=s.1/\s.1<=65535;rw[kr.2];rcases ay.1 hs with hs|hs;exact h.sent s hs;rw[cf.1 hs];show(1<=(n:Int)+1/\(n:Int)+1<=t.1.2.1)/\0<=t.2.2.2/\t.2.2.2<=65535;omega;refine ZW (p:=gj t.2.1 (bu t.2.2.1)) h.pool ?_;show(t.2.1.2.2.2.drop n++bu (t.2.2.1++[_])).Perm (t.2.1.2.2.2++bu t.2.2.1);rw[H6,show bu [(t.2.2.2,(n:Int)+1,t.2.1.2.2.2.take n)]=t.2.1.2.2.2.take n by simp[bu]];refine(List.perm_append_comm_assoc _ _ _).trans ?_;refine(List.perm_append_comm).trans ?_;exact((List.perm_append_comm.trans (by rw[cl])).append_right _);show dH (t.2.2.1++[_])<=y.2.2.1;rw[MW,kr.2,show dH [(t.2.2.2,(n:Int)+1,t.2.1.2.2.2.take n)]=(n:Int)+1 by simp[dH]];omega
theorem aag (h:Fj t)(hm:cE m=true)(l:aw aA)(d:Int)(p:aN)(c z:Int):cE (wU l m d t p c z).1=true/\Fj (wU l m d t p c z).2.1:=by unfold wU;cases L8 t&&(dw p&&(dm z 1 t.2.1.2.1&&dm c 1 128));exact⟨hm,h⟩;cases hf:Ib t (yj p z.toNat);exact⟨hm,h⟩;simp only[ah];cases hw:wh l d t.2.1 z.toNat (jZ t.2.1 (yj p z.toNat:Int)).2.1 (jT p).1 m []with|none=>exact⟨hm,h⟩|some x=>exact aah h hm l d c hf x (NH l d _ _ _ _ _ _ hw hm)
theorem Df (v:Vector):Cf v=true↔1<=v.2.2.1/\(v.1<=v.2.2.1\/v.2.1<=v.2.2.2.1):=by unfold Cf;by_cases h1:v.2.2.1>=1;rw[ar h1,ah];by_cases h2:v.2.2.1>=v.1;rw[ar h2];simp;omega;rw[aq h2,af,aB];omega;rw[aq h1];simp;omega
theorem aib (v:Vector):eD v=(dm v.1 1 64&&(dm v.2.1 0 64&&(dm v.2.2.1 0 1000000&&(dm v.2.2.2.1 0 1000000&&((decide (v.2.2.1>0)||(v.2.2.2.1==0))&&(v.2.2.2.2.2==(Cf v&& !v.2.2.2.2.1))))))):=by have h:=EZ v;unfold lV at h;simp only[eu,afl,ab]at h;generalize eD v=w at h⊢;revert h;cases dm v.1 1 64;(intro h;cases h;rfl);cases dm v.2.1 0 64;(intro h;cases h;rfl);cases dm v.2.2.1 0 1000000;(intro h;cases h;rfl);cases dm v.2.2.2.1 0 1000000;(intro h;cases h;rfl);cases decide (v.2.2.1>0)<;>cases (v.2.2.2.1==0)<;>cases Cf v<;>(intro h;cases h;rfl)
theorem we (v:Vector):eD v=true↔(1<=v.1/\v.1<=64)/\(0<=v.2.1/\v.2.1<=64)/\(0<=v.2.2.1/\v.2.2.1<=1000000)/\(0<=v.2.2.2.1/\v.2.2.2.1<=1000000)/\(v.2.2.1>0\/v.2.2.2.1=0)/\v.2.2.2.2.2=(Cf v&& !v.2.2.2.2.1):=by rw[aib];simp only[ae,bg,cz,aB,aS]
theorem Fs (h1:1<=v.1/\v.1<=64)(h2:0<=v.2.1/\v.2.1<=64)(h3:0<=v.2.2.1/\v.2.2.1<=1000000)(h4:0<=v.2.2.2.1/\v.2.2.2.1<=1000000)(h5:v.2.2.1>0\/v.2.2.2.1=0)(hr:v.2.2.2.2.2=true->Cf v=true/\v.2.2.2.2.1=false):eD (B5 v)=true:=by unfold B5;cases hd:Cf v&& !v.2.2.2.2.1 with|true=>exact(we _).2 ⟨h1,h2,h3,h4,h5,by show true=(Cf v&& !v.2.2.2.2.1);rw[hd]⟩|false=>refine(we _).2 ⟨h1,h2,h3,h4,h5,?_⟩;rw[af,hd];cases hv:v.2.2.2.2.2 with|false=>rfl|true=>have:=hr hv;rw[this.1,this.2]at hd;cases hd
theorem Bq (h:eD v=true)(hr:v.2.2.2.2.2=true):Cf v=true/\v.2.2.2.2.1=false:=by have:=((we v).1 h).2.2.2.2.2;rw[hr]at this;cases hd:Cf v with|false=>rw[hd]at this;cases this|true=>rw[hd]at this;cases hm:v.2.2.2.2.1 with|true=>rw[hm]at this;cases this|false=>exact⟨rfl,rfl⟩
theorem ad4 (h:0<=n/\n<=1000000):n<=upM n/\0<upM n/\upM n<=1000000:=by unfold upM;rw[ak];split<;>omega
theorem aic (h:eD v=true):eD (evV v)=true:=by have k:=(we v).1 h;have u:=ad4 k.2.2.1;unfold evV;rw[h,ah];refine Fs (v:=(v.1,v.2.1,upM v.2.2.1,v.2.2.2)) k.1 k.2.1 ⟨by show 0<=upM v.2.2.1;omega,u.2.2⟩ k.2.2.2.1 (Or.inl u.2.1) λhr=>?_;have d:=Bq h hr;have d1:=(Df v).1 d.1;exact⟨(Df _).2 ⟨by show 1<=upM v.2.2.1;omega,by show v.1<=upM v.2.2.1\/v.2.1<=v.2.2.2.1;omega⟩,d.2⟩
theorem ad8 (h:eD v=true):eD (Tt v)=true:=by have k:=(we v).1 h;have u:=ad4 k.2.2.2.1;unfold Tt;rw[h,ah];by_cases h0:v.2.2.1>0;rw[ar h0,ah];refine Fs (v:=(v.1,v.2.1,v.2.2.1,upM v.2.2.2.1,v.2.2.2.2)) k.1 k.2.1 k.2.2.1 ⟨by show 0<=upM v.2.2.2.1;omega,u.2.2⟩ (Or.inl h0) λhr=>?_;have d:=Bq h hr;have d1:=(Df v).1 d.1;exact⟨(Df _).2 ⟨d1.1,by show v.1<=v.2.2.1\/v.2.1<=upM v.2.2.2.1;omega⟩,d.2⟩;rw[aq h0,af];exact Fs k.1 k.2.1 k.2.2.1 k.2.2.2.1 k.2.2.2.2.1 λhr=>Bq h hr
theorem ad7 (h:eD v=true):eD (BT v).1=true:=by have k:=(we v).1 h;unfold BT;cases eD v&&v.2.2.2.2.2 with|false=>exact h|true=>exact(we _).2 ⟨k.1,k.2.1,⟨dL _,by show(0:Int)<=1000000;omega⟩,⟨dL _,by show(0:Int)<=1000000;omega⟩,Or.inr rfl,by show false=(_&& !true);simp⟩
theorem Wx (h:eD v=true):eD (GN v)=true:=by have k:=(we v).1 h;unfold GN;rw[h,ah];refine Fs (v:=(v.1,v.2.1,v.2.2.1,v.2.2.2.1,false,v.2.2.2.2.2)) k.1 k.2.1 k.2.2.1 k.2.2.2.1 k.2.2.2.2.1 λhr=>?_;exact⟨(Df _).2 ((Df v).1 (Bq h hr).1),rfl⟩
theorem aaF (h:eD v=true):eD (v.1,v.2.1,0,0,false,false)=true:=by have k:=(we v).1 h;exact(we _).2 ⟨k.1,k.2.1,⟨dL _,by show(0:Int)<=1000000;omega⟩,⟨dL _,by show(0:Int)<=1000000;omega⟩,Or.inr rfl,by simp[Cf]⟩
structure yS (n:Int) (r:bR):Prop where
 ring:cW r.1=true
 dev:fI r.2.1=true
 drv:fI r.2.2.1=true
 base:r.2.1.1=r.2.2.1.1
 size:r.2.1.2.1=r.2.2.1.2.1
 drop:0<=r.2.2.2.2.2/\r.2.2.2.2.2<=n
 held:r.2.2.2.2.1=true->dw r.2.2.2.1.1=true/\(0<=r.2.2.2.1.2.1/\r.2.2.2.1.2.1<=320)/\1<=r.2.2.2.1.2.2/\r.2.2.2.1.2.2<=320
 free:r.2.2.2.2.1=false->r.2.2.2.1=aaA
theorem adn (r:bR):Ff r=true↔yS 1000000000000 r:=by constructor;intro h;unfold Ff at h;rw[ae]at h;simp only[ae,aS,bg]at h;obtain⟨⟨h1,h2,h3,h4,h5,h6⟩,h7⟩:=h;refine⟨h1,h2,h3,h4,h5,h6,λhh=>?_,λhh=>?_⟩;rw[hh,ah]at h7;simp only[ae,bg]at h7;exact⟨h7.1,h7.2.1,h7.2.2⟩;rw[hh,af]at h7;exact(adC _).1 h7;intro h;unfold Ff;rw[ae];simp only[ae,aS,bg];refine⟨⟨h.ring,h.dev,h.drv,h.base,h.size,h.drop⟩,?_⟩;cases hh:r.2.2.2.2.1 with|true=>have:=h.held hh;simp only[ah,ae,bg];exact⟨this.1,this.2.1,this.2.2⟩|false=>rw[af];exact(adC _).2 (h.free hh)
theorem yS.mono {m:Int}{r:bR}(h:yS n r)(hn:n<=m:=by omega):yS m r:=⟨h.ring,h.dev,h.drv,h.base,h.size,⟨h.drop.1,by have:=h.drop.2;omega⟩,h.held,h.free⟩
theorem yS.rx {r:bR}(h:yS n r)(hn:n<=1000000000000):Ff r=true:=(adn r).2 (h.mono hn)
theorem Zt (h:cE m=true)(l:aw aA)(d:Int)(q:L3)(x:Ep):cE (zA l m d q x).1=true:=by
 unfold zA;cases !fI q|| !yk x;case true=>exact h
 cases (hH l m d (qX q) (OY x (yC q)) true).2 with|false=>exact h|true=>exact CG h ..
theorem Zu (h:cE m=true)(l:aw aA)(d:Int)(q:bR)(k s:Bytes):cE (gY l m d q k s).1=true:=by
 unfold gY;cases !(cQ s).2||(((cQ s).1.1 !=3)||decide ((cQ s).1.2.2.1<((dy q.2.2.2.1.1).1.length:Int)));case true=>exact h
 cases (hH l m d (cQ s).1.2.2.2.1 (dy q.2.2.2.1.1).1 true).2 with|false=>exact h|true=>exact Zt (CG h ..) ..
theorem afu {k s:Bytes}(hm:cE m=true)(hq:fI q.2.1=true):fI (gY l m d q k s).2.1=true/\(gY l m d q k s).2.1.1=q.2.1.1/\(gY l m d q k s).2.1.2.1=q.2.1.2.1:=(N8 (n:=128) (by omega) (NV (by omega) (qC.1 hm)) hq).2.2
theorem ED (hn:n<=900000000000)(h:yS n q)(hm:cE m=true)(l:aw aA)(d:Int)(k:Bytes):cE (iC l m d q k).1=true/\yS (n+320) (iC l m d q k).2:=by
 unfold iC;cases hc: !Ff q||(!q.2.2.2.2.1||((k.length:Int) !=16));case true=>exact⟨hm,h.mono⟩
 simp only[cg,dz]at hc;have hh:=h.held hc.2.1;have hd:=h.drop;have hr:=N2 h.ring l m d;have hs:=afu (l:=l) (d:=d) (k:=k) (s:=(bm l m d q.1).1) hm h.dev;simp only[af];cases (bm l m d q.1).2.2&&(gY l m d q k (bm l m d q.1).1).2.2 with|true=>exact⟨Zu hm ..,hr.1,hs.1,h.drv,hs.2.1.trans h.base,hs.2.2.trans h.size,⟨hd.1,by show q.2.2.2.2.2<=n+320;omega⟩,λhf=>(by cases hf),λ_=>rfl⟩|false=>refine⟨hm,hr.1,h.dev,h.drv,h.base,h.size,?_,λhf=>(by cases hf),λ_=>rfl⟩;show 0<=au (q.2.2.2.2.2+q.2.2.2.1.2.2)/\au (q.2.2.2.2.2+q.2.2.2.1.2.2)<=n+320;rw[ak];omega
theorem aeW {s:qS}{p:aN}(h:G1 s p=true):dw (D7 s p).1=true/\(0<=(D7 s p).2.1/\(D7 s p).2.1<=320)/\1<=(D7 s p).2.2/\(D7 s p).2.2<=320:=by
 have hl:=Ox h;unfold D7;rw[h,ah];simp only[G1,ab1,XC,ae,aB,bg,aS]at h;obtain⟨⟨hs,hp,ajd,h6,h16,hf⟩,⟨hz,hc,hn,Dr,aoe⟩,_⟩:=h;have aob:s.2.2+1<=320:=by
  have:s.2.2<=s.2.1*s.2.2:=by have:=Int.mul_le_mul_of_nonneg_right hz (show 0<=s.2.2 by omega);omega
  omega
 have ajm:s.2.1<=320:=by
  have:s.2.1<=s.2.1*s.2.2:=by have:=Int.mul_le_mul_of_nonneg_left hc.1 (show 0<=s.2.1 by omega);omega
  omega
 refine⟨?_,⟨by show 0<=s.2.1;omega,ajm⟩,?_⟩;have hh:oV s.1=true:=by unfold dw at hs;simp only[ae]at hs;exact hs.1
 have hk:s.1.2.2.2.2.2.2.2.2.1=6:=by
  have e:s.1.2.2.2.2.2.2.2.2.1=p.2.2.2.2.2.2.2.2.1:=by have h2:=ajd;unfold SH at h2;simp only[ae,aS]at h2;exact h2.2.2.2.2.2.2.2.1
  rw[e];exact h6
 have hsg:=yu hh;have hfl:dm p.2.2.2.2.2.2.2.2.2.2.2.2.2.1 0 31=true:=Gj hp (by rw[h6];rfl);have hg:=Lv hsg hk (Xz hsg hk).2.2.1 (bg.1 hfl) (x:=s.1.2.2.2.2.2.2.2.2.2.2.2.2.2.2.2++p.2.2.2.2.2.2.2.2.2.2.2.2.2.2.2) (by rw[ai];omega);unfold dw;rw[ae];refine⟨Aj hh (Kq hh) hg,?_⟩;show(_||(s.1.2.2.2.2.2.2.2.2.1==6)&&AO p.2.2.2.2.2.2.2.2.2.2.2.2.2.1)=true;rw[hk,hf];simp;show 1<=au (s.2.2+1)/\au (s.2.2+1)<=320;rw[ak];omega
theorem aeB (h:yS n q){s:qS}(hs:dw s.1=true)(h1:0<=s.2.1/\s.2.1<=320)(h2:1<=s.2.2/\s.2.2<=320):yS n (Kr q s):=⟨h.ring,h.dev,h.drv,h.base,h.size,h.drop,λ_=>⟨hs,h1,h2⟩,λhf=>(by cases hf)⟩
theorem aak {p:aN}(h:fV p=true):dw (lX p).1=true/\(0<=(lX p).2.1/\(lX p).2.1<=320)/\1<=(lX p).2.2/\(lX p).2.2<=320:=by
 have hl:=EU h;have hs:dw p=true:=by unfold fV at h;simp only[ae]at h;exact h.1
 refine⟨hs,?_,by show(1:Int)<=1/\(1:Int)<=320;omega⟩;show 0<=(p.2.2.2.2.2.2.2.2.2.2.2.2.2.2.2.length:Int)/\(p.2.2.2.2.2.2.2.2.2.2.2.2.2.2.2.length:Int)<=320;omega
theorem QJ (hn:n<=800000000000)(h:yS n q)(hm:cE m=true)(l:aw aA)(d:Int)(k:Bytes)(p:aN)(c:Bool):cE (ld l m d q k p c).1=true/\yS (n+640) (ld l m d q k p c).2:=by
 unfold ld;cases hc: !Ff q||(!fV p||((k.length:Int) !=16));case true=>exact⟨hm,h.mono⟩
 simp only[cg,dz]at hc;have hs:=aak hc.2.1;have hf:=ED (by omega) h hm l d k;have AW:=aeB hf.2 hs.1 hs.2.1 hs.2.2;simp only[af];cases hj:c&&(q.2.2.2.2.1&&G1 q.2.2.2.1 p)with|true=>simp only[ae]at hj;have j:=aeW hj.2.2;exact⟨hm,h.ring,h.dev,h.drv,h.base,h.size,⟨h.drop.1,by show q.2.2.2.2.2<=n+640;have:=h.drop.2;omega⟩,λ_=>j,λhf=>(by have hf:q.2.2.2.2.1=false:=hf;rw[hj.2.1]at hf;cases hf)⟩|false=>simp only[af];cases c with|true=>exact⟨hf.1,AW.mono⟩|false=>have:=ED (by omega) AW hf.1 l d k;exact⟨this.1,this.2.mono⟩
theorem ahU {q:L3}(h:fI q=true):fI (qV l m d q).2.1=true/\(qV l m d q).2.1.1=q.1/\(qV l m d q).2.1.2.1=q.2.1:=by unfold qV;cases PL l m d q with|false=>exact⟨h,rfl,rfl⟩|true=>have k:=ud h;refine⟨?_,rfl,rfl⟩;have e:=Qq (a:=q.2.2+1) (b:=2*q.2.1);simp only[ah,agb,fI,ae,bg]at h⊢;refine⟨h.1,h.2.1,?_⟩;rw[ye h.2.1];omega
theorem VV {s:aw Stream×bR×cR}(h:yS n s.2.1)(hp:dx s.2.2=true)(l:aw aA)(m:bM)(d:Int):yS n (CJ l m d s).2.1/\dx (CJ l m d s).2.2=true:=by have k:=ahU (l:=l) (m:=m) (d:=d) h.drv;exact⟨⟨h.ring,h.dev,k.1,h.base.trans k.2.1.symm,h.size.trans k.2.2.symm,h.drop,h.held,h.free⟩,ZV hp _⟩
theorem Lh (l:aw aA)(m:bM)(d:Int):∀(k:Nat)(s:aw Stream×bR×cR),yS n s.2.1->dx s.2.2=true->yS n (jD l m d k s).2.2.1/\dx (jD l m d k s).2.2.2=true
 |0,s,h,hp=>⟨h,hp⟩
 |k+1,s,h,hp=>by rw[jD];cases (qV l m d s.2.1.2.2.1).2.2 with|false=>exact⟨h,hp⟩|true=>have e:=VV h hp l m d;exact Lh l m d k _ e.1 e.2
theorem Ka (l:aw aA)(d:Int)(p:cR):∀(q:cw)(m:bM)(r:lN),cE m=true->cW r=true->cE (lY l d p q m r).2.1=true/\cW (lY l d p q m r).2.2=true
 |[],m,r,hm,hr=>⟨hm,hr⟩
 |b::q,m,r,hm,hr=>by rw[lY];cases (cM l m d r (eP p b)).2.2 with|false=>exact⟨hm,hr⟩|true=>exact Ka l d p q _ _ (Iu hm ..) (SY hr ..).1
theorem Na (hm:cE m=true)(hr:cW r=true)(hp:dx p=true)(l:aw aA)(d:Int):cE (tt l m d r p).1=true/\cW (tt l m d r p).2.1=true/\dx (tt l m d r p).2.2.1=true:=by unfold tt;rw[hr,hp];have k:=Ka l d p p.2.2.2 m r hm hr;exact⟨k.1,k.2,CK hp (List.drop_sublist _ _)⟩
theorem N0 {rx:bR}(h:yS n rx)(hm:cE m=true){pl:cR}(hp:dx pl=true)(l:aw aA)(d:Int)(st:aw Stream)(c:Int):cE (jn l m d rx pl st c).1=true/\yS n (jn l m d rx pl st c).2.1/\dx (jn l m d rx pl st c).2.2.1=true:=by
 unfold jn;cases !Ff rx||(!dx pl|| !dm c 0 1000);case true=>exact⟨hm,h,hp⟩
 have k:=Lh l m d c.toNat (st,rx,pl) h hp;have f:=Na hm k.1.ring k.2 l d;exact⟨f.1,⟨f.2.1,k.1.dev,k.1.drv,k.1.base,k.1.size,k.1.drop,k.1.held,k.1.free⟩,f.2.2⟩
structure Good (n:Int) (h:Host):Prop where
 mem:cE h.1=true
 maps:dF h.2.1=true
 tx:Fj h.2.2.1
 Jp:qf h.2.2.2.2.2.2.2.1=true
 lens:qU h=true
 Qg:fu h.2.2.2.2.2.2.2.2.1 (h.2.2.2.1.length:Int)=true
 rx:∀r∈h.2.2.2.1,yS n r
 pool:∀p∈h.2.2.2.2.1,dx p=true
 vec:∀v∈h.2.2.2.2.2.1,eD v=true
 E8:∀x∈ic h,0<=x/\x<=n
theorem Good.mono {m:Int}(g:Good n h)(hn:n<=m:=by omega):Good m h:=⟨g.mem,g.maps,g.tx,g.Jp,g.lens,g.Qg,λr hr=>(g.rx r hr).mono hn,g.pool,g.vec,λx hx=>⟨(g.E8 x hx).1,by have:=(g.E8 x hx).2;omega⟩⟩
theorem ab7 (h:Host):fy h=true↔Good 1000000000000 h:=by unfold fy SZ;simp only[ae,aG,bg,aia,adn];constructor;rintro⟨h1,h2,h3,h4,h5,h6,⟨h7,h8,h9⟩,h10⟩;exact⟨h1,h2,h3,h4,h5,h6,h7,h8,h9,h10⟩;intro g;exact⟨g.mem,g.maps,g.tx,g.Jp,g.lens,g.Qg,⟨g.rx,g.pool,g.vec⟩,g.E8⟩
theorem Good.ok (g:Good n h)(hn:n<=1000000000000):fy h=true:=(ab7 h).2 (g.mono hn)
theorem rQ {P:α->Prop}{l:aw α}{v:α}(h:∀x∈l,P x)(hv:P v):∀x∈l.set i v,P x:=by intro x hx;rcases List.mem_or_eq_of_mem_set hx with g|g;exact h x g;rw[g];exact hv
theorem aey (g:Good n h)(k:Nat):Good n (evS k h):=by unfold evS;cases hv:h.2.2.2.2.2.1[k]? with|none=>exact g|some v=>exact⟨g.mem,g.maps,g.tx,g.Jp,by have:=g.lens;unfold qU at this⊢;rw[aC];exact this,g.Qg,g.rx,g.pool,rQ g.vec (aic (g.vec v (bn hv))),g.E8⟩
theorem Ro (g:Good n h)(k:Nat):∀i,Good n (Yb k i h)
 |0=>g
 |i+1=>aey (Ro g k i) k
theorem Ih (g:Good n h)(k:Nat)(b:Int){f:bM×bR}(h1:cE f.1=true)(h2:yS n f.2):Good n (H0 h k b f):=by refine Ro (h:=Gp h k f) ⟨h1,g.maps,g.tx,g.Jp,?_,?_,rQ g.rx h2,g.pool,g.vec,g.E8⟩ _ _;have:=g.lens;unfold qU Gp at*;simp only[aC];exact this;show fu _ ((h.2.2.2.1.set k f.2).length:Int)=true;rw[aC];exact g.Qg
theorem Rp (hn:n<=800000000000)(g:Good n h)(k:Nat):Good (n+320) (oO k h):=by unfold oO;cases hx:h.2.2.2.1[k]? with|none=>exact g.mono|some x=>have f:=ED (by omega) (g.rx x (bn hx)) g.mem h.2.1 0 h.2.2.2.2.2.2.2.2.1.2.2.1;exact Ih (g.mono) k _ f.1 f.2
theorem UQ (hn:n<=700000000000)(g:Good n h):Good (n+640) (AP h):=by
 unfold AP;have hl:=qB g.lens;cases fy h with
 |false=>exact g.mono
 |true=>
  have key:∀k:Nat,k<=2->Good (n+320*(k:Int)) (kV oO k h):=by intro k;induction k with|zero=>intro _;exact g.mono|succ k ih=>intro hk;exact(Rp (by omega) (ih (by omega)) k).mono
  exact(key _ hl.1).mono (by have:=hl.1;omega)
theorem Yn (g:Good n h):Good n (C1 h):=by
 unfold C1;cases fy h with
 |false=>exact g
 |true=>
  have key:∀k,Good n (kV wG k h):=by intro k;induction k with|zero=>exact g|succ k ih=>show Good n (wG k (kV wG k h));generalize kV wG k h=s at ih⊢;unfold wG;cases hv:s.2.2.2.2.2.1[k]? with|none=>exact ih|some v=>exact⟨ih.mem,ih.maps,ih.tx,ih.Jp,by have:=ih.lens;unfold qU at this⊢;rw[aC];exact this,ih.Qg,ih.rx,ih.pool,rQ ih.vec (ad8 (ih.vec v (bn hv))),ih.E8⟩
  exact key _
theorem Ym (g:Good n h)(p:aN)(c z:Int):Good n (Ef h p c z).1:=by unfold Ef;cases fy h with|false=>exact g|true=>have k:=aag g.tx g.mem h.2.1 0 p c z;exact⟨k.1,g.maps,k.2,g.Jp,g.lens,g.Qg,g.rx,g.pool,g.vec,g.E8⟩
theorem Mh (g:Good n h):Good n (qP h):=by unfold qP;cases fy h with|false=>exact g|true=>have r:=C3 h.2.1 h.1 0 17 [] 0 0 h.2.2.1.1 g.tx.ring;exact⟨g.mem,g.maps,Tv (afy g.tx r.1 r.2) _,g.Jp,g.lens,g.Qg,g.rx,g.pool,g.vec,g.E8⟩
theorem B7 (h:0<=x/\x<=n)(hn:n<=800000000000:=by omega):0<=au (x+1)/\au (x+1)<=n+1:=by rw[ak];omega
theorem AR (hn:n<=800000000000)(g:Good n h){a c:Int}(ha:0<=a/\a<=n+1)(hb:0<=b/\b<=n+1)(hc:0<=c/\c<=n+1)(hd:0<=d/\d<=n+1):Good (n+1) (zK h a b c d):=by have k:=g.mono (show n<=n+1 by omega);refine⟨k.mem,k.maps,k.tx,k.Jp,k.lens,k.Qg,k.rx,k.pool,k.vec,λx hx=>?_⟩;have h1:=B7 (g.E8 _ (List.mem_cons_self ..)) hn;simp only[ic,zK,bO,List.not_mem_nil,or_false]at hx;rcases hx with rfl|rfl|rfl|rfl|rfl;exact h1;exact ha;exact hb;exact hc;exact hd
theorem O8 (hn:n<=700000000000)(g:Good n h)(x:Bytes):Good (n+641) (pX h x):=by
 have c1:=g.E8 h.2.2.2.2.2.2.2.2.2.2.2.2.2.2.2.1 (by simp[ic]);have c2:=g.E8 h.2.2.2.2.2.2.2.2.2.2.2.2.2.2.2.2.1 (by simp[ic]);have c3:=g.E8 h.2.2.2.2.2.2.2.2.2.2.2.2.2.2.2.2.2.1 (by simp[ic]);have c4:=g.E8 h.2.2.2.2.2.2.2.2.2.2.2.2.2.2.2.2.2.2 (by simp[ic]);have u:∀{y:Int},0<=y/\y<=n->0<=y/\y<=n+1:=λhy=>⟨hy.1,by omega⟩
 unfold pX;cases fy h;exact g.mono;cases (rG x).2 !=0;case true=>exact(AR (by omega) g (B7 c1) (u c2) (u c3) (u c4)).mono
 cases !yg h.2.2.2.2.2.2.2.1 (rG x).1;case true=>exact(AR (by omega) g (u c1) (B7 c2) (u c3) (u c4)).mono
 cases uC h.2.2.2.2.2.2.2.2.1 (h.2.2.2.1.length:Int) (rG x).1== -1;case true=>exact(AR (by omega) g (u c1) (u c2) (B7 c3) (u c4)).mono
 simp only[aj,af];cases hq:h.2.2.2.1[(uC h.2.2.2.2.2.2.2.2.1 (h.2.2.2.1.length:Int) (rG x).1).toNat]? with|none=>exact g.mono|some q=>have a:=QJ (by omega) (g.rx q (bn hq)) g.mem h.2.1 0 h.2.2.2.2.2.2.2.2.1.2.2.1 (rG x).1 h.2.2.2.2.2.2.2.2.2.2.1;exact Ih ((AR (by omega) g (u c1) (u c2) (u c3) (B7 c4)).mono) _ _ a.1 (a.2.mono)
theorem Rq (g:Good n h)(i:Nat)(c:Int):Good n (yF h i c).2:=by unfold yF;rcases h1:h.2.2.2.1[i]? with _|rx;exact g;rcases h2:h.2.2.2.2.1[i]? with _|pl;exact g;have k:=N0 (g.rx rx (bn h1)) g.mem (g.pool pl (bn h2)) h.2.1 0 h.2.2.2.2.2.2.2.2.2.1 c;refine⟨k.1,g.maps,g.tx,g.Jp,?_,?_,rQ g.rx k.2.1,rQ g.pool k.2.2,g.vec,g.E8⟩;have:=g.lens;unfold qU at*;simp only[aC];exact this;show fu _ ((h.2.2.2.1.set i _).length:Int)=true;rw[aC];exact g.Qg
theorem Rs (b:Int)(k:Nat){s:Int×Host}(g:Good n s.2):Good n (Bu b k s).2:=by unfold Bu;rcases h1:s.2.2.2.2.2.2.1[k]? with _|v;exact g;rcases h2:s.2.2.2.2.2.2.2.1[k]? with _|p;exact g;rcases h3:s.2.2.2.2.1[k]? with _|x;exact g;rcases h4:s.2.2.2.2.2.1[k]? with _|pl;exact g;have hv:=ad7 (g.vec v (bn h1));simp only;cases p||(BT v).2 with|false=>refine⟨g.mem,g.maps,g.tx,g.Jp,?_,g.Qg,g.rx,g.pool,rQ g.vec hv,g.E8⟩;have:=g.lens;unfold qU at*;simp only[af,aC];exact this|true=>have e:=N0 (g.rx x (bn h3)) g.mem (g.pool pl (bn h4)) s.2.2.1 0 s.2.2.2.2.2.2.2.2.2.2.1 b;refine⟨e.1,g.maps,g.tx,g.Jp,?_,?_,rQ g.rx e.2.1,rQ g.pool e.2.2,rQ g.vec ?_,g.E8⟩;have:=g.lens;unfold qU at*;simp only[ah,aC];exact this;show fu _ ((s.2.2.2.2.1.set k _).length:Int)=true;rw[aC];exact g.Qg;cases decide ((jn s.2.2.1 s.2.1 0 x pl s.2.2.2.2.2.2.2.2.2.2.1 b).2.2.2.2<b)with|true=>exact Wx hv|false=>exact hv
theorem Km (b:Int)(g:Good n h):∀k,Good n (rb b k h).2
 |0=>g
 |k+1=>Rs b k (Km b g k)
theorem O9 (g:Good n h)(b:Int):Good n (uf h b).1:=by unfold uf;cases fy h&&dm b 1 1000 with|false=>exact g|true=>exact Km b g _
theorem FE (g:Good n h):∀k,Good n (ua h k)
 |0=>g
 |k+1=>Rq (FE g k) k 1000
theorem Yl (g:Good n h)(l:cw):Good n (adh h l):=⟨g.mem,g.maps,g.tx,g.Jp,g.lens,g.Qg,g.rx,g.pool,g.vec,g.E8⟩
theorem DX (g:Good n h):∀k,Good n (returned h k)
 |0=>FE g _
 |k+1=>by show Good n (PY h.2.2.1.2.2.1 k (returned h k));have:=DX g k;unfold PY;cases h.2.2.1.2.2.1[k]? with|none=>exact this|some x=>exact Yl this _
theorem SM {a:Int}(ha:0<=a/\a<=130944:=by omega)(hb:1<=b/\b<=512:=by omega)(hn:0<=n/\n<=16:=by omega):gT a b n=((a,b,n,upto n.toNat),true)/\dx (a,b,n,upto n.toNat)=true:=by have h1:dx (a,b,n,[])=true:=AA.2 ⟨ha,hb,hn,by simp,List.nodup_nil⟩;refine⟨by unfold gT;rw[h1];rfl,AA.2 ⟨ha,hb,hn,?_,?_⟩⟩;intro x hx;simp only[upto,List.mem_map,bT]at hx;obtain⟨i,hi,rfl⟩:=hx;show 0<=Int.ofNat i/\Int.ofNat i<=n-1;simp only[Int.ofNat_eq_natCast];omega;show(upto n.toNat).Nodup;unfold upto;rw[List.Nodup,List.pairwise_map];exact List.nodup_range.imp λh he=>h (Int.ofNat.inj he)
theorem ad2 (c:Int)(hc:0<=c/\c<=65535):Fj (En.1,En.2.1,En.2.2.1,c):=by
 have p:=SM (a:=256) (b:=128) (n:=8);refine⟨CN,hc,λx hx=>(by cases hx),?_,by show(0:Int)<=16;omega⟩;show dx (gj (gT 256 128 8).1 [])=true;rw[p.1];have e:gj (256,128,8,upto (8:Int).toNat) []=(256,128,8,upto (8:Int).toNat):=by simp[gj]
 show dx (gj (256,128,8,upto (8:Int).toNat) [])=true;rw[e];exact p.2
theorem O7 (g:Good n h):Good n (rT h):=by have k:=DX g h.2.2.1.2.2.1.length;exact⟨k.mem,k.maps,ad2 _ k.tx.next,k.Jp,k.lens,k.Qg,k.rx,k.pool,k.vec,k.E8⟩
theorem WJ (h:i<=8):0<=gP i/\gP i<=16000:=by unfold gP;omega
theorem NR (hm:cE m=true)(l:aw aA)(hi:i<=8):cE (sX l m i).1=true/\cW (sX l m i).2.1=true/\dx (sX l m i).2.2.1=true:=by have hb:=WJ hi;have p:=SM (a:=gP i+128) (b:=384) (n:=4);unfold sX;rw[p.1];exact Na (CG hm ..) (CN) p.2 l 0
theorem S3 (hi:i<=8)(hr:cW r=true)(hd:0<=d/\d<=n):yS n (r,(gP i+64,4,0),(gP i+64,4,0),((0,0,0,0,0,0,0,0,0,0,0,0,0,0,0,([]:Bytes)),0,0),false,d):=by
 have hb:=WJ hi;have hq:fI (gP i+64,4,0)=true:=by have hs:iL 4=true:=gG.2 (by omega);unfold fI;rw[ae,ae];exact⟨bg.2 (by omega),hs,by rw[ye hs];rfl⟩
 exact⟨hr,hq,hq,rfl,rfl,hd,λhf=>(by cases hf),λ_=>rfl⟩
theorem Rr (hn:n<=800000000000)(g:Good n h)(hi:i<=8):Good (n+320) (yH i h):=by
 have gm:=g.mono (show n<=n+320 by omega);unfold yH;rcases h1:h.2.2.2.1[i]? with _|x;exact gm;rcases h2:h.2.2.2.2.2.1[i]? with _|v;exact gm;have o:=NR g.mem h.2.1 hi;have hx:=g.rx x (bn h1);have hd:0<=DT x/\DT x<=n+320:=by have d:=hx.drop;unfold DT;cases hh:x.2.2.2.2.1 with|false=>simp only[af];omega|true=>have:=hx.held hh;rw[ah,ak];omega
 refine⟨o.1,gm.maps,gm.tx,gm.Jp,?_,?_,rQ gm.rx (S3 hi o.2.1 hd),rQ gm.pool o.2.2,rQ gm.vec (aaF (g.vec v (bn h2))),gm.E8⟩;have:=g.lens;unfold qU Ea at*;simp only[aC];exact this;show fu _ (((Ea h i (DT x)).2.2.2.1).length:Int)=true;unfold Ea;simp only[aC];exact g.Qg
theorem DW (hn:n<=700000000000)(g:Good n h):∀k:Nat,k<=8->Good (n+320*(k:Int)) (ik h k)
 |0,_=>g.mono
 |k+1,hk=>(Rr (by omega) (DW hn g k (by omega)) (i:=k) (by omega)).mono
theorem UR (hn:n<=700000000000)(g:Good n h):Good (n+640) (wS h):=by have hl:=qB g.lens;unfold wS;cases fy h with|false=>exact g.mono|true=>exact(DW hn (O7 g) _ (by omega)).mono (by have:=hl.1;omega)
structure mc (a b:Host):Prop where
 maps:b.2.1=a.2.1
 mem:b.1.length=a.1.length
theorem mc.refl (a:Host):mc a a:=⟨rfl,rfl⟩
theorem mc.trans {a b c:Host}(h:mc a b)(g:mc b c):mc a c:=⟨g.maps.trans h.maps,g.mem.trans h.mem⟩
theorem mc.of {a b:Host}(h:kQ k a b):mc a b:=⟨h.maps,h.mem⟩
theorem aft (l:aw aA)(m:bM)(d:Int)(q:bR)(k s:Bytes):(gY l m d q k s).1.length=m.length:=by
 unfold gY;cases !(cQ s).2||(((cQ s).1.1 !=3)||decide ((cQ s).1.2.2.1<((dy q.2.2.2.1.1).1.length:Int)));case true=>rfl
 cases (hH l m d (cQ s).1.2.2.2.1 (dy q.2.2.2.1.1).1 true).2 with
 |false=>rfl
 |true=>
  simp only[af,aj];unfold zA;cases !fI q.2.1|| !yk _;case true=>exact jE ..
  cases (hH l (hH l m d (cQ s).1.2.2.2.1 (dy q.2.2.2.1.1).1 true).1 d (qX q.2.1) _ true).2 with|false=>exact jE ..|true=>exact(jE ..).trans (jE ..)
theorem O6 (l:aw aA)(m:bM)(d:Int)(q:bR)(k:Bytes):(iC l m d q k).1.length=m.length:=by
 unfold iC;cases !Ff q||(!q.2.2.2.2.1||((k.length:Int) !=16));case true=>rfl
 cases (bm l m d q.1).2.2&&(gY l m d q k (bm l m d q.1).1).2.2 with|true=>exact aft ..|false=>rfl
theorem aaV (l:aw aA)(m:bM)(d:Int)(q:bR)(k:Bytes)(p:aN)(c:Bool):(ld l m d q k p c).1.length=m.length:=by
 unfold ld;cases !Ff q||(!fV p||((k.length:Int) !=16));case true=>rfl
 cases c&&(q.2.2.2.2.1&&G1 q.2.2.2.1 p);case true=>rfl
 cases c with|true=>exact O6 ..|false=>exact(O6 ..).trans (O6 ..)
theorem adr (l:aw aA)(m:bM)(d:Int)(t:dD)(p:aN)(c z:Int):(wU l m d t p c z).1.length=m.length:=by unfold wU;cases L8 t&&(dw p&&(dm z 1 t.2.1.2.1&&dm c 1 128));rfl;cases Ib t (yj p z.toNat);rfl;simp only[ah];cases hw:wh l d t.2.1 z.toNat (jZ t.2.1 (yj p z.toNat:Int)).2.1 (jT p).1 m []with|none=>rfl|some x=>have hx:=(Fz _ _ _ _ _ _ _ _ hw).1;simp only;unfold Ly ub;cases hp:qD l d ((pK x.1 c t.2.2.2).map xk) x.2 t.1 with|none=>rfl|some y=>exact(IA _ _ _ _ _ hp).trans hx
theorem aav (h:Host)(p:aN)(c z:Int):mc h (Ef h p c z).1:=by unfold Ef;cases fy h with|false=>exact mc.refl h|true=>exact⟨rfl,adr ..⟩
theorem MH (h:Host):mc h (qP h):=by unfold qP;cases fy h with|false=>exact mc.refl h|true=>exact⟨rfl,rfl⟩
theorem Wm (h:Host):mc h (AP h):=by unfold AP;cases fy h with|false=>exact mc.refl h|true=>exact mc.of (vh Cm h _)
theorem aaw (h:Host):mc h (C1 h):=by unfold C1;cases fy h with|false=>exact mc.refl h|true=>exact mc.of (vh E2 h _)
theorem Qf (h:Host)(b:Int):mc h (uf h b).1:=by unfold uf;cases fy h&&dm b 1 1000 with|false=>exact mc.refl h|true=>exact mc.of (DE b h _)
theorem Qe (h:Host)(x:Bytes):mc h (pX h x):=by
 unfold pX;cases fy h;exact mc.refl h;cases (rG x).2 !=0;case true=>exact⟨rfl,rfl⟩
 cases !yg h.2.2.2.2.2.2.2.1 (rG x).1;case true=>exact⟨rfl,rfl⟩
 cases uC h.2.2.2.2.2.2.2.2.1 (h.2.2.2.1.length:Int) (rG x).1== -1;case true=>exact⟨rfl,rfl⟩
 simp only[aj,af];cases hq:h.2.2.2.1[(uC h.2.2.2.2.2.2.2.2.1 (h.2.2.2.1.length:Int) (rG x).1).toNat]? with|none=>exact mc.refl h|some q=>exact mc.trans (b:=zK h _ _ _ _) ⟨rfl,rfl⟩ (mc.of (C5 (aaV ..)))
theorem GG (h:Host):∀k,mc h (ua h k)
 |0=>mc.refl h
 |k+1=>by refine(GG h k).trans ?_;show mc (ua h k) (yF (ua h k) k 1000).2;generalize ua h k=s;unfold yF;rcases s.2.2.2.1[k]? with _|rx;exact mc.refl s;rcases s.2.2.2.2.1[k]? with _|pl;exact mc.refl s;exact⟨rfl,Xr ..⟩
theorem Ej (h:Host):∀k,mc h (returned h k)
 |0=>GG h _
 |k+1=>by refine(Ej h k).trans ?_;show mc (returned h k) (PY h.2.2.1.2.2.1 k (returned h k));unfold PY;cases h.2.2.1.2.2.1[k]? with|none=>exact mc.refl _|some x=>exact⟨rfl,rfl⟩
theorem Wn (h:Host):mc h (wS h):=by unfold wS;cases fy h with|false=>exact mc.refl h|true=>have k:=vN (rT h) h.2.2.2.1.length;have r:=Ej h h.2.2.1.2.2.1.length;exact⟨k.maps.trans r.maps,k.mem.trans r.mem⟩
def yp (h:Host)(a:Act):Host×Int:=
 bif a.1==0 then((Ef h a.2.1 a.2.2.1 a.2.2.2.1).1,ahV (Ef h a.2.1 a.2.2.1 a.2.2.2.1).2) else
 bif a.1==1 then(qP h,0) else
 bif a.1==2 then(pX h a.2.2.2.2.1,0) else
 bif a.1==3 then(AP h,0) else
 bif a.1==4 then(C1 h,0) else
 uf h a.2.2.2.2.2
theorem ael (b:Bool):Dx b=some (ahV b):=by unfold Dx ahV;cases b<;>rfl
theorem aez (h:Host)(a:Act)(k:BG 90000000 h)(hx:a.2.2.2.2.1.length<=10^9)(h0:0<=a.1)(h5:a.1<=5):nI h a=some (true,yp h a):=by
 have z:cX 1000000000 dC h:=k.z.mono;unfold nI yp;simp only[ab,YR h _ _ _ (k.mono),PC h (k.mono),PA h _ (k.mono) hx,U7 h (k.mono),acE h (k.sz (by omega)) z,R0 h _ (k.mono),ael];cases e0:a.1==0;case true=>rfl
 cases e1:a.1==1;case true=>rfl
 cases e2:a.1==2;case true=>rfl
 cases e3:a.1==3;case true=>rfl
 cases e4:a.1==4;case true=>rfl
 have e5:(a.1==5)=true:=by simp only[cI,ne_eq]at e0 e1 e2 e3 e4;simp only[aS];omega
 rw[e5];rfl
def xf (s:Host×Int)(a:Act):Host×Int:=
 bif a.1==6 then(wS s.1,s.2) else((yp s.1 a).1,bif a.1==0 then au (s.2+(yp s.1 a).2) else s.2)
def abW (h:Host)(l:aw Act):Host×Int:=l.foldl xf (h,0)
theorem UN (hn:n<=700000000000)(g:Good n h)(a:Act)(s:Int):Good (n+641) (xf (h,s) a).1:=by
 unfold xf;cases a.1==6 with
 |true=>exact(UR hn g).mono
 |false=>
  show Good _ (yp h a).1;unfold yp;cases a.1==0;case true=>exact(Ym g _ _ _).mono
  cases a.1==1;case true=>exact(Mh g).mono
  cases a.1==2;case true=>exact O8 hn g _
  cases a.1==3;case true=>exact(UQ hn g).mono
  cases a.1==4;case true=>exact(Yn g).mono
  exact(O9 g _).mono
theorem UO (h:Host)(a:Act)(s:Int):mc h (xf (h,s) a).1:=by
 unfold xf;cases a.1==6 with
 |true=>exact Wn h
 |false=>
  show mc h (yp h a).1;unfold yp;cases a.1==0;case true=>exact aav ..
  cases a.1==1;case true=>exact MH h
  cases a.1==2;case true=>exact Qe ..
  cases a.1==3;case true=>exact Wm h
  cases a.1==4;case true=>exact aaw h
  exact Qf ..
theorem abX {n:Nat}(hn:1000<=n)(a:Act)(s:Int)(k:BG n h)(f:Few h):BG (n+645000) (xf (h,s) a).1:=by
 unfold xf;cases a.1==6 with
 |true=>exact(Z5 hn k f).1
 |false=>
  show BG _ (yp h a).1;unfold yp;cases a.1==0;case true=>exact(adq hn _ _ _ k).mono
  cases a.1==1;case true=>exact(Qr (by omega) k).mono
  cases a.1==2;case true=>exact(SW hn _ k).1.mono
  cases a.1==3;case true=>exact(Yi hn k).mono
  cases a.1==4;case true=>exact(ad0 hn k).mono
  exact(S8 hn _ k).mono
structure JG (n:Nat) (h0:Host) (k:Nat) (h:Host):Prop where
 UP:Good ((n:Int)+641*(k:Int)) h
 sz:BG (n+645000*k) h
 stay:mc h0 h
theorem Hb {n:Nat}(hn:1000<=n/\n<=20000000){h0:Host}(hk:k<=1000)(f:JG n h0 k h)(a:Act)(s:Int):JG n h0 (k+1) (xf (h,s) a).1:=by refine⟨(UN (by omega) f.UP a s).mono (by push_cast;omega),(abX (by omega) a s f.sz (agO (f.UP.ok (by omega)))).mono,f.stay.trans (UO h a s)⟩
theorem K8 (x:α):NP (some (true,x))=some (true,x):=rfl
theorem FB {n:Nat}(hn:1000<=n/\n<=20000000){h0:Host}(hk:k<=100)(f:JG n h0 k h)(a:Act)(ha:I4 a)(h6:(a.1==6)=false):nI h a=some (true,yp h a):=by refine aez h a (f.sz.mono) (by have:=ha.2.1;omega) ha.2.2.1 ?_;have:=ha.2.2.2;simp only[cI,ne_eq]at h6;omega
theorem Nh {n:Nat}(hn:1000<=n/\n<=20000000)(k0:Int->Int->Host->ax R)(l:aw Act)(b:Host){h0:Host}(hl:l.length<=100)(ha:∀a∈l,I4 a):∀(m i:Nat)(s:Int)(h:Host)(f:Nat),i+m=l.length->m<f->JG n h0 i h->
 aX (gR k0 l b) f (s,(i:Int),h)=k0 ((l.drop i).foldl xf (h,s)).2 (l.length:Int) ((l.drop i).foldl xf (h,s)).1
 |0,i,s,h,f+1,e,_,_=>by rw[aX];unfold gR;simp only;rw[cC,af,cK (by omega)];show k0 s (i:Int) h=k0 s _ h;rw[show i=l.length by omega]
 |m+1,i,s,h,f+1,e,hf,q=>by
  have hi:i<l.length:=by omega
  have hx:=ha _ (bk hi);have st:=Hb hn (by omega) q l[i] s;have go:=λs' h'=>Nh (h0:=h0) hn k0 l b hl ha m (i+1) s' h' f (by omega) (by omega);have ei:au ((i:Int)+1)=((i+1:Nat):Int):=by rw[ak];rfl
  have hd:l.drop i=l[i]::l.drop (i+1):=(bJ hi)
  rw[aX];generalize aX (gR k0 l b) f=T at go⊢;unfold gR;simp only[ei];rw[jU,ah,bf hi,ab,hd,cZ];have fs:xf (h,s) l[i]=bif l[i].1==6 then(wS h,s) else((yp h l[i]).1,bif l[i].1==0 then au (s+(yp h l[i]).2) else s):=rfl
  rw[fs]at st⊢;cases h6:l[i].1==6 with|true=>rw[h6]at st;rw[ah,D5 h (q.sz.sz (by omega)) (q.sz.z.mono),ab];exact go s _ st|false=>rw[h6]at st;simp only[ab,ah,af,FB hn (by omega) q l[i] hx h6,K8]at st⊢;cases h00:l[i].1==0 with|true=>exact go _ _ st|false=>exact go _ _ st
theorem aex {n:Nat}(hn:1000<=n/\n<=20000000)(h:Host)(l:aw Act)(hl:l.length<=100)(ha:∀a∈l,I4 a)(g:Good (n:Int) h)(z:BG n h):vL h l=some (!l.isEmpty,abW h l):=by
 have q:JG n h 0 h:=⟨by simpa using g,by simpa using z,mc.refl h⟩
 unfold vL;cases l with
 |nil=>rfl
 |cons a t=>
  have hx:=ha a (List.mem_cons_self ..);have st:=Hb hn (by omega) q a 0;have go:=λ{R:Type} (k0:Int->Int->Host->ax R) (b:Host) s' h'=>Nh (R:=R) (h0:=h) hn k0 (a::t) b hl ha t.length 1 s' h' fuel (by simp;omega) (by have:=dR;simp at hl;omega);have ei:au ((0:Int)+1)=((1:Nat):Int):=by decide
  have hd:(a::t).drop 1=t:=rfl;have e0:idx (a::t) 0=some a:=rfl;have fs:xf (h,0) a=bif a.1==6 then(wS h,0) else((yp h a).1,bif a.1==0 then au (0+(yp h a).2) else 0):=rfl
  rw[ar (by simp),ah,e0,ei];simp only[ab];have fa:abW h (a::t)=t.foldl xf (xf (h,0) a):=rfl;rw[fa,fs];rw[fs]at st;cases h6:a.1==6 with|true=>rw[h6]at st;rw[ah,D5 h (z.sz (by omega)) (z.z.mono),ab];simp only[ah]at st⊢;rw[go _ _ _ _ st];rfl|false=>rw[h6]at st;simp only[ab,ah,af,FB hn (by omega) q a hx h6,K8]at st⊢;cases h00:a.1==0 with|true=>simp only[ah];rw[go _ _ _ _ st];rfl|false=>simp only[af];rw[go _ _ _ _ st];rfl
theorem agG {k:Bool->ax Bool}(ht:k true=some true)(hk:a.length<=1048576->Ends (k false) (λb=>b=true)):Ends (aa (Gb a) k) (λb=>b=true):=by unfold Gb;rw[ab];by_cases h:((a.length:Int))>1048576;rw[ar h,ht];exact Ends.pure rfl;rw[aq h];exact hk (by omega)
theorem Ends.true {o:ax Bool}(h:Ends o (λb=>b=true)):o=some true:=by obtain⟨x,h1,rfl⟩:=h;exact h1
theorem aiL (ha:XT (.sl (.int .u8)) a)(hl:a.length<=1048576){i:Int}(h0:0<=i)(h1:i<=1000000):Ends (Ga a i) λx=>0<=x/\x<=255:=by
 unfold Ga;refine Ends.cond (λ_=>Ends.pure ⟨dL _,by omega⟩) λk=>?_;have k:((a.length:Int))≠0:=by simpa using k
 have m1:=Int.tmod_nonneg (a.length:Int) (a:=i*5+1) (by omega);have m2:=Int.tmod_lt_of_pos (i*5+1) (b:=(a.length:Int)) (by omega);rw[ak (n:=i*5),ak (n:=i*5+1)];refine Ends.ifn k (Ends.idx m1 m2 λhi=>Ends.pure ?_);have hx:0<=a[(tmod (i*5+1) (a.length:Int)).toNat]/\a[(tmod (i*5+1) (a.length:Int)).toNat]<=255:=ha.2 _ (bk hi);rw[ak];exact hx
theorem map_take {β:Type}(f:α->β)(l:aw α)(i:Nat)(hi:i<l.length):(l.take i).map f++[f l[i]]=(l.take (i+1)).map f:=by rw[bQ hi,List.map_append];rfl
def Jd (n:Nat):bM:=List.replicate n (xi 128)
theorem Zr (n:Nat):Jd (n+1)=Jd n++[xi 128]:=List.replicate_succ'
theorem Wg (n:Nat)(h:n<=64):pZ (n:Int)=some (Jd n):=by have hz:il 128 0=some (xi 128):=LC 128;unfold pZ;refine eG (λi=>((i:Int),Jd i)) n (by omega) (λi nx hi=>?_) (λnx=>?_);simp only[pz];rw[ar (show(i:Int)<n by omega),ah,jU,ab,ah,hz,ab,aP (by simp[Jd];omega),ak,Zr];rfl;simp only[pz];rw[aq (show¬(n:Int)<n by omega),af,ab,af]
def wR (a b:Int):Vector×Bool:=bif eD (a,b,0,0,false,false) then((a,b,0,0,false,false),true) else((0,0,0,0,false,false),false)
theorem Wh (a b:Int):uk a b=some (wR a b):=by unfold uk wR;rw[EZ,ab];cases eD (a,b,0,0,false,false)<;>rfl
def Aw (i:Nat):aw aA:=(List.range i).map λ(p:Nat)=>(0,(p:Int),37-(p:Int), !dm (p:Int) 2 9)
theorem VA (i:Nat):Aw (i+1)=Aw i++[(0,(i:Int),37-(i:Int), !dm (i:Int) 2 9)]:=by simp[Aw,List.range_succ]
theorem Hv (i:Nat):(Aw i).length=i:=by simp[Aw]
def W9 (f:Filter)(s:cS)(c:Bool)(i:Nat):Host:=(Jd 38,Aw i,En,([]:aw bR),([]:aw cR),([]:aw Vector),([]:aw Bool),f,s,([]:aw Stream),c,([]:bM),([]:cw),([]:cw),0,0,0,0,0)
theorem ahH:dF (Aw 38)=true:=by decide+kernel
def BQ (f:Filter)(s:cS)(c:Bool):aw Vector->Host
 |[]=>W9 f s c 38
 |v::vs=>SE ((BQ f s c vs).1,(BQ f s c vs).2.1,(BQ f s c vs).2.2.1,(BQ f s c vs).2.2.2.1++[((0,0,0,0),(0,0,0),(0,0,0),((0,0,0,0,0,0,0,0,0,0,0,0,0,0,0,([]:Bytes)),0,0),false,0)],(BQ f s c vs).2.2.2.2.1++[(0,0,0,([]:cw))],(BQ f s c vs).2.2.2.2.2.1++[v],(BQ f s c vs).2.2.2.2.2.2.1++[false],(BQ f s c vs).2.2.2.2.2.2.2) vs.length
def aa2 (h:Host):=(h.1,h.2.1,h.2.2.1,h.2.2.2.1,h.2.2.2.2.1,h.2.2.2.2.2.1,h.2.2.2.2.2.2.1)
structure Made (f:Filter) (s:cS) (c:Bool) (k:Nat) (h:Host):Prop where
 mem:cE h.1=true
 ml:h.1.length=38
 maps:h.2.1=Aw 38
 tx:h.2.2.1=En
 rx:h.2.2.2.1.length=k
 rxs:∀r∈h.2.2.2.1,yS 0 r/\r.2.2.2.2.1=false
 pl:h.2.2.2.2.1.length=k
 pls:∀p∈h.2.2.2.2.1,dx p=true/\p.2.2.2.length<=1000
 vec:h.2.2.2.2.2.1.length=k
 Ty:∀v∈h.2.2.2.2.2.1,eD v=true
 VT:h.2.2.2.2.2.2.1.length=k
 rest:h.2.2.2.2.2.2.2=(f,s,([]:List Stream),c,([]:List Bytes),([]:List Int),([]:List Int),0,0,0,0,0)
 is:∃vs,vs.length=k/\h=BQ f s c vs/\∀v∈vs,v.2.1<=3/\v.2.2.2.2.1=false
theorem S9 (l:aw α)(x y:α):(l++[x]).set l.length y=l++[y]:=by simp
theorem ae7 {n:Nat}(h:n<=64):cE (Jd n)=true:=qC.2 ⟨λx hx=>by rw[(List.mem_replicate.1 hx).2];exact DL 128,by simp[Jd];exact h⟩
theorem Zn {c:Bool}(m:Made f s c k h)(hk:k<=8)(hv:eD v=true)(h3:v.2.1<=3/\v.2.2.2.2.1=false):Ends (uB (h.1,h.2.1,h.2.2.1,h.2.2.2.1++[((0,0,0,0),(0,0,0),(0,0,0),((0,0,0,0,0,0,0,0,0,0,0,0,0,0,0,([]:Bytes)),0,0),false,0)],h.2.2.2.2.1++[(0,0,0,([]:cw))],h.2.2.2.2.2.1++[v],h.2.2.2.2.2.2.1++[false],h.2.2.2.2.2.2.2) (k:Int)) λr=>Made f s c (k+1) r.2:=by
 refine Ends.of (ady _ k hk (by simp[m.rx]) (by simp[m.pl]) (by show h.2.1.length<=_;rw[m.maps,Hv];omega) (by show h.1.length<=_;rw[m.ml];omega)) ?_;have o:=NR m.mem h.2.1 hk;have e1:(h.2.2.2.1++[(((0,0,0,0),(0,0,0),(0,0,0),((0,0,0,0,0,0,0,0,0,0,0,0,0,0,0,([]:Bytes)),0,0),false,0):bR)])[k]?=some ((0,0,0,0),(0,0,0),(0,0,0),((0,0,0,0,0,0,0,0,0,0,0,0,0,0,0,([]:Bytes)),0,0),false,0):=by rw[<-m.rx];simp
 have e2:∀y:bR,(h.2.2.2.1++[(((0,0,0,0),(0,0,0),(0,0,0),((0,0,0,0,0,0,0,0,0,0,0,0,0,0,0,([]:Bytes)),0,0),false,0):bR)]).set k y=h.2.2.2.1++[y]:=λy=>by rw[<-m.rx];exact S9 _ _ _
 have e3:∀y:cR,(h.2.2.2.2.1++[(((0,0,0,([]:cw))):cR)]).set k y=h.2.2.2.2.1++[y]:=λy=>by rw[<-m.pl];exact S9 _ _ _
 obtain⟨vs,vl,ve,vb⟩:=m.is;have is0:SE (h.1,h.2.1,h.2.2.1,h.2.2.2.1++[((0,0,0,0),(0,0,0),(0,0,0),((0,0,0,0,0,0,0,0,0,0,0,0,0,0,0,([]:Bytes)),0,0),false,0)],h.2.2.2.2.1++[(0,0,0,([]:cw))],h.2.2.2.2.2.1++[v],h.2.2.2.2.2.2.1++[false],h.2.2.2.2.2.2.2) k=BQ f s c (v::vs):=by rw[BQ,<-ve,vl]
 unfold SE at is0⊢;simp only[e1,e2,e3]at is0⊢;have hp:(sX h.2.1 h.1 k).2.2.1.2.2.2.length<=1000:=by unfold sX;exact bw (EB ..) (nK _ _ _)
 refine⟨o.1,?_,m.maps,m.tx,by show(_++[_]).length=_;rw[ai,m.rx];rfl,?_,by show(_++[_]).length=_;rw[ai,m.pl];rfl,?_,by show(_++[_]).length=_;rw[ai,m.vec];rfl,?_,by show(_++[_]).length=_;rw[ai,m.VT];rfl,m.rest,⟨v::vs,by simp[vl],is0,λw hw=>?_⟩⟩;show(sX h.2.1 h.1 k).1.length=38;rw[NQ,m.ml];intro r hr;rcases ay.1 hr with hr|hr;exact m.rxs r hr;rw[cf.1 hr];exact⟨S3 hk o.2.1 ⟨dL _,dL _⟩,rfl⟩;intro p hp';rcases ay.1 hp' with hp'|hp';exact m.pls p hp';rw[cf.1 hp'];exact⟨o.2.2,hp⟩;intro w hw;rcases ay.1 hw with hw|hw;exact m.Ty w hw;rw[cf.1 hw];exact hv;rcases bO.1 hw with e|e;rw[e];exact h3;exact vb w e
def afs (h:Host):cS:=h.2.2.2.2.2.2.2.2.1
structure H3 (h:Host):Prop where
 UP:Good 0 h
 sz:BG 2000 h
 maps:∀m∈h.2.1,m.2.2.1<(h.1.length:Int)
 led:h.2.2.1.2.2.1=[]/\h.2.2.2.2.2.2.2.2.2.2.2.1=[]/\h.2.2.2.2.2.2.2.2.2.2.2.2.1=[]/\h.2.2.2.2.2.2.2.2.2.2.2.2.2.1=[]
 is:∃f s c vs,vs.length<=2/\aa2 h=aa2 (BQ f s c vs)/\∀v∈vs,v.2.1<=3/\v.2.2.2.2.1=false
theorem Vz {c:Bool}(m:Made f s c k h)(hk:1<=k/\k<=2)(hf:qf f=true)(AW:f.2.2.length<=1000)(hs:fu s (k:Int)=true)(hz:vm s):H3 h:=by have h4:=nK 256 128 8;obtain⟨vs,vl,ve,vb⟩:=m.is;obtain⟨m1,m2,m3,m4,m5,m6,m7,m8,m9,m10,m11,m12,_⟩:=m;obtain⟨mem,maps,tx,rx,pl,vec,VT,rest⟩:=h;simp only at m1 m2 m3 m4 m5 m6 m7 m8 m9 m10 m11 m12;subst m12 m3 m4;refine⟨⟨m1,ahH,ad2 0 (by omega),hf,?_,by show fu s (rx.length:Int)=true;rw[m5];exact hs,λr hr=>(m6 r hr).1,λp hp=>(m8 p hp).1,m10,?_⟩,⟨?_,?_⟩,?_,⟨rfl,rfl,rfl,rfl⟩,⟨f,s,c,vs,by omega,congrArg aa2 ve,vb⟩⟩;unfold qU;simp only[ae,bg,aS];omega;intro x hx;simp only[ic,bO,List.not_mem_nil,or_false,or_self]at hx;omega;have hm:=(qC.1 m1).1;refine⟨⟨by show mem.length<=2000;omega,λx hx=>by show x.length<=2000;rw[hm x hx];omega⟩,⟨by show(Aw 38).length<=2000;rw[Hv];omega,λ_ _=>⟨cv,cv,cv,cv⟩⟩,?_,?_,?_,?_,?_,⟨cv,cv,by show f.2.2.length<=2000;omega,λ_ _=>trivial⟩,?_,⟨bW _,λx hx=>by cases hx⟩,cv,⟨bW _,λx hx=>by cases hx⟩,⟨bW _,λx hx=>by cases hx⟩,⟨bW _,λx hx=>by cases hx⟩,cv,cv,cv,cv,cv⟩;exact⟨⟨cv,cv,cv,cv⟩,⟨cv,cv,cv,by show List.length (gT 256 128 8).1.2.2.2<=2000;omega,λ_ _=>trivial⟩,⟨bW _,λx hx=>by cases hx⟩,cv⟩;refine⟨by show rx.length<=2000;omega,λx hx=>?_⟩;have e:=(m6 x hx).1.free (m6 x hx).2;refine⟨⟨cv,cv,cv,cv⟩,⟨cv,cv,cv⟩,⟨cv,cv,cv⟩,?_,cv,cv⟩;rw[e];exact⟨⟨cv,cv,cv,cv,cv,cv,cv,cv,cv,cv,cv,cv,cv,cv,cv,bW _⟩,cv,cv⟩;exact⟨by show pl.length<=2000;omega,λx hx=>⟨cv,cv,cv,by have:=(m8 x hx).2;show x.2.2.2.length<=2000;omega,λ_ _=>trivial⟩⟩;exact⟨by show vec.length<=2000;omega,λx hx=>⟨cv,cv,cv,cv,cv,cv⟩⟩;exact⟨by show VT.length<=2000;omega,λx hx=>trivial⟩;exact⟨⟨by have:=hz.r;show s.1.length<=2000;omega,λ_ _=>⟨cv,cv,cv,cv,cv,cv,cv,cv,cv⟩⟩,⟨by have:=hz.t;show s.2.1.length<=2000;omega,λ_ _=>⟨cv,⟨cv,cv,cv,cv,cv⟩,cv⟩⟩,by have:=hz.k;show s.2.2.1.length<=2000;omega,by have:=hz.p;show s.2.2.2.length<=2000;omega,λ_ _=>trivial⟩;show List.length (gT 256 128 8).1.2.2.2+0<=2000;omega;intro m hm;have hm:m∈Aw 38:=hm;simp only[Aw,List.mem_map,bT]at hm;obtain⟨i,hi,rfl⟩:=hm;show 37-(i:Int)<(mem.length:Int);omega
theorem ZI {a:Int}(h:(wR a b).2=true):eD (wR a b).1=true:=by unfold wR at h⊢;cases hv:eD (a,b,0,0,false,false)with|false=>rw[hv]at h;cases h|true=>exact hv
theorem acY {a:Int}(h:(wR a b).2=true)(hb:b<=3):(wR a b).1.2.1<=3/\(wR a b).1.2.2.2.2.1=false:=by unfold wR at h⊢;cases hv:eD (a,b,0,0,false,false)with|false=>rw[hv]at h;cases h|true=>exact⟨hb,rfl⟩
theorem K3 (q:Int)(f:Filter)(s:cS)(c:Bool)(a b:Int)(hf:f.2.2.length<=1000)(hs:vm s)(hb3:b<=3):Ends (ui q f s c a b) λr=>(r.2=true->H3 r.1/\afs r.1=s)/\((1<=q/\q<=2)->qf f=true->fu s q=true->(wR a b).2=true->r.2=true):=by
 have z1:=hs.r;have z2:=hs.t;have z3:=hs.p;unfold ui;rw[Wh,ab,eu,ab];refine Ends.bind (P:=λx=>(x=false->(1<=q/\q<=2)/\qf f=true/\fu s q=true/\(wR a b).2=true)/\(x=true->(1<=q/\q<=2)->qf f=true->fu s q=true->(wR a b).2=true->False)) ?_ λx hx=>Ends.cond (λXb=>Ends.pure ⟨(λh=>by cases h),λg1 g2 g3 g4=>(hx.2 Xb g1 g2 g3 g4).elim⟩) λh=>?_;refine Ends.cond (λk=>Ends.pure ⟨(λh=>by cases h),λ_ g1 _ _ _=>by rw[bg.2 g1]at k;cases k⟩) λh1=>?_;rw[We f (by omega),ab];refine Ends.cond (λk=>Ends.pure ⟨(λh=>by cases h),λ_ _ g2 _ _=>by rw[g2]at k;cases k⟩) λh2=>?_;rw[Qc s q (by omega) (by omega) (by omega),ab];refine Ends.cond (λk=>Ends.pure ⟨(λh=>by cases h),λ_ _ _ g3 _=>by rw[g3]at k;cases k⟩) λh3=>Ends.pure ⟨λh4=>?_,λk _ _ _ g4=>by rw[g4]at k;cases k⟩;exact⟨bg.1 (by simpa using h1),by simpa using h2,by simpa using h3,by simpa using h4⟩;obtain⟨hq,h1,h2,h3⟩:=hx.1 h;have hm:pZ 38=some (Jd 38):=Wg 38 (by omega);rw[hm,ab,aar,ab,LB f (by omega),ab,MF s (by omega) (by omega) (by omega),ab];have hv:=ZI h3;refine Ends.wv (λx=>0<=x.1/\x.1<=38/\x.2=W9 f s c x.1.toNat) (λx=>(38-x.1).toNat) ⟨by simp,by simp,rfl⟩ (by simp) λx nx hx hn=>?_;obtain⟨i,y⟩:=x;obtain⟨x1,x2,x3⟩:=hx;simp only at x1 x2 x3;unfold wV;refine Ends.cond (λk=>?_) λk=>?_;have k:=bl k;have hl:=Hv i.toNat;simp only at k;rw[eu,ab];simp only;rw[ak (n:=i+1),ak (n:=37-i)];subst x3;refine Ends.room (by show(Aw i.toNat).length+1<=_;omega) (hn _ ⟨by show 0<=i+1;omega,by show i+1<=38;omega,?_⟩ (by show(38-(i+1)).toNat<(38-i).toNat;omega));have e:(i+1).toNat=i.toNat+1:=by omega
 show(Jd 38,Aw i.toNat++_,_)=W9 f s c (i+1).toNat;rw[e];unfold W9;rw[VA,show((i.toNat:Nat):Int)=i by omega];have k:=eK k;simp only at k;have e:i.toNat=38:=by omega
 rw[e]at x3;have hm0:Made f s c 0 y:=by rw[x3];exact⟨ae7 (by omega),by show(Jd 38).length=38;simp[Jd],rfl,rfl,rfl,(λ_ hr=>by cases hr),rfl,(λ_ hr=>by cases hr),rfl,(λ_ hr=>by cases hr),rfl,rfl,⟨[],rfl,rfl,λ_ hv=>by cases hv⟩⟩
 simp only;refine Ends.wv (λx=>0<=x.1/\x.1<=q/\Made f s c x.1.toNat x.2) (λx=>(q-x.1).toNat) ⟨by simp,by show(0:Int)<=q;omega,hm0⟩ (by simp;omega) λx nx hx hn=>?_;obtain⟨i,y⟩:=x;obtain⟨x1,x2,m⟩:=hx;simp only at x1 x2 m;unfold vc;refine Ends.cond (λk=>?_) λk=>Ends.pure ⟨λ_=>?_,λ_ _ _ _=>rfl⟩;have k:=bl k;simp only at k;have l1:=m.rx;have l2:=m.pl;have l3:=m.vec;have l4:=m.VT;refine Ends.room (by simp;omega) (Ends.room (by simp;omega) (Ends.room (by simp;omega) (Ends.room (by simp;omega) ?_)));have ho:=Zn m (by omega) hv (acY h3 hb3);rw[show((i.toNat:Nat):Int)=i by omega]at ho;refine ho.bind λr hr=>?_;simp only;rw[ak (n:=i+1)];refine hn _ ⟨by show 0<=i+1;omega,by show i+1<=q;omega,?_⟩ (by show(q-(i+1)).toNat<(q-i).toNat;omega);show Made f s c (i+1).toNat r.2;rw[show(i+1).toNat=i.toNat+1 by omega];exact hr;have k:=eK k;simp only at k;have hi:i=q:=by omega
 subst hi;exact⟨Vz m (by omega) h1 hf (by rw[show((i.toNat:Nat):Int)=i by omega];exact h2) hs,congrArg (λx=>x.2.1) m.rest⟩
theorem ae5 (n x:Int)(h0:0<=n)(h1:n<=1000000):Ends (il n x) λr=>(r.length:Int)=n:=by unfold il;rw[aE ⟨h0,dL _⟩];refine Ends.room (by omega) (Ends.wv (λy=>(y.1.length:Int)=n/\0<=y.2/\y.2<=n) (λy=>(n-y.2).toNat) ⟨by simp;omega,by simp,h0⟩ (by simp;omega) λy nx hy hn=>?_);unfold oq;refine Ends.cond (λk=>?_) λk=>Ends.pure (by simp[aJ];exact hy.1);have k:=bl k;rw[ak (n:=y.2+1)];refine Ends.idx hy.2.1 (by omega) λ_=>Ends.idx hy.2.1 (by omega) λ_=>hn _ ⟨?_,?_,?_⟩ ?_;show((List.set _ _ _).length:Int)=n;rw[aC];exact hy.1;show 0<=y.2+1;omega;show y.2+1<=n;omega;show(n-(y.2+1)).toNat<(n-y.2).toNat;omega
theorem SB:lU=some (List.replicate 8 (0,(0,0,0,0,0),0)):=by unfold lU;rw[aE (by decide),aP (by decide)];rfl
theorem Vu {k:Bytes}(hk:k.length=16):fu (([]:aw iA),List.replicate 8 (0,(0,0,0,0,0),0),k,[0]) 1=true:=by
 have ht:nT (List.replicate 8 (0,(0,0,0,0,0),0))=true:=by decide+kernel
 have hs:qO (k,[0]) 1=true:=by unfold qO;simp only[hk];decide+kernel
 unfold fu;rw[show wT ([]:aw iA)=true from rfl,ht,hs];rfl
def Vl (l:aw iA):Prop:=∀r∈l,r.2.2.2.2.2.2.1= -2
theorem Yw (h:Cu c):Ends (xM c) λr=>(H3 r.1/\Vl (afs r.1).1)/\Cu r.2:=by
 unfold xM;refine Ends.wv (λx=>0<=x.1/\x.1<=4/\Cu x.2) (λx=>(4-x.1).toNat) ⟨by simp,by simp,h⟩ (by simp) λx nx hx hn=>?_;unfold wZ;refine Ends.cond (λk=>?_) λk=>?_;have k:=bl k;refine(adB hx.2.2).bind λr1 p1=>?_;refine Ends.wv (λy=>(0<=y.1/\∀(j:Nat) r,(j:Int)<y.1->y.2.1[j]?=some r->r.2.2.2.2.2.2.1= -2)/\vm y.2) (λy=>((y.2.1.length:Int)-y.1).toNat) ⟨⟨by simp,λj r hj=>by simp at hj;omega⟩,p1.1.1⟩ (by have:=p1.1.1.r;simp;omega) λy ny hy hm=>?_;unfold xa;refine Ends.cond (λk2=>?_) λk2=>?_;have k2:=bl k2;have hr:=hy.2.r;rw[ak (n:=y.1+1)];refine Ends.idx hy.1.1 k2 λ_=>Ends.idx hy.1.1 k2 λ_=>hm _ ⟨⟨?_,λj r hj hr'=>?_⟩,⟨?_,hy.2.t,hy.2.k,hy.2.p⟩⟩ ?_;show 0<=y.1+1;have:=hy.1.1;omega;have hj:(j:Int)<y.1+1:=hj;have h0:=hy.1.1;by_cases hjy:j=y.1.toNat;subst hjy;rw[List.getElem?_set_self (by omega)]at hr';rw[<-dp hr'];rw[aO (λe=>hjy e.symm)]at hr';exact hy.1.2 j r (by omega) hr';show(List.set _ _ _).length<=100;rw[aC];exact hr;show(((List.set _ _ _).length:Int)-(y.1+1)).toNat<_;rw[aC];omega;refine(Q8 p1.2).bind λr6 p6=>(gv p6.2 (by decide)).bind λr7 p7=>(gv p7.2 (by decide)).bind λr8 p8=>(gv p8.2 (by decide)).bind λr9 p9=>?_;have hf:r6.1.2.2.length<=1000:=by rcases p6.1.2 with e|e<;>rw[e]<;>simp
 have vl:Vl y.2.1:=λr hr=>by obtain⟨j,hj⟩:=List.getElem?_of_mem hr;obtain⟨gQ,_⟩:=aF.1 hj;exact hy.1.2 j r (by have:=eK k2;omega) hj
 refine(K3 _ _ _ _ _ _ hf hy.2 (by have:=p9.1;omega)).bind λqW p10=>Ends.cond (λk3=>Ends.pure ⟨⟨(p10.1 k3).1,by rw[(p10.1 k3).2];exact vl⟩,p9.2⟩) λ_=>?_;rw[ak (n:=x.1+1) (by omega) (by have:=hx.2.1;omega)];refine hn _ ⟨by show 0<=x.1+1;have:=hx.1;omega,by show x.1+1<=4;omega,p9.2⟩ (by show(4-(x.1+1)).toNat<(4-x.1).toNat;omega);simp only[SB,ab];refine(ae5 16 5 (by omega) (by omega)).bind λXv p14=>?_;refine(K3 1 (2,false,([]:cw)) (([]:aw iA),List.replicate 8 (0,(0,0,0,0,0),0),Xv,[0]) true 1 0 (by simp) ⟨by simp,by simp,by show Xv.length=16;omega,by simp⟩ (by omega)).bind λzV p15=>?_;have f15:=p15.1 (p15.2 (by omega) (by decide+kernel) (Vu (by omega)) (by decide+kernel));exact Ends.pure ⟨⟨f15.1,by rw[f15.2];exact λr hr=>by cases hr⟩,hx.2.2⟩
def TB (h:Host)(s:aw Stream):Host:=(h.1,h.2.1,h.2.2.1,h.2.2.2.1,h.2.2.2.2.1,h.2.2.2.2.2.1,h.2.2.2.2.2.2.1,h.2.2.2.2.2.2.2.1,h.2.2.2.2.2.2.2.2.1,s,h.2.2.2.2.2.2.2.2.2.2)
theorem Mg (f:H3 h){s:aw Stream}(h1:s.length<=2000)(h2:∀x∈s,x.2.2.1=[]):H3 (TB h s):=by have g:=f.UP;have z:=f.sz.z;refine⟨⟨g.mem,g.maps,g.tx,g.Jp,g.lens,g.Qg,g.rx,g.pool,g.vec,g.E8⟩,⟨⟨z.1,z.2.1,z.2.2.1,z.2.2.2.1,z.2.2.2.2.1,z.2.2.2.2.2.1,z.2.2.2.2.2.2.1,z.2.2.2.2.2.2.2.1,z.2.2.2.2.2.2.2.2.1,⟨h1,λx hx=>?_⟩,z.2.2.2.2.2.2.2.2.2.2⟩,f.sz.t⟩,f.maps,f.led,f.is⟩;refine⟨⟨cv,cv,cv,cv,cv⟩,cv,?_,cv⟩;show x.2.2.1.length<=2000;rw[h2 x hx];simp
theorem UL (h:Cu c){l:aw Act}(hl:l.length<=20)(ha:∀a∈l,I4 a):Ends (wb c l) λr=>(H3 r.1/\Vl (afs r.1).1)/\Cu r.2:=by unfold wb;refine(Yw h).bind λr1 p1=>?_;refine Ends.wv (λx=>0<=x.2/\(x.1.length:Int)<=x.2/\x.2<=(l.length:Int)) (λx=>((l.length:Int)-x.2).toNat) ⟨by simp,by simp,by simp⟩ (by simp;omega) λx nx hx hn=>?_;unfold vg;refine Ends.cond (λk=>?_) λk=>?_;have k:=bl k;rw[ak (n:=x.2+1)];refine Ends.idx hx.1 k λhi=>?_;have Xb:=ha _ (bk hi);replace Xb:=Xb.2.1;rw[aao _ (by omega),ab];refine Ends.cond (λ_=>Ends.room (by simp;omega) (hn _ ⟨?_,?_,?_⟩ ?_)) λ_=>hn _ ⟨?_,?_,?_⟩ ?_;show 0<=x.2+1;omega;show((x.1++[_]).length:Int)<=x.2+1;simp;omega;show x.2+1<=_;omega;show((l.length:Int)-(x.2+1)).toNat<_;omega;show 0<=x.2+1;omega;show(x.1.length:Int)<=x.2+1;omega;show x.2+1<=_;omega;show((l.length:Int)-(x.2+1)).toNat<_;omega;exact(afb p1.2 (by omega)).bind λr6 p6=>Ends.pure ⟨⟨Mg p1.1.1 (by omega) p6.1.2,p1.1.2⟩,p6.2⟩
theorem Qs (ha:a.length<=1048576):Ends (nb a) λr=>(H3 r.1/\Vl (afs r.1).1)/\r.2.length<=20/\∀x∈r.2,I4 x:=by unfold nb;exact(ahS ha).bind λr1 p1=>(aeh p1 true).bind λr2 p2=>(UL p2.2 p2.1.1 λx hx=>(p2.1.2 x hx).1).bind λr3 p3=>Ends.pure ⟨p3.1,p2.1.1,λx hx=>(p2.1.2 x hx).1⟩
theorem Wv (ha:a.length<=1048576):Ends (nb a) λr=>H3 r.1/\r.2.length<=20/\∀x∈r.2,I4 x:=(Qs ha).mono λr hr=>⟨hr.1.1,hr.2⟩
theorem YE (a b:aw Bool)(h:a.length<=10^9):px a b=some (xW a b):=by unfold px;refine vp (λx y=>x==y) (λx y=>aS) a b h (λhl i hi nu nx=>?_) (λnx=>?_);simp only[lH];rw[jU,bf hi,bf nu,ak];rfl;simp only[lH];rw[cC];rfl
def ah2 (x1 x2:bR):Bool:=(x1.1.1==x2.1.1)&&((x1.1.2.1==x2.1.2.1)&&((x1.1.2.2.1==x2.1.2.2.1)&&((x1.1.2.2.2==x2.1.2.2.2)&&((x1.2.1.1==x2.2.1.1)&&((x1.2.1.2.1==x2.2.1.2.1)&&((x1.2.1.2.2==x2.2.1.2.2)&&((x1.2.2.1.1==x2.2.2.1.1)&&((x1.2.2.1.2.1==x2.2.2.1.2.1)&&((x1.2.2.1.2.2==x2.2.2.1.2.2)&&((x1.2.2.2.1.1.1==x2.2.2.2.1.1.1)&&((x1.2.2.2.1.1.2.1==x2.2.2.2.1.1.2.1)&&((x1.2.2.2.1.1.2.2.1==x2.2.2.2.1.1.2.2.1)&&((x1.2.2.2.1.1.2.2.2.1==x2.2.2.2.1.1.2.2.2.1)&&((x1.2.2.2.1.1.2.2.2.2.1==x2.2.2.2.1.1.2.2.2.2.1)&&((x1.2.2.2.1.1.2.2.2.2.2.1==x2.2.2.2.1.1.2.2.2.2.2.1)&&((x1.2.2.2.1.1.2.2.2.2.2.2.1==x2.2.2.2.1.1.2.2.2.2.2.2.1)&&((x1.2.2.2.1.1.2.2.2.2.2.2.2.1==x2.2.2.2.1.1.2.2.2.2.2.2.2.1)&&((x1.2.2.2.1.1.2.2.2.2.2.2.2.2.1==x2.2.2.2.1.1.2.2.2.2.2.2.2.2.1)&&((x1.2.2.2.1.1.2.2.2.2.2.2.2.2.2.1==x2.2.2.2.1.1.2.2.2.2.2.2.2.2.2.1)&&((x1.2.2.2.1.1.2.2.2.2.2.2.2.2.2.2.1==x2.2.2.2.1.1.2.2.2.2.2.2.2.2.2.2.1)&&((x1.2.2.2.1.1.2.2.2.2.2.2.2.2.2.2.2.1==x2.2.2.2.1.1.2.2.2.2.2.2.2.2.2.2.2.1)&&((x1.2.2.2.1.1.2.2.2.2.2.2.2.2.2.2.2.2.1==x2.2.2.2.1.1.2.2.2.2.2.2.2.2.2.2.2.2.1)&&((x1.2.2.2.1.1.2.2.2.2.2.2.2.2.2.2.2.2.2.1==x2.2.2.2.1.1.2.2.2.2.2.2.2.2.2.2.2.2.2.1)&&((x1.2.2.2.1.1.2.2.2.2.2.2.2.2.2.2.2.2.2.2.1==x2.2.2.2.1.1.2.2.2.2.2.2.2.2.2.2.2.2.2.2.1)&&((x1.2.2.2.1.1.2.2.2.2.2.2.2.2.2.2.2.2.2.2.2==x2.2.2.2.1.1.2.2.2.2.2.2.2.2.2.2.2.2.2.2.2)&&((x1.2.2.2.1.2.1==x2.2.2.2.1.2.1)&&((x1.2.2.2.1.2.2==x2.2.2.2.1.2.2)&&((x1.2.2.2.2.1==x2.2.2.2.2.1)&&((x1.2.2.2.2.2==x2.2.2.2.2.2)&&true)))))))))))))))))))))))))))))
theorem adm (x y:bR):ah2 x y=true↔x=y:=by obtain⟨⟨a1,a2,a3,a4⟩,⟨a5,a6,a7⟩,⟨a8,a9,a10⟩,⟨⟨b1,b2,b3,b4,b5,b6,b7,b8,b9,b10,b11,b12,b13,b14,b15,b16⟩,b17,b18⟩,a11,a12⟩:=x;obtain⟨⟨c1,c2,c3,c4⟩,⟨c5,c6,c7⟩,⟨c8,c9,c10⟩,⟨⟨d1,d2,d3,d4,d5,d6,d7,d8,d9,d10,d11,d12,d13,d14,d15,d16⟩,d17,d18⟩,c11,c12⟩:=y;simp only[ah2,dS,ae,aS,Prod.mk.injEq,and_assoc]
theorem aeQ (a b:aw bR)(h:a.length<=10^9):lF a b=some (xW a b):=by unfold lF;refine vp ah2 adm a b h (λhl i hi nu nx=>?_) (λnx=>?_);simp only[jo];rw[jU,bf hi,bf nu,ak];rfl;simp only[jo];rw[cC];rfl
def ad6 (x1 x2:Vector):Bool:=(x1.1==x2.1)&&((x1.2.1==x2.2.1)&&((x1.2.2.1==x2.2.2.1)&&((x1.2.2.2.1==x2.2.2.2.1)&&((x1.2.2.2.2.1==x2.2.2.2.2.1)&&((x1.2.2.2.2.2==x2.2.2.2.2.2)&&true)))))
theorem aaE (x y:Vector):ad6 x y=true↔x=y:=by obtain⟨a1,a2,a3,a4,a5,a6⟩:=x;obtain⟨c1,c2,c3,c4,c5,c6⟩:=y;simp only[ad6,dS,ae,aS,Prod.mk.injEq,and_assoc]
theorem R5 (a b:aw Vector)(h:a.length<=10^9):mA a b=some (xW a b):=by unfold mA;refine vp ad6 aaE a b h (λhl i hi nu nx=>?_) (λnx=>?_);simp only[jQ];rw[jU,bf hi,bf nu,ak];rfl;simp only[jQ];rw[cC];rfl
def V4 (x1 x2:iA):Bool:=(x1.1==x2.1)&&((x1.2.1==x2.2.1)&&((x1.2.2.1==x2.2.2.1)&&((x1.2.2.2.1==x2.2.2.2.1)&&((x1.2.2.2.2.1==x2.2.2.2.2.1)&&((x1.2.2.2.2.2.1==x2.2.2.2.2.2.1)&&((x1.2.2.2.2.2.2.1==x2.2.2.2.2.2.2.1)&&((x1.2.2.2.2.2.2.2.1==x2.2.2.2.2.2.2.2.1)&&((x1.2.2.2.2.2.2.2.2==x2.2.2.2.2.2.2.2.2)&&true))))))))
theorem V5 (x y:iA):V4 x y=true↔x=y:=by obtain⟨a1,a2,a3,a4,a5,a6,a7,a8,a9⟩:=x;obtain⟨c1,c2,c3,c4,c5,c6,c7,c8,c9⟩:=y;simp only[V4,dS,ae,aS,Prod.mk.injEq,and_assoc]
theorem YP (a b:aw iA)(h:a.length<=10^9):pt a b=some (xW a b):=by unfold pt;refine vp V4 V5 a b h (λhl i hi nu nx=>?_) (λnx=>?_);simp only[lE];rw[jU,bf hi,bf nu,ak];rfl;simp only[lE];rw[cC];rfl
def Wa (x1 x2:Slot):Bool:=(x1.1==x2.1)&&((x1.2.1.1==x2.2.1.1)&&((x1.2.1.2.1==x2.2.1.2.1)&&((x1.2.1.2.2.1==x2.2.1.2.2.1)&&((x1.2.1.2.2.2.1==x2.2.1.2.2.2.1)&&((x1.2.1.2.2.2.2==x2.2.1.2.2.2.2)&&((x1.2.2==x2.2.2)&&true))))))
theorem Wb (x y:Slot):Wa x y=true↔x=y:=by obtain⟨a1,⟨a2,a3,a4,a5,a6⟩,a7⟩:=x;obtain⟨c1,⟨c2,c3,c4,c5,c6⟩,c7⟩:=y;simp only[Wa,dS,ae,aS,Prod.mk.injEq,and_assoc]
theorem Vg (a b:aw Slot)(h:a.length<=10^9):pw a b=some (xW a b):=by unfold pw;refine vp Wa Wb a b h (λhl i hi nu nx=>?_) (λnx=>?_);simp only[lG];rw[jU,bf hi,bf nu,ak];rfl;simp only[lG];rw[cC];rfl
def LO (x1 x2:Stream):Bool:=(x1.1.1==x2.1.1)&&((x1.1.2.1==x2.1.2.1)&&((x1.1.2.2.1==x2.1.2.2.1)&&((x1.1.2.2.2.1==x2.1.2.2.2.1)&&((x1.1.2.2.2.2==x2.1.2.2.2.2)&&((x1.2.1==x2.2.1)&&((x1.2.2.1==x2.2.2.1)&&((x1.2.2.2==x2.2.2.2)&&true)))))))
theorem Qk (x y:Stream):LO x y=true↔x=y:=by obtain⟨⟨a2,a3,a4,a5,a6⟩,a7,a8,a9⟩:=x;obtain⟨⟨c2,c3,c4,c5,c6⟩,c7,c8,c9⟩:=y;simp only[LO,dS,ae,aS,Prod.mk.injEq,and_assoc]
theorem R4 (a b:aw Stream)(h:a.length<=10^9):mz a b=some (xW a b):=by unfold mz;refine vp LO Qk a b h (λhl i hi nu nx=>?_) (λnx=>?_);simp only[jP];rw[jU,bf hi,bf nu,ak];rfl;simp only[jP];rw[cC];rfl
theorem KJ (a b:cR)(h:a.2.2.2.length<=10^9):rC a b=some (xW a b):=by simp only[rC,Ap _ _ h,ab,bL,cF,jA a b,jA a.2 b.2,jA a.2.2 b.2.2,QL]
theorem Ve (a b:kO)(h:a.2.2.length<=10^9):vK a b=some (xW a b):=by simp only[vK,Ap _ _ h,ab,bL,cF,jA a b,jA a.2 b.2,QL]
theorem YT (a b:aw kO)(h:a.length<=10^9)(hx:∀x∈a,x.2.2.length<=10^9):kN a b=some (xW a b):=by unfold kN;refine vp xW (λ_ _=>zj) a b h (λhl i hi nu nx=>?_) (λnx=>?_);simp only[iY];rw[jU,bf hi,bf nu,ak];simp only[ah,ab,Ve _ _ (hx _ (bk hi))];rfl;simp only[iY];rw[cC];rfl
theorem YN (a b:aw cR)(h:a.length<=10^9)(hx:∀x∈a,x.2.2.2.length<=10^9):kM a b=some (xW a b):=by unfold kM;refine vp xW (λ_ _=>zj) a b h (λhl i hi nu nx=>?_) (λnx=>?_);simp only[iX];rw[jU,bf hi,bf nu,ak];simp only[ah,ab,KJ _ _ (hx _ (bk hi))];rfl;simp only[iX];rw[cC];rfl
def ringEq (a b:Ring):Bool:=(a.1==b.1)&&((a.2.1==b.2.1)&&((a.2.2.1==b.2.2.1)&&((a.2.2.2==b.2.2.2)&&true)))
theorem Z6 (a b:Ring):ringEq a b=xW a b:=by simp only[ringEq,jA a b,jA a.2 b.2,jA a.2.2 b.2.2,QL,dS]
theorem acF (a b:dD)(h1:a.2.2.1.length<=10^9)(h2:a.2.1.2.2.2.length<=10^9)(h3:∀x∈a.2.2.1,x.2.2.length<=10^9):zt a b=some (xW a b):=by unfold zt;rw[show((a.1.1==b.1.1)&&((a.1.2.1==b.1.2.1)&&((a.1.2.2.1==b.1.2.2.1)&&((a.1.2.2.2==b.1.2.2.2)&&true))))=xW a.1 b.1 from Z6 a.1 b.1];simp only[KJ _ _ h2,YT _ _ h1 h3,ab,bL,cF,jA a b,jA a.2 b.2,jA a.2.2 b.2.2,QL];cases xW a.1 b.1<;>cases xW a.2.1 b.2.1<;>cases xW a.2.2.1 b.2.2.1<;>cases xW a.2.2.2 b.2.2.2<;>rfl
theorem R3 (a b:cS)(h1:a.1.length<=10^9)(h2:a.2.1.length<=10^9)(h3:a.2.2.2.length<=10^9):pn a b=some (xW a b):=by simp only[pn,YP _ _ h1,Vg _ _ h2,Ap _ _ h3,ab,bL,cF,jA a b,jA a.2 b.2,jA a.2.2 b.2.2,QL]
structure Ok (h:Host):Prop where
 z:JH h
 t3:∀x∈h.2.2.1.2.2.1,x.2.2.length<=10^9
 r:h.2.2.2.1.length<=10^9
 p:h.2.2.2.2.1.length<=10^9
 v:h.2.2.2.2.2.1.length<=10^9
 b:h.2.2.2.2.2.2.1.length<=10^9
 s:h.2.2.2.2.2.2.2.2.2.1.length<=10^9
 l:h.2.2.2.2.2.2.2.2.2.2.2.1.length<=10^9
 i:h.2.2.2.2.2.2.2.2.2.2.2.2.1.length<=10^9
 j:h.2.2.2.2.2.2.2.2.2.2.2.2.2.1.length<=10^9
theorem U4 (a b:Host)(z:Ok a):sk a b=some (xW a.2.2 b.2.2):=by have ht:=z.z.t2;simp only[sk,acF _ _ z.z.t1 (by omega) z.t3,aeQ _ _ z.r,YN _ _ z.p z.z.p1,R5 _ _ z.v,YE _ _ z.b,Pv _ _ z.z.f1,R3 _ _ z.z.s1 z.z.s2 z.z.s3,R4 _ _ z.s,Is _ _ z.l,Ap _ _ z.i,Ap _ _ z.j,ab,bL,cF,QL];congr 1;apply OZ;simp only[dS,ae,zj,Prod.ext_iff]
def viewAt (a b:Host)(m n:aA):Bool:=(m.1==n.1)&&((m.2.1==n.2.1)&&((m.2.2.2==n.2.2.2)&&(decide (m.2.2.1<(a.1.length:Int))&&(decide (n.2.2.1<(b.1.length:Int))&&(a.1.getD m.2.2.1.toNat []==b.1.getD n.2.2.1.toNat [])))))
def Tz (a b:Host):Bool:=a.2.1.all (λm=>b.2.1.any (viewAt a b m))
theorem Xc {xs:aw α}{i:Int}(d:α)(h0:0<=i)(h1:i<(xs.length:Int)):idx xs i=some (xs.getD i.toNat d):=by
 have e:i=((i.toNat:Nat):Int):=by omega
 have hl:i.toNat<xs.length:=by omega
 rw[cL hl];have:=bf hl;rwa[<-e]at this
theorem acQ (h:dF l=true){m:aA}(hm:m∈l):0<=m.2.2.1:=by unfold dF at h;simp only[ae,aG,bT]at h;obtain⟨i,hi,rfl⟩:=eZ hm;have:=h.2 i hi;unfold Ht at this;rw[cL hi]at this;simp only[ae]at this;have:=this.1;unfold EO at this;simp only[ae,bg]at this;exact this.2.2.1
theorem Xo (h:dF l=true):l.length<=96:=by unfold dF at h;simp only[ae,aB]at h;omega
theorem ae6 (h:dF l=true){j:Nat}(hi:i<l.length)(hj:j<i):kB l[i].1 l[i].2.1 (l[j]'(by omega))=false:=by unfold dF at h;simp only[ae,aG,bT]at h;have:=h.2 i hi;unfold Ht at this;simp only[ae,aG,bT]at this;have:=this.2 j hj;rw[cL hi,cL (show j<l.length by omega)]at this;simpa using this
theorem XV {b:Host}(hb:dF b.2.1=true)(a:Host)(m:aA):b.2.1.any (viewAt a b m)=(match b.2.1.findIdx? (kB m.1 m.2.1)with|some k=>viewAt a b m (b.2.1.getD k Hu)|none=>false):=by
 cases hq:b.2.1.findIdx? (kB m.1 m.2.1)with
 |none=>rw[List.findIdx?_eq_none_iff]at hq;rw[Bool.eq_false_iff,ne_eq,List.any_eq_true];rintro⟨n,hn,hv⟩;have:=hq n hn;unfold viewAt at hv;simp only[ae,aS]at hv;simp[kB,hv.1,hv.2.1]at this
 |some k=>
  rw[List.findIdx?_eq_some_iff_getElem]at hq;obtain⟨hk,hpk,gQ⟩:=hq;simp only[cL hk];rw[cq,List.any_eq_true];constructor;rintro⟨n,hn,hv⟩;obtain⟨j,hj,rfl⟩:=eZ hn;have Po:=hv;unfold viewAt at Po;simp only[ae,aS]at Po;have hat:kB m.1 m.2.1 b.2.1[j]=true:=by simp[kB,Po.1,Po.2.1]
  rcases Nat.lt_trichotomy j k with hjk|hjk|hjk;have:=gQ j hjk;rw[hat]at this;simp at this;subst hjk;exact hv;have:=ae6 hb hj hjk;rw[<-Po.1,<-Po.2.1,hpk]at this;cases this;intro hv;exact⟨_,bk hk,hv⟩
theorem acv (a b:Host)(ha:dF a.2.1=true)(hb:dF b.2.1=true)(v4:Bool)(k0:Int->ax R)(k1:Bool->Int->ax R)(fin hit:ax R)(h0:∀x,k0 x=fin)(h1:∀x,k1 false x=hit): aX (mO k0 k1 v4 a.2.1 (a.2.1.length:Int) a b) fuel 0=cond (Tz a b) fin hit:=by
 have la:=Xo ha;have lb:=Xo hb;refine oE (λm=>b.2.1.any (viewAt a b m)) a.2.1 (by omega) (λi hi nx=>?_) (λnx=>?_);simp only[mO];rw[jU,ak (n:=(i:Int)+1),bf hi,XV hb];simp only[ah,ab,KH _ _ _ (show b.2.1.length<=10^9 by omega),NU];have m0:=acQ ha (bk hi);cases hq:b.2.1.findIdx? (kB a.2.1[i].1 a.2.1[i].2.1)with
 |none=>exact h1 _
 |some k=>
  rw[List.findIdx?_eq_some_iff_getElem]at hq;obtain⟨hk,hpk,gQ⟩:=hq;simp only[cL hk];have n0:=acQ hb (bk hk);rw[aq (show¬(k:Int)<0 by omega),bf hk];generalize b.2.1[k]=n at*;generalize a.2.1[i]=m at*;simp only[kB,ae,aS]at hpk;unfold viewAt;rw[show(m.1==n.1)=true by simp[hpk.1],show(m.2.1==n.2.1)=true by simp[hpk.2],show(m.2.2.2==n.2.2.2)=(n.2.2.2==m.2.2.2) from Bool.beq_comm];simp only[af,ab];cases n.2.2.2==m.2.2.2 with
  |false=>exact h1 _
  |true=>
   have g1:decide (m.2.2.1>=(a.1.length:Int))= !decide (m.2.2.1<(a.1.length:Int)):=by rw[cq];simp
   have g2:decide (n.2.2.1>=(b.1.length:Int))= !decide (n.2.2.1<(b.1.length:Int)):=by rw[cq];simp
   simp only[af,aj,bp];rw[g1,g2];by_cases c1:m.2.2.1<(a.1.length:Int);by_cases c2:n.2.2.1<(b.1.length:Int);rw[ar c1,ar c2,Xc [] m0 c1,Xc [] n0 c2,h1];simp only[aj,af,ab,bp];rfl;rw[ar c1,aq c2,h1];rfl;rw[aq c1,h1];rfl
 simp only[mO];rw[cC,h0];rfl
def Gt (a b:Host):Bool:=fy a&&(fy b&&(xW a.2.2 b.2.2&&(xW (a.2.1.length:Int) (b.2.1.length:Int)&&Tz a b)))
theorem Nl (k:fy h=true):dF h.2.1=true:=by unfold fy at k;simp only[ae]at k;exact k.2.1
theorem acG (a b:Host)(za:Ok a)(zb:Ok b):vF a b=some (Gt a b):=by unfold vF Gt;simp only[tA _ za.z,tA _ zb.z,U4 a b za,ab];cases ha:fy a;rfl;cases hb:fy b;rfl;rw[acv a b (Nl ha) (Nl hb) _ _ _ (some true) (some false) (λ_=>rfl) (λ_=>rfl)];simp only[ab,bL,cT,cN,cF,aj,af,bp,bne,QL];cases xW a.2.2 b.2.2<;>cases xW (a.2.1.length:Int) (b.2.1.length:Int)<;>cases Tz a b<;>rfl
def mapsIn (h:Host):Prop:=∀m∈h.2.1,m.2.2.1<(h.1.length:Int)
theorem Q2 (a:α):xW a a=true:=by unfold xW;simp
theorem aaa (g:Good n h)(hn:n<=1000000000000)(hm:mapsIn h):Gt h h=true:=by
 unfold Gt;rw[g.ok hn,Q2,Q2];have:Tz h h=true:=by unfold Tz;rw[aG];intro m hh;rw[List.any_eq_true];refine⟨m,hh,?_⟩;unfold viewAt;have:=hm m hh;simp only[beq_self_eq_true,bp,ar this]
 rw[this];rfl
theorem afA {n:Nat}(z:BG n h)(hn:n<=10^9):Ok h:=by have y:cX 1000000000 dC h:=z.z.mono hn;exact⟨z.sz hn,λx hx=>(y.2.2.1.2.2.1.2 x hx).2.2.1,y.2.2.2.1.1,y.2.2.2.2.1.1,y.2.2.2.2.2.1.1,y.2.2.2.2.2.2.1.1,y.2.2.2.2.2.2.2.2.2.1.1,y.2.2.2.2.2.2.2.2.2.2.2.1.1,y.2.2.2.2.2.2.2.2.2.2.2.2.1.1,y.2.2.2.2.2.2.2.2.2.2.2.2.2.1.1⟩
theorem Zo {a b:Host}(h:mapsIn a)(s:mc a b):mapsIn b:=by intro m hm;rw[s.maps]at hm;rw[s.mem];exact h m hm
theorem Sr (p x:Int):∀l:cw,x∈Hm p l↔x=p\/x∈l
 |[]=>by simp[Hm]
 |y::r=>by unfold Hm;split;simp;rw[bO,Sr p x r,bO];exact or_left_comm
theorem Zs (s:Move)(p x:Int):x∈(uL s p).2.1↔x∈s.2.1\/x=p:=by unfold uL;split;rename_i h;rw[List.any_eq_true]at h;obtain⟨y,hy,e⟩:=h;have e:=aS.1 e;subst e;constructor;exact Or.inl;rintro(h|rfl);exact h;exact hy;show x∈Hm p s.2.1↔_;rw[Sr];exact or_comm
theorem NI (x:Int):∀(l:cw)(s:Move),x∈(l.foldl uL s).2.1↔x∈s.2.1\/x∈l
 |[],s=>by simp
 |p::l,s=>by rw[cZ,NI x l,Zs,bO,or_assoc]
theorem K6:∀(l:cw)(s:Move),(l.foldl uL s).2.2=s.2.2
 |[],_=>rfl
 |p::l,s=>by rw[cZ,K6 l];unfold uL;split<;>rfl
theorem It (a:bM):∀(b:bM)(i p:Nat),p<b.length->a[i+p]?≠b[p]?->((i+p:Nat):Int)∈gz a b i
 |[],_,p,h,_=>by simp at h
 |q::r,i,0,_,h=>by have h:a[i]?≠some q:=h;unfold gz;rw[aH h];simp
 |q::r,i,p+1,h,h2=>by unfold gz;refine ay.2 (Or.inr ?_);have:=It a r (i+1) p (by simpa using h) (by rw[show i+1+p=i+(p+1) by omega];simpa using h2);rw[show i+1+p=i+(p+1) by omega]at this;exact this
theorem Ls (m:bM):∀(l:cw)(s:Move),s.1.length=m.length->∀p,p<m.length->(l.foldl (iM m) s).1[p]?=if(p:Int)∈l then m[p]? else s.1[p]?
 |[],s,_,p,_=>by simp
 |q::l,s,hs,p,hp=>by
  rw[cZ,Ls m l (iM m s q) (by rw[Lr];exact hs) p hp];by_cases h:(p:Int)∈l;rw[aE h,aE (ec _ h)];rw[aH h];unfold iM;by_cases hq:q=(p:Int)
  subst hq;rw[aE (List.mem_cons_self ..),aE ⟨by omega,by omega,by omega⟩];show(s.1.set (p:Int).toNat (m.getD (p:Int).toNat []))[p]?=m[p]?;rw[az,List.getElem?_set_self (by omega),al hp,cm,al hp];rfl;have hn:¬(p:Int)∈q::l:=by simp only[bO,not_or];exact⟨λe=>hq e.symm,h⟩
  rw[aH hn];split;show(s.1.set q.toNat _)[p]?=_;rw[aO (by omega)];rfl
theorem IE (m:bM):∀(l:cw)(s:Move),0<=s.2.2->s.2.2+(l.length:Int)<=1000000000000->s.2.2<=(l.foldl (iM m) s).2.2/\(l.foldl (iM m) s).2.2<=s.2.2+(l.length:Int)
 |[],s,_,_=>by simp
 |q::l,s,h0,h1=>by
  simp only[bc]at h1;have e:(iM m s q).2.2=s.2.2+1\/(iM m s q).2.2=s.2.2:=by unfold iM;split;exact Or.inl (ak);exact Or.inr rfl
  have i:=IE m l (iM m s q) (by omega) (by omega);rw[cZ,bc];push_cast;omega
structure Mov (v:Move) (m:List Bytes) (k:Nat):Prop where
 len:v.1.length=m.length
 same:∀p,p<m.length->(p:Int)∈v.2.1\/v.1[p]?=m[p]?
 dirty:v.2.1.length<=2000*k
 sent:(m.length:Int)<=v.2.2/\v.2.2<=2000+2000000*(k:Int)
theorem acU {v:Move}(q:Mov v m k){m2:bM}(e:m2.length=m.length)(hl:m.length<=2000):Mov ((gz m m2 0).foldl uL v) m2 (k+1):=by refine⟨by rw[ES,e];exact q.len,λp hp=>?_,?_,?_⟩;rw[NI,ES];by_cases h:m[p]?=m2[p]?;rcases q.same p (by omega)with g|g;exact Or.inl (Or.inl g);exact Or.inr (g.trans h);have:=It m m2 0 p hp (by rw[ca];exact h);rw[ca]at this;exact Or.inl (Or.inr this);have h1:=NO (gz m m2 0) v;have h2:=B4 m m2 0;have h3:=q.dirty;omega;have:=q.sent;rw[K6,e];push_cast;omega
theorem NJ {v:Move}(q:Mov v m k)(hl:m.length<=2000:=by omega)(hk:k<=100:=by omega):Mov (v.2.1.foldl (iM m) (v.1,([]:cw),v.2.2)) m (k+1)/\(v.2.1.foldl (iM m) (v.1,([]:cw),v.2.2)).2.1=[]/\(v.2.1.foldl (iM m) (v.1,([]:cw),v.2.2)).1=m:=by
 have hd:=Gr m v.2.1 (v.1,([]:cw),v.2.2);have hn:=EV m v.2.1 (v.1,([]:cw),v.2.2);have hg:=Ls m v.2.1 (v.1,([]:cw),v.2.2) q.len;have hq:=q.sent;have hdl:=q.dirty;have hs:=IE m v.2.1 (v.1,([]:cw),v.2.2) (by show 0<=v.2.2;omega) (by show v.2.2+_<=_;omega);have all:∀p,p<m.length->(v.2.1.foldl (iM m) (v.1,([]:cw),v.2.2)).1[p]?=m[p]?:=by intro p hp;rw[hg p hp];split;rfl;rename_i h;exact(q.same p hp).resolve_left h
 have hn:(v.2.1.foldl (iM m) (v.1,([]:cw),v.2.2)).1.length=m.length:=hn.trans q.len;refine⟨⟨hn,λp hp=>Or.inr (all p hp),by rw[hd];simp,?_⟩,hd,?_⟩;have h1:v.2.2<=_:=hs.1;have h2:_<=v.2.2+(v.2.1.length:Int):=hs.2;push_cast;omega;apply cn;intro p;by_cases hp:p<m.length;exact all p hp;rw[bh (by omega),bh (by omega)]
theorem aeL (v:Move)(h:Host)(z:cX 1000000000 dC h)(h1:v.1.length<=10^9)(h2:v.2.1.length<=10^9):rY v h=some (O3 v h):=by have hl:=EV h.1 v.2.1 (v.1,([]:cw),v.2.2);simp only[rY,lp h z,D3 v h.1,Is _ h.1 (show(v.2.1.foldl (iM h.1) (v.1,([]:cw),v.2.2)).1.length<=10^9 by rw[hl];exact h1),ab];rfl
theorem VF (a:cw)(ha:XT (.sl (.int .u8)) a):Bl a=some true:=by
 refine Ends.true ?_;unfold Bl;refine agG rfl λhl=>?_;rw[af];refine(Wv hl).bind λr2 p2=>?_;obtain⟨h,l⟩:=r2;simp only at p2⊢;obtain⟨f,hn,am5⟩:=p2;have hm:h.1.length<=2000:=f.sz.z.1.1;have es:tO h.1=some (h.1,([]:cw),(h.1.length:Int)):=by unfold tO;rw[eS _];rfl
 rw[es,ab];have q0:JG 2000 h 0 h:=⟨f.UP.mono,by simpa using f.sz,mc.refl h⟩
 have m0:Mov (h.1,([]:cw),(h.1.length:Int)) h.1 0:=⟨rfl,λp _=>Or.inr rfl,by simp,⟨dL _,by show(h.1.length:Int)<=_;omega⟩⟩
 refine Ends.wv (λx=>0<=x.1/\x.1<=(l.length:Int)/\JG 2000 h x.1.toNat x.2.1/\Mov x.2.2 x.2.1.1 (2*x.1.toNat)) (λx=>((l.length:Int)-x.1).toNat) ⟨by simp,by simp,q0,m0⟩ (by simp;omega) λx nx hx AJ=>?_;obtain⟨i,g,v⟩:=x;obtain⟨x1,x2,x3,x4⟩:=hx;simp only at x1 x2 x3 x4;obtain⟨n,rfl⟩:∃n:Nat,i=n:=⟨i.toNat,by omega⟩
 rw[az]at x3 x4;have hgm:=x3.stay.mem;unfold wQ;refine Ends.cond (λk=>?_) λk=>?_;have k:=bl k;simp only at k⊢;have hi:n<l.length:=by omega
 have ei:au ((n:Int)+1)=((n+1:Nat):Int):=by rw[ak];rfl
 have sb:sub l (n:Int) ((n+1:Nat):Int)=some [l[n]]:=by rw[JA _ _ _,bJ hi,show n+1-n=1 by omega];rfl
 have hx:=am5 _ (bk hi);have fe:=aex (n:=2000+645000*n) ⟨by omega,by omega⟩ g [l[n]] (by simp) (by intro y hy;rw[cf.1 hy];exact hx) (x3.UP.mono) x3.sz;have st:=Hb (n:=2000) (by omega) (by omega) x3 l[n] 0;have e2:abW g [l[n]]=xf (g,0) l[n]:=rfl;rw[ei,sb,ab,fe,ab,e2];generalize xf (g,0) l[n]=y at st⊢;obtain⟨y,ys⟩:=y;simp only at st;have hym:=st.stay.mem;have nt:=acU x4 (m2:=y.1) (by omega) (by omega);have rd:=NJ nt;have hd:=nt.dirty;show Ends (aa (kc v g.1 y.1) _) _;rw[acx v g.1 y.1 (by rw[x4.len];omega) (by have:=x4.dirty;omega) (by omega),ab];have hlen:=nt.len;generalize (gz g.1 y.1 0).foldl uL v=w at nt rd hd hlen⊢;have nx1:∀u,Mov u y.1 (2*(n+1))->Ends (nx (((n+1:Nat):Int),y,u)) (λb=>b=true):=λu mu=>AJ _ ⟨by show(0:Int)<=((n+1:Nat):Int);omega,by show((n+1:Nat):Int)<=_;omega,by rw[az];exact st,by rw[az];exact mu⟩ (by show((l.length:Int)-((n+1:Nat):Int)).toNat<((l.length:Int)-(n:Int)).toNat;omega);refine(aiL ha hl (i:=(n:Int)) (by omega) (by omega)).bind λr7 p7=>Ends.ifn (by decide) (Ends.cond (λ_=>?_) λ_=>?_);rw[D3 w y.1,ab];rw[rd.2.1];exact nx1 _ rd.1;exact nx1 _ ⟨nt.len,nt.same,by have:=nt.dirty;omega,by have:=nt.sent;push_cast at this⊢;omega⟩;have k:=eK k;simp only at k⊢;have rd:=NJ x4;have gm:mapsIn g:=Zo f.maps x3.stay;have sv:=aaa x3.UP (by omega) gm;have vz:=afA x3.sz (by omega);have hd:=x4.dirty;have fin:O3 v g=(g,true):=by unfold O3;rw[rd.2.2,Q3 rfl]
 rw[aeL v g (x3.sz.z.mono) (by rw[x4.len];omega) (by omega),ab,fin];simp only[ah];rw[acG _ _ vz vz,ab,sv,ah,beq_self_eq_true,ah];exact Ends.pure (ar x4.sent.1)
end
end Go.Pu
