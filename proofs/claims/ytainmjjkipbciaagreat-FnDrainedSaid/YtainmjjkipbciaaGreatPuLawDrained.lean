import Derived.Test.YtainmjjkipbciaaGreatPure
import Derived.Test.YtainmjjkipbciaaGreatPuX2
namespace Go.Pu
open Go.Dn
set_option linter.unusedSimpArgs false
set_option linter.unusedVariables false
noncomputable section
variable {r:Bool} {f:Filter} {h:Host} {d n z:Int} {a b hd i k x:Nat} {p:de} {q:bF} {t:dZ} {R α:Type} {v:Vector} {l ps:ax aQ} {s:ax Stream×bF×de} {L:ax bW} {F P:fF} {m m':bW}
/- What is valid stays valid: receiving queues, hosts, acts. -/
theorem zZ (v:Vector):zY v=true↔1<=v.2.2.1/\(v.1<=v.2.2.1\/v.2.1<=v.2.2.2.1):=by unfold zY;by_cases h1:v.2.2.1>=1;rw[au h1,ah];by_cases h2:v.2.2.1>=v.1;rw[au h2];simp;omega;rw[ar h2,af,aD];omega;rw[ar h1];simp;omega
theorem ahD (v:Vector):dH v=(dp v.1 1 64&&(dp v.2.1 0 64&&(dp v.2.2.1 0 1000000&&(dp v.2.2.2.1 0 1000000&&((decide (v.2.2.1>0)||(v.2.2.2.1==0))&&(v.2.2.2.2.2==(zY v&& !v.2.2.2.2.1))))))):=by
 have h:=DS v;unfold me at h;simp only[eI,ac6,ab]at h;generalize dH v=w at h⊢;revert h;cases dp v.1 1 64 with|false=>(intro h;cases h;rfl)|true=>?_
 cases dp v.2.1 0 64 with|false=>(intro h;cases h;rfl)|true=>?_
 cases dp v.2.2.1 0 1000000 with|false=>(intro h;cases h;rfl)|true=>?_
 cases dp v.2.2.2.1 0 1000000 with|false=>(intro h;cases h;rfl)|true=>?_
 cases decide (v.2.2.1>0)<;>cases (v.2.2.2.1==0)<;>cases zY v<;>(intro h;cases h;rfl)
theorem qY (v:Vector):dH v=true↔(1<=v.1/\v.1<=64)/\(0<=v.2.1/\v.2.1<=64)/\(0<=v.2.2.1/\v.2.2.1<=1000000)/\(0<=v.2.2.2.1/\v.2.2.2.1<=1000000)/\(v.2.2.1>0\/v.2.2.2.1=0)/\v.2.2.2.2.2=(zY v&& !v.2.2.2.2.1):=by rw[ahD];simp only[ae,aX,cG,aD,bq]
theorem D9 (h1:1<=v.1/\v.1<=64)(h2:0<=v.2.1/\v.2.1<=64)(h3:0<=v.2.2.1/\v.2.2.1<=1000000)(h4:0<=v.2.2.2.1/\v.2.2.2.1<=1000000)(h5:v.2.2.1>0\/v.2.2.2.1=0)(hr:v.2.2.2.2.2=true->zY v=true/\v.2.2.2.2.1=false):dH (re v)=true:=by unfold re;cases hd:zY v&& !v.2.2.2.2.1 with|true=>exact(qY _).2 ⟨h1,h2,h3,h4,h5,by show true=(zY v&& !v.2.2.2.2.1);rw[hd]⟩|false=>refine(qY _).2 ⟨h1,h2,h3,h4,h5,?_⟩;rw[af,hd];cases hv:v.2.2.2.2.2 with|false=>rfl|true=>have:=hr hv;rw[this.1,this.2]at hd;cases hd
theorem Az (h:dH v=true)(hr:v.2.2.2.2.2=true):zY v=true/\v.2.2.2.2.1=false:=by have:=((qY v).1 h).2.2.2.2.2;rw[hr]at this;cases hd:zY v with|false=>rw[hd]at this;cases this|true=>rw[hd]at this;cases hm:v.2.2.2.2.1 with|true=>rw[hm]at this;cases this|false=>exact⟨rfl,rfl⟩
theorem Un (h:0<=n/\n<=1000000):n<=HY n/\0<HY n/\HY n<=1000000:=by unfold HY;rw[ak];split<;>omega
theorem abI (h:dH v=true):dH (evV v)=true:=by have k:=(qY v).1 h;have u:=Un k.2.2.1;unfold evV;rw[h,ah];refine D9 (v:=(v.1,v.2.1,HY v.2.2.1,v.2.2.2)) k.1 k.2.1 ⟨by show 0<=HY v.2.2.1;omega,u.2.2⟩ k.2.2.2.1 (Or.inl u.2.1) λhr=>?_;have d:=Az h hr;have d1:=(zZ v).1 d.1;exact⟨(zZ _).2 ⟨by show 1<=HY v.2.2.1;omega,by show v.1<=HY v.2.2.1\/v.2.1<=v.2.2.2.1;omega⟩,d.2⟩
theorem KJ (h:dH v=true):dH (wq v)=true:=by have k:=(qY v).1 h;have u:=Un k.2.2.2.1;unfold wq;rw[h,ah];by_cases h0:v.2.2.1>0;rw[au h0,ah];refine D9 (v:=(v.1,v.2.1,v.2.2.1,HY v.2.2.2.1,v.2.2.2.2)) k.1 k.2.1 k.2.2.1 ⟨by show 0<=HY v.2.2.2.1;omega,u.2.2⟩ (Or.inl h0) λhr=>?_;have d:=Az h hr;have d1:=(zZ v).1 d.1;exact⟨(zZ _).2 ⟨d1.1,by show v.1<=v.2.2.1\/v.2.1<=HY v.2.2.2.1;omega⟩,d.2⟩;rw[ar h0,af];exact D9 k.1 k.2.1 k.2.2.1 k.2.2.2.1 k.2.2.2.2.1 λhr=>Az h hr
theorem R6 (h:dH v=true):dH (pF v).1=true:=by have k:=(qY v).1 h;unfold pF;cases dH v&&v.2.2.2.2.2 with|false=>exact h|true=>exact(qY _).2 ⟨k.1,k.2.1,⟨eo _,by show(0:Int)<=1000000;omega⟩,⟨eo _,by show(0:Int)<=1000000;omega⟩,Or.inr rfl,by show false=(_&& !true);simp⟩
theorem Uo (h:dH v=true):dH (xA v)=true:=by have k:=(qY v).1 h;unfold xA;rw[h,ah];refine D9 (v:=(v.1,v.2.1,v.2.2.1,v.2.2.2.1,false,v.2.2.2.2.2)) k.1 k.2.1 k.2.2.1 k.2.2.2.1 k.2.2.2.2.1 λhr=>?_;exact⟨(zZ _).2 ((zZ v).1 (Az h hr).1),rfl⟩
theorem Ym (h:dH v=true):dH (v.1,v.2.1,0,0,false,false)=true:=by have k:=(qY v).1 h;exact(qY _).2 ⟨k.1,k.2.1,⟨eo _,by show(0:Int)<=1000000;omega⟩,⟨eo _,by show(0:Int)<=1000000;omega⟩,Or.inr rfl,by simp[zY]⟩
structure xK (n:Int) (r:bF):Prop where
 ring:dg r.1=true
 dev:fV r.2.1=true
 drv:fV r.2.2.1=true
 base:r.2.1.1=r.2.2.1.1
 size:r.2.1.2.1=r.2.2.1.2.1
 drop:0<=r.2.2.2.2.2/\r.2.2.2.2.2<=n
 held:r.2.2.2.2.1=true->dG r.2.2.2.1.1=true/\(0<=r.2.2.2.1.2.1/\r.2.2.2.1.2.1<=320)/\1<=r.2.2.2.1.2.2/\r.2.2.2.1.2.2<=320
 free:r.2.2.2.2.1=false->r.2.2.2.1=Yh
theorem Kf (r:bF):Bl r=true↔xK 1000000000000 r:=by constructor;intro h;unfold Bl at h;rw[ae]at h;simp only[ae,bq,aX]at h;obtain⟨⟨h1,h2,h3,h4,h5,h6⟩,h7⟩:=h;refine⟨h1,h2,h3,h4,h5,h6,λhh=>?_,λhh=>?_⟩;rw[hh,ah]at h7;simp only[ae,aX]at h7;exact⟨h7.1,h7.2.1,h7.2.2⟩;rw[hh,af]at h7;exact(aaw _).1 h7;intro h;unfold Bl;rw[ae];simp only[ae,bq,aX];refine⟨⟨h.ring,h.dev,h.drv,h.base,h.size,h.drop⟩,?_⟩;cases hh:r.2.2.2.2.1 with|true=>have:=h.held hh;simp only[ah,ae,aX];exact⟨this.1,this.2.1,this.2.2⟩|false=>rw[af];exact(aaw _).2 (h.free hh)
theorem xK.mono {m:Int}{r:bF}(h:xK n r)(hn:n<=m:=by omega):xK m r:=⟨h.ring,h.dev,h.drv,h.base,h.size,⟨h.drop.1,by have:=h.drop.2;omega⟩,h.held,h.free⟩
theorem xK.rx {r:bF}(h:xK n r)(hn:n<=1000000000000):Bl r=true:=(Kf r).2 (h.mono hn)
theorem W8 (h:cP m=true)(l:ax aC)(d:Int)(q:HI)(x:CL):cP (qZ l m d q x).1=true:=by
 unfold qZ;cases !fV q|| !rf x with|true=>exact h|false=>?_
 cases (gA l m d (qe q) (Ee x (wC q)) true).2 with|false=>exact h|true=>exact BM h ..
theorem W9 (h:cP m=true)(l:ax aC)(d:Int)(q:bF)(k s:Bytes):cP (gC l m d q k s).1=true:=by
 unfold gC;cases !(cB s).2||(((cB s).1.1 !=3)||decide ((cB s).1.2.2.1<((dj q.2.2.2.1.1).1.length:Int)))with|true=>exact h|false=>?_
 cases (gA l m d (cB s).1.2.2.2.1 (dj q.2.2.2.1.1).1 true).2 with|false=>exact h|true=>exact W8 (BM h ..) ..
theorem adg {l:ax aC}{k s:Bytes}(hm:cP m=true)(hq:fV q.2.1=true):fV (gC l m d q k s).2.1=true/\(gC l m d q k s).2.1.1=q.2.1.1/\(gC l m d q k s).2.1.2.1=q.2.1.2.1:=(MF (n:=128) (by omega) (Mn (by omega) (nf.1 hm)) hq).2.2
theorem Ac (hn:n<=900000000000)(h:xK n q)(hm:cP m=true)(l:ax aC)(d:Int)(k:Bytes):cP (gP l m d q k).1=true/\xK (n+320) (gP l m d q k).2:=by
 unfold gP;cases hc: !Bl q||(!q.2.2.2.2.1||((k.length:Int) !=16))with|true=>exact⟨hm,h.mono⟩|false=>?_
 simp only[cj,dN]at hc;have hh:=h.held hc.2.1;have hd:=h.drop;have hr:=Mw h.ring l m d;have hs:=adg (l:=l) (d:=d) (k:=k) (s:=(bn l m d q.1).1) hm h.dev;simp only[af];cases (bn l m d q.1).2.2&&(gC l m d q k (bn l m d q.1).1).2.2 with|true=>exact⟨W9 hm ..,hr.1,hs.1,h.drv,hs.2.1.trans h.base,hs.2.2.trans h.size,⟨hd.1,by show q.2.2.2.2.2<=n+320;omega⟩,λhf=>(by cases hf),λ_=>rfl⟩|false=>refine⟨hm,hr.1,h.dev,h.drv,h.base,h.size,?_,λhf=>(by cases hf),λ_=>rfl⟩;show 0<=aq (q.2.2.2.2.2+q.2.2.2.1.2.2)/\aq (q.2.2.2.2.2+q.2.2.2.1.2.2)<=n+320;rw[ak];omega
theorem aco {s:om}{p:aQ}(h:D8 s p=true):dG (C7 s p).1=true/\(0<=(C7 s p).2.1/\(C7 s p).2.1<=320)/\1<=(C7 s p).2.2/\(C7 s p).2.2<=320:=by
 have hl:=MY h;unfold C7;rw[h,ah];simp only[D8,Zj,VA,ae,aD,aX,bq]at h;obtain⟨⟨hs,hp,hpath,h6,h16,hf⟩,⟨hz,hc,hn,hpl,hsum⟩,_⟩:=h;have hcnt:s.2.2+1<=320:=by
  have:s.2.2<=s.2.1*s.2.2:=by have:=Int.mul_le_mul_of_nonneg_right hz (show 0<=s.2.2 by omega);omega
  omega
 have hz320:s.2.1<=320:=by
  have:s.2.1<=s.2.1*s.2.2:=by have:=Int.mul_le_mul_of_nonneg_left hc.1 (show 0<=s.2.1 by omega);omega
  omega
 refine⟨?_,⟨by show 0<=s.2.1;omega,hz320⟩,?_⟩;have hh:pb s.1=true:=by unfold dG at hs;simp only[ae]at hs;exact hs.1
 have hk:s.1.2.2.2.2.2.2.2.2.1=6:=by
  have e:s.1.2.2.2.2.2.2.2.2.1=p.2.2.2.2.2.2.2.2.1:=by have h2:=hpath;unfold Re at h2;simp only[ae,bq]at h2;exact h2.2.2.2.2.2.2.2.1
  rw[e];exact h6
 have hsg:=xX hh;have hfl:dp p.2.2.2.2.2.2.2.2.2.2.2.2.2.1 0 31=true:=ET hp (by rw[h6];rfl);have hg:=Kh hsg hk (Vx hsg hk).2.2.1 (aX.1 hfl) (x:=s.1.2.2.2.2.2.2.2.2.2.2.2.2.2.2.2++p.2.2.2.2.2.2.2.2.2.2.2.2.2.2.2) (by rw[ai];omega);unfold dG;rw[ae];refine⟨zC hh (Jj hh) hg,?_⟩;show(_||(s.1.2.2.2.2.2.2.2.2.1==6)&&Ab p.2.2.2.2.2.2.2.2.2.2.2.2.2.1)=true;rw[hk,hf];simp;show 1<=aq (s.2.2+1)/\aq (s.2.2+1)<=320;rw[ak];omega
theorem Va (h:xK n q){s:om}(hs:dG s.1=true)(h1:0<=s.2.1/\s.2.1<=320)(h2:1<=s.2.2/\s.2.2<=320):xK n (Em q s):=⟨h.ring,h.dev,h.drv,h.base,h.size,h.drop,λ_=>⟨hs,h1,h2⟩,λhf=>(by cases hf)⟩
theorem MB {p:aQ}(h:gF p=true):dG (jS p).1=true/\(0<=(jS p).2.1/\(jS p).2.1<=320)/\1<=(jS p).2.2/\(jS p).2.2<=320:=by
 have hl:=DN h;have hs:dG p=true:=by unfold gF at h;simp only[ae]at h;exact h.1
 refine⟨hs,?_,by show(1:Int)<=1/\(1:Int)<=320;omega⟩;show 0<=(p.2.2.2.2.2.2.2.2.2.2.2.2.2.2.2.length:Int)/\(p.2.2.2.2.2.2.2.2.2.2.2.2.2.2.2.length:Int)<=320;omega
theorem Pb (hn:n<=800000000000)(h:xK n q)(hm:cP m=true)(l:ax aC)(d:Int)(k:Bytes)(p:aQ)(c:Bool):cP (kc l m d q k p c).1=true/\xK (n+640) (kc l m d q k p c).2:=by
 unfold kc;cases hc: !Bl q||(!gF p||((k.length:Int) !=16))with|true=>exact⟨hm,h.mono⟩|false=>?_
 simp only[cj,dN]at hc;have hs:=MB hc.2.1;have hf:=Ac (by omega) h hm l d k;have hf2:=Va hf.2 hs.1 hs.2.1 hs.2.2;simp only[af];cases hj:c&&(q.2.2.2.2.1&&D8 q.2.2.2.1 p)with|true=>simp only[ae]at hj;have j:=aco hj.2.2;exact⟨hm,h.ring,h.dev,h.drv,h.base,h.size,⟨h.drop.1,by show q.2.2.2.2.2<=n+640;have:=h.drop.2;omega⟩,λ_=>j,λhf=>(by have hf:q.2.2.2.2.1=false:=hf;rw[hj.2.1]at hf;cases hf)⟩|false=>simp only[af];cases c with|true=>exact⟨hf.1,hf2.mono⟩|false=>have:=Ac (by omega) hf2 hf.1 l d k;exact⟨this.1,this.2.mono⟩
theorem aha {l:ax aC}{q:HI}(h:fV q=true):fV (kY l m d q).2.1=true/\(kY l m d q).2.1.1=q.1/\(kY l m d q).2.1.2.1=q.2.1:=by unfold kY;cases EP l m d q with|false=>exact⟨h,rfl,rfl⟩|true=>have k:=tT h;refine⟨?_,rfl,rfl⟩;have e:=OT (a:=q.2.2+1) (b:=2*q.2.1);simp only[ah,ZQ,fV,ae,aX]at h⊢;refine⟨h.1,h.2.1,?_⟩;rw[uL h.2.1];omega
theorem TQ (h:xK n s.2.1)(hp:dh s.2.2=true)(l:ax aC)(m:bW)(d:Int):xK n (wP l m d s).2.1/\dh (wP l m d s).2.2=true:=by have k:=aha (l:=l) (m:=m) (d:=d) h.drv;exact⟨⟨h.ring,h.dev,k.1,h.base.trans k.2.1.symm,h.size.trans k.2.2.symm,h.drop,h.held,h.free⟩,XG hp _⟩
theorem J3 (l:ax aC)(m:bW)(d:Int){n:Int}:∀(k:Nat)(s:ax Stream×bF×de),xK n s.2.1->dh s.2.2=true->xK n (iM l m d k s).2.2.1/\dh (iM l m d k s).2.2.2=true
 |0,s,h,hp=>⟨h,hp⟩
 |k+1,s,h,hp=>by rw[iM];cases (kY l m d s.2.1.2.2.1).2.2 with|false=>exact⟨h,hp⟩|true=>have e:=TQ h hp l m d;exact J3 l m d k _ e.1 e.2
theorem I2 (l:ax aC)(d:Int)(p:de):∀(q:dC)(m:bW)(r:lb),cP m=true->dg r=true->cP (jw l d p q m r).2.1=true/\dg (jw l d p q m r).2.2=true
 |[],m,r,hm,hr=>⟨hm,hr⟩
 |b::q,m,r,hm,hr=>by rw[jw];cases (cL l m d r (eX p b)).2.2 with|false=>exact⟨hm,hr⟩|true=>exact I2 l d p q _ _ (GP hm ..) (Rv hr ..).1
theorem LL (hm:cP m=true){r:lb}(hr:dg r=true)(hp:dh p=true)(l:ax aC)(d:Int):cP (nB l m d r p).1=true/\dg (nB l m d r p).2.1=true/\dh (nB l m d r p).2.2.1=true:=by unfold nB;rw[hr,hp];have k:=I2 l d p p.2.2.2 m r hm hr;exact⟨k.1,k.2,BQ hp (List.drop_sublist _ _)⟩
theorem Ms {rx:bF}(h:xK n rx)(hm:cP m=true){pl:de}(hp:dh pl=true)(l:ax aC)(d:Int)(st:ax Stream)(c:Int):cP (hZ l m d rx pl st c).1=true/\xK n (hZ l m d rx pl st c).2.1/\dh (hZ l m d rx pl st c).2.2.1=true:=by
 unfold hZ;cases !Bl rx||(!dh pl|| !dp c 0 1000)with|true=>exact⟨hm,h,hp⟩|false=>?_
 have k:=J3 l m d c.toNat (st,rx,pl) h hp;have f:=LL hm k.1.ring k.2 l d;exact⟨f.1,⟨f.2.1,k.1.dev,k.1.drv,k.1.base,k.1.size,k.1.drop,k.1.held,k.1.free⟩,f.2.2⟩
structure Good (n:Int) (h:Host):Prop where
 mem:cP h.1=true
 maps:fS h.2.1=true
 tx:CM h.2.2.1
 flt:qp h.2.2.2.2.2.2.2.1=true
 lens:pX h=true
 ste:fL h.2.2.2.2.2.2.2.2.1 (h.2.2.2.1.length:Int)=true
 rx:∀r∈h.2.2.2.1,xK n r
 pool:∀p∈h.2.2.2.2.1,dh p=true
 vec:∀v∈h.2.2.2.2.2.1,dH v=true
 zu:∀x∈iG h,0<=x/\x<=n
theorem Good.mono {m:Int}(g:Good n h)(hn:n<=m:=by omega):Good m h:=⟨g.mem,g.maps,g.tx,g.flt,g.lens,g.ste,λr hr=>(g.rx r hr).mono hn,g.pool,g.vec,λx hx=>⟨(g.zu x hx).1,by have:=(g.zu x hx).2;omega⟩⟩
theorem Zk (h:Host):eZ h=true↔Good 1000000000000 h:=by unfold eZ Ry;simp only[ae,aJ,aX,abE,Kf];constructor;rintro⟨h1,h2,h3,h4,h5,h6,⟨h7,h8,h9⟩,h10⟩;exact⟨h1,h2,h3,h4,h5,h6,h7,h8,h9,h10⟩;intro g;exact⟨g.mem,g.maps,g.tx,g.flt,g.lens,g.ste,⟨g.rx,g.pool,g.vec⟩,g.zu⟩
theorem Good.ok (g:Good n h)(hn:n<=1000000000000):eZ h=true:=(Zk h).2 (g.mono hn)
theorem qk {P:α->Prop}{l:ax α}{v:α}(h:∀x∈l,P x)(hv:P v):∀x∈l.set i v,P x:=by intro x hx;rcases fJ hx with g|g;exact h x g;rw[g];exact hv
theorem ab6 (g:Good n h)(k:Nat):Good n (Yu k h):=by unfold Yu;cases hv:h.2.2.2.2.2.1[k]? with|none=>exact g|some v=>exact⟨g.mem,g.maps,g.tx,g.flt,by have:=g.lens;unfold pX at this⊢;rw[az];exact this,g.ste,g.rx,g.pool,qk g.vec (abI (g.vec v (aW hv))),g.zu⟩
theorem P3 {n:Int}{h:Host}(g:Good n h)(k:Nat):∀i,Good n (OZ k i h)
 |0=>g
 |i+1=>ab6 (P3 g k i) k
theorem GJ (g:Good n h)(k:Nat)(b:Int){f:bW×bF}(h1:cP f.1=true)(h2:xK n f.2):Good n (zh h k b f):=by refine P3 (h:=Dc h k f) ⟨h1,g.maps,g.tx,g.flt,?_,?_,qk g.rx h2,g.pool,g.vec,g.zu⟩ _ _;have:=g.lens;unfold pX Dc at*;simp only[az];exact this;show fL _ ((h.2.2.2.1.set k f.2).length:Int)=true;rw[az];exact g.ste
theorem GH (hn:n<=800000000000)(g:Good n h)(k:Nat):Good (n+320) (iI k h):=by unfold iI;cases hx:h.2.2.2.1[k]? with|none=>exact g.mono|some x=>have f:=Ac (by omega) (g.rx x (aW hx)) g.mem h.2.1 0 h.2.2.2.2.2.2.2.2.1.2.2.1;exact GJ (g.mono) k _ f.1 f.2
theorem Jf (hn:n<=700000000000)(g:Good n h):Good (n+640) (lV h):=by
 unfold lV;have hl:=mD g.lens;cases eZ h with
 |false=>exact g.mono
 |true=>
  have key:∀k:Nat,k<=2->Good (n+320*(k:Int)) (ik iI k h):=by intro k;induction k with|zero=>intro _;exact g.mono|succ k ih=>intro hk;exact(GH (by omega) (ih (by omega)) k).mono
  exact(key _ hl.1).mono (by have:=hl.1;omega)
theorem FE (g:Good n h):Good n (ta h):=by
 unfold ta;cases eZ h with
 |false=>exact g
 |true=>
  have key:∀k,Good n (ik nw k h):=by intro k;induction k with|zero=>exact g|succ k ih=>show Good n (nw k (ik nw k h));generalize ik nw k h=s at ih⊢;unfold nw;cases hv:s.2.2.2.2.2.1[k]? with|none=>exact ih|some v=>exact⟨ih.mem,ih.maps,ih.tx,ih.flt,by have:=ih.lens;unfold pX at this⊢;rw[az];exact this,ih.ste,ih.rx,ih.pool,qk ih.vec (KJ (ih.vec v (aW hv))),ih.zu⟩
  exact key _
theorem Wl (g:Good n h)(p:aQ)(c z:Int):Good n (Bi h p c z).1:=by unfold Bi;cases eZ h with|false=>exact g|true=>have k:=XX g.tx g.mem h.2.1 0 p c z;exact⟨k.1,g.maps,k.2,g.flt,g.lens,g.ste,g.rx,g.pool,g.vec,g.zu⟩
theorem CZ (g:Good n h):Good n (dM h):=by unfold dM;cases eZ h with|false=>exact g|true=>have r:=Ce h.2.1 h.1 0 17 [] 0 0 h.2.2.1.1 g.tx.ring;exact⟨g.mem,g.maps,R4 (adm g.tx r.1 r.2) _,g.flt,g.lens,g.ste,g.rx,g.pool,g.vec,g.zu⟩
theorem Bp {x:Int}(h:0<=x/\x<=n)(hn:n<=800000000000:=by omega):0<=aq (x+1)/\aq (x+1)<=n+1:=by rw[ak];omega
theorem Ae (hn:n<=800000000000)(g:Good n h){a b c:Int}(ha:0<=a/\a<=n+1)(hb:0<=b/\b<=n+1)(hc:0<=c/\c<=n+1)(hd:0<=d/\d<=n+1):Good (n+1) (wy h a b c d):=by have k:=g.mono (show n<=n+1 by omega);refine⟨k.mem,k.maps,k.tx,k.flt,k.lens,k.ste,k.rx,k.pool,k.vec,λx hx=>?_⟩;have h1:=Bp (g.zu _ (List.mem_cons_self ..)) hn;simp only[iG,wy,cA,List.not_mem_nil,or_false]at hx;rcases hx with rfl|rfl|rfl|rfl|rfl;exact h1;exact ha;exact hb;exact hc;exact hd
theorem N0 (hn:n<=700000000000)(g:Good n h)(x:Bytes):Good (n+641) (nh h x):=by
 have c1:=g.zu h.2.2.2.2.2.2.2.2.2.2.2.2.2.2.2.1 (by simp[iG]);have c2:=g.zu h.2.2.2.2.2.2.2.2.2.2.2.2.2.2.2.2.1 (by simp[iG]);have c3:=g.zu h.2.2.2.2.2.2.2.2.2.2.2.2.2.2.2.2.2.1 (by simp[iG]);have c4:=g.zu h.2.2.2.2.2.2.2.2.2.2.2.2.2.2.2.2.2.2 (by simp[iG]);have u:∀{y:Int},0<=y/\y<=n->0<=y/\y<=n+1:=λhy=>⟨hy.1,by omega⟩
 unfold nh;cases eZ h with|false=>exact g.mono|true=>?_
 cases (nD x).2 !=0 with|true=>exact(Ae (by omega) g (Bp c1) (u c2) (u c3) (u c4)).mono|false=>?_
 cases !vO h.2.2.2.2.2.2.2.1 (nD x).1 with|true=>exact(Ae (by omega) g (u c1) (Bp c2) (u c3) (u c4)).mono|false=>?_
 cases ri h.2.2.2.2.2.2.2.2.1 (h.2.2.2.1.length:Int) (nD x).1== -1 with|true=>exact(Ae (by omega) g (u c1) (u c2) (Bp c3) (u c4)).mono|false=>?_
 simp only[aj,af];cases hq:h.2.2.2.1[(ri h.2.2.2.2.2.2.2.2.1 (h.2.2.2.1.length:Int) (nD x).1).toNat]? with|none=>exact g.mono|some q=>have a:=Pb (by omega) (g.rx q (aW hq)) g.mem h.2.1 0 h.2.2.2.2.2.2.2.2.1.2.2.1 (nD x).1 h.2.2.2.2.2.2.2.2.2.2.1;exact GJ ((Ae (by omega) g (u c1) (u c2) (u c3) (Bp c4)).mono) _ _ a.1 (a.2.mono)
theorem P5 (g:Good n h)(i:Nat)(c:Int):Good n (uF h i c).2:=by
 unfold uF;cases h1:h.2.2.2.1[i]? with|none=>exact g|some rx=>?_
 cases h2:h.2.2.2.2.1[i]? with|none=>exact g|some pl=>?_
 have k:=Ms (g.rx rx (aW h1)) g.mem (g.pool pl (aW h2)) h.2.1 0 h.2.2.2.2.2.2.2.2.2.1 c;refine⟨k.1,g.maps,g.tx,g.flt,?_,?_,qk g.rx k.2.1,qk g.pool k.2.2,g.vec,g.zu⟩;have:=g.lens;unfold pX at*;simp only[az];exact this;show fL _ ((h.2.2.2.1.set i _).length:Int)=true;rw[az];exact g.ste
theorem GI (b:Int)(k:Nat){s:Int×Host}(g:Good n s.2):Good n (uK b k s).2:=by
 unfold uK;cases h1:s.2.2.2.2.2.2.1[k]? with|none=>exact g|some v=>?_
 cases h2:s.2.2.2.2.2.2.2.1[k]? with|none=>exact g|some p=>?_
 cases h3:s.2.2.2.2.1[k]? with|none=>exact g|some x=>?_
 cases h4:s.2.2.2.2.2.1[k]? with|none=>exact g|some pl=>?_
 have hv:=R6 (g.vec v (aW h1));simp only;cases p||(pF v).2 with|false=>refine⟨g.mem,g.maps,g.tx,g.flt,?_,g.ste,g.rx,g.pool,qk g.vec hv,g.zu⟩;have:=g.lens;unfold pX at*;simp only[af,az];exact this|true=>have e:=Ms (g.rx x (aW h3)) g.mem (g.pool pl (aW h4)) s.2.2.1 0 s.2.2.2.2.2.2.2.2.2.2.1 b;refine⟨e.1,g.maps,g.tx,g.flt,?_,?_,qk g.rx e.2.1,qk g.pool e.2.2,qk g.vec ?_,g.zu⟩;have:=g.lens;unfold pX at*;simp only[ah,az];exact this;show fL _ ((s.2.2.2.2.1.set k _).length:Int)=true;rw[az];exact g.ste;cases decide ((hZ s.2.2.1 s.2.1 0 x pl s.2.2.2.2.2.2.2.2.2.2.1 b).2.2.2.2<b)with|true=>exact Uo hv|false=>exact hv
theorem Jg {n:Int}(b:Int){h:Host}(g:Good n h):∀k,Good n (mc b k h).2
 |0=>g
 |k+1=>GI b k (Jg b g k)
theorem El (g:Good n h)(b:Int):Good n (iO h b).1:=by unfold iO;cases eZ h&&dp b 1 1000 with|false=>exact g|true=>exact Jg b g _
theorem Af {n:Int}{h:Host}(g:Good n h):∀k,Good n (lK h k)
 |0=>g
 |k+1=>P5 (Af g k) k 1000
theorem Wk (g:Good n h)(l:dC):Good n (Vw h l):=⟨g.mem,g.maps,g.tx,g.flt,g.lens,g.ste,g.rx,g.pool,g.vec,g.zu⟩
theorem CY {n:Int}{h:Host}(g:Good n h):∀k,Good n (returned h k)
 |0=>Af g _
 |k+1=>by show Good n (Ke h.2.2.1.2.2.1 k (returned h k));have:=CY g k;unfold Ke;cases h.2.2.1.2.2.1[k]? with|none=>exact this|some x=>exact Wk this _
theorem BP {a b:Int}(ha:0<=a/\a<=130944:=by omega)(hb:1<=b/\b<=512:=by omega)(hn:0<=n/\n<=16:=by omega):ga a b n=((a,b,n,upto n.toNat),true)/\dh (a,b,n,upto n.toNat)=true:=by have h1:dh (a,b,n,[])=true:=zM.2 ⟨ha,hb,hn,by simp,List.nodup_nil⟩;refine⟨by unfold ga;rw[h1];rfl,zM.2 ⟨ha,hb,hn,?_,?_⟩⟩;intro x hx;simp only[upto,eQ,cp]at hx;obtain⟨i,hi,rfl⟩:=hx;show 0<=Int.ofNat i/\Int.ofNat i<=n-1;simp only[Int.ofNat_eq_natCast];omega;show(upto n.toNat).Nodup;unfold upto;rw[List.Nodup,List.pairwise_map];exact List.nodup_range.imp λh he=>h (Int.ofNat.inj he)
theorem abF (c:Int)(hc:0<=c/\c<=65535):CM (yO.1,yO.2.1,yO.2.2.1,c):=by
 have p:=BP (a:=256) (b:=128) (n:=8);refine⟨BU,hc,λx hx=>(by cases hx),?_,by show(0:Int)<=16;omega⟩;show dh (gG (ga 256 128 8).1 [])=true;rw[p.1];have e:gG (256,128,8,upto (8:Int).toNat) []=(256,128,8,upto (8:Int).toNat):=by simp[gG]
 show dh (gG (256,128,8,upto (8:Int).toNat) [])=true;rw[e];exact p.2
theorem NZ (g:Good n h):Good n (iH h):=by have k:=CY g h.2.2.1.2.2.1.length;exact⟨k.mem,k.maps,abF _ k.tx.next,k.flt,k.lens,k.ste,k.rx,k.pool,k.vec,k.zu⟩
theorem Ux (h:i<=8):0<=gq i/\gq i<=16000:=by unfold gq;omega
theorem Mj (hm:cP m=true)(l:ax aC)(hi:i<=8):cP (kM l m i).1=true/\dg (kM l m i).2.1=true/\dh (kM l m i).2.2.1=true:=by have hb:=Ux hi;have p:=BP (a:=gq i+128) (b:=384) (n:=4);unfold kM;rw[p.1];exact LL (BM hm ..) (BU) p.2 l 0
theorem RD (hi:i<=8){r:lb}(hr:dg r=true)(hd:0<=d/\d<=n):xK n (r,(gq i+64,4,0),(gq i+64,4,0),((0,0,0,0,0,0,0,0,0,0,0,0,0,0,0,([]:Bytes)),0,0),false,d):=by
 have hb:=Ux hi;have hq:fV (gq i+64,4,0)=true:=by have hs:iv 4=true:=gM.2 (by omega);unfold fV;rw[ae,ae];exact⟨aX.2 (by omega),hs,by rw[uL hs];rfl⟩
 exact⟨hr,hq,hq,rfl,rfl,hd,λhf=>(by cases hf),λ_=>rfl⟩
theorem P6 (hn:n<=800000000000)(g:Good n h)(hi:i<=8):Good (n+320) (uI i h):=by
 have gm:=g.mono (show n<=n+320 by omega);unfold uI;cases h1:h.2.2.2.1[i]? with|none=>exact gm|some x=>?_
 cases h2:h.2.2.2.2.2.1[i]? with|none=>exact gm|some v=>?_
 have o:=Mj g.mem h.2.1 hi;have hx:=g.rx x (aW h1);have hd:0<=Bb x/\Bb x<=n+320:=by have d:=hx.drop;unfold Bb;cases hh:x.2.2.2.2.1 with|false=>simp only[af];omega|true=>have:=hx.held hh;rw[ah,ak];omega
 refine⟨o.1,gm.maps,gm.tx,gm.flt,?_,?_,qk gm.rx (RD hi o.2.1 hd),qk gm.pool o.2.2,qk gm.vec (Ym (g.vec v (aW h2))),gm.zu⟩;have:=g.lens;unfold pX BN at*;simp only[az];exact this;show fL _ (((BN h i (Bb x)).2.2.2.1).length:Int)=true;unfold BN;simp only[az];exact g.ste
theorem CX {n:Int}(hn:n<=700000000000){h:Host}(g:Good n h):∀k:Nat,k<=8->Good (n+320*(k:Int)) (ia h k)
 |0,_=>g.mono
 |k+1,hk=>(P6 (by omega) (CX hn g k (by omega)) (i:=k) (by omega)).mono
theorem SV (hn:n<=700000000000)(g:Good n h):Good (n+640) (tV h):=by have hl:=mD g.lens;unfold tV;cases eZ h with|false=>exact g.mono|true=>exact(CX hn (NZ g) _ (by omega)).mono (by have:=hl.1;omega)
theorem map_take {β:Type}(f:α->β)(l:ax α)(i:Nat)(hi:i<l.length):(l.take i).map f++[f l[i]]=(l.take (i+1)).map f:=by rw[cb hi,cY];rfl
def HA (n:Nat):bW:=List.replicate n (rb 128)
theorem W7 (n:Nat):HA (n+1)=HA n++[rb 128]:=List.replicate_succ'
theorem T8 (n:Nat)(h:n<=64):qg (n:Int)=some (HA n):=by have hz:iP 128 0=some (rb 128):=Kn 128;unfold qg;refine eV (λi=>((i:Int),HA i)) n (by omega) (λi nx hi=>?_) (λnx=>?_);simp only[pC];rw[au (show(i:Int)<n by omega),ah,lT,ab,ah,hz,ab,aZ (by simp[HA];omega),ak,W7];rfl;simp only[pC];rw[ar (show¬(n:Int)<n by omega),af,ab,af]
def wB (a b:Int):Vector×Bool:=bif dH (a,b,0,0,false,false) then((a,b,0,0,false,false),true) else((0,0,0,0,false,false),false)
theorem T9 (a b:Int):uc a b=some (wB a b):=by unfold uc wB;rw[DS,ab];cases dH (a,b,0,0,false,false)<;>rfl
def bZ (i:Nat):ax aC:=(List.range i).map λ(p:Nat)=>(0,(p:Int),37-(p:Int), !dp (p:Int) 2 9)
theorem Tu (i:Nat):bZ (i+1)=bZ i++[(0,(i:Int),37-(i:Int), !dp (i:Int) 2 9)]:=by simp[bZ,List.range_succ]
theorem FR (i:Nat):(bZ i).length=i:=by simp[bZ]
def P8 (f:Filter)(s:dm)(c:Bool)(i:Nat):Host:=(HA 38,bZ i,yO,([]:ax bF),([]:ax de),([]:ax Vector),([]:ax Bool),f,s,([]:ax Stream),c,([]:bW),([]:dC),([]:dC),0,0,0,0,0)
def Ends (o:aB α)(P:α->Prop):Prop:=∃x,o=some x/\P x
theorem Ends.pure {x:α}{P:α->Prop}(h:P x):Ends (some x) P:=⟨x,rfl,h⟩
theorem Ends.bind {o:aB α}{P:α->Prop}{k:α->aB R}{Q:R->Prop}(h:Ends o P)(hk:∀x,P x->Ends (k x) Q):Ends (aa o k) Q:=by obtain⟨x,rfl,hx⟩:=h;exact hk x hx
theorem Ends.mono {o:aB α}{P Q:α->Prop}(h:Ends o P)(hq:∀x,P x->Q x):Ends o Q:=by obtain⟨x,hx,hp⟩:=h;exact⟨x,hx,hq x hp⟩
theorem Ends.cond {α:Type}{c:Bool}{a b:aB α}{P:α->Prop}(h1:c=true->Ends a P)(h2:c=false->Ends b P):Ends (cond c a b) P:=by cases c with|true=>exact h1 rfl|false=>exact h2 rfl
theorem Ends.Zl {p:Prop}[Decidable p]{a:aB α}{P:α->Prop}(h:¬p)(ha:Ends a P):Ends (if p then none else a) P:=by rw[aI h];exact ha
theorem Ends.room {α:Type}{n:Nat}{k:aB α}{P:α->Prop}(h:n<=1073741824)(hk:Ends k P):Ends (room n k) P:=by rw[aZ h];exact hk
theorem Ends.of {o:aB α}{x:α}{P:α->Prop}(h:o=some x)(hp:P x):Ends o P:=⟨x,h,hp⟩
theorem Ends.iter {σ:Type}{T:(σ->aB R)->σ->aB R}{Q:R->Prop}(I:σ->Prop)(m:σ->Nat)(hs:∀x nx,I x->(∀y,I y->m y<m x->Ends (nx y) Q)->Ends (T nx x) Q): ∀n x,I x->m x<n->Ends (bm T n x) Q:=by intro n;induction n with|zero=>intro x _ h;omega|succ n ih=>intro x hx hm;rw[bm];exact hs x _ hx λy hy hlt=>ih y hy (by omega)
theorem Ends.wN {σ:Type}{T:(σ->aB R)->σ->aB R}{Q:R->Prop}(I:σ->Prop)(m:σ->Nat){x:σ}(hx:I x)(hm:m x<=1000000000000)(hs:∀x nx,I x->(∀y,I y->m y<m x->Ends (nx y) Q)->Ends (T nx x) Q):Ends (bm T fuel x) Q:=Ends.iter I m hs fuel x hx (by have:=eO;omega)
theorem Ends.idx {α R:Type}{xs:ax α}{i:Int}{k:α->aB R}{Q:R->Prop}(h0:0<=i)(h1:i<(xs.length:Int))(hk:∀(h:i.toNat<xs.length),Ends (k xs[i.toNat]) Q):Ends (aa (idx xs i) k) Q:=by
 obtain⟨n,rfl⟩:=aG h0;have hn:n<xs.length:=by omega
 rw[bK hn,ab];exact hk (by simpa using hn)
abbrev OX:=dC×Int×Int
variable {c:OX}
def Cu (c:OX):Prop:=0<=c.2.1/\c.2.1<=(c.1.length:Int)/\c.1.length<=1048576
theorem YG (x y:Int)(n:Nat)(hy:(gN y).toNat=n)(hn:n<9223372036854775808):0<=aq (BitVec.toNat (gN x&&&gN y))/\aq (BitVec.toNat (gN x&&&gN y))<=n:=by
 have h:(gN x&&&gN y).toNat<=n:=by rw[BitVec.toNat_and,hy];exact Nat.and_le_right
 generalize (gN x&&&gN y).toNat=k at h;rw[ak];omega
theorem ag8 {a:dC}(ha:a.length<=1048576):Ends (yM a) Cu:=by
 unfold yM;refine Ends.wN (λx=>0<=x.2/\x.2<=4000) (λx=>(4000-x.2).toNat) ⟨by omega,by omega⟩ (by simp) λx nx hx hn=>?_;unfold yj;refine Ends.bind (P:=λb=>b=true->x.2<(a.length:Int)/\x.2<4000) (Ends.cond (λh=>Ends.pure λh2=>⟨bu h,bu h2⟩) λh=>Ends.pure λh2=>by cases h2) λq hq=>?_;refine Ends.cond (λh=>?_) (λh=>Ends.pure ⟨eo _,by simp,ha⟩);have hq:=hq h;refine Ends.idx hx.1 hq.1 λ_=>hn _ ⟨?_,?_⟩ ?_;all_goals simp only[ak (n:=x.2+1) (by omega) (by omega)]
 all_goals omega
theorem Cm (h:Cu c):Ends (ko c) λr=>(0<=r.1/\r.1<=255)/\Cu r.2:=by
 unfold ko;refine Ends.Zl (by decide) (Ends.Zl (by decide) (Ends.cond (λh1=>?_) λh1=>?_))
 ·have h1:=bu h1;refine Ends.idx h.1 h1 λ_=>Ends.pure ⟨YG _ 255 255 rfl (by decide),?_⟩;refine⟨?_,?_,h.2.2⟩;all_goals simp only[ak (n:=c.2.1+1) (by have:=h.1;omega) (by have:=h.2.2;omega)]
  have:=h.1;omega;omega
 exact Ends.pure ⟨YG _ 255 255 rfl (by decide),h.1,h.2.1,h.2.2⟩
theorem gW (h:Cu c)(hn:0<n:=by omega):Ends (cv c n) λr=>(0<=r.1/\r.1<n)/\Cu r.2:=by unfold cv;rw[jJ];simp only[af];refine Ends.cond (λh1=>?_) λh1=>?_;refine(Cm h).bind λr hr=>Ends.Zl (by omega) (Ends.pure ⟨⟨Int.tmod_nonneg _ hr.1.1,Int.tmod_lt_of_pos _ hn⟩,hr.2⟩);refine(Cm h).bind λr2 h2=>(Cm h2.2).bind λr3 h3=>(Cm h3.2).bind λr4 h4=>(Cm h4.2).bind λr5 h5=>Ends.Zl (by omega) (Ends.pure ⟨⟨Int.tmod_nonneg _ ?_,Int.tmod_lt_of_pos _ hn⟩,h5.2⟩);have a2:=h2.1;have a3:=h3.1;have a4:=h4.1;have a5:=h5.1;rw[ak (n:=r2.1*16777216),ak (n:=r3.1*65536),ak (n:=r4.1*256)];rw[ak (n:=r2.1*16777216+r3.1*65536)];rw[ak (n:=r2.1*16777216+r3.1*65536+r4.1*256)];rw[ak];omega
theorem D5 (h:Cu c)(n:Int):Ends (cv c n) λr=>(0<=r.1/\(r.1<n\/r.1=0))/\Cu r.2:=by
 rcases Int.lt_or_le 0 n with hn|hn;exact(gW h hn).mono λr hr=>⟨⟨hr.1.1,Or.inl hr.1.2⟩,hr.2⟩
 unfold cv;rw[au hn];exact Ends.pure ⟨⟨eo _,Or.inr rfl⟩,h⟩
theorem vy (h:Cu c)(n:Int):Ends (gU c n) λr=>Cu r.2:=by unfold gU;exact(D5 h n).bind λr hr=>Ends.pure hr.2
theorem ja (h:Cu c){l:dC}{P:Int->Prop}(hl:0<l.length)(hp:∀x∈l,P x):Ends (cE c l) λr=>P r.1/\Cu r.2:=by unfold cE;exact(gW h).bind λr hr=>Ends.idx hr.1.1 hr.1.2 λhi=>Ends.pure ⟨hp _ (bz hi),hr.2⟩
theorem Ff (h:Cu c)(n:Int):Ends (lP c n) λr=>(r.1.length<=5000/\(0<=n->n<=5000->(r.1.length:Int)=n)/\(n<=0->r.1=[]))/\Cu r.2:=by
 have key:∀v:Int,v<=5000->∀Q:(Bytes×OX)->Prop,(∀x c,((x.length:Int)=v\/(v<=0/\x=[]))->Cu c->Q (aM x,c))->Ends (bm (oB (λy _ z=>some (aM y,z)) v) fuel (([]:dC),0,c)) Q:=by
  intro v hv Q hQ;refine Ends.wN (λx=>(x.1.length:Int)=x.2.1/\(x.2.1<=v\/x.2.1=0)/\Cu x.2.2) (λx=>(v-x.2.1).toNat) ⟨rfl,Or.inr rfl,h⟩ (by simp;omega) λx nx hx hn=>?_;unfold oB;refine Ends.cond (λh1=>?_) λh1=>Ends.pure (hQ _ _ ?_ hx.2.2)
  ·have h1:=bu h1;refine(Cm hx.2.2).bind λr hr=>Ends.room (by simp;omega) (hn _ ⟨?_,?_,hr.2⟩ ?_);all_goals simp only[ak (n:=x.2.1+1) (by omega) (by omega)]
   simp;omega;omega;omega
  have h1:=gz h1;rcases hx.2.1 with h2|h2;exact Or.inl (by omega);rcases Int.lt_or_le 0 v with h3|h3;omega;exact Or.inr ⟨h3,bS (by omega)⟩
 have hb:∀x:dC,(aM x).length=x.length:=λx=>by simp[aM]
 unfold lP;refine Ends.cond (λh1=>?_) λh1=>?_;have h1:=bu h1;refine key 5000 (by omega) _ λx c hx hc=>⟨⟨by rw[hb];rcases hx with hx|hx<;>omega,λ_ _=>by omega,λ_=>by omega⟩,hc⟩
 have h1:=gz h1;refine key n (by omega) _ λx c hx hc=>⟨⟨?_,λh0 _=>?_,λh0=>?_⟩,hc⟩
 rw[hb];rcases hx with hx|hx;omega;rw[hx.2];simp;rw[hb];rcases hx with hx|hx;omega;rw[hx.2];simp;omega;rcases hx with hx|hx;have:x=[]:=bS (by omega);rw[this];rfl;rw[hx.2];rfl
theorem Jl (h:Cu c):Ends (qU c) λr=>(167772161<=r.1/\r.1<=167772163)/\Cu r.2:=by unfold qU;refine(gW h (by decide)).bind λr hr=>Ends.pure ⟨?_,hr.2⟩;have:=hr.1;simp only[ak (n:=167772161+r.1) (by omega) (by omega)];omega
theorem Wg (h:Cu c):Ends (vI c) λr=>(0<=r.1/\r.1<=31)/\Cu r.2:=by unfold vI;exact(ja (P:=λx=>0<=x/\x<=31) h (by decide) (by decide)).bind λr hr=>Ends.pure hr
theorem ahy (h:Cu c){m:Int}(h0:0<=m)(h1:m<=320):Ends (sC c m) λr=>(rM r.1=true/\(r.1.2.2.2.2.2.2.2.length:Int)<=m)/\Cu r.2:=by
 unfold sC;refine(gW h (by decide)).bind λr1 p1=>(gW p1.2 (by decide)).bind λr2 p2=>?_;refine(ja (P:=λx=>0<=x/\x<=4294967295) p2.2 (by simp) ?_).bind λr3 p3=>?_;have:=p2.1;intro x hx;simp only[cA,List.not_mem_nil,or_false]at hx;omega;refine(ja (P:=λx=>0<=x/\x<=4294967295) p3.2 (by decide) (by decide)).bind λr4 p4=>(Wg p4.2).bind λr5 p5=>?_;refine(ja (P:=λx=>0<=x/\x<=65535) p5.2 (by decide) (by decide)).bind λr6 p6=>?_;rw[ak (n:=m+1)];refine(gW p6.2).bind λr7 p7=>(Ff p7.2 r7.1).bind λr8 p8=>(vy p8.2 4).bind λr9 p9=>?_;have a1:=p1.1;have a7:=p7.1;have a8:=p8.1.2.1 a7.1 (by omega);rw[ak (n:=1000+r1.1)];refine Ends.cond (λ_=>Ends.pure ⟨⟨aai (by omega) (by omega) (by omega),?_⟩,p9⟩) λ_=>Ends.pure ⟨⟨RE (by omega) (by omega) p3.1 p4.1 p5.1 p6.1 (by omega),?_⟩,p9⟩;all_goals show(r8.1.length:Int)<=m
 all_goals omega
theorem Mm (h:Cu c){m:Int}(h0:0<=m:=by omega)(h1:m<=320:=by omega):Ends (kO c m) λr=>(dG r.1=true/\(r.1.2.2.2.2.2.2.2.2.2.2.2.2.2.2.2.length:Int)<=m/\(r.1.2.2.2.2.2.2.2.2.1=6\/r.1.2.2.2.2.2.2.2.2.1=17))/\Cu r.2:=by
 unfold kO;refine(ja (P:=λx=>0<=x/\x<=281474976710655) h (by decide) (by decide)).bind λr1 p1=>?_;refine(ja (P:=λx=>0<=x/\x<=281474976710655) p1.2 (by decide) (by decide)).bind λr2 p2=>?_;refine(ja (P:=λx=> -1<=x/\x<=4095) p2.2 (by decide) (by decide)).bind λr3 p3=>?_;refine(ja (P:=λx=>0<=x/\x<=255) p3.2 (by decide) (by decide)).bind λr4 p4=>?_;refine(ja (P:=λx=>0<=x/\x<=65535) p4.2 (by decide) (by decide)).bind λr5 p5=>?_;refine(ja (P:=λx=>0<=x/\x<=255) p5.2 (by decide) (by decide)).bind λr6 p6=>?_;refine(Jl p6.2).bind λr7 p7=>?_;refine(ahy p7.2 (m:=if 128<m then 128 else m) (by split<;>omega) (by split<;>omega)).bind λr8 p8=>?_;have hh:∀g:eR,rM g=true->pb (r1.1,r2.1,r3.1,r4.1,r5.1,r6.1,r7.1,167772161,g)=true:=λg hg=>Zi p1.1 p2.1 p3.1 p4.1 p5.1 p6.1 (by have:=p7.1;omega) (by omega) hg;have hk:∀g:eR,rM g=true->g.1=6\/g.1=17:=by intro g hg;unfold rM at hg;simp only[ae]at hg;have h2:=hg.2.2.2;cases h17:g.1==17 with|true=>exact Or.inr (by simpa using h17)|false=>rw[h17]at h2;simp only[af,ae]at h2;exact Or.inl (by simpa using h2.1)
 have hl:(r8.1.2.2.2.2.2.2.2.length:Int)<=128/\(r8.1.2.2.2.2.2.2.2.length:Int)<=m:=by have:=p8.1.2;split at this<;>omega
 have short:∀c':OX,Cu c'->Ends (some ((r1.1,r2.1,r3.1,r4.1,r5.1,r6.1,r7.1,(167772161:Int),r8.1),c')) λr:aQ×OX=>(dG r.1=true/\(r.1.2.2.2.2.2.2.2.2.2.2.2.2.2.2.2.length:Int)<=m/\(r.1.2.2.2.2.2.2.2.2.1=6\/r.1.2.2.2.2.2.2.2.2.1=17))/\Cu r.2:=by intro c' hc';refine Ends.pure ⟨⟨?_,hl.2,hk _ p8.1.1⟩,hc'⟩;unfold dG;rw[hh _ p8.1.1,bB];have:decide ((r8.1.2.2.2.2.2.2.2.length:Int)<=128)=true:=au hl.1;show(decide ((r8.1.2.2.2.2.2.2.2.length:Int)<=128)||_)=true;rw[this,iT]
 refine Ends.cond (λk1=>Ends.cond (λk2=>Ends.cond (λk3=>?_) λ_=>short _ p8.2) λ_=>short _ p8.2) λ_=>short _ p8.2;have k3:=bu k3;refine(vy p8.2 2).bind λr9 p9=>Ends.cond (λ_=>?_) λ_=>short _ p9;rw[ak (n:=m-128),ak (n:=m-128+1)];refine(gW p9).bind λr10 p10=>?_;have a10:=p10.1;rw[ak (n:=128+r10.1)];refine(Ff p10.2 _).bind λr11 p11=>?_;have a11:=p11.1.2.1 (by omega) (by omega);have hs:=XT p8.1.1 (x:=r11.1) (by omega);refine Ends.pure ⟨⟨?_,by show(r11.1.length:Int)<=m;omega,Or.inl (by simpa using k1)⟩,p11.2⟩;unfold dG;rw[hh _ hs,bB];rw[I5 _ (CF p8.1.1 k1)]at k2;show(_||(r8.1.1==6)&&Ab r8.1.2.2.2.2.2.1)=true;rw[k1,k2,dL,jL]
def Plain (p:aQ):Prop:=pb p=true/\p.2.2.2.2.2.2.2.2.2.2.2.2.2.2.2.length<=40
theorem Plain.ok {p:aQ}(h:Plain p):gF p=true:=(Rc p).2 ⟨h.1,by have:=h.2;omega⟩
theorem EU (h:Cu c):Ends (kO c 40) λr=>Plain r.1/\Cu r.2:=(Mm h).mono λr hr=>⟨⟨by have:=hr.1.1;unfold dG at this;simp only[ae]at this;exact this.1,by have:=hr.1.2.1;omega⟩,hr.2⟩
theorem ZG {Q:R->Prop}{k0:ax aQ->OX->aQ->aB R}{p:aQ}(hl:l.length<=1000)(hc:Cu c)(hp:Plain p)(hk:∀c' p',Cu c'->Plain p'->Ends (k0 (l++[p]) c' p') Q):Ends (nt k0 l z n c p) Q:=by
 unfold nt;have hi:=acK (Jj hp.1);have hs:=xX hp.1;refine Ends.room (by simp;omega) (Ends.Zl (by decide) (Ends.cond (λh6=>?_) λ_=>hk _ _ hc ⟨zC hp.1 hi hs,hp.2⟩));have h6:p.2.2.2.2.2.2.2.2.1=6:=by simpa using h6
 refine(vy hc 8).bind λr hr=>Ends.cond (λ_=>Ends.Zl (by decide) (hk _ _ hr ⟨zC hp.1 hi ?_,hp.2⟩)) λ_=>hk _ _ hr ⟨zC hp.1 hi hs,hp.2⟩;have k:=Vx hs h6;have hlen:p.2.2.2.2.2.2.2.2.2.2.2.2.2.2.2.length<=320:=by have:=hp.2;omega
 exact Kh hs h6 (ZR k.2.2.1 hlen) k.2.2.2.2.1 hlen
theorem ZF {Q:R->Prop}{k0:ax aQ->OX->aQ->aB R}{p:aQ}(hl:l.length<=1000)(hz:1<=z/\z<=40)(hc:Cu c)(hp:Plain p)(hk:∀q c' p',Plain q->Cu c'->Plain p'->Ends (k0 (l++[q]) c' p') Q):Ends (ns k0 l z n c p) Q:=by
 unfold ns;refine Ends.cond (λh6=>?_) λ_=>ZG hl hc hp λc' p' h1 h2=>hk _ _ _ hp h1 h2;have h6:p.2.2.2.2.2.2.2.2.1=6:=by simpa using h6
 refine(ja (P:=λx=>0<=x/\x<=31) hc (by decide) (by decide)).bind λr8 p8=>(Ff p8.2 z).bind λr9 p9=>?_;have a9:=p9.1.2.1 (by omega) (by omega);have hs:=xX hp.1;have hq:Plain (p.1,p.2.1,p.2.2.1,p.2.2.2.1,p.2.2.2.2.1,p.2.2.2.2.2.1,p.2.2.2.2.2.2.1,p.2.2.2.2.2.2.2.1,p.2.2.2.2.2.2.2.2.1,p.2.2.2.2.2.2.2.2.2.1,p.2.2.2.2.2.2.2.2.2.2.1,p.2.2.2.2.2.2.2.2.2.2.2.1,p.2.2.2.2.2.2.2.2.2.2.2.2.1,r8.1,p.2.2.2.2.2.2.2.2.2.2.2.2.2.2.1,r9.1):=⟨zC hp.1 (Jj hp.1) (Kh hs h6 (Vx hs h6).2.2.1 p8.1 (by omega)),by show r9.1.length<=40;omega⟩
 exact ZG hl p9.2 hq λc' p' h1 h2=>hk _ _ _ hq h1 h2
theorem adA {Q:R->Prop}{k0:ax aQ->Int->OX->aQ->aB R}{p:aQ}(hl:l.length<=1000)(hz:1<=z/\z<=40)(hc:Cu c)(hp:Plain p)(hk:∀q z' c' p',Plain q->(1<=z'/\z'<=40)->Cu c'->Plain p'->Ends (k0 (l++[q]) z' c' p') Q):Ends (oD k0 l z n c p) Q:=by unfold oD;refine(vy hc 6).bind λr6 p6=>Ends.cond (λ_=>?_) λ_=>ZF hl hz p6 hp λq c' p' h1 h2 h3=>hk _ _ _ _ h1 hz h2 h3;refine(gW p6 (by decide)).bind λr7 p7=>?_;have a7:=p7.1;rw[ak (n:=1+r7.1)];exact ZF hl (by omega) p7.2 hp λq c' p' h1 h2 h3=>hk _ _ _ _ h1 (by omega) h2 h3
theorem akX {Q:R->Prop}{k0:ax aQ->Int->Int->OX->aQ->aB R}{p:aQ}(hl:l.length<=1000)(hz:1<=z/\z<=40)(hn:0<n/\n<=1000)(hc:Cu c)(hp:Plain p)(hk:∀q z' c' p',Plain q->(1<=z'/\z'<=40)->Cu c'->Plain p'->Ends (k0 (l++[q]) z' (n-1) c' p') Q):Ends (sD k0 l z n c p) Q:=by unfold sD;have e:aq (n-1)=n-1:=ak;refine(vy hc 5).bind λr4 p4=>Ends.cond (λ_=>?_) λ_=>?_;refine(EU p4).bind λr5 p5=>adA hl hz p5.2 p5.1 λq z' c' p' h1 h2 h3 h4=>?_;unfold oC;rw[e];exact hk _ _ _ _ h1 h2 h3 h4;refine adA hl hz p4 hp λq z' c' p' h1 h2 h3 h4=>?_;unfold oC;rw[e];exact hk _ _ _ _ h1 h2 h3 h4
theorem acF (h:Cu c){m:Int}(h0:0<m)(h1:m<=100):Ends (xj c m) λr=>((∀p∈r.1,Plain p)/\0<r.1.length/\(r.1.length:Int)<=m)/\Cu r.2:=by unfold xj;refine(EU h).bind λr1 p1=>(gW p1.2 (by decide)).bind λr2 p2=>(gW p2.2 h0).bind λr3 p3=>?_;have a2:=p2.1;have a3:=p3.1;rw[ak (n:=r2.1*8),ak (n:=8+r2.1*8),ak (n:=1+r3.1)];refine Ends.wN (λx=>(∀p∈x.1,Plain p)/\(1<=x.2.1/\x.2.1<=40)/\0<=x.2.2.1/\(x.1.length:Int)+x.2.2.1=1+r3.1/\Cu x.2.2.2.1/\Plain x.2.2.2.2) (λx=>x.2.2.1.toNat) ⟨by simp,(by dsimp only;omega),(by dsimp only;omega),by simp,p3.2,p1.1⟩ (by simp;omega) λx nx hx hn=>?_;unfold wG;refine Ends.cond (λk=>?_) λk=>?_;have k:=bu k;refine akX (by omega) hx.2.1 (by omega) hx.2.2.2.2.1 hx.2.2.2.2.2 λq z' c' p' h1 h2 h3 h4=>hn _ ⟨?_,h2,?_,?_,h3,h4⟩ ?_;intro y hy;rcases aw.1 hy with hy|hy;exact hx.1 y hy;simp only[bG]at hy;rw[hy];exact h1;show 0<=x.2.2.1-1;omega;show((x.1++[q]).length:Int)+(x.2.2.1-1)=1+r3.1;have:=hx.2.2.2.1;simp;omega;show(x.2.2.1-1).toNat<x.2.2.1.toNat;omega;have k:=gz k;have:=hx.2.2.2.1;have:=hx.2.2.1;exact Ends.pure ⟨⟨hx.1,(by dsimp only;omega),(by dsimp only;omega)⟩,hx.2.2.2.2.1⟩
theorem acV (h:Cu c)(hl:l.length<=1000000):Ends (xk c l) λr=>(r.1.length<=l.length/\∀s∈r.1,s.2.2.1=[])/\Cu r.2:=by unfold xk;refine Ends.wN (λx=>0<=x.2.1/\(x.1.length:Int)<=x.2.1/\x.2.1<=(l.length:Int)/\(∀s∈x.1,s.2.2.1=[])/\Cu x.2.2) (λx=>((l.length:Int)-x.2.1).toNat) ⟨by simp,by simp,by simp,by simp,h⟩ (by simp;omega) λx nx hx hn=>?_;have e:x.2.1<(l.length:Int)->aq (x.2.1+1)=x.2.1+1:=λ_=>ak;unfold wH;refine Ends.cond (λk=>?_) λk=>Ends.pure ⟨⟨(by dsimp only;omega),hx.2.2.2.1⟩,hx.2.2.2.2⟩;have k:=bu k;rw[e k];have skip:∀c',Cu c'->Ends (nx (x.1,x.2.1+1,c')) _:=λc' hc'=>hn _ ⟨by show 0<=x.2.1+1;omega,by show(x.1.length:Int)<=x.2.1+1;omega,by show x.2.1+1<=_;omega,hx.2.2.2.1,hc'⟩ (by show((l.length:Int)-(x.2.1+1)).toNat<_;omega);refine Ends.idx hx.1 k λhi=>?_;rw[aaq,ab];refine Ends.cond (λ_=>?_) λ_=>skip _ hx.2.2.2.2;rw[aau _ _ (by omega),ab];refine Ends.cond (λ_=>?_) λ_=>skip _ hx.2.2.2.2;refine(vy hx.2.2.2.2 6).bind λr4 p4=>Ends.cond (λ_=>?_) λ_=>skip _ p4;refine Ends.idx hx.1 k λhi=>(ja (P:=λ_=>True) p4 (by decide) (by simp)).bind λr6 p6=>Ends.room (by simp;omega) (hn _ ⟨by show 0<=x.2.1+1;omega,?_,by show x.2.1+1<=_;omega,?_,p6.2⟩ (by show((l.length:Int)-(x.2.1+1)).toNat<_;omega));show((x.1++[_]).length:Int)<=x.2.1+1;simp;omega;intro s hs;rcases aw.1 hs with hs|hs;exact hx.2.2.2.1 s hs;simp only[bG]at hs;rw[hs]
theorem afQ (h:Cu c):Ends (yN c) λr=>r.1.length=16/\Cu r.2:=by unfold yN;exact(Ff h 16).bind λr hr=>Ends.pure ⟨by have:=hr.1.2.1 (by omega) (by omega);omega,hr.2⟩
theorem Wh (h:Cu c):Ends (xm c) λr=>Cu r.2:=by unfold xm;refine(ja (P:=λ_=>True) h (by decide) (by simp)).bind λr1 p1=>(Jl p1.2).bind λr2 p2=>(gW p2.2 (by decide)).bind λr3 p3=>?_;exact(ja (P:=λ_=>True) p3.2 (by decide) (by simp)).bind λr4 p4=>Ends.pure p4.2
theorem Ya (h:Cu c):Ends (ui c) λr=>(r.1.1.1.length=16/\r.1.1.2.length<=8/\1<=r.1.2/\r.1.2<=4)/\Cu r.2:=by unfold ui;refine(gW h (by decide)).bind λr1 p1=>(afQ p1.2).bind λr2 p2=>(ja (P:=λx=>0<=x/\x<=8) p2.2 (by decide) (by decide)).bind λr3 p3=>?_;have a1:=p1.1;have a3:=p3.1;rw[ak (n:=1+r1.1)];refine Ends.wN (λx=>0<=x.1/\x.1+(x.2.2.2.length:Int)=r3.1/\x.2.2.1.length=16/\Cu x.2.1) (λx=>x.1.toNat) ⟨by omega,by simp,p2.1,p3.2⟩ (by simp;omega) λx nx hx hn=>?_;unfold uj;refine Ends.cond (λk=>?_) λk=>Ends.pure ⟨⟨hx.2.2.1,by have:=hx.1;have:=hx.2.1;show x.2.2.2.length<=8;omega,by show(1:Int)<=1+r1.1;omega,by show 1+r1.1<=(4:Int);omega⟩,hx.2.2.2⟩;have k:=bu k;rw[ak (n:=x.1-1) (by omega) (by have:=hx.2.1;omega)];refine(D5 hx.2.2.2 _).bind λr4 p4=>Ends.room (by have:=hx.2.1;simp;omega) (hn _ ⟨?_,?_,hx.2.2.1,p4.2⟩ ?_);show 0<=x.1-1;omega;show x.1-1+((x.2.2.2++[r4.1]).length:Int)=r3.1;have:=hx.2.1;simp;omega;show(x.1-1).toNat<x.1.toNat;omega
theorem ac1 (h:Cu c):Ends (xo c) λr=>Cu r.2:=by unfold xo;refine(gW h (by decide)).bind λr1 p1=>(ja (P:=λ_=>True) p1.2 (by decide) (by simp)).bind λr2 p2=>(Jl p2.2).bind λr3 p3=>?_;refine(ja (P:=λ_=>True) p3.2 (by decide) (by simp)).bind λr4 p4=>(ja (P:=λ_=>True) p4.2 (by decide) (by simp)).bind λr5 p5=>(ja (P:=λ_=>True) p5.2 (by decide) (by simp)).bind λr6 p6=>?_;refine(ja (P:=λ_=>True) p6.2 (by decide) (by simp)).bind λr7 p7=>(ja (P:=λ_=>True) p7.2 (by decide) (by simp)).bind λr8 p8=>?_;exact Ends.cond (λ_=>(gW p8.2 (by decide)).bind λr9 p9=>Ends.pure p9.2) λ_=>Ends.pure p8.2
theorem aah (h:Cu c):Ends (vJ c) λr=>r.1.length<=4/\Cu r.2:=by unfold vJ;refine(gW h (by decide)).bind λr1 p1=>?_;have a1:=p1.1;refine Ends.wN (λx=>0<=x.2.1/\x.2.1+(x.1.length:Int)=r1.1/\Cu x.2.2) (λx=>x.2.1.toNat) ⟨a1.1,by simp,p1.2⟩ (by simp;omega) λx nx hx hn=>?_;unfold uR;refine Ends.cond (λk=>?_) λk=>Ends.pure ⟨by have:=hx.1;have:=hx.2.1;show x.1.length<=4;omega,hx.2.2⟩;have k:=bu k;rw[ak (n:=x.2.1-1) (by omega) (by have:=hx.2.1;omega)];refine(ac1 hx.2.2).bind λr2 p2=>Ends.room (by have:=hx.2.1;simp;omega) (hn _ ⟨?_,?_,p2⟩ ?_);show 0<=x.2.1-1;omega;show x.2.1-1+((x.1++[r2.1]).length:Int)=r1.1;have:=hx.2.1;simp;omega;show(x.2.1-1).toNat<x.2.1.toNat;omega
theorem KL (t:ax Slot)(f:iY):∀n k,walk t f n k= -1\/(0<=walk t f n k/\walk t f n k<8)
 |0,_=>Or.inl rfl
 |n+1,k=>by rw[walk];have:=CK f k;split;exact Or.inl rfl;split;exact Or.inr ⟨by omega,by omega⟩;exact KL t f n (k+1)
theorem Yi {t:ax Slot}(h:og t=true):t.length=8:=by unfold og at h;simp only[ae,bq]at h;exact h.1
theorem aht (t:ax Slot)(f:iY)(q:Int)(hl:t.length<=1000):Ends (xg t f q) λr=>r.1.length=t.length:=by
 unfold xg;rw[Dg _ (by omega),ab,ME,ab];refine Ends.bind (P:=λb=>b=false->og t=true) ?_ λb hb=>Ends.cond (λ_=>Ends.pure rfl) λhb2=>?_;refine Ends.cond (λ_=>Ends.pure λh=>by cases h) λh=>?_;rw[eI,ab];exact Ends.pure λ_=>by simpa using h
 ·have h8:=Yi (hb hb2);rw[RL _ _ h8,ab];have hw:=KL t f 8 0;refine Ends.wN (λx=>(x.1= -1\/(0<=x.1/\x.1<8))/\0<=x.2/\x.2<=8) (λx=>(8-x.2).toNat) ⟨hw,by simp,by simp⟩ (by simp) λx nx hx hn=>?_;unfold wF;refine Ends.bind (P:=λb=>b=true->x.2<8) (Ends.cond (λh=>Ends.pure λ_=>bu h) λh=>Ends.pure λh=>by cases h) λb hb=>Ends.cond (λhb2=>?_) λ_=>?_
  ·have hb:=hb hb2;rw[RM,ab];have hh:=Jk f;rw[ak (n:=zD f+x.2),ak (n:=x.2+1)];have m1:=Int.tmod_nonneg 8 (a:=zD f+x.2) (by omega);have m2:=Int.tmod_lt_of_pos (zD f+x.2) (b:=8) (by omega);refine Ends.Zl (by decide) (Ends.idx m1 (by omega) λ_=>Ends.cond (λ_=>hn _ ⟨Or.inr ⟨m1,m2⟩,?_,?_⟩ ?_) λ_=>hn _ ⟨hx.1,?_,?_⟩ ?_);all_goals simp only
   all_goals omega
  refine Ends.cond (λ_=>Ends.pure rfl) λh=>?_;have h:=gz h;have h0:0<=x.1/\x.1<8:=by omega
  exact Ends.idx h0.1 (by omega) λ_=>Ends.idx h0.1 (by omega) λ_=>Ends.pure (by simp)
structure uX (s:dm):Prop where
 r:s.1.length<=100
 t:s.2.1.length<=100
 k:s.2.2.1.length=16
 p:s.2.2.2.length<=100
theorem aav (h:Cu c):Ends (qV c) λr=>(uX r.1.1/\1<=r.1.2/\r.1.2<=4)/\Cu r.2:=by
 unfold qV;have hnew:md=some (List.replicate 8 (0,(0,0,0,0,0),0)):=by unfold md;rw[aH (by decide),aZ (by decide)];rfl
 rw[hnew,ab];refine(Ya h).bind λr2 p2=>(vy p2.2 2).bind λr3 p3=>?_;have t11:∀(n:Int)(s:dm)(c':OX),n<=4->uX s->Cu c'->Ends (bm (iw (λ(_:Int) y15 y16=>some ((y16,r2.1.2),y15)) r2.1.2 (([]:ax kb),([]:ax Slot),([]:Bytes),([]:dC))) fuel (n,c',s)) λr:(dm×Int)×OX=>(uX r.1.1/\1<=r.1.2/\r.1.2<=4)/\Cu r.2:=by intro n s c' hn hs hc;refine Ends.wN (λx=>x.1<=4/\uX x.2.2/\Cu x.2.1) (λx=>x.1.toNat) ⟨hn,hs,hc⟩ (by simp;omega) λx nx hx hn=>?_;unfold iw;refine Ends.cond (λk=>?_) λk=>Ends.pure ⟨⟨hx.2.1,p2.1.2.2⟩,hx.2.2⟩;have k:=bu k;rw[ak (n:=x.1-1) (by omega) (by have:=hx.1;omega)];refine(Wh hx.2.2).bind λr11 p11=>(D5 p11 _).bind λr12 p12=>(aht _ _ _ (by have:=hx.2.1.t;omega)).bind λr13 p13=>hn _ ⟨?_,⟨hx.2.1.r,by have:=hx.2.1.t;show r13.1.length<=100;omega,hx.2.1.k,hx.2.1.p⟩,p12.2⟩ ?_;show x.1-1<=4;have:=hx.1;omega;show(x.1-1).toNat<x.1.toNat;omega
 have t7:∀(s:dm)(c' b:OX),uX s->s.1.length<=4->Cu c'->Ends (bm (ka (λ(_:Int) y9=>aa (cv c' 4) λr10=>bm (iw (λ(_:Int) y15 y16=>some ((y16,r2.1.2),y15)) r2.1.2 (([]:ax kb),([]:ax Slot),([]:Bytes),([]:dC))) fuel (r10.1,r10.2,y9)) r2.1.2 b (([]:ax kb),([]:ax Slot),([]:Bytes),([]:dC))) fuel (0,s)) λr:(dm×Int)×OX=>(uX r.1.1/\1<=r.1.2/\r.1.2<=4)/\Cu r.2:=by intro s c' b hs hl hc;refine Ends.wN (λx=>0<=x.1/\x.2.1.length=s.1.length/\uX x.2) (λx=>((s.1.length:Int)-x.1).toNat) ⟨by simp,rfl,hs⟩ (by simp;omega) λx nx hx hn=>?_;unfold ka;refine Ends.cond (λk=>?_) λk=>(gW hc (by decide)).bind λr10 p10=>t11 _ _ _ (by have:=p10.1;omega) hx.2.2 p10.2;have k:=bu k;rw[ak (n:=x.1+1) (by omega) (by have:=hx.2.1;omega)];refine Ends.idx hx.1 k λ_=>Ends.Zl (by have:=p2.1.2.2;omega) (Ends.idx hx.1 k λ_=>Ends.idx hx.1 k λ_=>hn _ ⟨?_,?_,⟨?_,hx.2.2.t,hx.2.2.k,hx.2.2.p⟩⟩ ?_);show 0<=x.1+1;have:=hx.1;omega;show(List.set _ _ _).length=_;rw[az];exact hx.2.1;show(List.set _ _ _).length<=100;rw[az];exact hx.2.2.r;show((s.1.length:Int)-(x.1+1)).toNat<_;have:=hx.2.1;omega
 refine Ends.cond (λ_=>(aah p3).bind λr4 p4=>t7 _ _ _ ⟨by have:=p4.1;show r4.1.length<=100;omega,by simp,p2.1.1,by have:=p2.1.2.1;show r2.1.1.2.length<=100;omega⟩ p4.1 p4.2) λ_=>t7 _ _ _ ⟨by simp,by simp,p2.1.1,by have:=p2.1.2.1;show r2.1.1.2.length<=100;omega⟩ (by simp) p3
theorem PK (h:Cu c):Ends (ur c) λr=>(r.1.1=2/\(r.1.2.2=[7]\/r.1.2.2=[]))/\Cu r.2:=by unfold ur;exact(vy h 4).bind λr1 p1=>(vy p1 2).bind λr2 p2=>Ends.cond (λ_=>Ends.pure ⟨⟨rfl,Or.inl rfl⟩,p2⟩) λ_=>Ends.pure ⟨⟨rfl,Or.inr rfl⟩,p2⟩
theorem agU:fS (bZ 38)=true:=by decide+kernel
def wM (f:Filter)(s:dm)(c:Bool):ax Vector->Host
 |[]=>P8 f s c 38
 |v::vs=>GR ((wM f s c vs).1,(wM f s c vs).2.1,(wM f s c vs).2.2.1,(wM f s c vs).2.2.2.1++[((0,0,0,0),(0,0,0),(0,0,0),((0,0,0,0,0,0,0,0,0,0,0,0,0,0,0,([]:Bytes)),0,0),false,0)],(wM f s c vs).2.2.2.2.1++[(0,0,0,([]:dC))],(wM f s c vs).2.2.2.2.2.1++[v],(wM f s c vs).2.2.2.2.2.2.1++[false],(wM f s c vs).2.2.2.2.2.2.2) vs.length
def Lw (h:Host):=(h.1,h.2.1,h.2.2.1,h.2.2.2.1,h.2.2.2.2.1,h.2.2.2.2.2.1,h.2.2.2.2.2.2.1)
structure Made (f:Filter) (s:dm) (c:Bool) (k:Nat) (h:Host):Prop where
 mem:cP h.1=true
 ml:h.1.length=38
 maps:h.2.1=bZ 38
 tx:h.2.2.1=yO
 rx:h.2.2.2.1.length=k
 rxs:∀r∈h.2.2.2.1,xK 0 r/\r.2.2.2.2.1=false
 pl:h.2.2.2.2.1.length=k
 pls:∀p∈h.2.2.2.2.1,dh p=true/\p.2.2.2.length<=1000
 vec:h.2.2.2.2.2.1.length=k
 vecs:∀v∈h.2.2.2.2.2.1,dH v=true
 pol:h.2.2.2.2.2.2.1.length=k
 rest:h.2.2.2.2.2.2.2=(f,s,([]:List Stream),c,([]:List Bytes),([]:List Int),([]:List Int),0,0,0,0,0)
 is:∃vs,vs.length=k/\h=wM f s c vs/\∀v∈vs,v.2.1<=3/\v.2.2.2.2.1=false
theorem RH (l:ax α)(x y:α):(l++[x]).set l.length y=l++[y]:=by simp
theorem acI {n:Nat}(h:n<=64):cP (HA n)=true:=nf.2 ⟨λx hx=>by rw[(List.mem_replicate.1 hx).2];exact tc 128,by simp[HA];exact h⟩
theorem W4 {s:dm}{c:Bool}(m:Made f s c k h)(hk:k<=8)(hv:dH v=true)(h3:v.2.1<=3/\v.2.2.2.2.1=false):Ends (uu (h.1,h.2.1,h.2.2.1,h.2.2.2.1++[((0,0,0,0),(0,0,0),(0,0,0),((0,0,0,0,0,0,0,0,0,0,0,0,0,0,0,([]:Bytes)),0,0),false,0)],h.2.2.2.2.1++[(0,0,0,([]:dC))],h.2.2.2.2.2.1++[v],h.2.2.2.2.2.2.1++[false],h.2.2.2.2.2.2.2) (k:Int)) λr=>Made f s c (k+1) r.2:=by
 refine Ends.of (aas _ k hk (by simp[m.rx]) (by simp[m.pl]) (by show h.2.1.length<=_;rw[m.maps,FR];omega) (by show h.1.length<=_;rw[m.ml];omega)) ?_;have o:=Mj m.mem h.2.1 hk;have e1:(h.2.2.2.1++[(((0,0,0,0),(0,0,0),(0,0,0),((0,0,0,0,0,0,0,0,0,0,0,0,0,0,0,([]:Bytes)),0,0),false,0):bF)])[k]?=some ((0,0,0,0),(0,0,0),(0,0,0),((0,0,0,0,0,0,0,0,0,0,0,0,0,0,0,([]:Bytes)),0,0),false,0):=by rw[<-m.rx];simp
 have e2:∀y:bF,(h.2.2.2.1++[(((0,0,0,0),(0,0,0),(0,0,0),((0,0,0,0,0,0,0,0,0,0,0,0,0,0,0,([]:Bytes)),0,0),false,0):bF)]).set k y=h.2.2.2.1++[y]:=λy=>by rw[<-m.rx];exact RH _ _ _
 have e3:∀y:de,(h.2.2.2.2.1++[(((0,0,0,([]:dC))):de)]).set k y=h.2.2.2.2.1++[y]:=λy=>by rw[<-m.pl];exact RH _ _ _
 obtain⟨vs,vl,ve,vb⟩:=m.is;have is0:GR (h.1,h.2.1,h.2.2.1,h.2.2.2.1++[((0,0,0,0),(0,0,0),(0,0,0),((0,0,0,0,0,0,0,0,0,0,0,0,0,0,0,([]:Bytes)),0,0),false,0)],h.2.2.2.2.1++[(0,0,0,([]:dC))],h.2.2.2.2.2.1++[v],h.2.2.2.2.2.2.1++[false],h.2.2.2.2.2.2.2) k=wM f s c (v::vs):=by rw[wM,<-ve,vl]
 unfold GR at is0⊢;simp only[e1,e2,e3]at is0⊢;have hp:(kM h.2.1 h.1 k).2.2.1.2.2.2.length<=1000:=by unfold kM;exact bE (Dz ..) (nV _ _ _)
 refine⟨o.1,?_,m.maps,m.tx,by show(_++[_]).length=_;rw[ai,m.rx];rfl,?_,by show(_++[_]).length=_;rw[ai,m.pl];rfl,?_,by show(_++[_]).length=_;rw[ai,m.vec];rfl,?_,by show(_++[_]).length=_;rw[ai,m.pol];rfl,m.rest,⟨v::vs,by simp[vl],is0,λw hw=>?_⟩⟩;show(kM h.2.1 h.1 k).1.length=38;rw[Mi,m.ml];intro r hr;rcases aw.1 hr with hr|hr;exact m.rxs r hr;rw[bG.1 hr];exact⟨RD hk o.2.1 ⟨eo _,eo _⟩,rfl⟩;intro p hp';rcases aw.1 hp' with hp'|hp';exact m.pls p hp';rw[bG.1 hp'];exact⟨o.2.2,hp⟩;intro w hw;rcases aw.1 hw with hw|hw;exact m.vecs w hw;rw[bG.1 hw];exact hv;rcases cA.1 hw with e|e;rw[e];exact h3;exact vb w e
structure Gs (h:Host):Prop where
 good:Good 0 h
 sz:zj 2000 h
 maps:∀m∈h.2.1,m.2.2.1<(h.1.length:Int)
 led:h.2.2.1.2.2.1=[]/\h.2.2.2.2.2.2.2.2.2.2.2.1=[]/\h.2.2.2.2.2.2.2.2.2.2.2.2.1=[]/\h.2.2.2.2.2.2.2.2.2.2.2.2.2.1=[]
 is:∃f s c vs,vs.length<=2/\Lw h=Lw (wM f s c vs)/\∀v∈vs,v.2.1<=3/\v.2.2.2.2.1=false
theorem Tt {s:dm}{c:Bool}(m:Made f s c k h)(hk:1<=k/\k<=2)(hf:qp f=true)(hf2:f.2.2.length<=1000)(hs:fL s (k:Int)=true)(hz:uX s):Gs h:=by have h4:=nV 256 128 8;obtain⟨vs,vl,ve,vb⟩:=m.is;obtain⟨m1,m2,m3,m4,m5,m6,m7,m8,m9,m10,m11,m12,_⟩:=m;obtain⟨mem,maps,tx,rx,pl,vec,pol,rest⟩:=h;simp only at m1 m2 m3 m4 m5 m6 m7 m8 m9 m10 m11 m12;subst m12 m3 m4;refine⟨⟨m1,agU,abF 0 (by omega),hf,?_,by show fL s (rx.length:Int)=true;rw[m5];exact hs,λr hr=>(m6 r hr).1,λp hp=>(m8 p hp).1,m10,?_⟩,⟨?_,?_⟩,?_,⟨rfl,rfl,rfl,rfl⟩,⟨f,s,c,vs,by omega,congrArg Lw ve,vb⟩⟩;unfold pX;simp only[ae,aX,bq];omega;intro x hx;simp only[iG,cA,List.not_mem_nil,or_false,or_self]at hx;omega;have hm:=(nf.1 m1).1;refine⟨⟨by show mem.length<=2000;omega,λx hx=>by show x.length<=2000;rw[hm x hx];omega⟩,⟨by show(bZ 38).length<=2000;rw[FR];omega,λ_ _=>⟨cC,cC,cC,cC⟩⟩,?_,?_,?_,?_,?_,⟨cC,cC,by show f.2.2.length<=2000;omega,λ_ _=>trivial⟩,?_,⟨bX _,λx hx=>by cases hx⟩,cC,⟨bX _,λx hx=>by cases hx⟩,⟨bX _,λx hx=>by cases hx⟩,⟨bX _,λx hx=>by cases hx⟩,cC,cC,cC,cC,cC⟩;exact⟨⟨cC,cC,cC,cC⟩,⟨cC,cC,cC,by show List.length (ga 256 128 8).1.2.2.2<=2000;omega,λ_ _=>trivial⟩,⟨bX _,λx hx=>by cases hx⟩,cC⟩;refine⟨by show rx.length<=2000;omega,λx hx=>?_⟩;have e:=(m6 x hx).1.free (m6 x hx).2;refine⟨⟨cC,cC,cC,cC⟩,⟨cC,cC,cC⟩,⟨cC,cC,cC⟩,?_,cC,cC⟩;rw[e];exact⟨⟨cC,cC,cC,cC,cC,cC,cC,cC,cC,cC,cC,cC,cC,cC,cC,bX _⟩,cC,cC⟩;exact⟨by show pl.length<=2000;omega,λx hx=>⟨cC,cC,cC,by have:=(m8 x hx).2;show x.2.2.2.length<=2000;omega,λ_ _=>trivial⟩⟩;exact⟨by show vec.length<=2000;omega,λx hx=>⟨cC,cC,cC,cC,cC,cC⟩⟩;exact⟨by show pol.length<=2000;omega,λx hx=>trivial⟩;exact⟨⟨by have:=hz.r;show s.1.length<=2000;omega,λ_ _=>⟨cC,cC,cC,cC,cC,cC,cC,cC,cC⟩⟩,⟨by have:=hz.t;show s.2.1.length<=2000;omega,λ_ _=>⟨cC,⟨cC,cC,cC,cC,cC⟩,cC⟩⟩,by have:=hz.k;show s.2.2.1.length<=2000;omega,by have:=hz.p;show s.2.2.2.length<=2000;omega,λ_ _=>trivial⟩;show List.length (ga 256 128 8).1.2.2.2+0<=2000;omega;intro m hm;have hm:m∈bZ 38:=hm;simp only[bZ,eQ,cp]at hm;obtain⟨i,hi,rfl⟩:=hm;show 37-(i:Int)<(mem.length:Int);omega
theorem Xn {a b:Int}(h:(wB a b).2=true):dH (wB a b).1=true:=by unfold wB at h⊢;cases hv:dH (a,b,0,0,false,false)with|false=>rw[hv]at h;cases h|true=>exact hv
theorem ZP {a b:Int}(h:(wB a b).2=true)(hb:b<=3):(wB a b).1.2.1<=3/\(wB a b).1.2.2.2.2.1=false:=by unfold wB at h⊢;cases hv:dH (a,b,0,0,false,false)with|false=>rw[hv]at h;cases h|true=>exact⟨hb,rfl⟩
theorem JQ (q:Int)(f:Filter)(s:dm)(c:Bool)(a b:Int)(hf:f.2.2.length<=1000)(hs:uX s)(hb3:b<=3):Ends (ua q f s c a b) λr=>(r.2=true->Gs r.1)/\((1<=q/\q<=2)->qp f=true->fL s q=true->(wB a b).2=true->r.2=true):=by
 have z1:=hs.r;have z2:=hs.t;have z3:=hs.p;unfold ua;rw[T9,ab,eI,ab];refine Ends.bind (P:=λx=>(x=false->(1<=q/\q<=2)/\qp f=true/\fL s q=true/\(wB a b).2=true)/\(x=true->(1<=q/\q<=2)->qp f=true->fL s q=true->(wB a b).2=true->False)) ?_ λx hx=>Ends.cond (λhx2=>Ends.pure ⟨(λh=>by cases h),λg1 g2 g3 g4=>(hx.2 hx2 g1 g2 g3 g4).elim⟩) λh=>?_;refine Ends.cond (λk=>Ends.pure ⟨(λh=>by cases h),λ_ g1 _ _ _=>by rw[aX.2 g1]at k;cases k⟩) λh1=>?_;rw[T6 f (by omega),ab];refine Ends.cond (λk=>Ends.pure ⟨(λh=>by cases h),λ_ _ g2 _ _=>by rw[g2]at k;cases k⟩) λh2=>?_;rw[OG s q (by omega) (by omega) (by omega),ab];refine Ends.cond (λk=>Ends.pure ⟨(λh=>by cases h),λ_ _ _ g3 _=>by rw[g3]at k;cases k⟩) λh3=>Ends.pure ⟨λh4=>?_,λk _ _ _ g4=>by rw[g4]at k;cases k⟩;exact⟨aX.1 (by simpa using h1),by simpa using h2,by simpa using h3,by simpa using h4⟩;obtain⟨hq,h1,h2,h3⟩:=hx.1 h;have hm:qg 38=some (HA 38):=T8 38 (by omega);rw[hm,ab,X7,ab,Km f (by omega),ab,Lc s (by omega) (by omega) (by omega),ab];have hv:=Xn h3;refine Ends.wN (λx=>0<=x.1/\x.1<=38/\x.2=P8 f s c x.1.toNat) (λx=>(38-x.1).toNat) ⟨by simp,by simp,rfl⟩ (by simp) λx nx hx hn=>?_;obtain⟨i,y⟩:=x;obtain⟨x1,x2,x3⟩:=hx;simp only at x1 x2 x3;unfold wE;refine Ends.cond (λk=>?_) λk=>?_;have k:=bu k;have hl:=FR i.toNat;simp only at k;rw[eI,ab];simp only;rw[ak (n:=i+1),ak (n:=37-i)];subst x3;refine Ends.room (by show(bZ i.toNat).length+1<=_;omega) (hn _ ⟨by show 0<=i+1;omega,by show i+1<=38;omega,?_⟩ (by show(38-(i+1)).toNat<(38-i).toNat;omega));have e:(i+1).toNat=i.toNat+1:=by omega
 show(HA 38,bZ i.toNat++_,_)=P8 f s c (i+1).toNat;rw[e];unfold P8;rw[Tu,show((i.toNat:Nat):Int)=i by omega];have k:=gz k;simp only at k;have e:i.toNat=38:=by omega
 rw[e]at x3;have hm0:Made f s c 0 y:=by rw[x3];exact⟨acI (by omega),by show(HA 38).length=38;simp[HA],rfl,rfl,rfl,(λ_ hr=>by cases hr),rfl,(λ_ hr=>by cases hr),rfl,(λ_ hr=>by cases hr),rfl,rfl,⟨[],rfl,rfl,λ_ hv=>by cases hv⟩⟩
 simp only;refine Ends.wN (λx=>0<=x.1/\x.1<=q/\Made f s c x.1.toNat x.2) (λx=>(q-x.1).toNat) ⟨by simp,by show(0:Int)<=q;omega,hm0⟩ (by simp;omega) λx nx hx hn=>?_;obtain⟨i,y⟩:=x;obtain⟨x1,x2,m⟩:=hx;simp only at x1 x2 m;unfold uP;refine Ends.cond (λk=>?_) λk=>Ends.pure ⟨λ_=>?_,λ_ _ _ _=>rfl⟩;have k:=bu k;simp only at k;have l1:=m.rx;have l2:=m.pl;have l3:=m.vec;have l4:=m.pol;refine Ends.room (by simp;omega) (Ends.room (by simp;omega) (Ends.room (by simp;omega) (Ends.room (by simp;omega) ?_)));have ho:=W4 m (by omega) hv (ZP h3 hb3);rw[show((i.toNat:Nat):Int)=i by omega]at ho;refine ho.bind λr hr=>?_;simp only;rw[ak (n:=i+1)];refine hn _ ⟨by show 0<=i+1;omega,by show i+1<=q;omega,?_⟩ (by show(q-(i+1)).toNat<(q-i).toNat;omega);show Made f s c (i+1).toNat r.2;rw[show(i+1).toNat=i.toNat+1 by omega];exact hr;have k:=gz k;simp only at k;have hi:i=q:=by omega
 subst hi;exact Tt m (by omega) h1 hf (by rw[show((i.toNat:Nat):Int)=i by omega];exact h2) hs
def zl (a:Act):Prop:=a.2.1.2.2.2.2.2.2.2.2.2.2.2.2.2.2.2.length<=1000/\a.2.2.2.2.1.length<=382/\0<=a.1/\a.1<=6
theorem D2 {l:ax Act}{a:Act}(h:zl a):(l++[a]).length<=l.length+1/\∀y∈l++[a],y∈l\/zl y:=by refine⟨by simp,λy hy=>?_⟩;rcases aw.1 hy with hy|hy;exact Or.inl hy;rw[bG.1 hy];exact Or.inr h
theorem Si {Q:R->Prop}{k0:ax Act->OX->aB R}{l:ax Act}{i x:Int}{b:Bool}(hl:l.length<=1000)(hc:Cu c)(hk:∀l' c',l'.length<=l.length+1->(∀y∈l',y∈l\/zl y)->Cu c'->Ends (k0 l' c') Q):Ends (kD k0 r l ps i x b c) Q:=by
 have add:∀(a:Act)(c':OX),zl a->Cu c'->Ends (k0 (l++[a]) c') Q:=λa c' ha hc'=>by have k:=D2 (l:=l) (a:=a) ha;exact hk _ _ k.1 k.2 hc'
 have keep:∀c',Cu c'->Ends (k0 l c') Q:=λc' hc'=>hk _ _ (by omega) (λy hy=>Or.inl hy) hc';unfold kD;refine Ends.cond (λ_=>(gW hc (by decide)).bind λr9 p9=>Ends.room (by simp;omega) (by exact add _ _ (by simp[zl]) p9.2)) λ_=>?_;refine Ends.cond (λ_=>(Mm hc).bind λr10 p10=>(gW p10.2 (by decide)).bind λr11 p11=>(ja (P:=λ_=>True) p11.2 (by decide) (by simp)).bind λr12 p12=>Ends.room (by simp;omega) (by exact add _ _ ⟨by have:=p10.1.2.1;show r10.1.2.2.2.2.2.2.2.2.2.2.2.2.2.2.2.length<=1000;omega,by simp⟩ p12.2)) λ_=>?_;refine Ends.cond (λ_=>Ends.room (by simp;omega) (by exact add _ _ (by simp[zl]) hc)) λ_=>?_;exact Ends.cond (λ_=>Ends.cond (λ_=>Ends.room (by simp;omega) (by exact add _ _ (by simp[zl]) hc)) λ_=>keep _ hc) λ_=>keep _ hc
theorem YD {Q:R->Prop}{k0:ax Act->OX->aB R}{l:ax Act}{i x:Int}{b:Bool}(hl:l.length<=1000)(hc:Cu c)(hk:∀l' c',l'.length<=l.length+1->(∀y∈l',y∈l\/zl y)->Cu c'->Ends (k0 l' c') Q):Ends (nv k0 r l ps i x b c) Q:=by unfold nv;refine Ends.cond (λ_=>Ends.room (by simp;omega) ?_) λ_=>?_;have k:=D2 (l:=l) (a:=(4,(0,0,0,0,0,0,0,0,0,0,0,0,0,0,0,([]:Bytes)),0,0,([]:Bytes),0)) (by simp[zl]);exact hk _ _ k.1 k.2 hc;exact Ends.cond (λ_=>Si hl hc hk) λ_=>Ends.cond (λ_=>Si hl hc hk) λ_=>Si hl hc hk
theorem adw {Q:R->Prop}{k0:ax Act->OX->aB R}{l:ax Act}{i:Int}{x:Bytes}(hl:l.length<=900)(hx:x.length<=382)(hc:Cu c)(hk:∀l' c',l'.length<=l.length+2->(∀y∈l',y∈l\/zl y)->Cu c'->Ends (k0 l' c') Q):Ends (oG k0 r l ps i x c) Q:=by unfold oG;have k:=D2 (l:=l) (a:=(2,(0,0,0,0,0,0,0,0,0,0,0,0,0,0,0,([]:Bytes)),0,0,x,0)) ⟨by simp,hx,by simp,by simp⟩;generalize hL:l++[((2,(0,0,0,0,0,0,0,0,0,0,0,0,0,0,0,([]:Bytes)),0,0,x,0):Act)]=L at k⊢;have hk2:∀l' c',l'.length<=L.length+1->(∀y∈l',y∈L\/zl y)->Cu c'->Ends (k0 l' c') Q:=λl' c' h1 h2 h3=>hk _ _ (by omega) (λy hy=>by rcases h2 y hy with h|h;exact k.2 y h;exact Or.inr h) h3;refine Ends.room (by simp;omega) ((gW hc (by decide)).bind λr8 p8=>?_);refine Ends.cond (λ_=>Ends.room (by simp;omega) ?_) λ_=>?_;have k:=D2 (l:=L) (a:=(3,(0,0,0,0,0,0,0,0,0,0,0,0,0,0,0,([]:Bytes)),0,0,([]:Bytes),0)) (by simp[zl]);exact hk2 _ _ k.1 k.2 p8.2;exact Ends.cond (λ_=>YD (by omega) p8.2 hk2) λ_=>YD (by omega) p8.2 hk2
theorem aiv {Q:R->Prop}{k0:ax Act->Int->OX->aB R}{l:ax Act}{i:Int}(hl:l.length<=900)(h0:0<=i)(h1:i<(ps.length:Int))(hn:ps.length<=1000)(hc:Cu c)(hk:∀l' c',l'.length<=l.length+2->(∀y∈l',y∈l\/zl y)->Cu c'->Ends (k0 l' (i+1) c') Q):Ends (sF k0 r l ps i c) Q:=by
 have e:aq (i+1)=i+1:=ak;unfold sF;refine Ends.idx h0 h1 λhi=>?_;have hf:=LP ps[i.toNat];rw[X1,ab];refine(vy hc 12).bind λr4 p4=>Ends.cond (λ_=>?_) λ_=>adw hl hf p4 λl' c' g1 g2 g3=>by unfold oF;rw[e];exact hk _ _ g1 g2 g3
 refine(D5 p4 _).bind λr5 p5=>(Ff p5.2 1).bind λr6 p6=>?_;rw[E6 _ _ _,ab];exact adw hl (by rw[wh];exact hf) p6.2 λl' c' g1 g2 g3=>by unfold oF;rw[e];exact hk _ _ g1 g2 g3
theorem abN (h:Cu c)(r:Bool):Ends (xw c r) λx=>(x.1.length<=20/\∀a∈x.1,zl a)/\Cu x.2:=by unfold xw;refine(acF h (m:=10) (by omega) (by omega)).bind λr1 p1=>?_;have hn:=p1.1.2.2;refine Ends.wN (λx=>0<=x.2.1/\(x.1.length:Int)<=2*x.2.1/\x.2.1<=(r1.1.length:Int)/\(∀a∈x.1,zl a)/\Cu x.2.2) (λx=>((r1.1.length:Int)-x.2.1).toNat) ⟨by simp,by simp,by simp,by simp,p1.2⟩ (by simp;omega) λx nx hx hn=>?_;unfold wK;refine Ends.cond (λk=>?_) λk=>Ends.pure ⟨⟨by have:=hx.2.1;have:=hx.2.2.1;show x.1.length<=20;omega,hx.2.2.2.1⟩,hx.2.2.2.2⟩;have k:=bu k;have h2:=hx.2.1;refine aiv (by omega) hx.1 k (by omega) hx.2.2.2.2 λl' c' g1 g2 g3=>hn _ ⟨?_,?_,?_,?_,g3⟩ ?_;show 0<=x.2.1+1;have:=hx.1;omega;show(l'.length:Int)<=2*(x.2.1+1);omega;show x.2.1+1<=(r1.1.length:Int);omega;intro a ha;rcases g2 a ha with h|h;exact hx.2.2.2.1 a h;exact h;show((r1.1.length:Int)-(x.2.1+1)).toNat<((r1.1.length:Int)-x.2.1).toNat;omega
theorem acG (n x:Int)(h0:0<=n)(h1:n<=1000000):Ends (iP n x) λr=>(r.length:Int)=n:=by unfold iP;rw[aH ⟨h0,eo _⟩];refine Ends.room (by omega) (Ends.wN (λy=>(y.1.length:Int)=n/\0<=y.2/\y.2<=n) (λy=>(n-y.2).toNat) ⟨by simp;omega,by simp,h0⟩ (by simp;omega) λy nx hy hn=>?_);unfold oA;refine Ends.cond (λk=>?_) λk=>Ends.pure (by simp[aM];exact hy.1);have k:=bu k;rw[ak (n:=y.2+1)];refine Ends.idx hy.2.1 (by omega) λ_=>Ends.idx hy.2.1 (by omega) λ_=>hn _ ⟨?_,?_,?_⟩ ?_;show((List.set _ _ _).length:Int)=n;rw[az];exact hy.1;show 0<=y.2+1;omega;show y.2+1<=n;omega;show(n-(y.2+1)).toNat<(n-y.2).toNat;omega
theorem Q9:md=some (List.replicate 8 (0,(0,0,0,0,0),0)):=by unfold md;rw[aH (by decide),aZ (by decide)];rfl
theorem Tl {k:Bytes}(hk:k.length=16):fL (([]:ax kb),List.replicate 8 (0,(0,0,0,0,0),0),k,[0]) 1=true:=by
 have ht:og (List.replicate 8 (0,(0,0,0,0,0),0))=true:=by decide+kernel
 have hs:pE (k,[0]) 1=true:=by unfold pE;simp only[hk];decide+kernel
 unfold fL;rw[show wD ([]:ax kb)=true from rfl,ht,hs];rfl
theorem Wo (h:Cu c):Ends (xv c) λr=>Gs r.1/\Cu r.2:=by
 unfold xv;refine Ends.wN (λx=>0<=x.1/\x.1<=4/\Cu x.2) (λx=>(4-x.1).toNat) ⟨by simp,by simp,h⟩ (by simp) λx nx hx hn=>?_;unfold wI;refine Ends.cond (λk=>?_) λk=>?_;have k:=bu k;refine(aav hx.2.2).bind λr1 p1=>?_;refine Ends.wN (λy=>0<=y.1/\uX y.2) (λy=>((y.2.1.length:Int)-y.1).toNat) ⟨by simp,p1.1.1⟩ (by have:=p1.1.1.r;simp;omega) λy ny hy hm=>?_;unfold wJ;refine Ends.cond (λk2=>?_) λk2=>?_;have k2:=bu k2;have hr:=hy.2.r;rw[ak (n:=y.1+1)];refine Ends.idx hy.1 k2 λ_=>Ends.idx hy.1 k2 λ_=>hm _ ⟨?_,⟨?_,hy.2.t,hy.2.k,hy.2.p⟩⟩ ?_;show 0<=y.1+1;have:=hy.1;omega;show(List.set _ _ _).length<=100;rw[az];exact hr;show(((List.set _ _ _).length:Int)-(y.1+1)).toNat<_;rw[az];omega;refine(PK p1.2).bind λr6 p6=>(gW p6.2 (by decide)).bind λr7 p7=>(gW p7.2 (by decide)).bind λr8 p8=>(gW p8.2 (by decide)).bind λr9 p9=>?_;have hf:r6.1.2.2.length<=1000:=by rcases p6.1.2 with e|e<;>rw[e]<;>simp
 refine(JQ _ _ _ _ _ _ hf hy.2 (by have:=p9.1;omega)).bind λr10 p10=>Ends.cond (λk3=>Ends.pure ⟨p10.1 k3,p9.2⟩) λ_=>?_;rw[ak (n:=x.1+1) (by omega) (by have:=hx.2.1;omega)];refine hn _ ⟨by show 0<=x.1+1;have:=hx.1;omega,by show x.1+1<=4;omega,p9.2⟩ (by show(4-(x.1+1)).toNat<(4-x.1).toNat;omega);simp only[Q9,ab];refine(acG 16 5 (by omega) (by omega)).bind λr14 p14=>?_;refine(JQ 1 (2,false,([]:dC)) (([]:ax kb),List.replicate 8 (0,(0,0,0,0,0),0),r14,[0]) true 1 0 (by simp) ⟨by simp,by simp,by show r14.length=16;omega,by simp⟩ (by omega)).bind λr15 p15=>Ends.pure ⟨p15.1 (p15.2 (by omega) (by decide+kernel) (Tl (by omega)) (by decide+kernel)),hx.2.2⟩
def Sa (h:Host)(s:ax Stream):Host:=(h.1,h.2.1,h.2.2.1,h.2.2.2.1,h.2.2.2.2.1,h.2.2.2.2.2.1,h.2.2.2.2.2.2.1,h.2.2.2.2.2.2.2.1,h.2.2.2.2.2.2.2.2.1,s,h.2.2.2.2.2.2.2.2.2.2)
theorem KV (f:Gs h){s:ax Stream}(h1:s.length<=2000)(h2:∀x∈s,x.2.2.1=[]):Gs (Sa h s):=by have g:=f.good;have z:=f.sz.z;refine⟨⟨g.mem,g.maps,g.tx,g.flt,g.lens,g.ste,g.rx,g.pool,g.vec,g.zu⟩,⟨⟨z.1,z.2.1,z.2.2.1,z.2.2.2.1,z.2.2.2.2.1,z.2.2.2.2.2.1,z.2.2.2.2.2.2.1,z.2.2.2.2.2.2.2.1,z.2.2.2.2.2.2.2.2.1,⟨h1,λx hx=>?_⟩,z.2.2.2.2.2.2.2.2.2.2⟩,f.sz.t⟩,f.maps,f.led,f.is⟩;refine⟨⟨cC,cC,cC,cC,cC⟩,cC,?_,cC⟩;show x.2.2.1.length<=2000;rw[h2 x hx];simp
theorem SQ (h:Cu c){l:ax Act}(hl:l.length<=20)(ha:∀a∈l,zl a):Ends (vM c l) λr=>Gs r.1/\Cu r.2:=by unfold vM;refine(Wo h).bind λr1 p1=>?_;refine Ends.wN (λx=>0<=x.2/\(x.1.length:Int)<=x.2/\x.2<=(l.length:Int)) (λx=>((l.length:Int)-x.2).toNat) ⟨by simp,by simp,by simp⟩ (by simp;omega) λx nx hx hn=>?_;unfold uS;refine Ends.cond (λk=>?_) λk=>?_;have k:=bu k;rw[ak (n:=x.2+1)];refine Ends.idx hx.1 k λhi=>?_;have hx2:=ha _ (bz hi);replace hx2:=hx2.2.1;rw[X4 _ (by omega),ab];refine Ends.cond (λ_=>Ends.room (by simp;omega) (hn _ ⟨?_,?_,?_⟩ ?_)) λ_=>hn _ ⟨?_,?_,?_⟩ ?_;show 0<=x.2+1;omega;show((x.1++[_]).length:Int)<=x.2+1;simp;omega;show x.2+1<=_;omega;show((l.length:Int)-(x.2+1)).toNat<_;omega;show 0<=x.2+1;omega;show(x.1.length:Int)<=x.2+1;omega;show x.2+1<=_;omega;show((l.length:Int)-(x.2+1)).toNat<_;omega;exact(acV p1.2 (by omega)).bind λr6 p6=>Ends.pure ⟨KV p1.1 (by omega) p6.1.2,p6.2⟩
theorem Um {a:dC}(ha:a.length<=1048576):Ends (qL a) λr=>Gs r.1/\r.2.length<=20/\∀x∈r.2,zl x:=by unfold qL;exact(ag8 ha).bind λr1 p1=>(abN p1 true).bind λr2 p2=>(SQ p2.2 p2.1.1 p2.1.2).bind λr3 p3=>Ends.pure ⟨p3.1,p2.1.1,p2.1.2⟩
def mB (m:bW)(i:Nat):UInt8:=(m.getD (37-i/128) []).getD (i%128) 0
theorem acH:fS (bZ 38)=true:=by decide+kernel
structure fW (m:List Bytes):Prop where
 pg:∀x∈m,x.length=128
 ln:m.length=38
theorem fW.ok (h:fW m):cP m=true:=nf.2 ⟨h.pg,by have:=h.ln;omega⟩
theorem fW.of (h:cP m=true)(hl:m.length=38):fW m:=⟨(nf.1 h).1,hl⟩
theorem XA:∀p:Fin 38,∀w:Bool,pZ (bZ 38) 0 ((p.val:Nat):Int) w=if w=true/\2<=p.val/\p.val<=9 then-1 else 37-(p.val:Int):=by decide+kernel
theorem acW {p:Nat}(hp:p<38){w:Bool}(hw:w=true->p<2\/9<p):pZ (bZ 38) 0 (p:Int) w=((37-p:Nat):Int):=by have:=XA ⟨p,hp⟩ w;simp only at this;rw[this,aI (by rintro⟨h1,h2,h3⟩;have:=hw h1;omega)];omega
def tX (m:bW)(a n:Nat):Bytes:=(List.range n).map λj=>mB m (a+j)
theorem EY (m:bW)(a n:Nat):(tX m a n).length=n:=by simp[tX]
theorem aag (m:bW)(a n j:Nat)(h:j<n):(tX m a n).getD j 0=mB m (a+j):=by rw[cS (by rw[EY];exact h)];simp[tX]
theorem aaf (m:bW)(a c r:Nat):tX m a (c+r)=tX m a c++tX m (a+c) r:=by unfold tX;rw[List.range_add,cY,List.map_map];congr 1;refine List.map_congr_left λj _=>?_;show mB m (a+(c+j))=mB m (a+c+j);rw[fK]
theorem TM (hm:fW m){c:Nat}(h1:a+c<=4864)(h2:a%128+c<=128)(h0:0<c):ng m (((37-a/128:Nat):Int)*128+((a%128:Nat):Int),(c:Int))=tX m a c:=by
 have hl:=hm.ln;have hp:37-a/128<m.length:=by omega
 unfold ng;rw[AO hm.ok (by omega) h0,lT,ah];show yI m ((((37-a/128:Nat):Int)*128+((a%128:Nat):Int)).toNat) ((c:Int)).toNat=_;rw[ay,<-Kb hm.ok hp h2 (by omega)];have hx:=hm.pg _ (bz hp);refine List.ext_getElem (by rw[EY,aS,aO];omega) λj g1 g2=>?_;rw[EY]at g2;simp only[List.getElem_take,List.getElem_drop,tX,List.getElem_map,List.getElem_range,mB];have e1:(a+j)/128=a/128:=by omega
 have e2:(a+j)%128=a%128+j:=by omega
 rw[e1,e2,cS hp,cS (by omega)]
theorem ZY {x t:Bytes}{o:Nat}(h:o+t.length<=x.length)(j:Nat):(wO x o t).getD j 0=if o<=j/\j<o+t.length then t.getD (j-o) 0 else x.getD j 0:=by
 unfold wO;rw[aY,aY,aY];have hl:(x.take o).length=o:=by rw[aS];omega
 rcases ca j o with g|g;rw[bf (by omega),du g,jR];rw[bt (by omega),hl];rcases ca (j-o) t.length with g2|g2;rw[bf g2,zip];rw[bt g2,bJ,jR];congr 2;omega
theorem Rf (hm:fW m){t:Bytes}(h1:a+t.length<=4864)(h2:a%128+t.length<=128)(h0:0<t.length):fW (lS m (((37-a/128:Nat):Int)*128+((a%128:Nat):Int)) t).1/\∀i,i<4864->mB (lS m (((37-a/128:Nat):Int)*128+((a%128:Nat):Int)) t).1 i=if a<=i/\i<a+t.length then t.getD (i-a) 0 else mB m i:=by
 have hl:=hm.ln;have hp:37-a/128<m.length:=by omega
 have hx:=hm.pg _ (bz hp);have e:(lS m (((37-a/128:Nat):Int)*128+((a%128:Nat):Int)) t).1=m.set (37-a/128) (wO m[37-a/128] (a%128) t):=by
  unfold lS;rw[AO hm.ok (by omega) h0,lT,ah];have e1:(((37-a/128:Nat):Int)*128+((a%128:Nat):Int)).toNat=(37-a/128)*128+a%128:=by omega
  show ux t.length m (((37-a/128:Nat):Int)*128+((a%128:Nat):Int)).toNat t=_;rw[e1];obtain⟨n,hn⟩:∃n,t.length=n+1:=⟨t.length-1,by omega⟩
  rw[hn,ux,jR];have e2:((37-a/128)*128+a%128)/128=37-a/128:=by omega
  have e3:((37-a/128)*128+a%128)%128=a%128:=by omega
  rw[e2,e3,cS hp,bP (by omega),cq (by omega)];cases n with|zero=>rfl|succ n=>rw[ux];rfl
 rw[e];have hov:(wO m[37-a/128] (a%128) t).length=128:=by rw[Ml (by omega),hx]
 refine⟨⟨λx hx'=>?_,by rw[az];exact hl⟩,λi hi=>?_⟩;rcases fJ hx' with g|g;exact hm.pg x g;rw[g];exact hov;unfold mB;by_cases hq:i/128=a/128;have e5:(m.set (37-a/128) (wO m[37-a/128] (a%128) t)).getD (37-a/128) []=wO m[37-a/128] (a%128) t:=by rw[aY,bw hp];rfl
 rw[hq,e5,ZY (by omega)];have hg:m.getD (37-a/128) []=m[37-a/128]:=cS hp _;rw[hg];by_cases hc:a<=i/\i<a+t.length;rw[aH hc,zip];congr 1;omega;rw[aI hc,jR];rw[jR];congr 1;rw[aY,aY,aF (by omega)]
theorem J0 {m:bW}(hl:m.length=38){w:Bool}:∀(n a r:Nat),r<=n->a+r<=4864->(w=true->a+r<=256\/1280<=a)->∃q,kj (bZ 38) m 0 w n a r=some q/\
 (∀m',fW m'->q.flatMap (ng m')=tX m' a r)/\
 ∀m' s,fW m'->s.length=r->fW (CQ q m' s)/\∀i,i<4864->mB (CQ q m' s) i=if a<=i/\i<a+r then s.getD (i-a) 0 else mB m' i
 |0,a,r,hr,_,_=>by
  have:r=0:=by omega
  subst this;exact⟨[],rfl,λm' _=>rfl,λm' s hm _=>⟨hm,λi _=>by rw[jR];rfl⟩⟩
 |n+1,a,r,hr,ha,hw=>by
  rw[kj];by_cases h0:r=0;rw[aH h0];subst h0;exact⟨[],rfl,λm' _=>rfl,λm' s hm _=>⟨hm,λi _=>by rw[jR];rfl⟩⟩;rw[aI h0];have hp:a/128<38:=by omega
  rw[acW hp (λe=>by have:=hw e;omega),zip];generalize hc:min (128-a%128) r=c;have hc0:0<c:=by omega
  have hc1:a%128+c<=128:=by omega
  have hc2:c<=r:=by omega
  obtain⟨q,e,rd,wr⟩:=J0 (w:=w) hl n (a+c) (r-c) (by omega) (by omega) (λe=>by have:=hw e;omega);refine⟨_,by rw[e];rfl,λm' hm=>?_,λm' s hm hs=>?_⟩;rw[List.flatMap_cons,rd m' hm,TM hm (by omega) hc1 hc0,<-aaf,show c+(r-c)=r by omega];have ht:(s.take c).length=c:=by rw[aS];omega
  have p1:=Rf hm (a:=a) (t:=s.take c) (by omega) (by omega) (by omega);rw[CQ];simp only[ay];have p2:=wr _ (s.drop c) p1.1 (by rw[aO];omega);refine⟨p2.1,λi hi=>?_⟩;rw[p2.2 i hi];by_cases g1:a+c<=i/\i<a+c+(r-c)
  rw[aH g1,zip,aY,aY,bJ];congr 2;omega;rw[aI g1,p1.2 i hi,ht];by_cases g2:a<=i/\i<a+c;rw[aH g2,zip,aY,aY,du (by omega)];rw[aI g2,jR]
theorem Mz (hm:fW m){w:Bool}{r:Nat}(hr:r<=4096)(ha:a+r<=4864)(hw:w=true->a+r<=256\/1280<=a):∃q,jZ (bZ 38) m 0 (a:Int) (r:Int) w=(q,true)/\ (∀m',fW m'->q.flatMap (ng m')=tX m' a r)/\ ∀m' s,fW m'->s.length=r->fW (CQ q m' s)/\∀i,i<4864->mB (CQ q m' s) i=if a<=i/\i<a+r then s.getD (i-a) 0 else mB m' i:=by unfold jZ;rw[acH,hm.ok,aX.2 ⟨by omega,by omega⟩];simp only[dL,ah];by_cases h0:r=0;subst h0;exact⟨[],rfl,λm' _=>rfl,λm' s hm _=>⟨hm,λi _=>by rw[jR];rfl⟩⟩;rw[show((r:Int)==0)=false from by rw[bT];omega,af,jJ,af,ay,ay];obtain⟨q,e,rd,wr⟩:=J0 (w:=w) hm.ln r a r (aR r) ha hw;rw[e];exact⟨q,rfl,rd,wr⟩
theorem IT (hm:fW m){r:Nat}(hr:r<=4096:=by omega)(ha:a+r<=4864:=by omega):oo (bZ 38) m 0 (a:Int) (r:Int)=(tX m a r,true):=by obtain⟨q,e,rd,_⟩:=Mz (w:=false) hm hr ha (by simp);unfold oo;rw[e,ah,rd m hm]
theorem BT (hm:fW m){s:Bytes}{w:Bool}(hr:s.length<=4096)(ha:a+s.length<=4864)(hw:w=true->a+s.length<=256\/1280<=a):(gA (bZ 38) m 0 (a:Int) s w).2=true/\fW (gA (bZ 38) m 0 (a:Int) s w).1/\∀i,i<4864->mB (gA (bZ 38) m 0 (a:Int) s w).1 i=if a<=i/\i<a+s.length then s.getD (i-a) 0 else mB m i:=by obtain⟨q,e,_,wr⟩:=Mz (w:=w) hm hr ha hw;unfold gA;rw[e,ah];have h:=wr m s hm rfl;exact⟨rfl,h.1,h.2⟩
theorem AD {n:Nat}(h:∀j,j<n->mB m' (a+j)=mB m (a+j)):tX m' a n=tX m a n:=List.map_congr_left λj hj=>h j (cp.1 hj)
theorem Rx {s:Bytes}(h:∀j,j<s.length->mB m (a+j)=s.getD j 0):tX m a s.length=s:=by refine List.ext_getElem (EY ..) λj g1 g2=>?_;have e:=aag m a s.length j g2;rw[cS g1,h j g2,cS g2]at e;exact e
def fu (b S hd n:Nat):lb:=((b:Int),(S:Int),((hd%(2*S):Nat):Int),(((hd+n)%(2*S):Nat):Int))
theorem tW {S n:Nat}(hS:S=4\/S=16)(hb:b<=130944:=by omega)(hn:n<=S:=by omega):dg (fu b S hd n)=true/\bI (fu b S hd n)=(n:Int):=by
 have hs:iv (S:Int)=true:=gM.2 (by omega);have hu:bI (fu b S hd n)=(n:Int):=by unfold bI fu;simp only[hs,bU];rcases hS with rfl|rfl<;>omega
 refine⟨?_,hu⟩;have e:dg (fu b S hd n)=(dp (b:Int) 0 130944&&(iv (S:Int)&&(dp ((hd%(2*S):Nat):Int) 0 (2*(S:Int)-1)&&(dp (((hd+n)%(2*S):Nat):Int) 0 (2*(S:Int)-1)&&decide (bI (fu b S hd n)<=(S:Int)))))):=rfl;rw[e,hu,hs];clear e hu;simp only[ae,aX,aD,true_and];rcases hS with rfl|rfl<;>omega
theorem adE {S n c:Nat}(hS:S=4\/S=16)(hb:b<=130944)(hn:n<=S):ku (fu b S hd n) ((c%(2*S):Nat):Int)=((b+16*(c%S):Nat):Int):=by unfold ku;rw[(tW hS hb hn).1,jJ];show(b:Int)+Int.tmod ((c%(2*S):Nat):Int) (S:Int)*16=_;rw[Cb];rcases hS with rfl|rfl<;>omega
structure rk (m:List Bytes) (b S hd:Nat) (E:List Bytes):Prop where
 len:E.length<=S
 get:∀j,j<E.length->tX m (b+16*((hd+j)%S)) 16=E.getD j []
theorem rk.frame {S:Nat}{E:bW}(r:rk m b S hd E)(hS:S=4\/S=16)(h:∀i,b<=i->i<b+16*S->mB m' i=mB m i):rk m' b S hd E:=⟨r.len,λj hj=>by rw[AD λi hi=>h _ (by omega) (by rcases hS with rfl|rfl<;>omega)];exact r.get j hj⟩
theorem Gq (hm:fW m){S:Nat}{e:Bytes}{E:bW}(hS:S=4\/S=16)(hb:b+16*S<=4864)(r:rk m b S hd (e::E)):bn (bZ 38) m 0 (fu b S hd (E.length+1))=(e,fu b S (hd+1) E.length,true)/\rk m b S (hd+1) E:=by
 have hl:E.length+1<=S:=r.len;have v:=tW (hd:=hd) hS (show b<=130944 by omega) hl;have sl:=adE (b:=b) (hd:=hd) (n:=E.length+1) (c:=hd) hS (by omega) hl;have g0:tX m (b+16*(hd%S)) 16=e:=r.get 0 (by simp);have d:=IT hm (a:=b+16*(hd%S)) (r:=16) (by omega) (by rcases hS with rfl|rfl<;>omega);refine⟨?_,⟨by omega,λj hj=>?_⟩⟩;unfold bn;rw[v.1,v.2,show(((E.length+1:Nat):Int)==0)=false from by rw[bT];omega];show(bif false then _ else bif !(oo (bZ 38) m 0 (ku (fu b S hd (E.length+1)) ((hd%(2*S):Nat):Int)) 16).2 then _ else _)=_;rw[af];show(bif !(oo (bZ 38) m 0 (ku (fu b S hd (E.length+1)) ((hd%(2*S):Nat):Int)) 16).2 then _ else((oo (bZ 38) m 0 (ku (fu b S hd (E.length+1)) ((hd%(2*S):Nat):Int)) 16).1,((b:Int),(S:Int),Int.tmod (((hd%(2*S):Nat):Int)+1) (2*(S:Int)),(((hd+(E.length+1))%(2*S):Nat):Int)),true))=_;rw[sl,show((16:Int))=((16:Nat):Int) from rfl,d,g0];simp only[aj,af];have e1:Int.tmod (((hd%(2*S):Nat):Int)+1) (2*(S:Int))=(((hd+1)%(2*S):Nat):Int):=by rw[show((hd%(2*S):Nat):Int)+1=((hd%(2*S)+1:Nat):Int) by omega,show(2*(S:Int))=((2*S:Nat):Int) by omega,Cb];rcases hS with rfl|rfl<;>omega
 rw[e1,show hd+(E.length+1)=hd+1+E.length by omega];rfl;have:=r.get (j+1) (by simp;omega);rw[show hd+(j+1)=hd+1+j by omega]at this;exact this
theorem Yk {S:Nat}(hS:S=4\/S=16)(hb:b<=130944):bn (bZ 38) m 0 (fu b S hd 0)=([],fu b S hd 0,false):=by have v:=tW (hd:=hd) hS hb (bX S);unfold bn;rw[v.1,v.2];rfl
theorem Rp (hm:fW m){S:Nat}{E:bW}(hS:S=4\/S=16)(hb:b+16*S<=256\/1280<=b/\b+16*S<=4864)(r:rk m b S hd E)(hn:E.length<S){s:Bytes}(hs:s.length=16): (cL (bZ 38) m 0 (fu b S hd E.length) s).2=(fu b S hd (E.length+1),true)/\fW (cL (bZ 38) m 0 (fu b S hd E.length) s).1/\rk (cL (bZ 38) m 0 (fu b S hd E.length) s).1 b S hd (E++[s])/\∀i,i<4864->(i<b\/b+16*S<=i)->mB (cL (bZ 38) m 0 (fu b S hd E.length) s).1 i=mB m i:=by
 have hl:E.length<=S:=r.len;have hb':b<=130944:=by omega
 have v:=tW (hd:=hd) hS hb' hl;have sl:=adE (b:=b) (hd:=hd) (n:=E.length) (c:=hd+E.length) hS hb' hl;have p:=BT hm (a:=b+16*((hd+E.length)%S)) (s:=s) (w:=true) (by omega) (by rcases hS with rfl|rfl<;>omega) (λ_=>by rcases hS with rfl|rfl<;>omega);have fr:ly (fu b S hd E.length)=((S-E.length:Nat):Int):=by unfold ly;rw[v.1,v.2,ah];show aq ((S:Int)-(E.length:Int))=_;rw[ak];omega
 have e:cL (bZ 38) m 0 (fu b S hd E.length) s=((gA (bZ 38) m 0 ((b+16*((hd+E.length)%S):Nat):Int) s true).1,fu b S hd (E.length+1),true):=by
  unfold cL;rw[fr,hs,show(((S-E.length:Nat):Int)==0)=false from by rw[bT];omega];show(bif !(gA (bZ 38) m 0 (ku (fu b S hd E.length) (((hd+E.length)%(2*S):Nat):Int)) s true).2 then _ else((gA (bZ 38) m 0 (ku (fu b S hd E.length) (((hd+E.length)%(2*S):Nat):Int)) s true).1,((b:Int),(S:Int),((hd%(2*S):Nat):Int),Int.tmod ((((hd+E.length)%(2*S):Nat):Int)+1) (2*(S:Int))),true))=_;rw[sl,p.1];simp only[aj,af];have e1:Int.tmod ((((hd+E.length)%(2*S):Nat):Int)+1) (2*(S:Int))=(((hd+(E.length+1))%(2*S):Nat):Int):=by rw[show(((hd+E.length)%(2*S):Nat):Int)+1=(((hd+E.length)%(2*S)+1:Nat):Int) by omega,show(2*(S:Int))=((2*S:Nat):Int) by omega,Cb];rcases hS with rfl|rfl<;>omega
  rw[e1];rfl
 rw[e];have p3:=p.2.2;rw[hs]at p3;generalize (gA (bZ 38) m 0 ((b+16*((hd+E.length)%S):Nat):Int) s true).1=m' at p p3⊢;refine⟨rfl,p.2.1,⟨by simp;omega,λj hj=>?_⟩,λi hi ho=>?_⟩;simp only[ai,br]at hj;rcases ca j E.length with g|g;rw[aY,bf g,<-aY,<-r.get j g];refine AD λi hi=>?_;rw[p3 _ (by rcases hS with rfl|rfl<;>omega),aI (by rcases hS with rfl|rfl<;>omega)];have hj:j=E.length:=by omega
 subst hj;have e2:(E++[s]).getD E.length []=s:=by simp
 rw[e2];have:=Rx (m:=m') (a:=b+16*((hd+E.length)%S)) (s:=s) λi hi=>by rw[p3 _ (by rcases hS with rfl|rfl<;>omega),zip,Nat.add_sub_cancel_left]
 rw[hs]at this;exact this;rw[p3 i hi,aI (by rcases hS with rfl|rfl<;>omega)]
def Yw (x:Nat):Int:=if x%8<4 then 1 else 0
def wx (b x:Nat):HI:=((b:Int),4,((x%8:Nat):Int))
theorem M0 (hb:b<=130944:=by omega):fV (wx b x)=true/\qe (wx b x)=((b+16*(x%4):Nat):Int)/\wC (wx b x)=Yw x/\Int.tmod ((wx b x).2.2+1) (2*(wx b x).2.1)=(((x+1)%8:Nat):Int):=by refine⟨?_,?_,?_,?_⟩;unfold fV wx;simp only[ae,aX];refine⟨by omega,by decide,?_⟩;rw[uL (by decide)];omega;show(b:Int)+Int.tmod ((x%8:Nat):Int) ((4:Nat):Int)*16=_;rw[Cb];omega;unfold Yw;show(bif decide (((x%8:Nat):Int)<4) then(1:Int) else 0)=_;by_cases h:x%8<4;rw[aH h,lT];rfl;rw[aI h,jJ];rfl;show Int.tmod (((x%8:Nat):Int)+1) (2*4)=_;rw[show((x%8:Nat):Int)+1=((x%8+1:Nat):Int) by omega,show((2:Int)*4)=((8:Nat):Int) from rfl,Cb];omega
abbrev Fm:=CL
variable {Q:Nat->ax Fm->bF->Vector->Bool->Prop} {C:ax Fm}
structure KQ (m:List Bytes) (b x:Nat) (C:List Fm):Prop where
 len:C.length<=4
 get:∀j,j<C.length->qn (tX m (b+16*((x+j)%4)) 16)=(C.getD j (0,0,0,0,0),Yw (x+j),true)
 old:∀j,C.length<=j->j<4->(qn (tX m (b+16*((x+j)%4)) 16)).2.1≠Yw (x+j)
theorem KQ.frame (r:KQ m b x C)(h:∀i,b<=i->i<b+64->mB m' i=mB m i):KQ m' b x C:=by have e:∀j,tX m' (b+16*((x+j)%4)) 16=tX m (b+16*((x+j)%4)) 16:=λj=>AD λi hi=>h _ (by omega) (by omega);exact⟨r.len,λj hj=>by rw[e];exact r.get j hj,λj h1 h2=>by rw[e];exact r.old j h1 h2⟩
theorem ahr (x:Nat):Yw x≠Yw (x+4):=by unfold Yw;by_cases h:x%8<4;rw[aH h,jR];decide;rw[aI h,zip];decide
theorem Xo (hm:fW m){c:Fm}(hb:b+64<=4864)(r:KQ m b x (c::C)):kY (bZ 38) m 0 (wx b x)=(c,wx b (x+1),true)/\KQ m b (x+1) C:=by have v:=M0 (b:=b) (x:=x);have d:=IT hm (a:=b+16*(x%4)) (r:=16);have g0:=r.get 0 (by simp);rw[dQ]at g0;have hl:C.length+1<=4:=r.len;refine⟨?_,⟨by omega,λj hj=>?_,λj h1 h2=>?_⟩⟩;unfold kY EP;rw[v.1,v.2.1,show((16:Int))=((16:Nat):Int) from rfl,d,g0,v.2.2.1];simp only[bB,gY,ah];unfold ZQ;rw[v.2.2.2];rfl;have:=r.get (j+1) (by simp;omega);rw[show x+(j+1)=x+1+j by omega]at this;exact this;by_cases h3:j=3;subst h3;rw[show(x+1+3)%4=x%4 by omega,g0,show x+1+3=x+4 by omega];exact ahr x;have:=r.old (j+1) (by simp;omega) (by omega);rw[show x+(j+1)=x+1+j by omega]at this;exact this
theorem Mg (hm:fW m)(hb:b+64<=4864)(r:KQ m b x []):kY (bZ 38) m 0 (wx b x)=((0,0,0,0,0),wx b x,false):=by have v:=M0 (b:=b) (x:=x);have d:=IT hm (a:=b+16*(x%4)) (r:=16);have g0:=r.old 0 (by simp) (by omega);rw[dQ]at g0;unfold kY EP;rw[v.1,v.2.1,show((16:Int))=((16:Nat):Int) from rfl,d,v.2.2.1,show((qn (tX m (b+16*(x%4)) 16)).2.1==Yw x)=false from by rw[bT];exact g0];simp only[eM,af]
theorem Ch (x:Int):gx x=x%256:=by simp only[aq,gx,IntKind.wrap,IntKind.bits,IntKind.signed];simp
theorem Hq {n:Nat}(h:k=n%256:=by omega):(UInt8.ofNat n).toNat=k:=by rw[h];simp
theorem uV {v:Nat}(h:v<=65535:=by omega):∃a b:UInt8,bV (v:Int)=[a,b]/\a.toNat=v/256/\b.toNat=v%256:=by
 have e:bV (v:Int)=aM [gx (Int.fdiv (v:Int) (2^(mq 8))),gx (v:Int)]:=by unfold bV dk;rw[eI,aX.2 ⟨by omega,by omega⟩];rfl
 have e8:((2:Int)^(mq 8))=256:=by decide
 rw[e8,Int.fdiv_eq_ediv_of_nonneg _ (by omega),Ch,Ch]at e;exact⟨_,_,e,Hq,Hq⟩
theorem CJ {v:Nat}(h:v<=4294967295:=by omega):∃a b c d:UInt8,il (v:Int)=[a,b,c,d]/\a.toNat=v/16777216/\b.toNat=v/65536%256/\c.toNat=v/256%256/\d.toNat=v%256:=by
 have e:il (v:Int)=aM [gx (Int.fdiv (v:Int) (2^(mq 24))),gx (Int.fdiv (v:Int) (2^(mq 16))),gx (Int.fdiv (v:Int) (2^(mq 8))),gx (v:Int)]:=by unfold il gj;rw[eI,aX.2 ⟨by omega,by omega⟩];rfl
 have e8:((2:Int)^(mq 8))=256:=by decide
 have e16:((2:Int)^(mq 16))=65536:=by decide
 have e24:((2:Int)^(mq 24))=16777216:=by decide
 rw[e8,e16,e24,Int.fdiv_eq_ediv_of_nonneg _ (by omega),Int.fdiv_eq_ediv_of_nonneg _ (by omega),Int.fdiv_eq_ediv_of_nonneg _ (by omega),Ch,Ch,Ch,Ch]at e;exact⟨_,_,_,_,e,Hq,Hq,Hq,Hq⟩
theorem xE {d:AQ}(h:nA d=true):(jj d).length=16/\cB (jj d)=(d,true):=by
 have hb:=h;unfold nA at hb;simp only[ae,aX]at hb;obtain⟨o,f,l,a,s,c⟩:=d;simp only at hb;obtain⟨h1,h2,h3,h4,h5,h6⟩:=hb;obtain⟨o,rfl⟩:=aG h1.1;obtain⟨f,rfl⟩:=aG h2.1;obtain⟨l,rfl⟩:=aG h3.1;obtain⟨s,rfl⟩:=aG h4.1;obtain⟨c,rfl⟩:=aG h5.1;obtain⟨a,rfl⟩:=aG h6.1;obtain⟨l1,l2,el,el1,el2⟩:=uV (v:=l);obtain⟨s1,s2,es,es1,es2⟩:=uV (v:=s);obtain⟨c1,c2,ec,ec1,ec2⟩:=uV (v:=c);obtain⟨a1,a2,a3,a4,ea,ea1,ea2,ea3,ea4⟩:=CJ (v:=a);obtain⟨z1,z2,z3,z4,ez,_⟩:=CJ (v:=0);have ez:il 0=[z1,z2,z3,z4]:=ez;have e:jj ((o:Int),(f:Int),(l:Int),(a:Int),(s:Int),(c:Int))=[UInt8.ofNat o,UInt8.ofNat f,l1,l2,a1,a2,a3,a4,s1,s2,c1,c2,z1,z2,z3,z4]:=by unfold jj;rw[h,ah];simp only[el,es,ec,ea,ez];rw[Ch,Ch,show(o:Int)%256=(o:Int) by omega,show(f:Int)%256=(f:Int) by omega];rfl
 have da:zX (jj ((o:Int),(f:Int),(l:Int),(a:Int),(s:Int),(c:Int)))=((o:Int),(f:Int),(l:Int),(a:Int),(s:Int),(c:Int)):=by rw[e];show(((UInt8.ofNat o).toNat:Int),((UInt8.ofNat f).toNat:Int),((l1.toNat*256+l2.toNat:Nat):Int),(((a1.toNat*256+a2.toNat)*65536+(a3.toNat*256+a4.toNat):Nat):Int),((s1.toNat*256+s2.toNat:Nat):Int),((c1.toNat*256+c2.toNat:Nat):Int))=_;rw[Hq (n:=o) (k:=o),Hq (n:=f) (k:=f),el1,el2,es1,es2,ec1,ec2,ea1,ea2,ea3,ea4];simp only[Prod.mk.injEq];refine⟨cC,cC,by omega,by omega,by omega,by omega⟩
 refine⟨by rw[e];rfl,?_⟩;unfold cB;rw[da,gY];have hl:(jj ((o:Int),(f:Int),(l:Int),(a:Int),(s:Int),(c:Int))).length=16:=by rw[e];rfl
 rw[hl];rfl
theorem YN {x:Fm}(h:rf x=true){p:Nat}(hp:p<=1):(Ee x (p:Int)).length=16/\qn (Ee x (p:Int))=(x,(p:Int),true):=by
 have hb:=h;unfold rf at hb;simp only[ae,aX]at hb;obtain⟨c,l,s,n,k⟩:=x;simp only at hb;obtain⟨h1,h2,h3,h4,h5⟩:=hb;obtain⟨c,rfl⟩:=aG h1.1;obtain⟨l,rfl⟩:=aG h2.1;obtain⟨s,rfl⟩:=aG h3.1;obtain⟨n,rfl⟩:=aG h4.1;obtain⟨k,rfl⟩:=aG h5.1;obtain⟨c1,c2,ec,ec1,ec2⟩:=uV (v:=c);obtain⟨l1,l2,el,el1,el2⟩:=uV (v:=l);obtain⟨s1,s2,es,es1,es2⟩:=uV (v:=s);obtain⟨n1,n2,en,en1,en2⟩:=uV (v:=n);obtain⟨k1,k2,k3,k4,ek,ek1,ek2,ek3,ek4⟩:=CJ (v:=k);obtain⟨p1,p2,p3,p4,ep,ep1,ep2,ep3,ep4⟩:=CJ (v:=p);have e:Ee ((c:Int),(l:Int),(s:Int),(n:Int),(k:Int)) (p:Int)=[c1,c2,l1,l2,s1,s2,n1,n2,k1,k2,k3,k4,p1,p2,p3,p4]:=by unfold Ee;rw[h,aX.2 ⟨by omega,by omega⟩];simp only[dL,ah,ec,el,es,en,ek,ep];rfl
 have g:∀q:Nat,q<=1->p1.toNat=0->p2.toNat=0->p3.toNat=0->p4.toNat=q->fZ [c1,c2,l1,l2,s1,s2,n1,n2,k1,k2,k3,k4,p1,p2,p3,p4] 12=(q:Int):=by intro q _ g1 g2 g3 g4;show(((p1.toNat*256+p2.toNat)*65536+(p3.toNat*256+p4.toNat):Nat):Int)=_;rw[g1,g2,g3,g4];omega
 have g12:=g p hp (by omega) (by omega) (by omega) (by omega);refine⟨by rw[e];rfl,?_⟩;unfold qn;rw[e,g12,jJ];show(bif (((16:Nat):Int) !=16)||false then _ else((((c1.toNat*256+c2.toNat:Nat):Int),((l1.toNat*256+l2.toNat:Nat):Int),((s1.toNat*256+s2.toNat:Nat):Int),((n1.toNat*256+n2.toNat:Nat):Int),(((k1.toNat*256+k2.toNat)*65536+(k3.toNat*256+k4.toNat):Nat):Int)),(p:Int),true))=_;rw[ec1,ec2,el1,el2,es1,es2,en1,en2,ek1,ek2,ek3,ek4];show((_,_,_,_,_),_,_)=_;simp only[Prod.mk.injEq];refine⟨⟨by omega,by omega,by omega,by omega,by omega⟩,cC⟩
theorem ahq (x:Nat):∃p:Nat,p<=1/\Yw x=(p:Int):=by unfold Yw;split;exact⟨1,by omega,rfl⟩;exact⟨0,by omega,rfl⟩
theorem XJ (hm:fW m)(hb:1280<=b/\b+64<=4864)(r:KQ m b x C)(hn:C.length<4){c:Fm}(hc:rf c=true): (qZ (bZ 38) m 0 (wx b (x+C.length)) c).2=(wx b (x+C.length+1),true)/\fW (qZ (bZ 38) m 0 (wx b (x+C.length)) c).1/\KQ (qZ (bZ 38) m 0 (wx b (x+C.length)) c).1 b x (C++[c])/\∀i,i<4864->(i<b\/b+64<=i)->mB (qZ (bZ 38) m 0 (wx b (x+C.length)) c).1 i=mB m i:=by
 have v:=M0 (b:=b) (x:=x+C.length);obtain⟨p,hp,ep⟩:=ahq (x+C.length);have bk:=YN hc hp;rw[<-ep]at bk;generalize hs:Ee c (Yw (x+C.length))=s at bk;have q:=BT hm (a:=b+16*((x+C.length)%4)) (s:=s) (w:=true) (by omega) (by omega) (λ_=>by omega);have e:qZ (bZ 38) m 0 (wx b (x+C.length)) c=((gA (bZ 38) m 0 ((b+16*((x+C.length)%4):Nat):Int) s true).1,wx b (x+C.length+1),true):=by unfold qZ;rw[v.1,hc,v.2.2.1,hs,v.2.1,q.1,v.2.2.2];rfl
 rw[e];have q3:=q.2.2;rw[bk.1]at q3;generalize (gA (bZ 38) m 0 ((b+16*((x+C.length)%4):Nat):Int) s true).1=m' at q q3⊢;have row:tX m' (b+16*((x+C.length)%4)) 16=s:=by
  have:=Rx (m:=m') (a:=b+16*((x+C.length)%4)) (s:=s) λi hi=>by rw[q3 _ (by omega),zip,Nat.add_sub_cancel_left]
  rw[bk.1]at this;exact this
 have apart:∀j,j<4->j≠C.length->tX m' (b+16*((x+j)%4)) 16=tX m (b+16*((x+j)%4)) 16:=λj hj hne=>AD λi hi=>by rw[q3 _ (by omega),jR]
 refine⟨rfl,q.2.1,⟨by simp;omega,λj hj=>?_,λj h1 h2=>?_⟩,λi hi ho=>?_⟩;simp only[ai,br]at hj;by_cases g:j=C.length;subst g;rw[row,bk.2];simp;rw[apart j (by omega) g,r.get j (by omega),aY,aY,bf (by omega)];simp only[ai,br]at h1;rw[apart j h2 (by omega)];exact r.old j (by omega) h2;rw[q3 i hi,jR]
def jB (k:Nat):Nat:=1280+1792*k
def zV (k c:Nat):AQ:=(3,0,384,((jB k+128+384*c:Nat):Int),0,(c:Int))
theorem UC {c:Nat}(hk:k<=1)(hc:c<4):nA (zV k c)=true:=by unfold nA zV jB;simp only[ae,aX];omega
abbrev Gy (C:ax Fm):fF:=C.map λc=>c.1.toNat
structure D1 (m:List Bytes) (k:Nat) (q:bF) (p:de) (hd x:Nat) (P:List Nat) (C:List Fm) (F:List Nat):Prop where
 ring:q.1=fu (jB k) 4 hd P.length
 row:rk m (jB k) 4 hd (P.map λc=>jj (zV k c))
 dev:q.2.1=wx (jB k+64) (x+C.length)
 drv:q.2.2.1=wx (jB k+64) x
 com:KQ m (jB k+64) x C
 pool:p=(((jB k+128:Nat):Int),384,4,F.map λc:Nat=>(c:Int))
 perm:(Gy C++P++F).Perm [0,1,2,3]
 cok:∀c∈C,0<=c.1
theorem D1.len (s:D1 m k q p hd x P C F):C.length+P.length+F.length=4:=by have:=s.perm.length_eq;simp[Gy]at this;omega
theorem D1.lt (s:D1 m k q p hd x P C F){c:Nat}(h:c∈Gy C++P++F):c<4:=by have:=s.perm.mem_iff.1 h;simp at this;omega
theorem D1.frame (s:D1 m k q p hd x P C F)(h:∀i,jB k<=i->i<jB k+128->mB m' i=mB m i):D1 m' k q p hd x P C F:=⟨s.ring,s.row.frame (Or.inl rfl) λi h1 h2=>h i h1 (by omega),s.dev,s.drv,s.com.frame λi h1 h2=>h i (by omega) (by omega),s.pool,s.perm,s.cok⟩
theorem D1.held (s:D1 m k q p hd x P C F)(u:om×Bool×Int):D1 m k (q.1,q.2.1,q.2.2.1,u) p hd x P C F:=⟨s.ring,s.row,s.dev,s.drv,s.com,s.pool,s.perm,s.cok⟩
theorem JS {l:fF}(h:l.Perm [0,1,2,3]):l.Nodup:=h.nodup_iff.2 (by decide)
theorem Vq (hb:b<=130944)(h1:∀c∈F,c<4)(h2:F.Nodup):dh ((b:Int),384,4,F.map λc:Nat=>(c:Int))=true:=by
 unfold dh;simp only[ae,aX,aJ,cp];refine⟨by omega,by decide,by decide,λi hi=>?_⟩;have hi:i<F.length:=by simpa using hi
 unfold zA;rw[cS (by simpa using hi),List.getElem_map];have hl:=h1 _ (bz hi);simp only[ae,aX,aL];refine⟨by omega,?_⟩;rw[<-Bool.not_eq_true,List.contains_iff_mem,<-List.map_take];intro hm;obtain⟨y,hy,e⟩:=eQ.1 hm;have e:y=F[i]:=by omega
 obtain⟨j,hj,ej⟩:=fN hy;rw[aS]at hj;rw[List.getElem_take]at ej;exact List.pairwise_iff_getElem.1 h2 j i (by omega) hi (by omega) (ej.trans e)
theorem D1.Z6 (hk:k<=1)(s:D1 m k q p hd x P C F):dh p=true:=by rw[s.pool];refine Vq (by unfold jB;omega) (λc hc=>s.lt (by simp[hc])) ?_;have n:=JS s.perm;exact(aK.1 n).2.1
theorem Zh {s v:Bytes}(hs:s.length=16)(hv:v.length<=12):0<=sP s v/\sP s v<=4294967295:=by have h:=Jh s v (8*v.length);unfold sP;rw[hs,jJ];show 0<=((C0 s v (8*v.length):Nat):Int)/\((C0 s v (8*v.length):Nat):Int)<=4294967295;omega
theorem Ye {l:ax aC}{k s:Bytes}{D:AQ}(h:cB s=(D,true))(h3:D.1=3)(hl:¬D.2.2.1<((dj q.2.2.2.1.1).1.length:Int))(hp:(gA l m d D.2.2.2.1 (dj q.2.2.2.1.1).1 true).2=true):gC l m d q k s=qZ l (gA l m d D.2.2.2.1 (dj q.2.2.2.1.1).1 true).1 d q.2.1 (D.2.2.2.2.2,((dj q.2.2.2.1.1).1.length:Int),q.2.2.2.1.2.1,q.2.2.2.1.2.2,sP k (oU (jM q.2.2.2.1.1))):=by unfold gC;rw[h];simp only[h3,ar hl,hp,bne_self_eq_false,aj,bQ,af]
theorem Ug (hm:fW m)(hk:k<=1){c:Nat}(s:D1 m k q p hd x (c::P) C F)(hq:Bl q=true)(hh:q.2.2.2.2.1=true)(key:Bytes)(hkey:key.length=16): ∃y:Fm,y.1=(c:Int)/\(gC (bZ 38) m 0 q key (jj (zV k c))).2=(wx (jB k+64) (x+C.length+1),true)/\fW (gC (bZ 38) m 0 q key (jj (zV k c))).1/\KQ (gC (bZ 38) m 0 q key (jj (zV k c))).1 (jB k+64) x (C++[y])/\∀i,i<4864->(i<jB k+64\/jB k+1792<=i)->mB (gC (bZ 38) m 0 q key (jj (zV k c))).1 i=mB m i:=by
 have hc:c<4:=s.lt (by simp);have hl:=s.len;simp only[bc]at hl;have db:=xE (UC hk hc);have r:=(Kf _).1 hq;have hs:=r.held hh;have hi:=uB q.2.2.2.1.1;have hn:jB k=1280+1792*k:=rfl;have pf:=BT hm (a:=jB k+128+384*c) (s:=(dj q.2.2.2.1.1).1) (w:=true) (by omega) (by omega) (λ_=>by omega);generalize hy:(((c:Int),((dj q.2.2.2.1.1).1.length:Int),q.2.2.2.1.2.1,q.2.2.2.1.2.2,sP key (oU (jM q.2.2.2.1.1))):Fm)=y;have ok:rf y=true:=by rw[<-hy];unfold rf;simp only[ae,aX];have hb:=Zh hkey (Wm (jM q.2.2.2.1.1));omega
 have cm:=s.com.frame (m':=(gA (bZ 38) m 0 ((jB k+128+384*c:Nat):Int) (dj q.2.2.2.1.1).1 true).1) λi h1 h2=>by rw[pf.2.2 i (by omega),jR]
 have pc:=XJ pf.2.1 (b:=jB k+64) (by omega) cm (by omega) ok;have eA:(zV k c).2.2.2.1=((jB k+128+384*c:Nat):Int):=rfl;have eL:(zV k c).2.2.1=384:=rfl;have eC:(zV k c).2.2.2.2.2=(c:Int):=rfl;have e:gC (bZ 38) m 0 q key (jj (zV k c))=qZ (bZ 38) (gA (bZ 38) m 0 ((jB k+128+384*c:Nat):Int) (dj q.2.2.2.1.1).1 true).1 0 (wx (jB k+64) (x+C.length)) y:=by rw[Ye db.2 rfl (by rw[eL];omega) (by rw[eA];exact pf.1),eA,eC,s.dev,hy]
 rw[e];refine⟨y,by rw[<-hy],pc.1,pc.2.1,pc.2.2.1,λi hi ho=>?_⟩;rw[pc.2.2.2 i hi (by omega),pf.2.2 i hi,jR]
structure MO (m:List Bytes) (k:Nat) (p:de) (x:Nat) (C:List Fm) (F:List Nat) (h:Bool) (f:List Bytes×bF) (n:Nat):Prop where
 mem:fW f.1
 st:∃hd P C',D1 f.1 k f.2 p hd x P C' F/\C'.length=C.length+n
 hold:f.2.2.2.2.2.1=h
 out:∀i,i<4864->(i<jB k\/jB k+1792<=i)->mB f.1 i=mB m i
theorem DC (hm:fW m)(hk:k<=1)(s:D1 m k q p hd x P C F)(hq:Bl q=true)(key:Bytes)(hkey:key.length=16):∃n,n<=1/\MO m k p x C F false (gP (bZ 38) m 0 q key) n:=by
 have hn:jB k=1280+1792*k:=rfl;unfold gP;rw[hq,hkey];cases hh:q.2.2.2.2.1 with
 |false=>exact⟨0,by omega,hm,⟨hd,P,C,s,rfl⟩,hh,λ_ _ _=>rfl⟩
 |true=>
  simp only[aj,cz,show(((16:Nat):Int) !=16)=false from rfl,af];cases P with
  |nil=>
   have t:=Yk (m:=m) (b:=jB k) (S:=4) (hd:=hd) (Or.inl rfl) (by omega);have e:bn (bZ 38) m 0 q.1=([],q.1,false):=by rw[s.ring];exact t
   rw[e];exact⟨0,by omega,hm,⟨hd,[],C,s.held _,rfl⟩,rfl,λ_ _ _=>rfl⟩
  |cons c P=>
   have t:=Gq hm (b:=jB k) (S:=4) (Or.inl rfl) (by omega) (show rk m (jB k) 4 hd (jj (zV k c)::P.map λc=>jj (zV k c)) from s.row);have e:bn (bZ 38) m 0 q.1=(jj (zV k c),fu (jB k) 4 (hd+1) P.length,true):=by rw[s.ring];have:=t.1;rw[cI]at this;exact this
   obtain⟨y,y1,y2,y3,y4,y5⟩:=Ug hm hk s hq hh key hkey;rw[e,y2];simp only[dL,ah];refine⟨1,by omega,y3,⟨hd+1,P,C++[y],⟨rfl,?_,by simp;rfl,s.drv,y4,s.pool,?_,λz hz=>?_⟩,by simp⟩,rfl,λi hi ho=>y5 i hi (by omega)⟩;exact t.2.frame (Or.inl rfl) λi h1 h2=>y5 i (by omega) (by omega);refine List.Perm.trans ?_ s.perm;have ey:y.1.toNat=c:=by rw[y1];simp
   simp only[Gy,cY,cU,List.map_nil,ey,aN,List.cons_append,cJ];exact List.Perm.refl _;rcases aw.1 hz with g|g;exact s.cok z g;rw[bG.1 g,y1];omega
theorem Pa (hm:fW m)(hk:k<=1)(s:D1 m k q p hd x P C F){N:Int}(hN:N<=500000000000)(hq:xK N q)(key:Bytes)(hkey:key.length=16)(w:aQ)(c:Bool):∃n h,n<=2/\MO m k p x C F h (kc (bZ 38) m 0 q key w c) n:=by have hq':Bl q=true:=(Kf _).2 (hq.mono);unfold kc;rw[hq',hkey];cases hw:gF w with|false=>exact⟨0,q.2.2.2.2.1,by omega,hm,⟨hd,P,C,s,rfl⟩,rfl,λ_ _ _=>rfl⟩|true=>simp only[aj,cz,show(((16:Nat):Int) !=16)=false from rfl,af];cases c&&(q.2.2.2.2.1&&D8 q.2.2.2.1 w)with|true=>exact⟨0,q.2.2.2.2.1,by omega,hm,⟨hd,P,C,s.held _,rfl⟩,rfl,λ_ _ _=>rfl⟩|false=>simp only[af];obtain⟨n,hn,fl⟩:=DC hm hk s hq' key hkey;obtain⟨hd2,P2,C2,s2,l2⟩:=fl.st;have hd3:D1 (gP (bZ 38) m 0 q key).1 k (Em (gP (bZ 38) m 0 q key).2 (jS w)) p hd2 x P2 C2 F:=s2.held _;cases c with|true=>exact⟨n,true,by omega,fl.mem,⟨hd2,P2,C2,hd3,l2⟩,rfl,fl.out⟩|false=>have so:=MB hw;have hq2:Bl (Em (gP (bZ 38) m 0 q key).2 (jS w))=true:=(Kf _).2 ((Va (Ac (by omega) hq hm.ok (bZ 38) 0 key).2 so.1 so.2.1 so.2.2).mono);obtain⟨n3,hn3,f3⟩:=DC fl.mem hk hd3 hq2 key hkey;obtain⟨hd4,P4,C4,s4,l4⟩:=f3.st;exact⟨n+n3,false,by omega,f3.mem,⟨hd4,P4,C4,s4,by omega⟩,f3.hold,λi hi ho=>(f3.out i hi ho).trans (fl.out i hi ho)⟩
theorem abT (hk:k<=1)(hp:dh (((jB k+128:Nat):Int),384,4,F.map λc:Nat=>(c:Int))=true){c:Nat}(hc:c<4):mm (((jB k+128:Nat):Int),384,4,F.map λc:Nat=>(c:Int)) (c:Int)=((jB k+128+384*c:Nat):Int):=by unfold mm;rw[hp,aX.2 ⟨by omega,by show(c:Int)<=4-1;omega⟩];show((jB k+128:Nat):Int)+(c:Int)*384=_;omega
theorem I1 {k:Nat}(hk:k<=1){hd:Nat}{G:fF}(hp:dh (((jB k+128:Nat):Int),384,4,G.map λc:Nat=>(c:Int))=true):∀(F:fF)(m:bW)(P:fF),fW m->rk m (jB k) 4 hd (P.map λc=>jj (zV k c))->P.length+F.length<=4->(∀c∈F,c<4)->
 (jw (bZ 38) 0 (((jB k+128:Nat):Int),384,4,G.map λc:Nat=>(c:Int)) (F.map λc:Nat=>(c:Int)) m (fu (jB k) 4 hd P.length)).1=F.length/\
 (jw (bZ 38) 0 (((jB k+128:Nat):Int),384,4,G.map λc:Nat=>(c:Int)) (F.map λc:Nat=>(c:Int)) m (fu (jB k) 4 hd P.length)).2.2=fu (jB k) 4 hd (P++F).length/\
 fW (jw (bZ 38) 0 (((jB k+128:Nat):Int),384,4,G.map λc:Nat=>(c:Int)) (F.map λc:Nat=>(c:Int)) m (fu (jB k) 4 hd P.length)).2.1/\
 rk (jw (bZ 38) 0 (((jB k+128:Nat):Int),384,4,G.map λc:Nat=>(c:Int)) (F.map λc:Nat=>(c:Int)) m (fu (jB k) 4 hd P.length)).2.1 (jB k) 4 hd ((P++F).map λc=>jj (zV k c))/\
 ∀i,i<4864->(i<jB k\/jB k+64<=i)->mB (jw (bZ 38) 0 (((jB k+128:Nat):Int),384,4,G.map λc:Nat=>(c:Int)) (F.map λc:Nat=>(c:Int)) m (fu (jB k) 4 hd P.length)).2.1 i=mB m i
 |[],m,P,hm,r,_,_=>by rw[bN];exact⟨rfl,rfl,hm,r,λ_ _ _=>rfl⟩
 |c::F,m,P,hm,r,hl,hF=>by
  have hn:jB k=1280+1792*k:=rfl;have hc:c<4:=hF c (by simp);simp only[bc]at hl;have ed:eX (((jB k+128:Nat):Int),384,4,G.map λc:Nat=>(c:Int)) (c:Int)=jj (zV k c):=by unfold eX;rw[abT hk hp hc];rfl
  have pr:=Rp hm (b:=jB k) (S:=4) (hd:=hd) (Or.inl rfl) (by omega) r (by rw[cI];omega) (xE (UC hk hc)).1;rw[cI]at pr;rw[cU,jw,ed,pr.1];simp only[ah];have e1:P.length+1=(P++[c]).length:=by simp
  have r2:rk (cL (bZ 38) m 0 (fu (jB k) 4 hd P.length) (jj (zV k c))).1 (jB k) 4 hd ((P++[c]).map λc=>jj (zV k c)):=by rw[cY];exact pr.2.2.1
  have ih:=I1 hk hp F _ (P++[c]) pr.2.1 r2 (by simp;omega) λy hy=>hF y (by simp[hy]);rw[e1];rw[aN,fQ]at ih;exact⟨by rw[ih.1];simp,ih.2.1,ih.2.2.1,ih.2.2.2.1,λi hi ho=>(ih.2.2.2.2 i hi ho).trans (pr.2.2.2 i hi (by omega))⟩
theorem LJ (hm:fW m)(hk:k<=1)(s:D1 m k q p hd x P C F): fW (nB (bZ 38) m 0 q.1 p).1/\D1 (nB (bZ 38) m 0 q.1 p).1 k ((nB (bZ 38) m 0 q.1 p).2.1,q.2) (nB (bZ 38) m 0 q.1 p).2.2.1 hd x (P++F) C []/\∀i,i<4864->(i<jB k\/jB k+64<=i)->mB (nB (bZ 38) m 0 q.1 p).1 i=mB m i:=by
 have hn:jB k=1280+1792*k:=rfl;have hp:=s.Z6 hk;have hl:=s.len;rw[s.pool]at hp;have fl:=I1 hk (hd:=hd) hp F m P hm s.row (by omega) λc hc=>s.lt (by simp[hc]);have vo:=tW (b:=jB k) (hd:=hd) (n:=P.length) (S:=4) (Or.inl rfl);have e:nB (bZ 38) m 0 q.1 p=((jw (bZ 38) 0 (((jB k+128:Nat):Int),384,4,F.map λc:Nat=>(c:Int)) (F.map λc:Nat=>(c:Int)) m (fu (jB k) 4 hd P.length)).2.1,fu (jB k) 4 hd (P++F).length,(((jB k+128:Nat):Int),384,4,[]),((F.length:Nat):Int)):=by unfold nB;rw[s.pool,s.ring,vo.1,hp];simp only[aj,bQ,af,fl.1,fl.2.1];rw[cq (by simp)]
 rw[e];refine⟨fl.2.2.1,⟨rfl,fl.2.2.2.1,s.dev,s.drv,s.com.frame λi h1 h2=>fl.2.2.2.2 i (by omega) (by omega),rfl,?_,s.cok⟩,fl.2.2.2.2⟩;have:=s.perm;rw[aN]at this;rw[bN];exact this
theorem Wj {c:Nat}(hp:dh (((jB k+128:Nat):Int),384,4,F.map λc:Nat=>(c:Int))=true)(hp2:dh (((jB k+128:Nat):Int),384,4,(F++[c]).map λc:Nat=>(c:Int))=true):(xT (((jB k+128:Nat):Int),384,4,F.map λc:Nat=>(c:Int)) [(c:Int)]).1=(((jB k+128:Nat):Int),384,4,(F++[c]).map λc:Nat=>(c:Int)):=by
 have e:gG (((jB k+128:Nat):Int),384,4,F.map λc:Nat=>(c:Int)) [(c:Int)]=(((jB k+128:Nat):Int),384,4,(F++[c]).map λc:Nat=>(c:Int)):=by unfold gG;rw[cY];rfl
 unfold xT xU;rw[e,hp,hp2];rfl
theorem TP (hm:fW m)(hk:k<=1){c:Fm}(r:D1 m k s.2.1 s.2.2 hd x P (c::C) F):(kY (bZ 38) m 0 s.2.1.2.2.1).2.2=true/\D1 m k (wP (bZ 38) m 0 s).2.1 (wP (bZ 38) m 0 s).2.2 hd (x+1) P C (F++[c.1.toNat])/\(wP (bZ 38) m 0 s).2.1.2.2.2=s.2.1.2.2.2:=by
 have hn:jB k=1280+1792*k:=rfl;have nx:=Xo hm (b:=jB k+64) (by omega) r.com;have en:kY (bZ 38) m 0 s.2.1.2.2.1=(c,wx (jB k+64) (x+1),true):=by rw[r.drv];exact nx.1
 have hc:((c.1.toNat:Nat):Int)=c.1:=Int.toNat_of_nonneg (r.cok c (by simp));have pm:(Gy C++P++(F++[c.1.toNat])).Perm [0,1,2,3]:=by
  refine List.Perm.trans ?_ r.perm;have:Gy C++P++(F++[c.1.toNat])=(Gy C++P++F)++[c.1.toNat]:=by simp[aN]
  rw[this];exact List.perm_append_comm
 have nd:=JS pm;have hp:=r.Z6 hk;rw[r.pool]at hp;have hp2:=Vq (b:=jB k+128) (by omega) (F:=F++[c.1.toNat]) (λy hy=>by have:=pm.mem_iff.1 (show y∈Gy C++P++(F++[c.1.toNat]) from aw.2 (Or.inr hy));simp at this;omega) (aK.1 nd).2.1;have eg:(xT s.2.2 [c.1]).1=(((jB k+128:Nat):Int),384,4,(F++[c.1.toNat]).map λc:Nat=>(c:Int)):=by rw[r.pool,<-hc];have:=Wj (k:=k) (c:=c.1.toNat) hp hp2;rw[hc]at this⊢;exact this
 refine⟨by rw[en],?_,rfl⟩;unfold wP;rw[en];simp only;refine⟨r.ring,r.row,?_,rfl,nx.2,eg,pm,λy hy=>r.cok y (by simp[hy])⟩;rw[show x+1+C.length=x+(c::C).length by simp;omega];exact r.dev
theorem J2 {m:bW}(hm:fW m){k:Nat}(hk:k<=1){hd:Nat}{P:fF}:∀(n:Nat)(s:ax Stream×bF×de)(x:Nat)(C:ax Fm)(F:fF),D1 m k s.2.1 s.2.2 hd x P C F->
 (iM (bZ 38) m 0 n s).1=min n C.length/\(iM (bZ 38) m 0 n s).2.2.1.2.2.2=s.2.1.2.2.2/\∃F',D1 m k (iM (bZ 38) m 0 n s).2.2.1 (iM (bZ 38) m 0 n s).2.2.2 hd (x+min n C.length) P (C.drop n) F'
 |0,s,x,C,F,r=>⟨by rw[Nat.zero_min];rfl,rfl,F,by rw[Nat.zero_min];exact r⟩
 |n+1,s,x,[],F,r=>by
  have hn:jB k=1280+1792*k:=rfl;have nx:=Mg hm (b:=jB k+64) (by omega) r.com;have en:(kY (bZ 38) m 0 s.2.1.2.2.1).2.2=false:=by rw[r.drv,nx]
  rw[iM,en];exact⟨by simp,rfl,F,r⟩
 |n+1,s,x,c::C,F,r=>by have ps:=TP hm hk r;have ih:=J2 hm hk n (wP (bZ 38) m 0 s) (x+1) C _ ps.2.1;rw[iM,ps.1];simp only[aj,af];obtain⟨F',hf⟩:=ih.2.2;refine⟨by rw[ih.1];simp only[bc];omega,ih.2.1.trans ps.2.2,F',?_⟩;rw[show x+min (n+1) (c::C).length=x+1+min n C.length by simp only[bc];omega];exact hf
theorem XF (hm:fW m)(hk:k<=1)(s:D1 m k q p hd x P C F)(hq:Bl q=true)(st:ax Stream)(hb:b<=1000): fW (hZ (bZ 38) m 0 q p st (b:Int)).1/\(∃x' P',D1 (hZ (bZ 38) m 0 q p st (b:Int)).1 k (hZ (bZ 38) m 0 q p st (b:Int)).2.1 (hZ (bZ 38) m 0 q p st (b:Int)).2.2.1 hd x' P' (C.drop b) [])/\(hZ (bZ 38) m 0 q p st (b:Int)).2.2.2.2=((min b C.length:Nat):Int)/\(hZ (bZ 38) m 0 q p st (b:Int)).2.1.2.2.2.2.1=q.2.2.2.2.1/\∀i,i<4864->(i<jB k\/jB k+64<=i)->mB (hZ (bZ 38) m 0 q p st (b:Int)).1 i=mB m i:=by have hp:=s.Z6 hk;have pl:=J2 hm hk b (st,q,p) x C F s;obtain⟨l1,l2,F',sf⟩:=pl;have ff:=LJ hm hk sf;unfold hZ;rw[hq,hp,aX.2 ⟨by omega,by omega⟩];simp only[aj,bQ,af,ay];exact⟨ff.1,⟨_,_,ff.2.1⟩,by rw[l1],by rw[l2],ff.2.2⟩
theorem H7 (k:Nat):gq k=((jB k:Nat):Int):=by unfold gq jB;omega
theorem Yq (n j:Nat):(rb n).getD j 0=0:=by unfold rb aM;rw[aY,List.map_replicate,dU];split<;>rfl
theorem abL (h:∀j,j<16->mB m (a+j)=0):(qn (tX m a 16)).2.1=0:=by
 have e:tX m a 16=List.replicate 16 0:=by unfold tX;refine List.ext_getElem (by simp) λj g1 g2=>?_;simp only[List.getElem_map,List.getElem_range,List.getElem_replicate];exact h j (by simpa using g1)
 rw[e];decide
theorem F1 (hm:fW m)(hk:k<=1)(u:om×Bool×Int):fW (kM (bZ 38) m k).1/\(∃P,D1 (kM (bZ 38) m k).1 k ((kM (bZ 38) m k).2.1,(gq k+64,4,0),(gq k+64,4,0),u) (kM (bZ 38) m k).2.2.1 0 0 P [] [])/\∀i,i<4864->(i<jB k\/jB k+1792<=i)->mB (kM (bZ 38) m k).1 i=mB m i:=by
 have hn:jB k=1280+1792*k:=rfl;have pf:=BT hm (a:=jB k) (s:=rb 128) (w:=false) (by rw[tc];omega) (by rw[tc];omega) (by simp);rw[tc]at pf;have np:=(BP (a:=gq k+128) (b:=384) (n:=4) (by rw[H7];omega)).1;have ep:(ga (gq k+128) 384 4).1=(((jB k+128:Nat):Int),384,4,[0,1,2,3].map λc:Nat=>(c:Int)):=by rw[np,H7];rfl
 have er:((gq k,4,0,0):lb)=fu (jB k) 4 0 0:=by rw[H7];rfl
 have ec:((gq k+64,4,0):HI)=wx (jB k+64) 0:=by rw[H7];rfl
 have s:D1 (gA (bZ 38) m 0 ((jB k:Nat):Int) (rb 128) false).1 k (fu (jB k) 4 0 0,wx (jB k+64) 0,wx (jB k+64) 0,u) (((jB k+128:Nat):Int),384,4,[0,1,2,3].map λc:Nat=>(c:Int)) 0 0 [] [] [0,1,2,3]:=by refine⟨rfl,⟨by simp,λj hj=>by simp at hj⟩,rfl,rfl,⟨by simp,λj hj=>by simp at hj,λj _ hj=>?_⟩,rfl,List.Perm.refl _,λc hc=>by cases hc⟩;rw[abL λi hi=>?_];unfold Yw;rw[zip];decide;rw[pf.2.2 _ (by omega),zip];exact Yq ..
 have f:=LJ pf.2.1 hk s;unfold kM;rw[ep,er,ec,H7];refine⟨f.1,⟨_,f.2.1⟩,λi hi ho=>?_⟩;rw[f.2.2 i hi (by omega),pf.2.2 i hi,jR]
def O1 (c:bW):Prop:=∃ini last,c=ini++[last]/\(∀e∈ini,(cB e).2=true/\CP (cB e).1=false)/\(cB last).2=true/\CP (cB last).1=true
structure Ys (m:List Bytes) (t:dZ) (hd:Nat) (L:List (List Bytes)):Prop where
 ring:t.1=fu 0 16 hd L.flatten.length
 row:rk m 0 16 hd L.flatten
 zu:L.length=t.2.2.1.length
 ch:∀c∈L,O1 c
 pool:t.2.1.1=256/\t.2.1.2.1=128/\t.2.1.2.2.1=8
theorem Ys.frame (s:Ys m t hd L)(h:∀i,i<256->mB m' i=mB m i):Ys m' t hd L:=⟨s.ring,s.row.frame (Or.inr rfl) λi _ h2=>h i (by omega),s.zu,s.ch,s.pool⟩
theorem Ij {m:bW}(hm:fW m):∀(ini:bW)(last:Bytes)(rest:bW)(hd n:Nat)(acc:ax AQ),rk m 0 16 hd (ini++last::rest)->ini.length+1<=n->(∀e∈ini,(cB e).2=true/\CP (cB e).1=false)->(cB last).2=true->CP (cB last).1=true->
 (pK (bZ 38) m 0 n acc (fu 0 16 hd (ini.length+1+rest.length))).2=(fu 0 16 (hd+(ini.length+1)) rest.length,true)/\rk m 0 16 (hd+(ini.length+1)) rest
 |[],last,rest,hd,0,acc,r,hn,_,h1,h2=>by simp at hn
 |[],last,rest,hd,n+1,acc,r,hn,_,h1,h2=>by have t:=Gq hm (b:=0) (S:=16) (Or.inr rfl) (by omega) r;rw[show([]:bW).length+1+rest.length=rest.length+1 by simp;omega,pK,t.1,h1,h2];exact⟨rfl,t.2⟩
 |e::ini,last,rest,hd,0,acc,r,hn,_,h1,h2=>by simp at hn
 |e::ini,last,rest,hd,n+1,acc,r,hn,he,h1,h2=>by
  have t:=Gq hm (b:=0) (S:=16) (Or.inr rfl) (by omega) (show rk m 0 16 hd (e::(ini++last::rest)) from r);have hl:(ini++last::rest).length=ini.length+1+rest.length:=by simp;omega
  rw[hl]at t;have g:=he e (by simp);simp only[bc]at hn;rw[show(e::ini).length+1+rest.length=ini.length+1+rest.length+1 by simp;omega,pK,t.1,g.1,g.2];simp only[aj,bQ,af];have ih:=Ij hm ini last rest (hd+1) n (acc++[(cB e).1]) t.2 (by omega) (λy hy=>he y (by simp[hy])) h1 h2;rw[show hd+((e::ini).length+1)=hd+1+(ini.length+1) by simp;omega];exact ih
theorem Ra (hm:fW m){c:bW}(hc:O1 c)(r:rk m 0 16 hd (c++L.flatten)):((gH (bZ 38) m 0 (fu 0 16 hd (c++L.flatten).length)).1=fu 0 16 (hd+c.length) L.flatten.length/\rk m 0 16 (hd+c.length) L.flatten)/\((gH (bZ 38) m 0 (fu 0 16 hd (c++L.flatten).length)).2.2=1\/(gH (bZ 38) m 0 (fu 0 16 hd (c++L.flatten).length)).2.2=2):=by
 obtain⟨ini,last,rfl,h1,h2,h3⟩:=hc;have hl:(ini++[last]++L.flatten).length=ini.length+1+L.flatten.length:=by simp;omega
 have el:(ini++[last]).length=ini.length+1:=by simp
 have er:ini++[last]++L.flatten=ini++last::L.flatten:=by simp
 have h16:=r.len;rw[hl]at h16⊢;rw[er]at r;have v:=tW (b:=0) (S:=16) (hd:=hd) (Or.inr rfl) (by omega) h16;have cf:=Ij hm ini last L.flatten hd (ini.length+1+L.flatten.length) [] r (by omega) h1 h2 h3;have tk:(cQ (bZ 38) m 0 (fu 0 16 hd (ini.length+1+L.flatten.length))).2=(fu 0 16 (hd+(ini.length+1)) L.flatten.length,true):=by unfold cQ;rw[v.1,v.2,show(((ini.length+1+L.flatten.length:Nat):Int)==0)=false from by rw[bT];omega,ay];exact cf.1
 rw[el];unfold gH;rw[v.1,v.2,show(((ini.length+1+L.flatten.length:Nat):Int)==0)=false from by rw[bT];omega,tk];simp only[aj,cz,af];cases !(fe (cQ (bZ 38) m 0 (fu 0 16 hd (ini.length+1+L.flatten.length))).1).2.2.2 with|true=>exact⟨⟨rfl,cf.2⟩,Or.inr rfl⟩|false=>simp only[af];cases !(kg (bZ 38) m 0 (fe (cQ (bZ 38) m 0 (fu 0 16 hd (ini.length+1+L.flatten.length))).1).1).2||(!(uy (kg (bZ 38) m 0 (fe (cQ (bZ 38) m 0 (fu 0 16 hd (ini.length+1+L.flatten.length))).1).1).1).2||((jG (uy (kg (bZ 38) m 0 (fe (cQ (bZ 38) m 0 (fu 0 16 hd (ini.length+1+L.flatten.length))).1).1).1).1).2 !=0))with|true=>exact⟨⟨rfl,cf.2⟩,Or.inr rfl⟩|false=>exact⟨⟨rfl,cf.2⟩,Or.inl rfl⟩
theorem DV {m:bW}(hm:fW m):∀(L:ax bW)(hd n:Nat)(fr:bW)(dn bd:Nat),(∀c∈L,O1 c)->rk m 0 16 hd L.flatten->L.length<n->
 ∃(hd':Nat)(fr':bW)(a b:Nat),mf (bZ 38) m 0 n fr dn bd (fu 0 16 hd L.flatten.length)=(fu 0 16 hd' 0,fr',(a:Int),(b:Int))/\a+b=dn+bd+L.length
 |[],hd,0,fr,dn,bd,_,_,h=>by simp at h
 |[],hd,n+1,fr,dn,bd,_,_,_=>by
  have v:=tW (b:=0) (S:=16) (hd:=hd) (n:=0) (Or.inr rfl);have e:(gH (bZ 38) m 0 (fu 0 16 hd 0)).2.2=0:=by unfold gH;rw[v.1,v.2];rfl
  refine⟨hd,fr,dn,bd,?_,by simp⟩;show mf (bZ 38) m 0 (n+1) fr dn bd (fu 0 16 hd 0)=_;rw[mf,e];rfl
 |c::L,hd,0,fr,dn,bd,_,_,h=>by simp at h
 |c::L,hd,n+1,fr,dn,bd,hc,r,h=>by have hf:(c::L).flatten=c++L.flatten:=List.flatten_cons;rw[hf]at r⊢;simp only[bc]at h;have nx:=Ra hm (hc c (by simp)) r;rw[mf,nx.1.1];rcases nx.2 with e|e;obtain⟨hd',fr',a,b,g1,g2⟩:=DV hm L (hd+c.length) n (fr++(gH (bZ 38) m 0 (fu 0 16 hd (c++L.flatten).length)).2.1) (dn+1) bd (λy hy=>hc y (by simp[hy])) nx.1.2 (by omega);rw[e];exact⟨hd',fr',a,b,g1,by simp only[bc];omega⟩;obtain⟨hd',fr',a,b,g1,g2⟩:=DV hm L (hd+c.length) n (fr++(gH (bZ 38) m 0 (fu 0 16 hd (c++L.flatten).length)).2.1) dn (bd+1) (λy hy=>hc y (by simp[hy])) nx.1.2 (by omega);rw[e];exact⟨hd',fr',a,b,g1,by simp only[bc];omega⟩
theorem U5:∀(L:ax bW),(∀c∈L,O1 c)->L.length<=L.flatten.length
 |[],_=>aR _
 |c::L,h=>by have:=U5 L λy hy=>h y (by simp[hy]);obtain⟨ini,last,e,_⟩:=h c (by simp);rw[List.flatten_cons,ai,e];simp only[bc,ai,eD];omega
theorem GG:∀(l:ax nG)(p:de),(mi p l).1=p.1/\(mi p l).2.1=p.2.1/\(mi p l).2.2.1=p.2.2.1
 |[],p=>⟨rfl,rfl,rfl⟩
 |x::l,p=>by
  have i:=GG l (xT p x.2.2).1;have g:(xT p x.2.2).1.1=p.1/\(xT p x.2.2).1.2.1=p.2.1/\(xT p x.2.2).1.2.2.1=p.2.2.1:=by unfold xT;cases xU p x.2.2<;>exact⟨rfl,rfl,rfl⟩
  exact⟨i.1.trans g.1,i.2.1.trans g.2.1,i.2.2.trans g.2.2⟩
theorem Lm (g:Good n h)(hn:n<=1000000000000)(hmap:h.2.1=bZ 38)(hm:fW h.1)(s:Ys h.1 h.2.2.1 hd L):(dM h).2.2.1.2.2.1=[]/\∃hd',Ys h.1 (dM h).2.2.1 hd' []:=by
 have hl:=s.row.len;have h16:=U5 L s.ch;obtain⟨hd',fr,a,b,e1,e2⟩:=DV hm L hd 17 [] 0 0 s.ch s.row (by omega);have e:qi h.2.1 h.1 0 h.2.2.1.1=(fu 0 16 hd' 0,fr,(a:Int),(b:Int)):=by rw[hmap,s.ring];exact e1
 have hc:=s.zu;have v:=tW (b:=0) (S:=16) (hd:=hd') (n:=0) (Or.inr rfl);have eN:(if(h.2.2.1.2.2.1.length:Int)<aq ((a:Int)+(b:Int)) then(h.2.2.1.2.2.1.length:Int) else aq ((a:Int)+(b:Int)))=(h.2.2.1.2.2.1.length:Int):=by rw[ak];split<;>omega
 have tx:=g.tx;have t2:CM (fu 0 16 hd' 0,h.2.2.1.2):=by refine⟨v.1,tx.next,λx hx=>?_,tx.pool,?_⟩;have:=tx.sent x hx;rw[s.ring]at this;exact this;have:=tx.zu;rw[s.ring]at this;exact this
 have ec:ky (fu 0 16 hd' 0,h.2.2.1.2) (h.2.2.1.2.2.1.length:Int)=((fu 0 16 hd' 0,mi h.2.2.1.2.1 h.2.2.1.2.2.1,[],h.2.2.1.2.2.2),h.2.2.1.2.2.1.map (·.1)):=by unfold ky;rw[abE.2 t2,aX.2 ⟨by omega,eo _⟩];simp only[dL,ah,ay,eS,gX]
 have et:(dM h).2.2.1=(fu 0 16 hd' 0,mi h.2.2.1.2.1 h.2.2.1.2.2.1,[],h.2.2.1.2.2.2):=by unfold dM;rw[g.ok hn,e];simp only[ah,eN,ec]
 have gs:=GG h.2.2.1.2.2.1 h.2.2.1.2.1;rw[et];exact⟨rfl,hd',rfl,⟨by simp,λj hj=>by simp at hj⟩,rfl,(λc hc=>by cases hc),gs.1.trans s.pool.1,gs.2.1.trans s.pool.2.1,gs.2.2.trans s.pool.2.2⟩
theorem UB (hp:p.1=256/\p.2.1=128/\p.2.2.1=8)(hb:dh p=true){b:Int}(h:b∈p.2.2.2):∃a:Nat,mm p b=(a:Int)/\256<=a/\a+128<=1280:=by
 have hi:0<=b/\b<=7:=by unfold dh at hb;simp only[ae,aJ,cp]at hb;obtain⟨i,hi,e⟩:=fN h;have:=hb.2.2.2 i hi;unfold zA at this;rw[cS hi,e,hp.2.2]at this;simp only[ae,aX]at this;omega
 refine⟨(256+b*128).toNat,?_,by omega,by omega⟩;unfold mm;rw[hb,hp.2.2,aX.2 ⟨hi.1,by omega⟩,hp.1,hp.2.1];show(256:Int)+b*128=_;omega
theorem I3 {p:de}(hp:p.1=256/\p.2.1=128/\p.2.2.1=8)(hb:dh p=true){z:Nat}(hz:z<=128):∀(q:dC)(s:Bytes)(m:bW)(a:ax gD){x},(∀b∈q,b∈p.2.2.2)->fW m->sN (bZ 38) 0 p z q s m a=some x->fW x.2/\∀i,i<4864->(i<256\/1280<=i)->mB x.2 i=mB m i
 |[],s,m,a,x,_,hm,h=>by cases h;exact⟨hm,λ_ _ _=>rfl⟩
 |b::q,s,m,a,x,hq,hm,h=>by
  obtain⟨A,e,a1,a2⟩:=UB hp hb (hq b (by simp));have hl:(s.take z).length<=128:=by rw[aS];omega
  have pf:=BT hm (a:=A) (s:=s.take z) (w:=false) (by omega) (by omega) (by simp);rw[sN,e,pf.1]at h;have ih:=I3 hp hb hz q _ _ _ (λy hy=>hq y (by simp[hy])) pf.2.1 h;exact⟨ih.1,λi hi ho=>by rw[ih.2 i hi ho,pf.2.2 i hi,jR]⟩
theorem G1:∀(q:bW)(m:bW)(hd:Nat)(E:bW),fW m->rk m 0 16 hd E->(∀s∈q,s.length=16)->E.length+q.length<=16->∃m',nW (bZ 38) 0 q m (fu 0 16 hd E.length)=some (m',fu 0 16 hd (E++q).length)/\fW m'/\rk m' 0 16 hd (E++q)/\∀i,i<4864->256<=i->mB m' i=mB m i
 |[],m,hd,E,hm,r,_,_=>⟨m,by rw[bN];rfl,hm,by rw[bN];exact r,λ_ _ _=>rfl⟩
 |s::q,m,hd,E,hm,r,hs,hl=>by
  simp only[bc]at hl;have p:=Rp hm (b:=0) (S:=16) (hd:=hd) (Or.inr rfl) (by omega) r (by omega) (hs s (by simp));have e1:E.length+1=(E++[s]).length:=by simp
  obtain⟨m',g1,g2,g3,g4⟩:=G1 q _ hd (E++[s]) p.2.1 p.2.2.1 (λy hy=>hs y (by simp[hy])) (by simp;omega);rw[aN,fQ]at g1 g3;refine⟨m',?_,g2,g3,λi hi ho=>(g4 i hi ho).trans (p.2.2.2 i hi (by omega))⟩;rw[nW,p.1];simp only[ah];rw[e1];exact g1
theorem YS {ps:ax gD}{c:Int}(h:(ju ps z c).length=ps.length+1):ju ps z c=[(2,0,0,0,z,c)]++mN ps c ps.length/\([(2,0,0,0,z,c)]++mN ps c ps.length).all nA=true:=by unfold ju at h⊢;cases h1:((ps.length:Int)==0)||(!mF ps|| !dp z 1 128)with|true=>rw[h1]at h;simp at h|false=>rw[h1]at h;simp only[af]at h⊢;cases h2:([(2,0,0,0,z,c)]++mN ps c ps.length).all nA with|true=>exact⟨rfl,rfl⟩|false=>rw[h2]at h;simp at h
theorem UZ (f l a s c:Int)(hf:f=0\/f=1):CP (1,f,l,a,s,c)=(f==1):=by rcases hf with rfl|rfl;unfold CP;simp only[gY,ah];decide;unfold CP;simp only[gY,ah];decide
theorem Lz (ps:ax gD)(c:Int):∀i,i<ps.length->∀d∈mN ps c i,CP d=false
 |0,_,d,hd=>by cases hd
 |i+1,hi,d,hd=>by rw[mN]at hd;rcases aw.1 hd with g|g;exact Lz ps c i (by omega) d g;rw[bG.1 g];unfold dsc;rw[jR,UZ _ _ _ _ _ (Or.inl rfl)];rfl
theorem SJ {ps:ax gD}{c:Int}(h:(ju ps z c).length=ps.length+1)(h0:0<ps.length):O1 ((ju ps z c).map jj)/\∀s∈(ju ps z c).map jj,s.length=16:=by
 obtain⟨e,hall⟩:=YS h;rw[e];rw[aJ]at hall;obtain⟨k,hk⟩:∃k,ps.length=k+1:=⟨ps.length-1,by omega⟩
 have ed:mN ps c ps.length=mN ps c k++[dsc ps.length c k (ps.getD k (0,0))]:=by rw[show mN ps c ps.length=mN ps c (k+1) from by rw[hk]];rfl
 rw[ed]at hall⊢;refine⟨⟨([(2,0,0,0,z,c)]++mN ps c k).map jj,jj (dsc ps.length c k (ps.getD k (0,0))),?_,λs hs=>?_,?_,?_⟩,λs hs=>?_⟩;rw[<-aN,cY];rfl;obtain⟨d,hd,rfl⟩:=eQ.1 hs;have hd2:d∈[(2,0,0,0,z,c)]++(mN ps c k++[dsc ps.length c k (ps.getD k (0,0))]):=by rw[<-aN];exact bA _ hd
 rw[(xE (hall d hd2)).2];refine⟨rfl,?_⟩;rcases aw.1 hd with g|g;rw[bG.1 g];rfl;exact Lz ps c k (by omega) d g;rw[(xE (hall _ (by rw[<-aN];exact bg _ (bG.2 rfl)))).2];rw[(xE (hall _ (by rw[<-aN];exact bg _ (bG.2 rfl)))).2];show CP (1,(if k+1=ps.length then 1 else 0),_,_,0,c)=true;rw[aH hk.symm,UZ _ _ _ _ _ (Or.inr rfl)];rfl;obtain⟨d,hd,rfl⟩:=eQ.1 hs;exact(xE (hall d hd)).1
theorem XW (hm:fW m)(s:Ys m t hd L)(ht:CM t)(p:aQ)(c z:Int):fW (qc (bZ 38) m 0 t p c z).1/\(∃L',Ys (qc (bZ 38) m 0 t p c z).1 (qc (bZ 38) m 0 t p c z).2.1 hd L')/\∀i,i<4864->1280<=i->mB (qc (bZ 38) m 0 t p c z).1 i=mB m i:=by
 have old:fW m/\(∃L',Ys m t hd L')/\∀i,i<4864->1280<=i->mB m i=mB m i:=⟨hm,⟨L,s⟩,λ_ _ _=>rfl⟩
 have hb:=ht.free;unfold qc;cases hg:KH t&&(dG p&&(dp z 1 t.2.1.2.1&&dp c 1 128))with|false=>exact old|true=>?_
 simp only[ae,aX]at hg;simp only[ah];have tl:=KD hg.2.1;have hz:z.toNat<=128:=by have:=hg.2.2.1.2;rw[s.pool.2.1]at this;omega
 have hk0:0<vP p z.toNat:=by unfold vP;refine Nat.div_pos ?_ (by omega);omega
 generalize hk:vP p z.toNat=k at hk0;cases hf:CV t k with|false=>exact old|true=>?_
 simp only[ah];cases hx:sN (bZ 38) 0 t.2.1 z.toNat (jg t.2.1 (k:Int)).2.1 (jQ p).1 m []with|none=>exact old|some x=>?_
 simp only;unfold CV at hf;simp only[ae,aL,cR]at hf;have hti:dp (k:Int) 0 (t.2.1.2.2.2.length:Int)=true:=by have:=hf.1;unfold jg at this;cases hq:dh t.2.1&&dp (k:Int) 0 (t.2.1.2.2.2.length:Int)with|true=>rw[ae]at hq;exact hq.2|false=>rw[hq]at this;cases this
 have et:jg t.2.1 (k:Int)=((t.2.1.1,t.2.1.2.1,t.2.1.2.2.1,t.2.1.2.2.2.drop k),t.2.1.2.2.2.take k,true):=by unfold jg;rw[hb,hti];rfl
 rw[et]at hx;have hti:=aX.1 hti;have hlen:(t.2.1.2.2.2.take k).length=k:=by rw[aS];omega
 have fw:=I3 s.pool hb hz _ _ _ _ (λb hb'=>List.mem_of_mem_take hb') hm hx;have fo:=Bx (bZ 38) 0 t.2.1 z.toNat _ _ _ _ hx;have xl:x.1.length=k:=by rw[fo.2.1,hlen];simp
 have h16:k<=16:=by omega
 have da:=PB (ps:=x.1) (z:=c) (c:=t.2.2.2) (by omega) (by omega) (λy hy=>by rcases fo.2.2 y hy with g|⟨⟨b,hb',e⟩,g2,g3⟩;cases g;·obtain⟨A,eA,a1,a2⟩:=UB s.pool hb (List.mem_of_mem_take hb');rw[e,eA];omega) (aX.2 hg.2.2.2) (aX.2 ht.next);have dc:=SJ da (by omega);have r2:=s.row.frame (m':=x.2) (Or.inr rfl) λi _ h2=>fw.2 i (by omega) (by omega);have hfr:=hf.2.2.1;have v:=tW (b:=0) (S:=16) (hd:=hd) (Or.inr rfl) (by omega) s.row.len;have efr:ly t.1=((16-L.flatten.length:Nat):Int):=by have:=s.row.len;unfold ly;rw[s.ring,v.1,v.2,ah];show aq ((16:Int)-(L.flatten.length:Int))=_;rw[ak];omega
 rw[efr]at hfr;obtain⟨m',g1,g2,g3,g4⟩:=G1 ((ju x.1 c t.2.2.2).map jj) x.2 hd L.flatten fw.1 r2 dc.2 (by rw[cI,da];omega);have ep:qK (bZ 38) x.2 0 t.1 ((ju x.1 c t.2.2.2).map jj)=(m',fu 0 16 hd (L.flatten++(ju x.1 c t.2.2.2).map jj).length,true):=by unfold qK;rw[s.ring,g1];rfl
 unfold G5;rw[ep,et];simp only[ah];have efl:L.flatten++(ju x.1 c t.2.2.2).map jj=(L++[(ju x.1 c t.2.2.2).map jj]).flatten:=by rw[dT];simp
 rw[efl]at g3⊢;refine⟨g2,⟨L++[(ju x.1 c t.2.2.2).map jj],rfl,g3,?_,λy hy=>?_,s.pool⟩,λi hi ho=>(g4 i hi (by omega)).trans (fw.2 i hi (by omega))⟩;show(L++[_]).length=(t.2.2.1++[_]).length;rw[ai,ai,s.zu];rfl;rcases aw.1 hy with g|g;exact s.ch y g;rw[bG.1 g];exact dc.1
def QI (A:ax Fm->bF->Vector->Bool->Prop)(m:bW)(k:Nat)(q:bF)(p:de)(v:Vector)(b:Bool):Prop:=
 ∃hd x P C F,D1 m k q p hd x P C F/\v.2.1<=3/\v.2.2.2.2.1=b/\(b=false->C≠[]->1<=v.2.2.1)/\A C q v b
theorem QI.frame {A:ax Fm->bF->Vector->Bool->Prop}{b:Bool}(s:QI A m k q p v b)(h:∀i,jB k<=i->i<jB k+128->mB m' i=mB m i):QI A m' k q p v b:=by obtain⟨hd,x,P,C,F,s,t⟩:=s;exact⟨hd,x,P,C,F,s.frame h,t⟩
theorem QI.CR {A B:ax Fm->bF->Vector->Bool->Prop}{b:Bool}(s:QI A m k q p v b)(h:∀C q v b,A C q v b->B C q v b):QI B m k q p v b:=by obtain⟨hd,x,P,C,F,s,t1,t2,t3,t4⟩:=s;exact⟨hd,x,P,C,F,s,t1,t2,t3,h _ _ _ _ t4⟩
def Yz (A:ax Fm->bF->Vector->Bool->Prop)(h:Host)(k:Nat):Prop:=∃q p v b,h.2.2.2.1[k]?=some q/\h.2.2.2.2.1[k]?=some p/\h.2.2.2.2.2.1[k]?=some v/\h.2.2.2.2.2.2.1[k]?=some b/\QI A h.1 k q p v b
structure Live (Q:Nat->List Fm->bF->Vector->Bool->Prop) (h:Host):Prop where
 maps:h.2.1=bZ 38
 mem:fW h.1
 tx:∃hd L,Ys h.1 h.2.2.1 hd L
 rx:∀k,k<h.2.2.2.1.length->Yz (Q k) h k
abbrev D3:Nat->ax Fm->bF->Vector->Bool->Prop:=λ_ _ _ _ _=>True
theorem Live.step {Q':Nat->ax Fm->bF->Vector->Bool->Prop}{h':Host}(f:Live Q h)(hk:k<h.2.2.2.1.length)(h2:h.2.2.2.1.length<=2)(hm:fW h'.1)(e1:h'.2.1=h.2.1)(e2:h'.2.2.1=h.2.2.1)(e3:h'.2.2.2.1.length=h.2.2.2.1.length)(hq:∀j,j≠k->h'.2.2.2.1[j]?=h.2.2.2.1[j]?/\h'.2.2.2.2.1[j]?=h.2.2.2.2.1[j]?/\h'.2.2.2.2.2.1[j]?=h.2.2.2.2.2.1[j]?/\h'.2.2.2.2.2.2.1[j]?=h.2.2.2.2.2.2.1[j]?)(out:∀i,i<4864->(i<jB k\/jB k+1792<=i)->mB h'.1 i=mB h.1 i)(hQ:∀j,j≠k->∀C q v b,Q j C q v b->Q' j C q v b)(hF:Yz (Q' k) h' k):Live Q' h':=by have hn:jB k=1280+1792*k:=rfl;obtain⟨hd,L,s⟩:=f.tx;refine⟨e1.trans f.maps,hm,⟨hd,L,by rw[e2];exact s.frame λi hi=>out i (by omega) (by omega)⟩,λj hj=>?_⟩;by_cases hjk:j=k;subst hjk;exact hF;rw[e3]at hj;have hj2:jB j=1280+1792*j:=rfl;obtain⟨q,p,v,b,g1,g2,g3,g4,g5⟩:=f.rx j hj;have e:=hq j hjk;exact⟨q,p,v,b,by rw[e.1];exact g1,by rw[e.2.1];exact g2,by rw[e.2.2.1];exact g3,by rw[e.2.2.2];exact g4,(g5.CR (hQ j hjk)).frame λi h1 h2=>out i (by omega) (by omega)⟩
theorem Live.same {h':Host}(f:Live Q h)(hm:fW h'.1)(e1:h'.2.1=h.2.1)(e3:h'.2.2.2.1=h.2.2.2.1)(e4:h'.2.2.2.2.1=h.2.2.2.2.1)(e5:h'.2.2.2.2.2.1=h.2.2.2.2.2.1)(e6:h'.2.2.2.2.2.2.1=h.2.2.2.2.2.2.1)(ht:∃hd L,Ys h'.1 h'.2.2.1 hd L)(out:∀i,i<4864->1280<=i->mB h'.1 i=mB h.1 i)(h2:h.2.2.2.1.length<=2):Live Q h':=by refine⟨e1.trans f.maps,hm,ht,λk hk=>?_⟩;rw[e3]at hk;have hn:jB k=1280+1792*k:=rfl;obtain⟨q,p,v,b,g1,g2,g3,g4,g5⟩:=f.rx k hk;exact⟨q,p,v,b,by rw[e3];exact g1,by rw[e4];exact g2,by rw[e5];exact g3,by rw[e6];exact g4,g5.frame λi h1 h2=>out i (by omega) (by omega)⟩
theorem wR (v:Vector):(re v).1=v.1/\(re v).2.1=v.2.1/\(re v).2.2.1=v.2.2.1/\(re v).2.2.2.1=v.2.2.2.1/\(re v).2.2.2.2.1=v.2.2.2.2.1:=by unfold re;cases zY v&& !v.2.2.2.2.1<;>exact⟨rfl,rfl,rfl,rfl,rfl⟩
theorem Wb (hv:dH v=true):(evV v).2.1=v.2.1/\(evV v).2.2.2.2.1=v.2.2.2.2.1/\1<=(evV v).2.2.1:=by have w:=(qY v).1 hv;have u:=Un w.2.2.1;have c:=wR (v.1,v.2.1,HY v.2.2.1,v.2.2.2);unfold evV;rw[hv,ah];exact⟨c.2.1,c.2.2.2.2,by rw[c.2.2.1];show 1<=HY v.2.2.1;omega⟩
def evN:Nat->Vector->Vector
 |0,v=>v
 |n+1,v=>evV (evN n v)
theorem YY {v:Vector}(hv:dH v=true):∀n,dH (evN n v)=true/\(evN n v).2.1=v.2.1/\(evN n v).2.2.2.2.1=v.2.2.2.2.1/\(1<=n->1<=(evN n v).2.2.1)
 |0=>⟨hv,rfl,rfl,λh=>by omega⟩
 |n+1=>by have i:=YY hv n;have s:=Wb i.1;exact⟨abI i.1,s.1.trans i.2.1,s.2.1.trans i.2.2.1,λ_=>s.2.2⟩
theorem YX {h:Host}{k:Nat}{v:Vector}(hv:h.2.2.2.2.2.1[k]?=some v):∀n,OZ k n h=(h.1,h.2.1,h.2.2.1,h.2.2.2.1,h.2.2.2.2.1,h.2.2.2.2.2.1.set k (evN n v),h.2.2.2.2.2.2)
 |0=>by obtain⟨hlt,e⟩:=aA.1 hv;show h=_;rw[evN,<-e,List.set_getElem_self]
 |n+1=>by obtain⟨hlt,e⟩:=aA.1 hv;rw[OZ,YX hv n];unfold Yu;simp only[bw hlt,List.set_set];rfl
theorem QS (f:Live Q h)(h2:h.2.2.2.1.length<=2)(hk:k<h.2.2.2.1.length)(hq:h.2.2.2.1[k]?=some q)(hp:h.2.2.2.2.1[k]?=some p)(hv:h.2.2.2.2.2.1[k]?=some v){b:Bool}(hb:h.2.2.2.2.2.2.1[k]?=some b)(s:D1 h.1 k q p hd x P C F)(w3:v.2.1<=3)(wm:v.2.2.2.2.1=b)(wc:b=false->C≠[]->1<=v.2.2.1)(hvb:dH v=true){g:bW×bF}{H:Bool}{n:Nat}(hn:n<=4)(fl:MO h.1 k p x C F H g n): Live (λj C q v b=>(j=k->q.2.2.2.2.1=H)/\(j≠k->Q j C q v b)) (zh h k q.2.1.2.2 g):=by
 obtain⟨hd',P',C',s',l'⟩:=fl.st;have hc4:=s.com.len;have hc4':=s'.com.len;have ed:q.2.1.2.2=(((x+C.length)%8:Nat):Int):=by rw[s.dev];rfl
 have ed':g.2.2.1.2.2=(((x+C'.length)%8:Nat):Int)/\g.2.2.1.2.1=4:=by rw[s'.dev];exact⟨rfl,rfl⟩
 have ec:((g.2.2.1.2.2-q.2.1.2.2)%(2*g.2.2.1.2.1)).toNat=n:=by rw[ed'.1,ed'.2,ed,l'];omega
 have hv':(Dc h k g).2.2.2.2.2.1[k]?=some v:=hv;have e:zh h k q.2.1.2.2 g=(g.1,h.2.1,h.2.2.1,h.2.2.2.1.set k g.2,h.2.2.2.2.1,h.2.2.2.2.2.1.set k (evN n v),h.2.2.2.2.2.2):=by unfold zh;rw[ec,YX hv' n];rfl
 have vk:=YY hvb n;obtain⟨hvl,_⟩:=aA.1 hv;rw[e];refine Live.step (Q:=Q) (Q':=λj C q v b=>(j=k->q.2.2.2.2.1=H)/\(j≠k->Q j C q v b)) f hk h2 fl.mem rfl rfl (az ..) (λj hj=>⟨aF (cc hj),rfl,aF (cc hj),rfl⟩) fl.out (λj hj C q v b hA=>⟨λe=>absurd e hj,λ_=>hA⟩) ?_;refine⟨g.2,p,evN n v,b,bw hk,hp,bw hvl,hb,hd',x,P',C',F,s',by rw[vk.2.1];exact w3,by rw[vk.2.2.1];exact wm,λhb' hc'=>?_,λ_=>fl.hold,λe=>absurd rfl e⟩;rcases Nat.eq_zero_or_pos n with g0|g0;subst g0;refine wc hb' λe0=>hc' ?_;rw[e0]at l';exact bS (by simpa using l');exact vk.2.2.2 g0
theorem Vk (g:Good n h):h.2.2.2.2.2.2.2.2.1.2.2.1.length=16:=by have:=g.ste;unfold fL pE at this;simp only[ae,bq]at this;have e:=this.1.1.2.1.1.2;omega
theorem Cd (g:Good n h):h.2.2.2.1.length<=2:=(mD g.lens).1
theorem QR (hn:n<=500000000000)(g:Good n h)(f:Live Q h)(hk:k<h.2.2.2.1.length):Live (λj C q v b=>(j=k->q.2.2.2.2.1=false)/\(j≠k->Q j C q v b)) (iI k h):=by
 have h2:=Cd g;obtain⟨q,p,v,b,g1,g2,g3,g4,hd,x,P,C,F,s,w1,w2,w3,_⟩:=f.rx k hk;have rx:=g.rx q (aW g1);obtain⟨c,hc,fl⟩:=DC f.mem (by omega) s (rx.rx (by omega)) h.2.2.2.2.2.2.2.2.1.2.2.1 (Vk g);have e:iI k h=zh h k q.2.1.2.2 (gP (bZ 38) h.1 0 q h.2.2.2.2.2.2.2.2.1.2.2.1):=by unfold iI;rw[g1,f.maps]
 rw[e];exact QS f h2 hk g1 g2 g3 g4 s w1 w2 w3 (g.vec v (aW g3)) (by omega) fl
theorem Live.CR {Q':Nat->ax Fm->bF->Vector->Bool->Prop}(f:Live Q h)(hq:∀k,k<h.2.2.2.1.length->∀C q v b,Q k C q v b->Q' k C q v b):Live Q' h:=by refine⟨f.maps,f.mem,f.tx,λk hk=>?_⟩;obtain⟨q,p,v,b,g1,g2,g3,g4,g5⟩:=f.rx k hk;exact⟨q,p,v,b,g1,g2,g3,g4,g5.CR (hq k hk)⟩
abbrev adB:Nat->ax Fm->bF->Vector->Bool->Prop:=λ_ _ q _ _=>q.2.2.2.2.1=false
theorem JG (hn:n<=400000000000)(g:Good n h)(f:Live Q h):Live adB (lV h):=by
 have h2:=Cd g;have key:∀k:Nat,k<=h.2.2.2.1.length->Good (n+320*(k:Int)) (ik iI k h)/\(ik iI k h).2.2.2.1.length=h.2.2.2.1.length/\Live (λj _ q _ _=>j<k->q.2.2.2.2.1=false) (ik iI k h):=by intro k;induction k with|zero=>intro _;exact⟨g.mono,rfl,f.CR λk _ C q v b _ e=>by omega⟩|succ k ih=>intro hk;obtain⟨i1,i2,i3⟩:=ih (by omega);have st:=QR (by omega) i1 i3 (k:=k) (by omega);have gl:=GH (by omega) i1 k;have e2:(iI k (ik iI k h)).2.2.2.1.length=(ik iI k h).2.2.2.1.length:=(vR k _).rx;refine⟨gl.mono (by push_cast;omega),e2.trans i2,st.CR λj hj C q v b hA hjk=>?_⟩;by_cases h1:j=k;exact hA.1 h1;exact hA.2 h1 (by omega)
 unfold lV;rw[g.ok (by omega),ah];obtain⟨i1,i2,i3⟩:=key h.2.2.2.1.length (aR _);exact i3.CR λj hj C q v b hA=>hA (by omega)
theorem Od (hn:n<=400000000000)(g:Good n h)(f:Live Q h)(y:Bytes):Live D3 (nh h y):=by
 have h2:=Cd g;have loose:Live D3 h:=f.CR λ_ _ _ _ _ _ _=>trivial;have zu:∀a b c d,Live D3 (wy h a b c d):=λa b c d=>loose.same (h':=wy h a b c d) f.mem rfl rfl rfl rfl rfl f.tx (λ_ _ _=>rfl) h2;unfold nh;rw[g.ok (by omega)];simp only[aj,af];cases (nD y).2 !=0 with|true=>exact zu ..|false=>?_
 cases !vO h.2.2.2.2.2.2.2.1 (nD y).1 with|true=>exact zu ..|false=>?_
 cases ri h.2.2.2.2.2.2.2.2.1 (h.2.2.2.1.length:Int) (nD y).1== -1 with|true=>exact zu ..|false=>?_
 simp only[af];generalize (ri h.2.2.2.2.2.2.2.2.1 (h.2.2.2.1.length:Int) (nD y).1).toNat=k;cases hq:h.2.2.2.1[k]? with|none=>exact loose|some q=>?_
 simp only;obtain⟨hk,_⟩:=aA.1 hq;obtain⟨q',p,v,b,g1,g2,g3,g4,hd,x,P,C,F,s,w1,w2,w3,_⟩:=loose.rx k hk;rw[hq]at g1;have g1:=cZ g1;subst g1;obtain⟨c,H,hc,fl⟩:=Pa f.mem (by omega) s (by omega) (g.rx q (aW hq)) h.2.2.2.2.2.2.2.2.1.2.2.1 (Vk g) (nD y).1 h.2.2.2.2.2.2.2.2.2.2.1;rw[f.maps];have:=QS (zu h.2.2.2.2.2.2.2.2.2.2.2.2.2.2.2.1 h.2.2.2.2.2.2.2.2.2.2.2.2.2.2.2.2.1 h.2.2.2.2.2.2.2.2.2.2.2.2.2.2.2.2.2.1 (aq (h.2.2.2.2.2.2.2.2.2.2.2.2.2.2.2.2.2.2+1))) h2 hk hq g2 g3 g4 s w1 w2 w3 (g.vec v (aW g3)) (by omega) fl;exact this.CR λ_ _ _ _ _ _ _=>trivial
theorem W1 (g:Good n h)(f:Live Q h)(p:aQ)(c z:Int):Live Q (Bi h p c z).1:=by obtain⟨hd,L,s⟩:=f.tx;obtain⟨a,⟨L',b⟩,c'⟩:=XW f.mem s g.tx p c z;unfold Bi;cases eZ h with|false=>exact f|true=>rw[f.maps];exact f.same a f.maps.symm rfl rfl rfl rfl ⟨hd,L',b⟩ c' (Cd g)
theorem C8 (hn:n<=1000000000000)(g:Good n h)(f:Live Q h):Live Q (dM h)/\(dM h).2.2.1.2.2.1=[]:=by
 obtain⟨hd,L,s⟩:=f.tx;obtain⟨a,hd',b⟩:=Lm g hn f.maps f.mem s;refine⟨?_,a⟩;have e1:(dM h).1=h.1:=by unfold dM;rw[g.ok hn];rfl
 have e2:(dM h).2.1=h.2.1:=by unfold dM;rw[g.ok hn];rfl
 have e3:(dM h).2.2.2.1=h.2.2.2.1:=by unfold dM;rw[g.ok hn];rfl
 have e4:(dM h).2.2.2.2.1=h.2.2.2.2.1:=by unfold dM;rw[g.ok hn];rfl
 have e5:(dM h).2.2.2.2.2.1=h.2.2.2.2.2.1:=by unfold dM;rw[g.ok hn];rfl
 have e6:(dM h).2.2.2.2.2.2.1=h.2.2.2.2.2.2.1:=by unfold dM;rw[g.ok hn];rfl
 exact f.same (by rw[e1];exact f.mem) e2 e3 e4 e5 e6 ⟨hd',[],by rw[e1];exact b⟩ (λi _ _=>by rw[e1]) (Cd g)
theorem Hp (hv:dH v=true):(wq v).1=v.1/\(wq v).2.1=v.2.1/\(wq v).2.2.1=v.2.2.1/\(wq v).2.2.2.2.1=v.2.2.2.2.1/\(1<=v.2.2.1->v.2.2.2.2.1=false->(wq v).2.2.2.2.2=true\/v.2.2.2.1+1<=(wq v).2.2.2.1/\(wq v).2.2.2.1<v.2.1):=by
 have w:=(qY v).1 hv;have vt:=KJ hv;unfold wq at vt⊢;rw[hv]at vt⊢;simp only[ah]at vt⊢;by_cases h:v.2.2.1>0;rw[au h]at vt⊢;simp only[ah]at vt⊢;have c:=wR (v.1,v.2.1,v.2.2.1,HY v.2.2.2.1,v.2.2.2.2);refine⟨c.1,c.2.1,c.2.2.1,c.2.2.2.2,λ_ hm=>?_⟩;have eu:HY v.2.2.2.1=v.2.2.2.1+1\/HY v.2.2.2.1=1000000:=by unfold HY;rw[ak];split<;>omega
 have t3:(re (v.1,v.2.1,v.2.2.1,HY v.2.2.2.1,v.2.2.2.2)).2.2.2.1=HY v.2.2.2.1:=c.2.2.2.1;cases hd:zY (v.1,v.2.1,v.2.2.1,HY v.2.2.2.1,v.2.2.2.2)with
 |true=>left;unfold re;rw[hd,hm];rfl
 |false=>
  right;have nd:¬(1<=v.2.2.1/\(v.1<=v.2.2.1\/v.2.1<=HY v.2.2.2.1)):=by rw[<-zZ (v.1,v.2.1,v.2.2.1,HY v.2.2.2.1,v.2.2.2.2),hd];simp
  rw[t3];omega
 rw[ar h]at vt⊢;simp only[af]at vt⊢;have c:=wR v;exact⟨c.1,c.2.1,c.2.2.1,c.2.2.2.2,λh1=>by omega⟩
theorem Tr (g:Good n h){B:Nat->ax Fm->bF->Vector->Bool->Prop}(f:Live Q h)(hk:k<h.2.2.2.1.length)(hB:∀C q v b,dH v=true->v.2.1<=3->v.2.2.2.2.1=b->(b=false->C≠[]->1<=v.2.2.1)->Q k C q v b->B k C q (wq v) b):Live (λj C q v b=>(j=k->B k C q v b)/\(j≠k->Q j C q v b)) (nw k h):=by
 obtain⟨q,p,v,b,g1,g2,g3,g4,hd,x,P,C,F,s,w1,w2,w3,w4⟩:=f.rx k hk;have hv:=g.vec v (aW g3);have ts:=Hp hv;obtain⟨hvl,_⟩:=aA.1 g3;have e:nw k h=(h.1,h.2.1,h.2.2.1,h.2.2.2.1,h.2.2.2.2.1,h.2.2.2.2.2.1.set k (wq v),h.2.2.2.2.2.2):=by unfold nw;rw[g3]
 rw[e];refine Live.step (Q:=Q) (Q':=λj C q v b=>(j=k->B k C q v b)/\(j≠k->Q j C q v b)) f hk (Cd g) f.mem rfl rfl rfl (λj hj=>⟨rfl,rfl,aF (cc hj),rfl⟩) (λ_ _ _=>rfl) (λj hj C q v b hA=>⟨λe=>absurd e hj,λ_=>hA⟩) ?_;exact⟨q,p,wq v,b,g1,g2,bw hvl,g4,hd,x,P,C,F,s,by rw[ts.2.1];exact w1,by rw[ts.2.2.2.1];exact w2,λe1 e2=>by rw[ts.2.2.1];exact w3 e1 e2,λ_=>hB C q v b hv w1 w2 w3 w4,λe=>absurd rfl e⟩
theorem SW (g:Good n h)(k:Nat):Good n (nw k h):=by unfold nw;cases hv:h.2.2.2.2.2.1[k]? with|none=>exact g|some v=>exact⟨g.mem,g.maps,g.tx,g.flt,by have:=g.lens;unfold pX at this⊢;rw[az];exact this,g.ste,g.rx,g.pool,qk g.vec (KJ (g.vec v (aW hv))),g.zu⟩
theorem L9 (hn:n<=1000000000000)(g:Good n h){B:Nat->ax Fm->bF->Vector->Bool->Prop}(f:Live Q h)(hB:∀k C q v b,dH v=true->v.2.1<=3->v.2.2.2.2.1=b->(b=false->C≠[]->1<=v.2.2.1)->Q k C q v b->B k C q (wq v) b):Live B (ta h):=by
 have hl:=mD g.lens;have key:∀k:Nat,k<=h.2.2.2.1.length->Good n (ik nw k h)/\(ik nw k h).2.2.2.1.length=h.2.2.2.1.length/\Live (λj C q v b=>(j<k->B j C q v b)/\(¬j<k->Q j C q v b)) (ik nw k h):=by intro k;induction k with|zero=>intro _;exact⟨g,rfl,f.CR λk _ C q v b hA=>⟨λe=>by omega,λ_=>hA⟩⟩|succ k ih=>intro hk;obtain⟨i1,i2,i3⟩:=ih (by omega);have st:=Tr (B:=B) i1 i3 (k:=k) (by omega) (λC q v b a1 a2 a3 a4 hA=>hB k C q v b a1 a2 a3 a4 (hA.2 (by omega)));refine⟨SW i1 k,((yl k _).rx).trans i2,st.CR λj hj C q v b hA=>⟨λhjk=>?_,λhjk=>?_⟩⟩;by_cases h1:j=k;subst h1;exact hA.1 rfl;exact(hA.2 h1).1 (by omega);exact(hA.2 (by omega)).2 (by omega)
 unfold ta;rw[g.ok hn,ah,hl.2.2.1];obtain⟨i1,i2,i3⟩:=key h.2.2.2.1.length (aR _);exact i3.CR λj hj C q v b hA=>hA.1 (by omega)
theorem R0 (hv:dH v=true):(pF v).1.2.1=v.2.1/\(pF v).2=v.2.2.2.2.2/\(v.2.2.2.2.2=true->(pF v).1.2.2.2.2.1=true)/\(v.2.2.2.2.2=false->(pF v).1=v):=by unfold pF;rw[hv];cases hr:v.2.2.2.2.2 with|true=>exact⟨rfl,rfl,λ_=>rfl,λe=>by cases e⟩|false=>exact⟨rfl,rfl,λe=>(by cases e),λ_=>rfl⟩
theorem Ln (hv:dH v=true):(xA v).2.1=v.2.1/\(xA v).2.2.2.2.1=false:=by unfold xA;rw[hv,ah];have c:=wR (v.1,v.2.1,v.2.2.1,v.2.2.2.1,false,v.2.2.2.2.2);exact⟨c.2.1,c.2.2.2.2⟩
theorem QT (hn:n<=1000000000000)(t:Int)(g:Good n h){B:Nat->ax Fm->bF->Vector->Bool->Prop}(f:Live Q h)(hk:k<h.2.2.2.1.length){c:Nat}(hc:1<=c/\c<=1000)(hB:∀C q v b q' v' b',dH v=true->v.2.1<=3->v.2.2.2.2.1=b->(b=false->C≠[]->1<=v.2.2.1)->q'.2.2.2.2.1=q.2.2.2.2.1->Q k C q v b-> ((b=false/\v.2.2.2.2.2=false->b'=false->v'=v->B k C q' v' b')/\(b=true\/v.2.2.2.2.2=true->C.length<c->b'=false->B k [] q' v' b')/\(b=true\/v.2.2.2.2.2=true->¬C.length<c->b'=true->B k (C.drop c) q' v' b'))):Live (λj C q v b=>(j=k->B k C q v b)/\(j≠k->Q j C q v b)) (uK (c:Int) k (t,h)).2:=by
 have hn':jB k=1280+1792*k:=rfl;have h2:=Cd g;obtain⟨q,p,v,b,g1,g2,g3,g4,hd,x,P,C,F,s,w1,w2,w3,w4⟩:=f.rx k hk;have hv:=g.vec v (aW g3);have tv:=R0 hv;have vt:=R6 hv;have rq:=(g.rx q (aW g1)).rx hn;obtain⟨m1,⟨x',P',s'⟩,m3,m4,m5⟩:=XF f.mem (by omega) s rq h.2.2.2.2.2.2.2.2.2.1 (b:=c) (by omega);obtain⟨hql,_⟩:=aA.1 g1;obtain⟨hpl,_⟩:=aA.1 g2;obtain⟨hvl,_⟩:=aA.1 g3;obtain⟨hbl,_⟩:=aA.1 g4;unfold uK;simp only[g1,g2,g3,g4,f.maps];generalize hR:hZ (bZ 38) h.1 0 q p h.2.2.2.2.2.2.2.2.2.1 (c:Int)=R at m1 s' m3 m4 m5;cases hpt:b||(pF v).2 with
 |false=>
  simp only[cj]at hpt;have hr:v.2.2.2.2.2=false:=by rw[<-tv.2.1];exact hpt.2
  have ev:=tv.2.2.2 hr;simp only[af];refine Live.step (Q:=Q) (Q':=λj C q v b=>(j=k->B k C q v b)/\(j≠k->Q j C q v b)) f hk h2 f.mem f.maps.symm rfl rfl (λj hj=>⟨rfl,rfl,aF (cc hj),aF (cc hj)⟩) (λ_ _ _=>rfl) (λj hj C q v b hA=>⟨λe=>absurd e hj,λ_=>hA⟩) ?_;refine⟨q,p,(pF v).1,false,g1,g2,bw hvl,bw hbl,hd,x,P,C,F,s,by rw[ev];exact w1,by rw[ev,w2];exact hpt.1,λ_ e2=>by rw[ev];exact w3 hpt.1 e2,λ_=>?_,λe=>absurd rfl e⟩;exact(hB C q v b q (pF v).1 false hv w1 w2 w3 rfl w4).1 ⟨hpt.1,hr⟩ rfl ev
 |true=>
  simp only[cG]at hpt;have hpt:b=true\/v.2.2.2.2.2=true:=by rw[<-tv.2.1];exact hpt
  have msk:(pF v).1.2.2.2.2.1=true:=by cases hr:v.2.2.2.2.2 with|true=>exact tv.2.2.1 hr|false=>rw[tv.2.2.2 hr,w2];rcases hpt with e|e;exact e;rw[hr]at e;cases e
  simp only[ah,m3];have um:=Ln vt;refine Live.step (Q:=Q) (Q':=λj C q v b=>(j=k->B k C q v b)/\(j≠k->Q j C q v b)) f hk h2 m1 f.maps.symm rfl (az ..) (λj hj=>⟨aF (cc hj),aF (cc hj),aF (cc hj),aF (cc hj)⟩) (λi hi ho=>m5 i hi (by omega)) (λj hj C q v b hA=>⟨λe=>absurd e hj,λ_=>hA⟩) ?_;by_cases hcl:C.length<c;have ed:C.drop c=[]:=cq (by omega);rw[ed]at s';have e1:decide (((min c C.length:Nat):Int)<(c:Int))=true:=lT;rw[e1];refine⟨R.2.1,R.2.2.1,xA (pF v).1,false,bw hql,bw hpl,bw hvl,bw hbl,hd,x',P',[],[],s',by rw[um.1,tv.1];exact w1,um.2,λ_ e=>absurd rfl e,λ_=>?_,λe=>absurd rfl e⟩;exact(hB C q v b R.2.1 _ false hv w1 w2 w3 m4 w4).2.1 hpt hcl rfl;have e1:decide (((min c C.length:Nat):Int)<(c:Int))=false:=jJ;rw[e1];refine⟨R.2.1,R.2.2.1,(pF v).1,true,bw hql,bw hpl,bw hvl,bw hbl,hd,x',P',C.drop c,[],s',by rw[tv.1];exact w1,msk,(λe=>by cases e),λ_=>?_,λe=>absurd rfl e⟩;exact(hB C q v b R.2.1 _ true hv w1 w2 w3 m4 w4).2.2 hpt hcl rfl
theorem EL (hn:n<=1000000000000)(g:Good n h){B:Nat->ax Fm->bF->Vector->Bool->Prop}(f:Live Q h){c:Nat}(hc:1<=c/\c<=1000)(hB:∀k C q v b q' v' b',dH v=true->v.2.1<=3->v.2.2.2.2.1=b->(b=false->C≠[]->1<=v.2.2.1)->q'.2.2.2.2.1=q.2.2.2.2.1->Q k C q v b-> ((b=false/\v.2.2.2.2.2=false->b'=false->v'=v->B k C q' v' b')/\(b=true\/v.2.2.2.2.2=true->C.length<c->b'=false->B k [] q' v' b')/\(b=true\/v.2.2.2.2.2=true->¬C.length<c->b'=true->B k (C.drop c) q' v' b'))):Live B (iO h (c:Int)).1:=by
 have key:∀k:Nat,k<=h.2.2.2.1.length->Good n (mc (c:Int) k h).2/\(mc (c:Int) k h).2.2.2.2.1.length=h.2.2.2.1.length/\Live (λj C q v b=>(j<k->B j C q v b)/\(¬j<k->Q j C q v b)) (mc (c:Int) k h).2:=by intro k;induction k with|zero=>intro _;exact⟨g,rfl,f.CR λk _ C q v b hA=>⟨λe=>by omega,λ_=>hA⟩⟩|succ k ih=>intro hk;obtain⟨i1,i2,i3⟩:=ih (by omega);have st:=QT (B:=B) hn (mc (c:Int) k h).1 i1 i3 (k:=k) (by omega) hc (λC q v b q' v' b' a1 a2 a3 a4 a5 hA=>hB k C q v b q' v' b' a1 a2 a3 a4 a5 (hA.2 (by omega)));refine⟨GI (c:Int) k i1,((G6 (c:Int) k _).rx).trans i2,st.CR λj hj C q v b hA=>⟨λhjk=>?_,λhjk=>?_⟩⟩;by_cases h1:j=k;subst h1;exact hA.1 rfl;exact(hA.2 h1).1 (by omega);exact(hA.2 (by omega)).2 (by omega)
 unfold iO;rw[g.ok hn,aX.2 ⟨by omega,by omega⟩];obtain⟨i1,i2,i3⟩:=key h.2.2.2.1.length (aR _);exact i3.CR λj hj C q v b hA=>hA.1 (by show j<_;rw[<-i2];exact hj)
structure mJ (a b:Host):Prop where
 maps:b.2.1=a.2.1
 mem:b.1.length=a.1.length
theorem mJ.refl (a:Host):mJ a a:=⟨rfl,rfl⟩
theorem mJ.trans {a b c:Host}(h:mJ a b)(g:mJ b c):mJ a c:=⟨g.maps.trans h.maps,g.mem.trans h.mem⟩
theorem mJ.of {a b:Host}(h:kX k a b):mJ a b:=⟨h.maps,h.mem⟩
theorem adf (l:ax aC)(m:bW)(d:Int)(q:bF)(k s:Bytes):(gC l m d q k s).1.length=m.length:=by
 unfold gC;cases !(cB s).2||(((cB s).1.1 !=3)||decide ((cB s).1.2.2.1<((dj q.2.2.2.1.1).1.length:Int)))with|true=>rfl|false=>?_
 cases (gA l m d (cB s).1.2.2.2.1 (dj q.2.2.2.1.1).1 true).2 with
 |false=>rfl
 |true=>
  simp only[af,aj];unfold qZ;cases !fV q.2.1|| !rf _ with|true=>exact jX ..|false=>?_
  cases (gA l (gA l m d (cB s).1.2.2.2.1 (dj q.2.2.2.1.1).1 true).1 d (qe q.2.1) _ true).2 with|false=>exact jX ..|true=>exact(jX ..).trans (jX ..)
theorem NX (l:ax aC)(m:bW)(d:Int)(q:bF)(k:Bytes):(gP l m d q k).1.length=m.length:=by
 unfold gP;cases !Bl q||(!q.2.2.2.2.1||((k.length:Int) !=16))with|true=>rfl|false=>?_
 cases (bn l m d q.1).2.2&&(gC l m d q k (bn l m d q.1).1).2.2 with|true=>exact adf ..|false=>rfl
theorem YH (l:ax aC)(m:bW)(d:Int)(q:bF)(k:Bytes)(p:aQ)(c:Bool):(kc l m d q k p c).1.length=m.length:=by
 unfold kc;cases !Bl q||(!gF p||((k.length:Int) !=16))with|true=>rfl|false=>?_
 cases c&&(q.2.2.2.2.1&&D8 q.2.2.2.1 p)with|true=>rfl|false=>?_
 cases c with|true=>exact NX ..|false=>exact(NX ..).trans (NX ..)
theorem aal (l:ax aC)(m:bW)(d:Int)(t:dZ)(p:aQ)(c z:Int):(qc l m d t p c z).1.length=m.length:=by
 unfold qc;cases KH t&&(dG p&&(dp z 1 t.2.1.2.1&&dp c 1 128))with|false=>rfl|true=>?_
 cases CV t (vP p z.toNat)with|false=>rfl|true=>?_
 simp only[ah];cases hw:sN l d t.2.1 z.toNat (jg t.2.1 (vP p z.toNat:Int)).2.1 (jQ p).1 m []with|none=>rfl|some x=>have hx:=(Bx _ _ _ _ _ _ _ _ hw).1;simp only;unfold G5 qK;cases hp:nW l d ((ju x.1 c t.2.2.2).map jj) x.2 t.1 with|none=>rfl|some y=>exact(GZ _ _ _ _ _ hp).trans hx
theorem Yb (h:Host)(p:aQ)(c z:Int):mJ h (Bi h p c z).1:=by unfold Bi;cases eZ h with|false=>exact mJ.refl h|true=>exact⟨rfl,aal ..⟩
theorem Lf (h:Host):mJ h (dM h):=by unfold dM;cases eZ h with|false=>exact mJ.refl h|true=>exact⟨rfl,rfl⟩
theorem Ud (h:Host):mJ h (lV h):=by unfold lV;cases eZ h with|false=>exact mJ.refl h|true=>exact mJ.of (qW vR h _)
theorem Yc (h:Host):mJ h (ta h):=by unfold ta;cases eZ h with|false=>exact mJ.refl h|true=>exact mJ.of (qW yl h _)
theorem OJ (h:Host)(b:Int):mJ h (iO h b).1:=by unfold iO;cases eZ h&&dp b 1 1000 with|false=>exact mJ.refl h|true=>exact mJ.of (zP b h _)
theorem OI (h:Host)(x:Bytes):mJ h (nh h x):=by
 unfold nh;cases eZ h with|false=>exact mJ.refl h|true=>?_
 cases (nD x).2 !=0 with|true=>exact⟨rfl,rfl⟩|false=>?_
 cases !vO h.2.2.2.2.2.2.2.1 (nD x).1 with|true=>exact⟨rfl,rfl⟩|false=>?_
 cases ri h.2.2.2.2.2.2.2.2.1 (h.2.2.2.1.length:Int) (nD x).1== -1 with|true=>exact⟨rfl,rfl⟩|false=>?_
 simp only[aj,af];cases hq:h.2.2.2.1[(ri h.2.2.2.2.2.2.2.2.1 (h.2.2.2.1.length:Int) (nD x).1).toNat]? with|none=>exact mJ.refl h|some q=>exact mJ.trans (b:=wy h _ _ _ _) ⟨rfl,rfl⟩ (mJ.of (Cg (YH ..)))
theorem Fb (h:Host):∀k,mJ h (lK h k)
 |0=>mJ.refl h
 |k+1=>by
  refine(Fb h k).trans ?_;show mJ (lK h k) (uF (lK h k) k 1000).2;generalize lK h k=s;unfold uF;cases s.2.2.2.1[k]? with|none=>exact mJ.refl s|some rx=>?_
  cases s.2.2.2.2.1[k]? with|none=>exact mJ.refl s|some pl=>?_
  exact⟨rfl,Om ..⟩
theorem Dj (h:Host):∀k,mJ h (returned h k)
 |0=>Fb h _
 |k+1=>by refine(Dj h k).trans ?_;show mJ (returned h k) (Ke h.2.2.1.2.2.1 k (returned h k));unfold Ke;cases h.2.2.1.2.2.1[k]? with|none=>exact mJ.refl _|some x=>exact⟨rfl,rfl⟩
theorem Ue (h:Host):mJ h (tV h):=by unfold tV;cases eZ h with|false=>exact mJ.refl h|true=>have k:=oQ (iH h) h.2.2.2.1.length;have r:=Dj h h.2.2.1.2.2.1.length;exact⟨k.maps.trans r.maps,k.mem.trans r.mem⟩
def vS (h:Host)(a:Act):Host×Int:=
 bif a.1==0 then((Bi h a.2.1 a.2.2.1 a.2.2.2.1).1,aho (Bi h a.2.1 a.2.2.1 a.2.2.2.1).2) else
 bif a.1==1 then(dM h,0) else
 bif a.1==2 then(nh h a.2.2.2.2.1,0) else
 bif a.1==3 then(lV h,0) else
 bif a.1==4 then(ta h,0) else
 iO h a.2.2.2.2.2
theorem abR (b:Bool):CB b=some (aho b):=by unfold CB aho;cases b<;>rfl
theorem ab7 (h:Host)(a:Act)(k:zj 90000000 h)(hx:a.2.2.2.2.1.length<=1000000000)(h0:0<=a.1)(h5:a.1<=5):nT h a=some (true,vS h a):=by
 have z:dw 1000000000 dY h:=k.z.mono;unfold nT vS;simp only[ab,WE h _ _ _ (k.mono),EC h (k.mono),N9 h _ (k.mono) hx,Js h (k.mono),Qq h (k.sz (by omega)) z,GN h _ (k.mono),abR];cases e0:a.1==0 with|true=>rfl|false=>?_
 cases e1:a.1==1 with|true=>rfl|false=>?_
 cases e2:a.1==2 with|true=>rfl|false=>?_
 cases e3:a.1==3 with|true=>rfl|false=>?_
 cases e4:a.1==4 with|true=>rfl|false=>?_
 have e5:(a.1==5)=true:=by simp only[bT,ne_eq]at e0 e1 e2 e3 e4;simp only[bq];omega
 rw[e5];rfl
def pM (s:Host×Int)(a:Act):Host×Int:=
 bif a.1==6 then(tV s.1,s.2) else((vS s.1 a).1,bif a.1==0 then aq (s.2+(vS s.1 a).2) else s.2)
def Zf (h:Host)(l:ax Act):Host×Int:=l.foldl pM (h,0)
theorem Jb (hn:n<=700000000000)(g:Good n h)(a:Act)(s:Int):Good (n+641) (pM (h,s) a).1:=by
 unfold pM;cases a.1==6 with
 |true=>exact(SV hn g).mono
 |false=>
  show Good _ (vS h a).1;unfold vS;cases a.1==0 with|true=>exact(Wl g _ _ _).mono|false=>?_
  cases a.1==1 with|true=>exact(CZ g).mono|false=>?_
  cases a.1==2 with|true=>exact N0 hn g _|false=>?_
  cases a.1==3 with|true=>exact(Jf hn g).mono|false=>?_
  cases a.1==4 with|true=>exact(FE g).mono|false=>?_
  exact(El g _).mono
theorem SU (h:Host)(a:Act)(s:Int):mJ h (pM (h,s) a).1:=by
 unfold pM;cases a.1==6 with
 |true=>exact Ue h
 |false=>
  show mJ h (vS h a).1;unfold vS;cases a.1==0 with|true=>exact Yb ..|false=>?_
  cases a.1==1 with|true=>exact Lf h|false=>?_
  cases a.1==2 with|true=>exact OI ..|false=>?_
  cases a.1==3 with|true=>exact Ud h|false=>?_
  cases a.1==4 with|true=>exact Yc h|false=>?_
  exact OJ ..
theorem Zg {n:Nat}(hn:1000<=n)(a:Act)(s:Int)(k:zj n h)(f:Few h):zj (n+645000) (pM (h,s) a).1:=by
 unfold pM;cases a.1==6 with
 |true=>exact(XN hn k f).1
 |false=>
  show zj _ (vS h a).1;unfold vS;cases a.1==0 with|true=>exact(aak hn _ _ _ k).mono|false=>?_
  cases a.1==1 with|true=>exact(AM (by omega) k).mono|false=>?_
  cases a.1==2 with|true=>exact(Rt hn _ k).1.mono|false=>?_
  cases a.1==3 with|true=>exact(FB hn k).mono|false=>?_
  cases a.1==4 with|true=>exact(KE hn k).mono|false=>?_
  exact(G7 hn _ k).mono
structure Gt (n:Nat) (h0:Host) (k:Nat) (h:Host):Prop where
 good:Good ((n:Int)+641*(k:Int)) h
 sz:zj (n+645000*k) h
 stay:mJ h0 h
theorem FC {n:Nat}(hn:1000<=n/\n<=20000000){h0:Host}(hk:k<=1000)(f:Gt n h0 k h)(a:Act)(s:Int):Gt n h0 (k+1) (pM (h,s) a).1:=by refine⟨(Jb (by omega) f.good a s).mono (by push_cast;omega),(Zg (by omega) a s f.sz (aeI (f.good.ok (by omega)))).mono,f.stay.trans (SU h a s)⟩
theorem U7 {n:Nat}(hn:1000<=n/\n<=20000000){h0:Host}:∀(l:ax Act){k:Nat}{h:Host}(s:Int),k+l.length<=1000->Gt n h0 k h->Gt n h0 (k+l.length) (l.foldl pM (h,s)).1
 |[],k,h,s,_,f=>f
 |a::l,k,h,s,hk,f=>by simp only[bc]at hk;have i:=U7 hn l (k:=k+1) (h:=(pM (h,s) a).1) (pM (h,s) a).2 (by omega) (FC hn (by omega) f a s);rw[List.foldl_cons,bc,show k+(l.length+1)=k+1+l.length by omega];exact i
theorem JT (x:α):Mh (some (true,x))=some (true,x):=rfl
theorem Ei {n:Nat}(hn:1000<=n/\n<=20000000){h0:Host}(hk:k<=100)(f:Gt n h0 k h)(a:Act)(ha:zl a)(h6:(a.1==6)=false):nT h a=some (true,vS h a):=by refine ab7 h a (f.sz.mono) (by have:=ha.2.1;omega) ha.2.2.1 ?_;have:=ha.2.2.2;simp only[bT,ne_eq]at h6;omega
theorem LQ {n:Nat}(hn:1000<=n/\n<=20000000){R:Type}(k0:Int->Int->Host->aB R)(l:ax Act)(b:Host){h0:Host}(hl:l.length<=100)(ha:∀a∈l,zl a):∀(m i:Nat)(s:Int)(h:Host)(f:Nat),i+m=l.length->m<f->Gt n h0 i h->
 bm (ir k0 l b) f (s,(i:Int),h)=k0 ((l.drop i).foldl pM (h,s)).2 (l.length:Int) ((l.drop i).foldl pM (h,s)).1
 |0,i,s,h,f+1,e,_,_=>by rw[bm];unfold ir;simp only;rw[jJ,af,cq (by omega)];show k0 s (i:Int) h=k0 s _ h;rw[show i=l.length by omega]
 |m+1,i,s,h,f+1,e,hf,q=>by
  have hi:i<l.length:=by omega
  have hx:=ha _ (bz hi);have st:=FC hn (by omega) q l[i] s;have go:=λs' h'=>LQ (h0:=h0) hn k0 l b hl ha m (i+1) s' h' f (by omega) (by omega);have ei:aq ((i:Int)+1)=((i+1:Nat):Int):=by rw[ak];rfl
  have hd:l.drop i=l[i]::l.drop (i+1):=(cg hi)
  rw[bm];generalize bm (ir k0 l b) f=T at go⊢;unfold ir;simp only[ei];rw[lT,ah,bK hi,ab,hd,List.foldl_cons];have fs:pM (h,s) l[i]=bif l[i].1==6 then(tV h,s) else((vS h l[i]).1,bif l[i].1==0 then aq (s+(vS h l[i]).2) else s):=rfl
  rw[fs]at st⊢;cases h6:l[i].1==6 with|true=>rw[h6]at st;rw[ah,C5 h (q.sz.sz (by omega)) (q.sz.z.mono),ab];exact go s _ st|false=>rw[h6]at st;simp only[ab,ah,af,Ei hn (by omega) q l[i] hx h6,JT]at st⊢;cases h00:l[i].1==0 with|true=>exact go _ _ st|false=>exact go _ _ st
theorem ab5 {n:Nat}(hn:1000<=n/\n<=20000000)(h:Host)(l:ax Act)(hl:l.length<=100)(ha:∀a∈l,zl a)(g:Good (n:Int) h)(z:zj n h):vx h l=some (!l.isEmpty,Zf h l):=by
 have q:Gt n h 0 h:=⟨by simpa using g,by simpa using z,mJ.refl h⟩
 unfold vx;cases l with
 |nil=>rfl
 |cons a t=>
  have hx:=ha a (List.mem_cons_self ..);have st:=FC hn (by omega) q a 0;have go:=λ{R:Type} (k0:Int->Int->Host->aB R) (b:Host) s' h'=>LQ (R:=R) (h0:=h) hn k0 (a::t) b hl ha t.length 1 s' h' fuel (by simp;omega) (by have:=eO;simp at hl;omega);have ei:aq ((0:Int)+1)=((1:Nat):Int):=by decide
  have hd:(a::t).drop 1=t:=rfl;have e0:idx (a::t) 0=some a:=rfl;have fs:pM (h,0) a=bif a.1==6 then(tV h,0) else((vS h a).1,bif a.1==0 then aq (0+(vS h a).2) else 0):=rfl
  rw[au (by simp),ah,e0,ei];simp only[ab];have fa:Zf h (a::t)=t.foldl pM (pM (h,0) a):=rfl;rw[fa,fs];rw[fs]at st;cases h6:a.1==6 with|true=>rw[h6]at st;rw[ah,C5 h (z.sz (by omega)) (z.z.mono),ab];simp only[ah]at st⊢;rw[go _ _ _ _ st];rfl|false=>rw[h6]at st;simp only[ab,ah,af,Ei hn (by omega) q a hx h6,JT]at st⊢;cases h00:a.1==0 with|true=>simp only[ah];rw[go _ _ _ _ st];rfl|false=>simp only[af];rw[go _ _ _ _ st];rfl
theorem Vp (hm:fW m)(hk:k<=1)(u:om×Bool×Int){b:Bool}(h1:v.2.1<=3)(h2:v.2.2.2.2.1=b):QI (D3 k) (kM (bZ 38) m k).1 k ((kM (bZ 38) m k).2.1,(gq k+64,4,0),(gq k+64,4,0),u) (kM (bZ 38) m k).2.2.1 v b:=by obtain⟨_,⟨P,s⟩,_⟩:=F1 hm hk u;exact⟨0,0,P,[],[],s,h1,h2,λ_ e=>absurd rfl e,cC⟩
structure AW (k:Nat) (h:Host):Prop where
 maps:h.2.1=bZ 38
 mem:fW h.1
 tx:∃hd L,Ys h.1 h.2.2.1 hd L
 lens:h.2.2.2.1.length<=2/\h.2.2.2.2.1.length=h.2.2.2.1.length/\h.2.2.2.2.2.1.length=h.2.2.2.1.length/\h.2.2.2.2.2.2.1.length=h.2.2.2.1.length
 vec:∀v∈h.2.2.2.2.2.1,v.2.1<=3
 rx:∀j,j<k->Yz (D3 j) h j
theorem TW (r:AW k h)(hk:k<h.2.2.2.1.length):AW (k+1) (uI k h):=by
 have hn:jB k=1280+1792*k:=rfl;obtain⟨l1,l2,l3,l4⟩:=r.lens;have hv:k<h.2.2.2.2.2.1.length:=by omega
 have hp:k<h.2.2.2.2.1.length:=by omega
 have hb:k<h.2.2.2.2.2.2.1.length:=by omega
 have hk1:k<=1:=by omega
 unfold uI;simp only[al hk,al hv];unfold BN;rw[r.maps];obtain⟨o1,⟨P,o2⟩,o3⟩:=F1 r.mem hk1 ((Bg k).2.2.2.1,(Bg k).2.2.2.2.1,Bb h.2.2.2.1[k]);have hv3:=r.vec _ (bz hv);have q:=Vp r.mem hk1 ((Bg k).2.2.2.1,(Bg k).2.2.2.2.1,Bb h.2.2.2.1[k]) (v:=(h.2.2.2.2.2.1[k].1,h.2.2.2.2.2.1[k].2.1,0,0,false,false)) (b:=false) hv3 rfl;generalize kM (bZ 38) h.1 k=O at o1 o2 o3 q;obtain⟨hd,L,s⟩:=r.tx;refine⟨rfl,o1,⟨hd,L,s.frame λi hi=>o3 i (by omega) (by omega)⟩,⟨by show(List.set _ _ _).length<=2;rw[az];exact l1,by show(List.set _ _ _).length=(List.set _ _ _).length;rw[az,az];exact l2,by show(List.set _ _ _).length=(List.set _ _ _).length;rw[az,az];exact l3,by show(List.set _ _ _).length=(List.set _ _ _).length;rw[az,az];exact l4⟩,λv hv'=>?_,λj hj=>?_⟩;rcases fJ hv' with e|e;exact r.vec v e;rw[e];exact hv3;by_cases hjk:j=k;subst hjk;exact⟨_,_,_,_,bw hk,bw hp,bw hv,bw hb,q⟩;have hj2:jB j=1280+1792*j:=rfl;obtain⟨q',p',v',b',g1,g2,g3,g4,g5⟩:=r.rx j (by omega);refine⟨q',p',v',b',?_,?_,?_,?_,g5.frame λi h1 h2=>o3 i (by omega) (by omega)⟩;show(List.set _ _ _)[j]?=_;rw[aF (cc hjk)];exact g1;show(List.set _ _ _)[j]?=_;rw[aF (cc hjk)];exact g2;show(List.set _ _ _)[j]?=_;rw[aF (cc hjk)];exact g3;show(List.set _ _ _)[j]?=_;rw[aF (cc hjk)];exact g4
theorem Mv {h:Host}(r:AW 0 h):∀k,k<=h.2.2.2.1.length->AW k (ia h k)
 |0,_=>r
 |k+1,hk=>TW (Mv r k (by omega)) (by have e:=(oQ h k).rx;show k<(ia h k).2.2.2.1.length;omega)
theorem AW.live (r:AW h.2.2.2.1.length h):Live D3 h:=⟨r.maps,r.mem,r.tx,λk hk=>r.rx k hk⟩
theorem GX (h:Host):∀k,yo h (lK h k)/\(lK h k).1.length=h.1.length
 |0=>⟨yo.refl h,rfl⟩
 |k+1=>by
  have i:=GX h k;refine⟨i.1.trans (GY ..),Eq.trans ?_ i.2⟩;show(uF (lK h k) k 1000).2.1.length=_;unfold uF;cases (lK h k).2.2.2.1[k]? with|none=>rfl|some rx=>?_
  cases (lK h k).2.2.2.2.1[k]? with|none=>rfl|some pl=>?_
  exact Om ..
theorem Df (h:Host):∀k,adt (jd h) (returned h k)
 |0=>⟨rfl⟩
 |k+1=>by have i:=Df h k;have e:returned h (k+1)=Ke h.2.2.1.2.2.1 k (returned h k):=rfl;rw[e];unfold Ke;cases h.2.2.1.2.2.1[k]? with|none=>exact i|some x=>refine⟨?_⟩;show Vw _ _=_;have e:=i.e;generalize returned h k=r at e⊢;rw[e];rfl
theorem Tp (hn:n<=1000000000000)(g:Good n h)(f:Live Q h):Live D3 (tV h):=by
 have hl:=mD g.lens;have hv:∀v∈h.2.2.2.2.2.1,v.2.1<=3:=by intro v hv;obtain⟨k,hk⟩:=List.getElem?_of_mem hv;obtain⟨hlt,_⟩:=aA.1 hk;obtain⟨q,p,v',b,g1,g2,g3,g4,hd,x,P,C,F,s,w1,w2,w3,w4⟩:=f.rx k (by omega);rw[hk]at g3;rw[cZ g3];exact w1
 have gp:=Af g h.2.2.2.1.length;obtain⟨kp,km⟩:=GX h h.2.2.2.1.length;have e0:jd h=lK h h.2.2.2.1.length:=rfl;have er:=(Df h h.2.2.1.2.2.1.length).e;rw[<-e0]at gp kp km;have ee:iH h=OU (returned h h.2.2.1.2.2.1.length):=rfl;generalize returned h h.2.2.1.2.2.1.length=R at er ee;have x1:(iH h).1=(jd h).1:=by rw[ee,er];rfl
 have x2:(iH h).2.1=(jd h).2.1:=by rw[ee,er];rfl
 have x3:(iH h).2.2.2.1=(jd h).2.2.2.1:=by rw[ee,er];rfl
 have x4:(iH h).2.2.2.2.1=(jd h).2.2.2.2.1:=by rw[ee,er];rfl
 have x5:(iH h).2.2.2.2.2.1=(jd h).2.2.2.2.2.1:=by rw[ee,er];rfl
 have x6:(iH h).2.2.2.2.2.2.1=(jd h).2.2.2.2.2.2.1:=by rw[ee,er];rfl
 have xt:∃y,(iH h).2.2.1=(yO.1,yO.2.1,yO.2.2.1,y):=⟨_,by rw[ee];rfl⟩
 obtain⟨y,xt⟩:=xt;have np:=(BP (a:=256) (b:=128) (n:=8)).1;have r0:AW 0 (iH h):=by refine⟨by rw[x2,kp.maps];exact f.maps,by rw[x1];exact fW.of gp.mem (by rw[km];exact f.mem.ln),⟨0,[],?_⟩,?_,λv hv'=>?_,λj hj=>by omega⟩;rw[xt];refine⟨rfl,⟨by simp,λj hj=>by simp at hj⟩,rfl,(λc hc=>by cases hc),?_⟩;show(ga 256 128 8).1.1=256/\(ga 256 128 8).1.2.1=128/\(ga 256 128 8).1.2.2.1=8;rw[np];exact⟨rfl,rfl,rfl⟩;rw[x3,x4,x5,x6,kp.rx,kp.pl,kp.vec,kp.pol];exact hl;rw[x5,kp.vec]at hv';exact hv v hv'
 unfold tV;rw[g.ok hn,ah];have e3:h.2.2.2.1.length=(iH h).2.2.2.1.length:=by rw[x3,kp.rx]
 have ra:=Mv r0 h.2.2.2.1.length (by omega);refine AW.live ?_;rw[(oQ (iH h) h.2.2.2.1.length).rx,<-e3];exact ra
theorem K1 (hn:n<=1000000000000)(g:Good n h)(f:Live Q h)(b:Int):Live D3 (iO h b).1:=by
 cases hb:dp b 1 1000 with
 |true=>have hb:=aX.1 hb;obtain⟨c,rfl⟩:=aG (show 0<=b by omega);exact EL hn g f (c:=c) ⟨by omega,by omega⟩ λk C q v b q' v' b' _ _ _ _ _ _=>⟨λ_ _ _=>trivial,λ_ _ _=>trivial,λ_ _ _=>trivial⟩
 |false=>unfold iO;rw[hb,eM];exact f.CR λ_ _ _ _ _ _ _=>trivial
theorem WY (hn:n<=400000000000)(g:Good n h)(f:Live D3 h)(a:Act)(s:Int):Live D3 (pM (h,s) a).1:=by
 unfold pM;cases a.1==6 with
 |true=>exact Tp (by omega) g f
 |false=>
  show Live D3 (vS h a).1;unfold vS;cases a.1==0 with|true=>exact W1 g f _ _ _|false=>?_
  cases a.1==1 with|true=>exact(C8 (by omega) g f).1|false=>?_
  cases a.1==2 with|true=>exact Od hn g f _|false=>?_
  cases a.1==3 with|true=>exact(JG hn g f).CR λ_ _ _ _ _ _ _=>trivial|false=>?_
  cases a.1==4 with|true=>exact L9 (by omega) g f λ_ _ _ _ _ _ _ _ _ _=>trivial|false=>?_
  exact K1 (by omega) g f _
theorem JH {n:Int}:∀(l:ax Act){h:Host}(k:Nat)(s:Int),n+641*((k+l.length:Nat):Int)<=300000000000->Good (n+641*(k:Int)) h->Live D3 h->Live D3 (l.foldl pM (h,s)).1
 |[],h,k,s,_,_,f=>f
 |a::l,h,k,s,hk,g,f=>by simp only[bc]at hk;have g':=Jb (by omega) g a s;have f':=WY (by omega) g f a s;have i:=JH (n:=n) l (h:=(pM (h,s) a).1) (k+1) (pM (h,s) a).2 (by omega) (g'.mono (by push_cast;omega)) f';rw[List.foldl_cons];exact i
abbrev Mt (r:Nat):Nat->ax Fm->bF->Vector->Bool->Prop:=λ_ C q v b=>q.2.2.2.2.1=false/\(C≠[]->C.length+(bif b then 0 else(v.2.1-v.2.2.2.1).toNat)<=r)
abbrev amJ (r:Nat):Nat->ax Fm->bF->Vector->Bool->Prop:=λ_ C q v b=>q.2.2.2.2.1=false/\(C≠[]->C.length<=r/\(b=false->v.2.2.2.2.2=false->C.length+(v.2.1-v.2.2.2.1).toNat+1<=r))
theorem W0 (g:Good n h)(f:Live adB h):Live (Mt 7) h:=by refine⟨f.maps,f.mem,f.tx,λk hk=>?_⟩;obtain⟨q,p,v,b,g1,g2,g3,g4,hd,x,P,C,F,s,w1,w2,w3,w4⟩:=f.rx k hk;have hv:=(qY v).1 (g.vec v (aW g3));have hc:=s.com.len;refine⟨q,p,v,b,g1,g2,g3,g4,hd,x,P,C,F,s,w1,w2,w3,w4,λ_=>?_⟩;cases b with|true=>show C.length+0<=7;omega|false=>show C.length+(v.2.1-v.2.2.2.1).toNat<=7;omega
theorem Tq (hn:n<=1000000000000)(g:Good n h){r c:Nat}(hc:1<=c/\c<=1000)(f:Live (Mt r) h):Live (Mt (r-1)) (iO (ta h) (c:Int)).1:=by
 have t:Live (amJ r) (ta h):=by
  refine L9 hn g f λk C q v b hv w1 w2 w3 hA=>⟨hA.1,λhC=>?_⟩
  have ts:=Hp hv;have hr:=hA.2 hC;cases b with|true=>have hr:C.length+0<=r:=hr;exact⟨by omega,λe=>by cases e⟩|false=>have hr:C.length+(v.2.1-v.2.2.2.1).toNat<=r:=hr;refine⟨by omega,λ_ e=>?_⟩;rcases ts.2.2.2.2 (w3 rfl hC) w2 with g1|g1;rw[e]at g1;cases g1;rw[ts.2.1];omega
 refine EL hn (FE g) t hc λk C q v b q' v' b' hv w1 w2 w3 hq hA=>⟨λhb hb' hv'=>⟨hq.trans hA.1,λhC=>?_⟩,λ_ _ _=>⟨hq.trans hA.1,λe=>absurd rfl e⟩,λ_ hl hb'=>⟨hq.trans hA.1,λhC=>?_⟩⟩
 have:=(hA.2 hC).2 hb.1 hb.2;subst hb' hv';show C.length+(v'.2.1-v'.2.2.2.1).toNat<=r-1;omega;subst hb';have hC':C≠[]:=λe=>hC (by rw[e];simp);have:=(hA.2 hC').1;have:0<C.length:=List.length_pos_iff.2 hC';show(C.drop c).length+0<=r-1;rw[aO];omega
theorem BE (b:Int){n:Int}{h:Host}(g:Good n h):∀k,Good n (xO b k h)
 |0=>g
 |k+1=>El (FE (BE b g k)) b
theorem GO {n:Int}(hn:n<=1000000000000){h:Host}(g:Good n h){r c:Nat}(hc:1<=c/\c<=1000)(f:Live (Mt r) h):∀k,Live (Mt (r-k)) (xO (c:Int) k h)
 |0=>f
 |k+1=>by have i:=GO hn g hc f k;have:=Tq hn (BE (c:Int) g k) hc i;rw[show r-(k+1)=r-k-1 by omega];exact this
theorem adk (h:Host):(ta h).2.2.1=h.2.2.1:=by unfold ta;cases eZ h with|false=>rfl|true=>exact(qW yl h _).tx
theorem T1 (h:Host)(b:Int):(iO h b).1.2.2.1=h.2.2.1:=by unfold iO;cases eZ h&&dp b 1 1000 with|false=>rfl|true=>exact(zP b h _).tx
theorem Zc (h:Host):(lV h).2.2.1=h.2.2.1:=by unfold lV;cases eZ h with|false=>rfl|true=>exact(qW vR h _).tx
theorem Mx (h:Host)(b:Int):∀k,(xO b k h).2.2.1=h.2.2.1
 |0=>rfl
 |k+1=>(T1 _ b).trans ((adk _).trans (Mx h b k))
theorem PC (hn:n<=300000000000)(g:Good n h)(f:Live Q h){c r:Nat}(hc:1<=c/\c<=1000)(hr:7<=r/\r<=200):Good (n+640) (tj h (c:Int) (r:Int))/\Live (Mt 0) (tj h (c:Int) (r:Int))/\J9 (tj h (c:Int) (r:Int))=true:=by
 have gt:=CZ g;obtain⟨ft,wt⟩:=C8 (by omega) g f;have gf:=Jf (by omega) gt;have ff:=JG (by omega) gt ft;have e:tj h (c:Int) (r:Int)=xO (c:Int) r (lV (dM h)):=by unfold tj;rw[g.ok (by omega),aX.2 ⟨by omega,by omega⟩,aX.2 ⟨by omega,by omega⟩];rfl
 have gd:=BE (c:Int) gf r;have fd:=GO (by omega) gf hc (W0 gf ff) r;have tx:=(Mx (lV (dM h)) (c:Int) r).trans (Zc _);rw[show 7-r=0 by omega]at fd;rw[e];refine⟨gd,fd,?_⟩;unfold J9;rw[gd.ok (by omega),tx,wt];simp only[eD,bB];rw[jJ,cd,bB,aJ];intro q hq;obtain⟨k,hk⟩:=List.getElem?_of_mem hq;obtain⟨hlt,_⟩:=aA.1 hk;have h2:=Cd gd;obtain⟨q',p,v,b,g1,g2,g3,g4,hd,x,P,C,F,s,w1,w2,w3,w4,w5⟩:=fd.rx k hlt;rw[hk]at g1;have g1:=cZ g1;subst g1;have hC:C=[]:=by cases C with|nil=>rfl|cons y C=>have:=w5 (by simp);simp at this
 subst hC;have nx:=Mg fd.mem (b:=jB k+64) (by unfold jB;omega) s.com;have hc0:yB (xO (c:Int) r (lV (dM h))).2.1 (xO (c:Int) r (lV (dM h))).1 0 q=false:=by unfold yB;rw[fd.maps,s.drv,nx,eM]
 rw[hc0,w4];rfl
theorem adl:Ys m yO 0 []:=by have np:=(BP (a:=256) (b:=128) (n:=8)).1;refine⟨rfl,⟨by simp,λj hj=>by simp at hj⟩,rfl,(λc hc=>by cases hc),?_⟩;show(ga 256 128 8).1.1=256/\(ga 256 128 8).1.2.1=128/\(ga 256 128 8).1.2.2.1=8;rw[np];exact⟨rfl,rfl,rfl⟩
theorem WZ (f:Filter)(s:dm)(c:Bool):AW 0 (P8 f s c 38):=by refine⟨rfl,⟨λx hx=>?_,?_⟩,⟨0,[],adl⟩,⟨bX _,rfl,rfl,rfl⟩,(λv hv=>by cases hv),λj hj=>by omega⟩;have hx:x∈List.replicate 38 (rb 128):=hx;rw[(List.mem_replicate.1 hx).2];exact tc 128;show(List.replicate 38 (rb 128)).length=38;simp
theorem U8 {l:ax α}{j:Nat}(hl:l.length=k)(hj:j<k)(x y:α):((l++[x]).set k y)[j]?=l[j]?:=by rw[aF (by omega),bf (by omega)]
theorem P0 {l:ax α}(hl:l.length=k)(x y:α):((l++[x]).set k y)[k]?=some y:=bw (by simp;omega)
theorem U9 {l:ax α}{j:Nat}(hl:l.length=k)(hj:j<k)(x:α):(l++[x])[j]?=l[j]?:=bf (by omega)
theorem NY {l:ax α}(hl:l.length=k)(x:α):(l++[x])[k]?=some x:=by rw[<-hl];simp
theorem Xu (r:AW h.2.2.2.1.length h)(hk:h.2.2.2.1.length<=1)(h3:v.2.1<=3/\v.2.2.2.2.1=false):AW (h.2.2.2.1.length+1) (GR (h.1,h.2.1,h.2.2.1,h.2.2.2.1++[((0,0,0,0),(0,0,0),(0,0,0),((0,0,0,0,0,0,0,0,0,0,0,0,0,0,0,([]:Bytes)),0,0),false,0)],h.2.2.2.2.1++[(0,0,0,([]:dC))],h.2.2.2.2.2.1++[v],h.2.2.2.2.2.2.1++[false],h.2.2.2.2.2.2.2) h.2.2.2.1.length)/\(GR (h.1,h.2.1,h.2.2.1,h.2.2.2.1++[((0,0,0,0),(0,0,0),(0,0,0),((0,0,0,0,0,0,0,0,0,0,0,0,0,0,0,([]:Bytes)),0,0),false,0)],h.2.2.2.2.1++[(0,0,0,([]:dC))],h.2.2.2.2.2.1++[v],h.2.2.2.2.2.2.1++[false],h.2.2.2.2.2.2.2) h.2.2.2.1.length).2.2.2.1.length=h.2.2.2.1.length+1:=by obtain⟨l0,l2,l3,l4⟩:=r.lens;generalize hkk:h.2.2.2.1.length=k at*;have l1:=hkk;have hn:jB k=1280+1792*k:=rfl;unfold GR;simp only[NY l1,r.maps];obtain⟨o1,⟨P,o2⟩,o3⟩:=F1 r.mem hk (((0,0,0,0,0,0,0,0,0,0,0,0,0,0,0,([]:Bytes)),0,0),false,0);have q:=Vp r.mem hk (((0,0,0,0,0,0,0,0,0,0,0,0,0,0,0,([]:Bytes)),0,0),false,0) (v:=v) (b:=false) h3.1 h3.2;generalize kM (bZ 38) h.1 k=O at o1 o2 o3 q;obtain⟨hd,L,st⟩:=r.tx;refine⟨⟨rfl,o1,⟨hd,L,st.frame λi hi=>o3 i (by omega) (by omega)⟩,?_,λw hw=>?_,λj hj=>?_⟩,?_⟩;show(List.set _ _ _).length<=2/\(List.set _ _ _).length=(List.set _ _ _).length/\(_++[_]).length=(List.set _ _ _).length/\(_++[_]).length=(List.set _ _ _).length;simp only[az,ai,br];omega;rcases aw.1 hw with e|e;exact r.vec w e;rw[bG.1 e];exact h3.1;by_cases hjk:j=k;subst hjk;exact⟨_,_,v,false,P0 l1 _ _,P0 l2 _ _,NY l3 v,NY l4 false,q⟩;have hj2:jB j=1280+1792*j:=rfl;obtain⟨q',p',v',b',g1,g2,g3,g4,g5⟩:=r.rx j (by omega);exact⟨q',p',v',b',(U8 l1 (by omega) _ _).trans g1,(U8 l2 (by omega) _ _).trans g2,(U9 l3 (by omega) v).trans g3,(U9 l4 (by omega) false).trans g4,g5.frame λi h1 h2=>o3 i (by omega) (by omega)⟩;show(List.set _ _ _).length=_;simp only[az,ai,br];omega
theorem Jn (f:Filter)(s:dm)(c:Bool):∀vs:ax Vector,vs.length<=2->(∀v∈vs,v.2.1<=3/\v.2.2.2.2.1=false)->AW (wM f s c vs).2.2.2.1.length (wM f s c vs)/\(wM f s c vs).2.2.2.1.length=vs.length
 |[],_,_=>⟨WZ f s c,rfl⟩
 |v::vs,hl,hv=>by simp only[bc]at hl;have i:=Jn f s c vs (by omega) λw hw=>hv w (by simp[hw]);have o:=Xu (v:=v) i.1 (by omega) (hv v (by simp));rw[wM];rw[i.2]at o;refine⟨?_,by rw[o.2];rfl⟩;rw[o.2];exact o.1
theorem V4 {k:Host}(e:Lw h=Lw k)(f:Live Q k):Live Q h:=by obtain⟨a1,a2,a3,a4,a5,a6,a7,a8⟩:=h;obtain⟨b1,b2,b3,b4,b5,b6,b7,b8⟩:=k;unfold Lw at e;simp only[Prod.mk.injEq]at e;obtain⟨rfl,rfl,rfl,rfl,rfl,rfl,rfl⟩:=e;exact⟨f.maps,f.mem,f.tx,f.rx⟩
theorem SS (f:Gs h):Live D3 h:=by obtain⟨fl,s,c,vs,hl,e,hv⟩:=f.is;exact V4 e (Jn fl s c vs hl hv).1.live
theorem aen {a:dC}{k:Bool->aB Bool}(ht:k true=some true)(hk:a.length<=1048576->Ends (k false) (λb=>b=true)):Ends (aa (EK a) k) (λb=>b=true):=by unfold EK;rw[ab];by_cases h:((a.length:Int))>1048576;rw[au h,ht];exact Ends.pure rfl;rw[ar h];exact hk (by omega)
theorem Ends.true {o:aB Bool}(h:Ends o (λb=>b=true)):o=some true:=by obtain⟨x,h1,rfl⟩:=h;exact h1
theorem aiy {a:dC}(ha:VS (.sl (.int .u8)) a)(hl:a.length<=1048576){i:Int}(h0:0<=i)(h1:i<=1000000):Ends (CA a i) λx=>0<=x/\x<=255:=by
 unfold CA;refine Ends.cond (λ_=>Ends.pure ⟨eo _,by omega⟩) λk=>?_;have k:((a.length:Int))≠0:=by simpa using k
 have m1:=Int.tmod_nonneg (a.length:Int) (a:=i*5+1) (by omega);have m2:=Int.tmod_lt_of_pos (i*5+1) (b:=(a.length:Int)) (by omega);rw[ak (n:=i*5),ak (n:=i*5+1)];refine Ends.Zl k (Ends.idx m1 m2 λhi=>Ends.pure ?_);have hx:0<=a[(Int.tmod (i*5+1) (a.length:Int)).toNat]/\a[(Int.tmod (i*5+1) (a.length:Int)).toNat]<=255:=ha.2 _ (bz hi);rw[ak];exact hx
def lR (h:Host):bW:=h.2.2.2.2.2.2.2.2.2.2.2.1
theorem VR (k:Nat)(h:Host):∀n,lR (OZ k n h)=lR h
 |0=>rfl
 |n+1=>by refine Eq.trans ?_ (VR k h n);show lR (Yu k (OZ k n h))=_;unfold Yu;cases (OZ k n h).2.2.2.2.2.1[k]?<;>rfl
theorem R8 (k:Nat)(h:Host):lR (iI k h)=lR h:=by unfold iI;cases h.2.2.2.1[k]? with|none=>rfl|some x=>exact VR k _ _
theorem Us (k:Nat)(h:Host):lR (nw k h)=lR h:=by unfold nw;cases h.2.2.2.2.2.1[k]?<;>rfl
theorem DY {g:Nat->Host->Host}(hg:∀k h,lR (g k h)=lR h)(h:Host):∀k,lR (ik g k h)=lR h
 |0=>rfl
 |k+1=>(hg k _).trans (DY hg h k)
theorem Ur (h:Host):lR (lV h)=lR h:=by unfold lV;cases eZ h with|false=>rfl|true=>exact DY R8 h _
theorem Yn (h:Host):lR (ta h)=lR h:=by unfold ta;cases eZ h with|false=>rfl|true=>exact DY Us h _
theorem R9 (b:Int)(k:Nat)(s:Int×Host):lR (uK b k s).2=lR s.2:=by
 unfold uK;cases s.2.2.2.2.2.2.1[k]? with|none=>rfl|some v=>?_
 cases s.2.2.2.2.2.2.2.1[k]? with|none=>rfl|some p=>?_
 cases s.2.2.2.2.1[k]? with|none=>rfl|some x=>?_
 cases s.2.2.2.2.2.1[k]? with|none=>rfl|some pl=>?_
 simp only;cases p||(pF v).2<;>rfl
theorem Ht (b:Int)(h:Host):∀k,lR (mc b k h).2=lR h
 |0=>rfl
 |k+1=>(R9 b k _).trans (Ht b h k)
theorem OW (h:Host)(b:Int):lR (iO h b).1=lR h:=by unfold iO;cases eZ h&&dp b 1 1000 with|false=>rfl|true=>exact Ht b h _
theorem Hs (h:Host)(b:Int):∀k,lR (xO b k h)=lR h
 |0=>rfl
 |k+1=>(OW _ b).trans ((Yn _).trans (Hs h b k))
theorem Lp (h:Host):(lR h).length<=(lR (dM h)).length:=by unfold dM;cases eZ h with|false=>exact aR _|true=>simp only[ah];show _<=(lR h++_).length;rw[ai];omega
theorem Uq (h:Host)(b r:Int):(lR h).length<=(lR (tj h b r)).length:=by unfold tj;cases eZ h&&(dp b 1 1000&&dp r 0 200)with|false=>exact aR _|true=>rw[ah,Hs,Ur];exact Lp h
theorem NP (a:dC)(ha:VS (.sl (.int .u8)) a):yd a=some true:=by
 refine Ends.true ?_;unfold yd;refine aen rfl λhl=>?_;rw[af];refine(Um hl).bind λr2 p2=>?_;obtain⟨h,l⟩:=r2;simp only at p2⊢;obtain⟨f,hn,hact⟩:=p2;have lv:=SS f;have q0:Gt 2000 h 0 h:=⟨f.good.mono,by simpa using f.sz,mJ.refl h⟩
 rw[ab5 (n:=2000) (by omega) h l (by omega) hact (f.good.mono) f.sz,ab];have r0:=U7 (by omega) l 0 (by omega) q0;have lx:=JH (n:=2000) l (h:=h) 0 0 (by omega) (f.good.mono) lv;unfold Zf;simp only;generalize (l.foldl pM (h,0)).1=x at r0 lx⊢;have key:∀k:Int->aB Bool,(∀z,0<=z->z<=255->Ends (k z) λb=>b=true)->Ends (aa (CA a 0) k) λb=>b=true:=λk hk=>(aiy ha hl (i:=0) (by omega) (by omega)).bind λz hz=>hk z hz.1 hz.2;have body:∀z:Int,0<=z->z<=255->Ends (aa (mO x (aq (1+Int.tmod z 4)) 30) λr5=>aa (aa (qw r5) λr6=>cond r6 (aa (gI r5) λr7=>cond r7 (some (decide (((List.length r5.2.2.2.2.2.2.2.2.2.2.2.1:Int))>=((List.length x.2.2.2.2.2.2.2.2.2.2.2.1:Int))))) (some false)) (some false)) λq8=>some q8) λb=>b=true:=by intro z z0 z1;have t0:=Int.tmod_nonneg 4 z0;have t1:=Int.tmod_lt_of_pos z (b:=4) (by omega);rw[ak];obtain⟨c,hc⟩:=aG (show 0<=1+Int.tmod z 4 by omega);rw[hc];obtain⟨gd,ld,qd⟩:=PC (n:=1000000) (by omega) (r0.good.mono) lx (c:=c) (r:=30) (by omega) (by omega);have w:=Uq x (c:Int) (30:Int);have zd:=V9 (by omega) (c:Int) (30:Int) r0.sz;rw[Wt x _ _ (r0.sz.mono),ab];have gd:Good (1000000+640) (tj x (c:Int) (30:Int)):=gd;have qd:J9 (tj x (c:Int) (30:Int))=true:=qd;generalize tj x (c:Int) (30:Int)=y at gd qd w zd⊢;have hq:=WB y (zd.sz (by omega)) (zd.z.mono);have ho:=rr y (zd.sz (by omega));rw[qd]at hq;rw[gd.ok (by omega)]at ho;rw[hq,ab,ah,ho,ab,ah];refine Ends.pure (au ?_);unfold lR at w;omega
 cases !l.isEmpty with|true=>exact key _ λz z0 z1=>Ends.Zl (by decide) (body z z0 z1)|false=>exact key _ λz z0 z1=>Ends.Zl (by decide) (body z z0 z1)
end
end Go.Pu
