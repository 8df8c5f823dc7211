import Derived.Test.YtnmppgnbjfdffaaGreatPure
import Derived.Test.YtnmppgnbjfdffaaGreatPuX2
namespace Go.Pu
open Go.Dn
set_option linter.unusedSimpArgs false
set_option linter.unusedVariables false
noncomputable section
variable {r:Bool} {f fl:Filter} {h h':Host} {N a b d i n z:Int} {hd k x:Nat} {Q:Nat->ay Fx->bC->Vector->Bool->Prop} {p:aQ} {q:bC} {g:eY} {st:cV} {t:eM} {R α:Type} {v:Vector} {l:ay Act} {C:ay Fx} {e ps:ay aQ} {s:ay Stream×bC×cX} {L:ay cg} {F P:fR} {m m':cg}
/- What makes segments and packets valid. -/
theorem Vk {s k f w:Int}{x:Bytes}(h1:0<=a/\a<=65535)(h2:0<=b/\b<=65535)(h3:0<=s/\s<=4294967295)(h4:0<=k/\k<=4294967295)(h5:0<=f/\f<=31)(h6:0<=w/\w<=65535)(hx:x.length<=320):qK (6,a,b,s,k,f,w,x)=true:=by have AG:decide ((x.length:Int)>320)=false:=du;simp only[qK,aX.2 h1,aX.2 h2,aX.2 h3,aX.2 h4,aX.2 h5,aX.2 h6,AG];rfl
theorem afu {x:Bytes}(h1:0<=a/\a<=65535)(h2:0<=b/\b<=65535)(hx:x.length<=320):qK (17,a,b,0,0,0,0,x)=true:=by have AG:decide ((x.length:Int)>320)=false:=du;simp only[qK,aX.2 h1,aX.2 h2,AG];rfl
theorem acq {x:Bytes}(h:qK g=true)(hx:x.length<=320):qK (g.1,g.2.1,g.2.2.1,g.2.2.2.1,g.2.2.2.2.1,g.2.2.2.2.2.1,g.2.2.2.2.2.2.1,x)=true:=by have e:decide ((x.length:Int)>320)=false:=du;unfold qK at h⊢;simp only[ab]at h⊢;exact⟨h.1,h.2.1,by rw[e];rfl,h.2.2.2⟩
theorem aeb {v t l s:Int}(h1:0<=a/\a<=281474976710655)(h2:0<=b/\b<=281474976710655)(h3: -1<=v/\v<=4095)(h4:0<=t/\t<=255)(h5:0<=i/\i<=65535)(h6:0<=l/\l<=255)(h7:0<=s/\s<=4294967295)(h8:0<=d/\d<=4294967295)(hg:qK g=true):nN (a,b,v,t,i,l,s,d,g)=true:=by simp only[nN,aX.2 h1,aX.2 h2,aX.2 h3,aX.2 h4,aX.2 h5,aX.2 h6,aX.2 h7,aX.2 h8,hg];rfl
theorem UW (p:aQ):fZ p=true↔nN p=true/\p.2.2.2.2.2.2.2.2.2.2.2.2.2.2.2.length<=128:=by unfold fZ cD;rw[ab,ab,cH,aE];constructor;rintro⟨⟨h1,_⟩,h2⟩;exact⟨h1,by omega⟩;rintro⟨h1,h2⟩;exact⟨⟨h1,Or.inl (by omega)⟩,by omega⟩
theorem ZZ (h:qK g=true)(h6:g.1=6):(0<=g.2.1/\g.2.1<=65535)/\(0<=g.2.2.1/\g.2.2.1<=65535)/\(0<=g.2.2.2.1/\g.2.2.2.1<=4294967295)/\(0<=g.2.2.2.2.1/\g.2.2.2.2.1<=4294967295)/\(0<=g.2.2.2.2.2.1/\g.2.2.2.2.2.1<=31)/\(0<=g.2.2.2.2.2.2.1/\g.2.2.2.2.2.2.1<=65535)/\g.2.2.2.2.2.2.2.length<=320:=by have hl:=Cr h;unfold qK at h;rw[h6]at h;simp only[ab,aX,show((6:Int)==17)=false from rfl,af]at h;exact⟨h.1,h.2.1,h.2.2.2.2.1,h.2.2.2.2.2.1,h.2.2.2.2.2.2.1,h.2.2.2.2.2.2.2,hl⟩
theorem NA (h:qK g=true)(h6:g.1=6){s f:Int}{x:Bytes}(hs:0<=s/\s<=4294967295)(hf:0<=f/\f<=31)(hx:x.length<=320):qK (g.1,g.2.1,g.2.2.1,s,g.2.2.2.2.1,f,g.2.2.2.2.2.2.1,x)=true:=by have k:=ZZ h h6;rw[h6];exact Vk k.1 k.2.1 hs k.2.2.2.1 hf k.2.2.2.2.2.1 hx
theorem B7 (h:nN p=true)(hi:0<=i/\i<=65535)(hg:qK g=true):nN (p.1,p.2.1,p.2.2.1,p.2.2.2.1,i,p.2.2.2.2.2.1,p.2.2.2.2.2.2.1,p.2.2.2.2.2.2.2.1,g)=true:=by unfold nN at h⊢;simp only[ab]at h⊢;exact⟨h.1,h.2.1,h.2.2.1,h.2.2.2.1,h.2.2.2.2.1,aX.2 hi,h.2.2.2.2.2.2.1,h.2.2.2.2.2.2.2.1,hg⟩
theorem Mt (h:nN p=true):0<=p.2.2.2.2.1/\p.2.2.2.2.1<=65535:=by unfold nN at h;simp only[ab]at h;exact aX.1 h.2.2.2.2.2.1
theorem ahk (h:0<=i/\i<=65535):0<=Int.tmod (au (i+1)) 65536/\Int.tmod (au (i+1)) 65536<=65535:=by rw[al];have h1:=Int.tmod_nonneg 65536 (a:=i+1) (by omega);have h2:=Int.tmod_lt_of_pos (i+1) (b:=65536) (by omega);omega
theorem ae1 {s:Int}{n:Nat}(h:0<=s/\s<=4294967295)(hn:n<=320):0<=Int.tmod (au (s+(n:Int))) 4294967296/\Int.tmod (au (s+(n:Int))) 4294967296<=4294967295:=by rw[al];have h1:=Int.tmod_nonneg 4294967296 (a:=s+(n:Int)) (by omega);have h2:=Int.tmod_lt_of_pos (s+(n:Int)) (b:=4294967296) (by omega);omega
theorem CD (v:Vector):CC v=true↔1<=v.2.2.1/\(v.1<=v.2.2.1\/v.2.1<=v.2.2.2.1):=by unfold CC;by_cases h1:v.2.2.1>=1;rw[aq h1,ah];by_cases h2:v.2.2.1>=v.1;rw[aq h2];simp;omega;rw[ar h2,af,aE];omega;rw[ar h1];simp;omega
theorem akp (v:Vector):dU v=(dF v.1 1 64&&(dF v.2.1 0 64&&(dF v.2.2.1 0 1000000&&(dF v.2.2.2.1 0 1000000&&((decide (v.2.2.1>0)||(v.2.2.2.1==0))&&(v.2.2.2.2.2==(CC v&& !v.2.2.2.2.1))))))):=by have h:=GF v;unfold nf at h;simp only[eU,ahE,ae]at h;generalize dU v=w at h⊢;revert h;cases dF v.1 1 64;(intro h;cases h;rfl);cases dF v.2.1 0 64;(intro h;cases h;rfl);cases dF v.2.2.1 0 1000000;(intro h;cases h;rfl);cases dF v.2.2.2.1 0 1000000;(intro h;cases h;rfl);cases decide (v.2.2.1>0)<;>cases (v.2.2.2.1==0)<;>cases CC v<;>(intro h;cases h;rfl)
theorem tZ (v:Vector):dU v=true↔(1<=v.1/\v.1<=64)/\(0<=v.2.1/\v.2.1<=64)/\(0<=v.2.2.1/\v.2.2.1<=1000000)/\(0<=v.2.2.2.1/\v.2.2.2.1<=1000000)/\(v.2.2.1>0\/v.2.2.2.1=0)/\v.2.2.2.2.2=(CC v&& !v.2.2.2.2.1):=by rw[akp];simp only[ab,aX,cH,aE,bm]
theorem G3 (h1:1<=v.1/\v.1<=64)(h2:0<=v.2.1/\v.2.1<=64)(h3:0<=v.2.2.1/\v.2.2.1<=1000000)(h4:0<=v.2.2.2.1/\v.2.2.2.1<=1000000)(h5:v.2.2.1>0\/v.2.2.2.1=0)(hr:v.2.2.2.2.2=true->CC v=true/\v.2.2.2.2.1=false):dU (sC v)=true:=by unfold sC;cases hd:CC v&& !v.2.2.2.2.1 with|true=>exact(tZ _).2 ⟨h1,h2,h3,h4,h5,by show true=(CC v&& !v.2.2.2.2.1);rw[hd]⟩|false=>refine(tZ _).2 ⟨h1,h2,h3,h4,h5,?_⟩;rw[af,hd];cases hv:v.2.2.2.2.2 with|false=>rfl|true=>have:=hr hv;rw[this.1,this.2]at hd;cases hd
theorem C5 (h:dU v=true)(hr:v.2.2.2.2.2=true):CC v=true/\v.2.2.2.2.1=false:=by have:=((tZ v).1 h).2.2.2.2.2;rw[hr]at this;cases hd:CC v with|false=>rw[hd]at this;cases this|true=>rw[hd]at this;cases hm:v.2.2.2.2.1 with|true=>rw[hm]at this;cases this|false=>exact⟨rfl,rfl⟩
theorem YH (h:0<=n/\n<=1000000):n<=Lt n/\0<Lt n/\Lt n<=1000000:=by unfold Lt;rw[al];split<;>omega
theorem agb (h:dU v=true):dU (evV v)=true:=by have k:=(tZ v).1 h;have u:=YH k.2.2.1;unfold evV;rw[h,ah];refine G3 (v:=(v.1,v.2.1,Lt v.2.2.1,v.2.2.2)) k.1 k.2.1 ⟨by show 0<=Lt v.2.2.1;omega,u.2.2⟩ k.2.2.2.1 (Or.inl u.2.1) λhr=>?_;have d:=C5 h hr;have d1:=(CD v).1 d.1;exact⟨(CD _).2 ⟨by show 1<=Lt v.2.2.1;omega,by show v.1<=Lt v.2.2.1\/v.2.1<=v.2.2.2.1;omega⟩,d.2⟩
theorem N4 (h:dU v=true):dU (yb v)=true:=by have k:=(tZ v).1 h;have u:=YH k.2.2.2.1;unfold yb;rw[h,ah];by_cases h0:v.2.2.1>0;rw[aq h0,ah];refine G3 (v:=(v.1,v.2.1,v.2.2.1,Lt v.2.2.2.1,v.2.2.2.2)) k.1 k.2.1 k.2.2.1 ⟨by show 0<=Lt v.2.2.2.1;omega,u.2.2⟩ (Or.inl h0) λhr=>?_;have d:=C5 h hr;have d1:=(CD v).1 d.1;exact⟨(CD _).2 ⟨d1.1,by show v.1<=v.2.2.1\/v.2.1<=Lt v.2.2.2.1;omega⟩,d.2⟩;rw[ar h0,af];exact G3 k.1 k.2.1 k.2.2.1 k.2.2.2.1 k.2.2.2.2.1 λhr=>C5 h hr
theorem VO (h:dU v=true):dU (qH v).1=true:=by have k:=(tZ v).1 h;unfold qH;cases dU v&&v.2.2.2.2.2 with|false=>exact h|true=>exact(tZ _).2 ⟨k.1,k.2.1,⟨eT _,by show(0:Int)<=1000000;omega⟩,⟨eT _,by show(0:Int)<=1000000;omega⟩,Or.inr rfl,by show false=(_&& !true);simp⟩
theorem YJ (h:dU v=true):dU (zB v)=true:=by have k:=(tZ v).1 h;unfold zB;rw[h,ah];refine G3 (v:=(v.1,v.2.1,v.2.2.1,v.2.2.2.1,false,v.2.2.2.2.2)) k.1 k.2.1 k.2.2.1 k.2.2.2.1 k.2.2.2.2.1 λhr=>?_;exact⟨(CD _).2 ((CD v).1 (C5 h hr).1),rfl⟩
structure wq (n:Int) (r:bC):Prop where
 ring:dx r.1=true
 dev:gw r.2.1=true
 Pk:gw r.2.2.1=true
 base:r.2.1.1=r.2.2.1.1
 size:r.2.1.2.1=r.2.2.1.2.1
 drop:0<=r.2.2.2.2.2/\r.2.2.2.2.2<=n
 held:r.2.2.2.2.1=true->cD r.2.2.2.1.1=true/\(0<=r.2.2.2.1.2.1/\r.2.2.2.1.2.1<=320)/\1<=r.2.2.2.1.2.2/\r.2.2.2.1.2.2<=320
 free:r.2.2.2.2.1=false->r.2.2.2.1=acM
theorem EA (r:bC):BP r=true↔wq 1000000000000 r:=by constructor;intro h;unfold BP at h;rw[ab]at h;simp only[ab,bm,aX]at h;obtain⟨⟨h1,h2,h3,h4,h5,h6⟩,h7⟩:=h;refine⟨h1,h2,h3,h4,h5,h6,λhh=>?_,λhh=>?_⟩;rw[hh,ah]at h7;simp only[ab,aX]at h7;exact⟨h7.1,h7.2.1,h7.2.2⟩;rw[hh,af]at h7;exact(afK _).1 h7;intro h;unfold BP;rw[ab];simp only[ab,bm,aX];refine⟨⟨h.ring,h.dev,h.Pk,h.base,h.size,h.drop⟩,?_⟩;cases hh:r.2.2.2.2.1 with|true=>have:=h.held hh;simp only[ah,ab,aX];exact⟨this.1,this.2.1,this.2.2⟩|false=>rw[af];exact(afK _).2 (h.free hh)
theorem wq.mono {m:Int}{r:bC}(h:wq n r)(hn:n<=m:=by omega):wq m r:=⟨h.ring,h.dev,h.Pk,h.base,h.size,⟨h.drop.1,by have:=h.drop.2;omega⟩,h.held,h.free⟩
theorem wq.rx {r:bC}(h:wq n r)(hn:n<=1000000000000):BP r=true:=(EA r).2 (h.mono hn)
theorem abC (h:df m=true)(l:ay aG)(d:Int)(q:K7)(x:AB):df (rf l m d q x).1=true:=by
 unfold rf;cases !gw q|| !qb x;case true=>exact h
 cases (gT l m d (rj q) (Ha x (ym q)) true).2 with|false=>exact h|true=>exact Es h ..
theorem abD (h:df m=true)(l:ay aG)(d:Int)(q:bC)(k s:Bytes):df (gh l m d q k s).1=true:=by
 unfold gh;cases !(cJ s).2||(((cJ s).1.1 !=3)||decide ((cJ s).1.2.2.1<((cQ q.2.2.2.1.1).1.length:Int)));case true=>exact h
 cases (gT l m d (cJ s).1.2.2.2.1 (cQ q.2.2.2.1.1).1 true).2 with|false=>exact h|true=>exact abC (Es h ..) ..
theorem ahM {l:ay aG}{k s:Bytes}(hm:df m=true)(hq:gw q.2.1=true):gw (gh l m d q k s).2.1=true/\(gh l m d q k s).2.1.1=q.2.1.1/\(gh l m d q k s).2.1.2.1=q.2.1.2.1:=(Qz (n:=128) (by omega) (Qe (by omega) (od.1 hm)) hq).2.2
theorem zX (hn:n<=900000000000)(h:wq n q)(hm:df m=true)(l:ay aG)(d:Int)(k:Bytes):df (gz l m d q k).1=true/\wq (n+320) (gz l m d q k).2:=by
 unfold gz;cases hc: !BP q||(!q.2.2.2.2.1||((k.length:Int) !=16));case true=>exact⟨hm,h.mono⟩
 simp only[cj,dV]at hc;have hh:=h.held hc.2.1;have hd:=h.drop;have hr:=Qn h.ring l m d;have hs:=ahM (l:=l) (d:=d) (k:=k) (s:=(bq l m d q.1).1) hm h.dev;simp only[af];cases (bq l m d q.1).2.2&&(gh l m d q k (bq l m d q.1).1).2.2 with|true=>exact⟨abD hm ..,hr.1,hs.1,h.Pk,hs.2.1.trans h.base,hs.2.2.trans h.size,⟨hd.1,by show q.2.2.2.2.2<=n+320;omega⟩,λhf=>(by cases hf),λ_=>rfl⟩|false=>refine⟨hm,hr.1,h.dev,h.Pk,h.base,h.size,?_,λhf=>(by cases hf),λ_=>rfl⟩;show 0<=au (q.2.2.2.2.2+q.2.2.2.1.2.2)/\au (q.2.2.2.2.2+q.2.2.2.1.2.2)<=n+320;rw[al];omega
theorem ZL {s:ni}(h:DD s p=true):cD (sv s p).1=true/\(0<=(sv s p).2.1/\(sv s p).2.1<=320)/\1<=(sv s p).2.2/\(sv s p).2.2<=320:=by
 have hl:=Q1 h;unfold sv;rw[h,ah];simp only[DD,Zw,Vq,ab,aE,aX,bm]at h;obtain⟨⟨hs,hp,alo,h6,SM,hf⟩,⟨hz,hc,hn,DE,aqp⟩,_⟩:=h;have aqm:s.2.2+1<=320:=by
  have:s.2.2<=s.2.1*s.2.2:=by have:=Int.mul_le_mul_of_nonneg_right hz (show 0<=s.2.2 by omega);omega
  omega
 have aly:s.2.1<=320:=by
  have:s.2.1<=s.2.1*s.2.2:=by have:=Int.mul_le_mul_of_nonneg_left hc.1 (show 0<=s.2.1 by omega);omega
  omega
 refine⟨?_,⟨by show 0<=s.2.1;omega,aly⟩,?_⟩;have hh:nN s.1=true:=by unfold cD at hs;simp only[ab]at hs;exact hs.1
 have hk:s.1.2.2.2.2.2.2.2.2.1=6:=by
  have e:s.1.2.2.2.2.2.2.2.2.1=p.2.2.2.2.2.2.2.2.1:=by have h2:=alo;unfold Qh at h2;simp only[ab,bm]at h2;exact h2.2.2.2.2.2.2.2.1
  rw[e];exact h6
 have hsg:=uX hh;have hfl:dF p.2.2.2.2.2.2.2.2.2.2.2.2.2.1 0 31=true:=HY hp (by rw[h6];rfl);have hg:=NA hsg hk (ZZ hsg hk).2.2.1 (aX.1 hfl) (x:=s.1.2.2.2.2.2.2.2.2.2.2.2.2.2.2.2++p.2.2.2.2.2.2.2.2.2.2.2.2.2.2.2) (by rw[aj];omega);unfold cD;rw[ab];refine⟨B7 hh (Mt hh) hg,?_⟩;show(_||(s.1.2.2.2.2.2.2.2.2.1==6)&&zV p.2.2.2.2.2.2.2.2.2.2.2.2.2.1)=true;rw[hk,hf];simp;show 1<=au (s.2.2+1)/\au (s.2.2+1)<=320;rw[al];omega
theorem RG (h:wq n q){s:ni}(hs:cD s.1=true)(h1:0<=s.2.1/\s.2.1<=320)(h2:1<=s.2.2/\s.2.2<=320):wq n (Eb q s):=⟨h.ring,h.dev,h.Pk,h.base,h.size,h.drop,λ_=>⟨hs,h1,h2⟩,λhf=>(by cases hf)⟩
theorem Fq (h:fZ p=true):cD (jw p).1=true/\(0<=(jw p).2.1/\(jw p).2.1<=320)/\1<=(jw p).2.2/\(jw p).2.2<=320:=by
 have hl:=Gz h;have hs:cD p=true:=by unfold fZ at h;simp only[ab]at h;exact h.1
 refine⟨hs,?_,by show(1:Int)<=1/\(1:Int)<=320;omega⟩;show 0<=(p.2.2.2.2.2.2.2.2.2.2.2.2.2.2.2.length:Int)/\(p.2.2.2.2.2.2.2.2.2.2.2.2.2.2.2.length:Int)<=320;omega
theorem S4 (hn:n<=800000000000)(h:wq n q)(hm:df m=true)(l:ay aG)(d:Int)(k:Bytes)(p:aQ)(c:Bool):df (jl l m d q k p c).1=true/\wq (n+640) (jl l m d q k p c).2:=by
 unfold jl;cases hc: !BP q||(!fZ p||((k.length:Int) !=16));case true=>exact⟨hm,h.mono⟩
 simp only[cj,dV]at hc;have hs:=Fq hc.2.1;have hf:=zX (by omega) h hm l d k;have B8:=RG hf.2 hs.1 hs.2.1 hs.2.2;simp only[af];cases hj:c&&(q.2.2.2.2.1&&DD q.2.2.2.1 p)with|true=>simp only[ab]at hj;have j:=ZL hj.2.2;exact⟨hm,h.ring,h.dev,h.Pk,h.base,h.size,⟨h.drop.1,by show q.2.2.2.2.2<=n+640;have:=h.drop.2;omega⟩,λ_=>j,λhf=>(by have hf:q.2.2.2.2.1=false:=hf;rw[hj.2.1]at hf;cases hf)⟩|false=>simp only[af];cases c with|true=>exact⟨hf.1,B8.mono⟩|false=>have:=zX (by omega) B8 hf.1 l d k;exact⟨this.1,this.2.mono⟩
theorem aj8 {l:ay aG}{q:K7}(h:gw q=true):gw (ll l m d q).2.1=true/\(ll l m d q).2.1.1=q.1/\(ll l m d q).2.1.2.1=q.2.1:=by unfold ll;cases HV l m d q with|false=>exact⟨h,rfl,rfl⟩|true=>have k:=vK h;refine⟨?_,rfl,rfl⟩;have e:=SI (a:=q.2.2+1) (b:=2*q.2.1);simp only[ah,ae0,gw,ab,aX]at h⊢;refine⟨h.1,h.2.1,?_⟩;rw[wL h.2.1];omega
theorem Ye (h:wq n s.2.1)(hp:dz s.2.2=true)(l:ay aG)(m:cg)(d:Int):wq n (vH l m d s).2.1/\dz (vH l m d s).2.2=true:=by have k:=aj8 (l:=l) (m:=m) (d:=d) h.Pk;exact⟨⟨h.ring,h.dev,k.1,h.base.trans k.2.1.symm,h.size.trans k.2.2.symm,h.drop,h.held,h.free⟩,ab9 hp _⟩
theorem Nk (l:ay aG)(m:cg)(d:Int):∀(k:Nat)(s:ay Stream×bC×cX),wq n s.2.1->dz s.2.2=true->wq n (iT l m d k s).2.2.1/\dz (iT l m d k s).2.2.2=true
 |0,s,h,hp=>⟨h,hp⟩
 |k+1,s,h,hp=>by rw[iT];cases (ll l m d s.2.1.2.2.1).2.2 with|false=>exact⟨h,hp⟩|true=>have e:=Ye h hp l m d;exact Nk l m d k _ e.1 e.2
theorem L9 (l:ay aG)(d:Int)(p:cX):∀(q:dB)(m:cg)(r:mR),df m=true->dx r=true->df (kb l d p q m r).2.1=true/\dx (kb l d p q m r).2.2=true
 |[],m,r,hm,hr=>⟨hm,hr⟩
 |b::q,m,r,hm,hr=>by rw[kb];cases (cR l m d r (fu p b)).2.2 with|false=>exact⟨hm,hr⟩|true=>exact L9 l d p q _ _ (Kf hm ..) (Vd hr ..).1
theorem Pr (hm:df m=true){r:mR}(hr:dx r=true){p:cX}(hp:dz p=true)(l:ay aG)(d:Int):df (oH l m d r p).1=true/\dx (oH l m d r p).2.1=true/\dz (oH l m d r p).2.2.1=true:=by unfold oH;rw[hr,hp];have k:=L9 l d p p.2.2.2 m r hm hr;exact⟨k.1,k.2,Eu hp (List.drop_sublist _ _)⟩
theorem ab8 {rx:bC}(h:wq n rx)(hm:df m=true){pl:cX}(hp:dz pl=true)(l:ay aG)(d:Int)(st:ay Stream)(c:Int):df (gJ l m d rx pl st c).1=true/\wq n (gJ l m d rx pl st c).2.1/\dz (gJ l m d rx pl st c).2.2.1=true:=by
 unfold gJ;cases !BP rx||(!dz pl|| !dF c 0 1000);case true=>exact⟨hm,h,hp⟩
 have k:=Nk l m d c.toNat (st,rx,pl) h hp;have f:=Pr hm k.1.ring k.2 l d;exact⟨f.1,⟨f.2.1,k.1.dev,k.1.Pk,k.1.base,k.1.size,k.1.drop,k.1.held,k.1.free⟩,f.2.2⟩
structure Good (n:Int) (h:Host):Prop where
 mem:df h.1=true
 maps:gq h.2.1=true
 tx:Fy h.2.2.1
 GO:rz h.2.2.2.2.2.2.2.1=true
 lens:tc h=true
 JJ:gA h.2.2.2.2.2.2.2.2.1 (h.2.2.2.1.length:Int)=true
 rx:∀r∈h.2.2.2.1,wq n r
 pool:∀p∈h.2.2.2.2.1,dz p=true
 vec:∀v∈h.2.2.2.2.2.1,dU v=true
 Bx:∀x∈jo h,0<=x/\x<=n
theorem Good.mono {m:Int}(g:Good n h)(hn:n<=m:=by omega):Good m h:=⟨g.mem,g.maps,g.tx,g.GO,g.lens,g.JJ,λr hr=>(g.rx r hr).mono hn,g.pool,g.vec,λx hx=>⟨(g.Bx x hx).1,by have:=(g.Bx x hx).2;omega⟩⟩
theorem aei (h:Host):fU h=true↔Good 1000000000000 h:=by unfold fU Ve;simp only[ab,aL,aX,af8,EA];constructor;rintro⟨h1,h2,h3,h4,h5,h6,⟨h7,h8,h9⟩,h10⟩;exact⟨h1,h2,h3,h4,h5,h6,h7,h8,h9,h10⟩;intro g;exact⟨g.mem,g.maps,g.tx,g.GO,g.lens,g.JJ,⟨g.rx,g.pool,g.vec⟩,g.Bx⟩
theorem Good.ok (g:Good n h)(hn:n<=1000000000000):fU h=true:=(aei h).2 (g.mono hn)
theorem AK {P:α->Prop}{l:ay α}{i:Nat}{v:α}(h:∀x∈l,P x)(hv:P v):∀x∈l.set i v,P x:=by intro x hx;rcases List.mem_or_eq_of_mem_set hx with g|g;exact h x g;rw[g];exact hv
theorem agG (g:Good n h)(k:Nat):Good n (evS k h):=by unfold evS;cases hv:h.2.2.2.2.2.1[k]? with|none=>exact g|some v=>exact⟨g.mem,g.maps,g.tx,g.GO,by have:=g.lens;unfold tc at this⊢;rw[aK];exact this,g.JJ,g.rx,g.pool,AK g.vec (agb (g.vec v (aZ hv))),g.Bx⟩
theorem TN (g:Good n h)(k:Nat):∀i,Good n (WZ k i h)
 |0=>g
 |i+1=>agG (TN g k i) k
theorem J4 (g:Good n h)(k:Nat)(b:Int){f:cg×bC}(h1:df f.1=true)(h2:wq n f.2):Good n (wi h k b f):=by refine TN (h:=Ev h k f) ⟨h1,g.maps,g.tx,g.GO,?_,?_,AK g.rx h2,g.pool,g.vec,g.Bx⟩ _ _;have:=g.lens;unfold tc Ev at*;simp only[aK];exact this;show gA _ ((h.2.2.2.1.set k f.2).length:Int)=true;rw[aK];exact g.JJ
theorem D7 (hn:n<=800000000000)(g:Good n h)(k:Nat):Good (n+320) (gS k h):=by unfold gS;cases hx:h.2.2.2.1[k]? with|none=>exact g.mono|some x=>have f:=zX (by omega) (g.rx x (aZ hx)) g.mem h.2.1 0 h.2.2.2.2.2.2.2.2.1.2.2.1;exact J4 (g.mono) k _ f.1 f.2
theorem Gi (hn:n<=700000000000)(g:Good n h):Good (n+640) (kR h):=by
 unfold kR;have hl:=vD g.lens;cases fU h with
 |false=>exact g.mono
 |true=>
  have key:∀k:Nat,k<=2->Good (n+320*(k:Int)) (fT gS k h):=by intro k;induction k with|zero=>intro _;exact g.mono|succ k ih=>intro hk;exact(D7 (by omega) (ih (by omega)) k).mono
  exact(key _ hl.1).mono (by have:=hl.1;omega)
theorem B4 (g:Good n h):Good n (sA h):=by
 unfold sA;cases fU h with
 |false=>exact g
 |true=>
  have key:∀k,Good n (fT jv k h):=by intro k;induction k with|zero=>exact g|succ k ih=>show Good n (jv k (fT jv k h));generalize fT jv k h=s at ih⊢;unfold jv;cases hv:s.2.2.2.2.2.1[k]? with|none=>exact ih|some v=>exact⟨ih.mem,ih.maps,ih.tx,ih.GO,by have:=ih.lens;unfold tc at this⊢;rw[aK];exact this,ih.JJ,ih.rx,ih.pool,AK ih.vec (N4 (ih.vec v (aZ hv))),ih.Bx⟩
  exact key _
theorem aaO (g:Good n h)(p:aQ)(c z:Int):Good n (Au h p c z).1:=by unfold Au;cases fU h with|false=>exact g|true=>have k:=acu g.tx g.mem h.2.1 0 p c z;exact⟨k.1,g.maps,k.2,g.GO,g.lens,g.JJ,g.rx,g.pool,g.vec,g.Bx⟩
theorem BB (g:Good n h):Good n (dH h):=by unfold dH;cases fU h with|false=>exact g|true=>have r:=EP h.2.1 h.1 0 17 [] 0 0 h.2.2.1.1 g.tx.ring;exact⟨g.mem,g.maps,VL (ahS g.tx r.1 r.2) _,g.GO,g.lens,g.JJ,g.rx,g.pool,g.vec,g.Bx⟩
theorem DN {x:Int}(h:0<=x/\x<=n)(hn:n<=800000000000:=by omega):0<=au (x+1)/\au (x+1)<=n+1:=by rw[al];omega
theorem CG (hn:n<=800000000000)(g:Good n h){c:Int}(ha:0<=a/\a<=n+1)(hb:0<=b/\b<=n+1)(hc:0<=c/\c<=n+1)(hd:0<=d/\d<=n+1):Good (n+1) (sD h a b c d):=by have k:=g.mono (show n<=n+1 by omega);refine⟨k.mem,k.maps,k.tx,k.GO,k.lens,k.JJ,k.rx,k.pool,k.vec,λx hx=>?_⟩;have h1:=DN (g.Bx _ (List.mem_cons_self ..)) hn;simp only[jo,sD,cw,List.not_mem_nil,or_false]at hx;rcases hx with rfl|rfl|rfl|rfl|rfl;exact h1;exact ha;exact hb;exact hc;exact hd
theorem RB (hn:n<=700000000000)(g:Good n h)(x:Bytes):Good (n+641) (lS h x):=by
 have c1:=g.Bx h.2.2.2.2.2.2.2.2.2.2.2.2.2.2.2.1 (by simp[jo]);have c2:=g.Bx h.2.2.2.2.2.2.2.2.2.2.2.2.2.2.2.2.1 (by simp[jo]);have c3:=g.Bx h.2.2.2.2.2.2.2.2.2.2.2.2.2.2.2.2.2.1 (by simp[jo]);have c4:=g.Bx h.2.2.2.2.2.2.2.2.2.2.2.2.2.2.2.2.2.2 (by simp[jo]);have u:∀{y:Int},0<=y/\y<=n->0<=y/\y<=n+1:=λhy=>⟨hy.1,by omega⟩
 unfold lS;cases fU h;exact g.mono;cases (gR x).2 !=0;case true=>exact(CG (by omega) g (DN c1) (u c2) (u c3) (u c4)).mono
 cases !sH h.2.2.2.2.2.2.2.1 (gR x).1;case true=>exact(CG (by omega) g (u c1) (DN c2) (u c3) (u c4)).mono
 cases iy h.2.2.2.2.2.2.2.2.1 (h.2.2.2.1.length:Int) (gR x).1== -1;case true=>exact(CG (by omega) g (u c1) (u c2) (DN c3) (u c4)).mono
 simp only[ak,af];cases hq:h.2.2.2.1[(iy h.2.2.2.2.2.2.2.2.1 (h.2.2.2.1.length:Int) (gR x).1).toNat]? with|none=>exact g.mono|some q=>have a:=S4 (by omega) (g.rx q (aZ hq)) g.mem h.2.1 0 h.2.2.2.2.2.2.2.2.1.2.2.1 (gR x).1 h.2.2.2.2.2.2.2.2.2.2.1;exact J4 ((CG (by omega) g (u c1) (u c2) (u c3) (DN c4)).mono) _ _ a.1 (a.2.mono)
theorem D8 (b:Int)(k:Nat){s:Int×Host}(g:Good n s.2):Good n (wK b k s).2:=by unfold wK;rcases h1:s.2.2.2.2.2.2.1[k]? with _|v;exact g;rcases h2:s.2.2.2.2.2.2.2.1[k]? with _|p;exact g;rcases h3:s.2.2.2.2.1[k]? with _|x;exact g;rcases h4:s.2.2.2.2.2.1[k]? with _|pl;exact g;have hv:=VO (g.vec v (aZ h1));simp only;cases p||(qH v).2 with|false=>refine⟨g.mem,g.maps,g.tx,g.GO,?_,g.JJ,g.rx,g.pool,AK g.vec hv,g.Bx⟩;have:=g.lens;unfold tc at*;simp only[af,aK];exact this|true=>have e:=ab8 (g.rx x (aZ h3)) g.mem (g.pool pl (aZ h4)) s.2.2.1 0 s.2.2.2.2.2.2.2.2.2.2.1 b;refine⟨e.1,g.maps,g.tx,g.GO,?_,?_,AK g.rx e.2.1,AK g.pool e.2.2,AK g.vec ?_,g.Bx⟩;have:=g.lens;unfold tc at*;simp only[ah,aK];exact this;show gA _ ((s.2.2.2.2.1.set k _).length:Int)=true;rw[aK];exact g.JJ;cases decide ((gJ s.2.2.1 s.2.1 0 x pl s.2.2.2.2.2.2.2.2.2.2.1 b).2.2.2.2<b)with|true=>exact YJ hv|false=>exact hv
theorem Mo (b:Int)(g:Good n h):∀k,Good n (ki b k h).2
 |0=>g
 |k+1=>D8 b k (Mo b g k)
theorem Hi (g:Good n h)(b:Int):Good n (iD h b).1:=by unfold iD;cases fU h&&dF b 1 1000 with|false=>exact g|true=>exact Mo b g _
theorem H0 (ha:0<=a/\a<=130944:=by omega)(hb:1<=b/\b<=512:=by omega)(hn:0<=n/\n<=16:=by omega):kM a b n=((a,b,n,upto n.toNat),true)/\dz (a,b,n,upto n.toNat)=true:=by have h1:dz (a,b,n,[])=true:=Cn.2 ⟨ha,hb,hn,by simp,List.nodup_nil⟩;refine⟨by unfold kM;rw[h1];rfl,Cn.2 ⟨ha,hb,hn,?_,?_⟩⟩;intro x hx;simp only[upto,dp,cy]at hx;obtain⟨i,hi,rfl⟩:=hx;show 0<=Int.ofNat i/\Int.ofNat i<=n-1;simp only[Int.ofNat_eq_natCast];omega;show(upto n.toNat).Nodup;unfold upto;rw[List.Nodup,List.pairwise_map];exact List.nodup_range.imp λh he=>h (Int.ofNat.inj he)
theorem ako (c:Int)(hc:0<=c/\c<=65535):Fy (N1.1,N1.2.1,N1.2.2.1,c):=by
 have p:=H0 (a:=256) (b:=128) (n:=8);refine⟨Ey,hc,λx hx=>(by cases hx),?_,by show(0:Int)<=16;omega⟩;show dz (gZ (kM 256 128 8).1 [])=true;rw[p.1];have e:gZ (256,128,8,upto (8:Int).toNat) []=(256,128,8,upto (8:Int).toNat):=by simp[gZ]
 show dz (gZ (256,128,8,upto (8:Int).toNat) [])=true;rw[e];exact p.2
theorem YQ {i:Nat}(h:i<=8):0<=lF i/\lF i<=16000:=by unfold lF;omega
theorem abU (hm:df m=true)(l:ay aG){i:Nat}(hi:i<=8):df (qB l m i).1=true/\dx (qB l m i).2.1=true/\dz (qB l m i).2.2.1=true:=by have hb:=YQ hi;have p:=H0 (a:=lF i+128) (b:=384) (n:=4);unfold qB;rw[p.1];exact Pr (Es hm ..) (Ey) p.2 l 0
theorem afs {i:Nat}(hi:i<=8){r:mR}(hr:dx r=true)(hd:0<=d/\d<=n):wq n (r,(lF i+64,4,0),(lF i+64,4,0),((0,0,0,0,0,0,0,0,0,0,0,0,0,0,0,([]:Bytes)),0,0),false,d):=by
 have hb:=YQ hi;have hq:gw (lF i+64,4,0)=true:=by have hs:jf 4=true:=il.2 (by omega);unfold gw;rw[ab,ab];exact⟨aX.2 (by omega),hs,by rw[wL hs];rfl⟩
 exact⟨hr,hq,hq,rfl,rfl,hd,λhf=>(by cases hf),λ_=>rfl⟩
def hZ (k:Nat):Nat:=1280+1792*k
def ub (k c:Nat):Dm:=(3,0,384,((hZ k+128+384*c:Nat):Int),0,(c:Int))
theorem Q0 {c:Nat}(hk:k<=1)(hc:c<4):oG (ub k c)=true:=by unfold oG ub hZ;simp only[ab,aX];omega
abbrev BS (C:ay Fx):fR:=C.map λc=>c.1.toNat
structure EY (m:List Bytes) (k:Nat) (q:bC) (p:cX) (hd x:Nat) (P:List Nat) (C:List Fx) (F:List Nat):Prop where
 ring:q.1=fA (hZ k) 4 hd P.length
 row:su m (hZ k) 4 hd (P.map λc=>jc (ub k c))
 dev:q.2.1=wu (hZ k+64) (x+C.length)
 Pk:q.2.2.1=wu (hZ k+64) x
 YZ:Lv m (hZ k+64) x C
 pool:p=(((hZ k+128:Nat):Int),384,4,F.map λc:Nat=>(c:Int))
 perm:(BS C++P++F).Perm [0,1,2,3]
 cok:∀c∈C,0<=c.1
theorem EY.len {p:cX}(s:EY m k q p hd x P C F):C.length+P.length+F.length=4:=by have:=s.perm.length_eq;simp[BS]at this;omega
theorem EY.lt {p:cX}(s:EY m k q p hd x P C F){c:Nat}(h:c∈BS C++P++F):c<4:=by have:=s.perm.mem_iff.1 h;simp at this;omega
theorem EY.frame {p:cX}(s:EY m k q p hd x P C F)(h:∀i,hZ k<=i->i<hZ k+128->mB m' i=mB m i):EY m' k q p hd x P C F:=⟨s.ring,s.row.frame (Or.inl rfl) λi h1 h2=>h i h1 (by omega),s.dev,s.Pk,s.YZ.frame λi h1 h2=>h i (by omega) (by omega),s.pool,s.perm,s.cok⟩
theorem EY.held {p:cX}(s:EY m k q p hd x P C F)(u:ni×Bool×Int):EY m k (q.1,q.2.1,q.2.2.1,u) p hd x P C F:=⟨s.ring,s.row,s.dev,s.Pk,s.YZ,s.pool,s.perm,s.cok⟩
theorem Gw {l:fR}(h:l.Perm [0,1,2,3]):l.Nodup:=h.nodup_iff.2 (by decide)
theorem ZS {b:Nat}(hb:b<=130944)(h1:∀c∈F,c<4)(h2:F.Nodup):dz ((b:Int),384,4,F.map λc:Nat=>(c:Int))=true:=by
 unfold dz;simp only[ab,aX,aL,cy];refine⟨by omega,by decide,by decide,λi hi=>?_⟩;have hi:i<F.length:=by simpa using hi
 unfold BZ;rw[de (by simpa using hi),List.getElem_map];have hl:=h1 _ (bE hi);simp only[ab,aX,aN];refine⟨by omega,?_⟩;rw[<-Bool.not_eq_true,List.contains_iff_mem,<-List.map_take];intro hm;obtain⟨y,hy,e⟩:=dp.1 hm;have e:y=F[i]:=by omega
 obtain⟨j,hj,ej⟩:=fX hy;rw[aY]at hj;rw[List.getElem_take]at ej;exact List.pairwise_iff_getElem.1 h2 j i (by omega) hi (by omega) (ej.trans e)
theorem EY.U2 {p:cX}(hk:k<=1)(s:EY m k q p hd x P C F):dz p=true:=by rw[s.pool];refine ZS (by unfold hZ;omega) (λc hc=>s.lt (by simp[hc])) ?_;have n:=Gw s.perm;exact(aM.1 n).2.1
theorem TP {s v:Bytes}(hs:s.length=16)(hv:v.length<=12):0<=sL s v/\sL s v<=4294967295:=by have h:=Mq s v (8*v.length);unfold sL;rw[hs,du];show 0<=((FJ s v (8*v.length):Nat):Int)/\((FJ s v (8*v.length):Nat):Int)<=4294967295;omega
theorem Qy {l:ay aG}{k s:Bytes}{D:Dm}(h:cJ s=(D,true))(h3:D.1=3)(hl:¬D.2.2.1<((cQ q.2.2.2.1.1).1.length:Int))(hp:(gT l m d D.2.2.2.1 (cQ q.2.2.2.1.1).1 true).2=true):gh l m d q k s=rf l (gT l m d D.2.2.2.1 (cQ q.2.2.2.1.1).1 true).1 d q.2.1 (D.2.2.2.2.2,((cQ q.2.2.2.1.1).1.length:Int),q.2.2.2.1.2.1,q.2.2.2.1.2.2,sL k (oK (dm q.2.2.2.1.1))):=by unfold gh;rw[h];simp only[h3,ar hl,hp,bne_self_eq_false,ak,bG,af]
theorem YC (hm:fE m)(hk:k<=1){p:cX}{c:Nat}(s:EY m k q p hd x (c::P) C F)(hq:BP q=true)(hh:q.2.2.2.2.1=true)(key:Bytes)(BE:key.length=16): ∃y:Fx,y.1=(c:Int)/\(gh (bJ 38) m 0 q key (jc (ub k c))).2=(wu (hZ k+64) (x+C.length+1),true)/\fE (gh (bJ 38) m 0 q key (jc (ub k c))).1/\Lv (gh (bJ 38) m 0 q key (jc (ub k c))).1 (hZ k+64) x (C++[y])/\∀i,i<4864->(i<hZ k+64\/hZ k+1792<=i)->mB (gh (bJ 38) m 0 q key (jc (ub k c))).1 i=mB m i:=by
 have hc:c<4:=s.lt (by simp);have hl:=s.len;simp only[aS]at hl;have db:=wG (Q0 hk hc);have r:=(EA _).1 hq;have hs:=r.held hh;have hi:=nO q.2.2.2.1.1;have hn:hZ k=1280+1792*k:=rfl;have pf:=Co hm (a:=hZ k+128+384*c) (s:=(cQ q.2.2.2.1.1).1) (w:=true) (by omega) (by omega) (λ_=>by omega);generalize hy:(((c:Int),((cQ q.2.2.2.1.1).1.length:Int),q.2.2.2.1.2.1,q.2.2.2.1.2.2,sL key (oK (dm q.2.2.2.1.1))):Fx)=y;have ok:qb y=true:=by rw[<-hy];unfold qb;simp only[ab,aX];have hb:=TP BE (PB (dm q.2.2.2.1.1));omega
 have cm:=s.YZ.frame (m':=(gT (bJ 38) m 0 ((hZ k+128+384*c:Nat):Int) (cQ q.2.2.2.1.1).1 true).1) λi h1 h2=>by rw[pf.2.2 i (by omega),kl]
 have pc:=Qk pf.2.1 (b:=hZ k+64) (by omega) cm (by omega) ok;have eA:(ub k c).2.2.2.1=((hZ k+128+384*c:Nat):Int):=rfl;have eL:(ub k c).2.2.1=384:=rfl;have eC:(ub k c).2.2.2.2.2=(c:Int):=rfl;have e:gh (bJ 38) m 0 q key (jc (ub k c))=rf (bJ 38) (gT (bJ 38) m 0 ((hZ k+128+384*c:Nat):Int) (cQ q.2.2.2.1.1).1 true).1 0 (wu (hZ k+64) (x+C.length)) y:=by rw[Qy db.2 rfl (by rw[eL];omega) (by rw[eA];exact pf.1),eA,eC,s.dev,hy]
 rw[e];refine⟨y,by rw[<-hy],pc.1,pc.2.1,pc.2.2.1,λi hi ho=>?_⟩;rw[pc.2.2.2 i hi (by omega),pf.2.2 i hi,kl]
structure QO (m:List Bytes) (k:Nat) (p:cX) (x:Nat) (C:List Fx) (F:List Nat) (h:Bool) (f:List Bytes×bC) (n:Nat):Prop where
 mem:fE f.1
 st:∃hd P C',EY f.1 k f.2 p hd x P C' F/\C'.length=C.length+n
 hold:f.2.2.2.2.2.1=h
 out:∀i,i<4864->(i<hZ k\/hZ k+1792<=i)->mB f.1 i=mB m i
theorem zW (hm:fE m)(hk:k<=1){p:cX}(s:EY m k q p hd x P C F)(hq:BP q=true)(key:Bytes)(BE:key.length=16):∃n,n<=1/\QO m k p x C F false (gz (bJ 38) m 0 q key) n:=by
 have hn:hZ k=1280+1792*k:=rfl;unfold gz;rw[hq,BE];cases hh:q.2.2.2.2.1 with
 |false=>exact⟨0,by omega,hm,⟨hd,P,C,s,rfl⟩,hh,λ_ _ _=>rfl⟩
 |true=>
  simp only[ak,cd,show(((16:Nat):Int) !=16)=false from rfl,af];cases P with
  |nil=>
   have t:=QE (m:=m) (b:=hZ k) (S:=4) (hd:=hd) (Or.inl rfl);have e:bq (bJ 38) m 0 q.1=([],q.1,false):=by rw[s.ring];exact t
   rw[e];exact⟨0,by omega,hm,⟨hd,[],C,s.held _,rfl⟩,rfl,λ_ _ _=>rfl⟩
  |cons c P=>
   have t:=Ft hm (b:=hZ k) (S:=4) (Or.inl rfl) (by omega) (show su m (hZ k) 4 hd (jc (ub k c)::P.map λc=>jc (ub k c)) from s.row);have e:bq (bJ 38) m 0 q.1=(jc (ub k c),fA (hZ k) 4 (hd+1) P.length,true):=by rw[s.ring];have:=t.1;rw[cI]at this;exact this
   obtain⟨y,y1,y2,y3,y4,y5⟩:=YC hm hk s hq hh key BE;rw[e,y2];simp only[cY,ah];refine⟨1,by omega,y3,⟨hd+1,P,C++[y],⟨rfl,?_,by simp;rfl,s.Pk,y4,s.pool,?_,λz hz=>?_⟩,by simp⟩,rfl,λi hi ho=>y5 i hi (by omega)⟩;exact t.2.frame (Or.inl rfl) λi h1 h2=>y5 i (by omega) (by omega);refine List.Perm.trans ?_ s.perm;have ey:y.1.toNat=c:=by rw[y1];simp
   simp only[BS,cp,cZ,List.map_nil,ey,aD,gO,cC];exact List.Perm.refl _;rcases ax.1 hz with g|g;exact s.cok z g;rw[bn.1 g,y1];omega
theorem JS (hm:fE m)(hk:k<=1){p:cX}(s:EY m k q p hd x P C F)(hN:N<=500000000000)(hq:wq N q)(key:Bytes)(BE:key.length=16)(w:aQ)(c:Bool):∃n h,n<=2/\QO m k p x C F h (jl (bJ 38) m 0 q key w c) n:=by have Li:BP q=true:=(EA _).2 (hq.mono);unfold jl;rw[Li,BE];cases hw:fZ w with|false=>exact⟨0,q.2.2.2.2.1,by omega,hm,⟨hd,P,C,s,rfl⟩,rfl,λ_ _ _=>rfl⟩|true=>simp only[ak,cd,show(((16:Nat):Int) !=16)=false from rfl,af];cases c&&(q.2.2.2.2.1&&DD q.2.2.2.1 w)with|true=>exact⟨0,q.2.2.2.2.1,by omega,hm,⟨hd,P,C,s.held _,rfl⟩,rfl,λ_ _ _=>rfl⟩|false=>simp only[af];obtain⟨n,hn,fl⟩:=zW hm hk s Li key BE;obtain⟨Mr,P2,C2,s2,l2⟩:=fl.st;have hd3:EY (gz (bJ 38) m 0 q key).1 k (Eb (gz (bJ 38) m 0 q key).2 (jw w)) p Mr x P2 C2 F:=s2.held _;cases c with|true=>exact⟨n,true,by omega,fl.mem,⟨Mr,P2,C2,hd3,l2⟩,rfl,fl.out⟩|false=>have so:=Fq hw;have hq2:BP (Eb (gz (bJ 38) m 0 q key).2 (jw w))=true:=(EA _).2 ((RG (zX (by omega) hq hm.ok (bJ 38) 0 key).2 so.1 so.2.1 so.2.2).mono);obtain⟨n3,hn3,f3⟩:=zW fl.mem hk hd3 hq2 key BE;obtain⟨hd4,P4,C4,s4,l4⟩:=f3.st;exact⟨n+n3,false,by omega,f3.mem,⟨hd4,P4,C4,s4,by omega⟩,f3.hold,λi hi ho=>(f3.out i hi ho).trans (fl.out i hi ho)⟩
theorem YV (hk:k<=1)(hp:dz (((hZ k+128:Nat):Int),384,4,F.map λc:Nat=>(c:Int))=true){c:Nat}(hc:c<4):nn (((hZ k+128:Nat):Int),384,4,F.map λc:Nat=>(c:Int)) (c:Int)=((hZ k+128+384*c:Nat):Int):=by unfold nn;rw[hp,aX.2 ⟨by omega,by show(c:Int)<=4-1;omega⟩];show((hZ k+128:Nat):Int)+(c:Int)*384=_;omega
theorem L8 (hk:k<=1){hd:Nat}{G:fR}(hp:dz (((hZ k+128:Nat):Int),384,4,G.map λc:Nat=>(c:Int))=true):∀(F:fR)(m:cg)(P:fR),fE m->su m (hZ k) 4 hd (P.map λc=>jc (ub k c))->P.length+F.length<=4->(∀c∈F,c<4)->
 (kb (bJ 38) 0 (((hZ k+128:Nat):Int),384,4,G.map λc:Nat=>(c:Int)) (F.map λc:Nat=>(c:Int)) m (fA (hZ k) 4 hd P.length)).1=F.length/\
 (kb (bJ 38) 0 (((hZ k+128:Nat):Int),384,4,G.map λc:Nat=>(c:Int)) (F.map λc:Nat=>(c:Int)) m (fA (hZ k) 4 hd P.length)).2.2=fA (hZ k) 4 hd (P++F).length/\
 fE (kb (bJ 38) 0 (((hZ k+128:Nat):Int),384,4,G.map λc:Nat=>(c:Int)) (F.map λc:Nat=>(c:Int)) m (fA (hZ k) 4 hd P.length)).2.1/\
 su (kb (bJ 38) 0 (((hZ k+128:Nat):Int),384,4,G.map λc:Nat=>(c:Int)) (F.map λc:Nat=>(c:Int)) m (fA (hZ k) 4 hd P.length)).2.1 (hZ k) 4 hd ((P++F).map λc=>jc (ub k c))/\
 ∀i,i<4864->(i<hZ k\/hZ k+64<=i)->mB (kb (bJ 38) 0 (((hZ k+128:Nat):Int),384,4,G.map λc:Nat=>(c:Int)) (F.map λc:Nat=>(c:Int)) m (fA (hZ k) 4 hd P.length)).2.1 i=mB m i
 |[],m,P,hm,r,_,_=>by rw[bA];exact⟨rfl,rfl,hm,r,λ_ _ _=>rfl⟩
 |c::F,m,P,hm,r,hl,hF=>by
  have hn:hZ k=1280+1792*k:=rfl;have hc:c<4:=hF c (by simp);simp only[aS]at hl;have ed:fu (((hZ k+128:Nat):Int),384,4,G.map λc:Nat=>(c:Int)) (c:Int)=jc (ub k c):=by unfold fu;rw[YV hk hp hc];rfl
  have pr:=U8 hm (b:=hZ k) (S:=4) (hd:=hd) (Or.inl rfl) (by omega) r (by rw[cI];omega) (wG (Q0 hk hc)).1;rw[cI]at pr;rw[cZ,kb,ed,pr.1];simp only[ah];have e1:P.length+1=(P++[c]).length:=by simp
  have r2:su (cR (bJ 38) m 0 (fA (hZ k) 4 hd P.length) (jc (ub k c))).1 (hZ k) 4 hd ((P++[c]).map λc=>jc (ub k c)):=by rw[cp];exact pr.2.2.1
  have ih:=L8 hk hp F _ (P++[c]) pr.2.1 r2 (by simp;omega) λy hy=>hF y (by simp[hy]);rw[e1];rw[aD,gk]at ih;exact⟨by rw[ih.1];simp,ih.2.1,ih.2.2.1,ih.2.2.2.1,λi hi ho=>(ih.2.2.2.2 i hi ho).trans (pr.2.2.2 i hi (by omega))⟩
theorem Pq (hm:fE m)(hk:k<=1){p:cX}(s:EY m k q p hd x P C F): fE (oH (bJ 38) m 0 q.1 p).1/\EY (oH (bJ 38) m 0 q.1 p).1 k ((oH (bJ 38) m 0 q.1 p).2.1,q.2) (oH (bJ 38) m 0 q.1 p).2.2.1 hd x (P++F) C []/\∀i,i<4864->(i<hZ k\/hZ k+64<=i)->mB (oH (bJ 38) m 0 q.1 p).1 i=mB m i:=by
 have hn:hZ k=1280+1792*k:=rfl;have hp:=s.U2 hk;have hl:=s.len;rw[s.pool]at hp;have fl:=L8 hk (hd:=hd) hp F m P hm s.row (by omega) λc hc=>s.lt (by simp[hc]);have vo:=th (b:=hZ k) (hd:=hd) (n:=P.length) (S:=4) (Or.inl rfl);have e:oH (bJ 38) m 0 q.1 p=((kb (bJ 38) 0 (((hZ k+128:Nat):Int),384,4,F.map λc:Nat=>(c:Int)) (F.map λc:Nat=>(c:Int)) m (fA (hZ k) 4 hd P.length)).2.1,fA (hZ k) 4 hd (P++F).length,(((hZ k+128:Nat):Int),384,4,[]),((F.length:Nat):Int)):=by unfold oH;rw[s.pool,s.ring,vo.1,hp];simp only[ak,bG,af,fl.1,fl.2.1];rw[cB (by simp)]
 rw[e];refine⟨fl.2.2.1,⟨rfl,fl.2.2.2.1,s.dev,s.Pk,s.YZ.frame λi h1 h2=>fl.2.2.2.2 i (by omega) (by omega),rfl,?_,s.cok⟩,fl.2.2.2.2⟩;have:=s.perm;rw[aD]at this;rw[bA];exact this
theorem aaM {c:Nat}(hp:dz (((hZ k+128:Nat):Int),384,4,F.map λc:Nat=>(c:Int))=true)(hp2:dz (((hZ k+128:Nat):Int),384,4,(F++[c]).map λc:Nat=>(c:Int))=true):(Aa (((hZ k+128:Nat):Int),384,4,F.map λc:Nat=>(c:Int)) [(c:Int)]).1=(((hZ k+128:Nat):Int),384,4,(F++[c]).map λc:Nat=>(c:Int)):=by
 have e:gZ (((hZ k+128:Nat):Int),384,4,F.map λc:Nat=>(c:Int)) [(c:Int)]=(((hZ k+128:Nat):Int),384,4,(F++[c]).map λc:Nat=>(c:Int)):=by unfold gZ;rw[cp];rfl
 unfold Aa Ab;rw[e,hp,hp2];rfl
theorem Nm (hm:fE m)(hk:k<=1){c:Fx}(r:EY m k s.2.1 s.2.2 hd x P (c::C) F):(ll (bJ 38) m 0 s.2.1.2.2.1).2.2=true/\EY m k (vH (bJ 38) m 0 s).2.1 (vH (bJ 38) m 0 s).2.2 hd (x+1) P C (F++[c.1.toNat])/\(vH (bJ 38) m 0 s).2.1.2.2.2=s.2.1.2.2.2:=by
 have hn:hZ k=1280+1792*k:=rfl;have nx:=Ji hm (b:=hZ k+64) (by omega) r.YZ;have en:ll (bJ 38) m 0 s.2.1.2.2.1=(c,wu (hZ k+64) (x+1),true):=by rw[r.Pk];exact nx.1
 have hc:((c.1.toNat:Nat):Int)=c.1:=Int.toNat_of_nonneg (r.cok c (by simp));have pm:(BS C++P++(F++[c.1.toNat])).Perm [0,1,2,3]:=by
  refine List.Perm.trans ?_ r.perm;have:BS C++P++(F++[c.1.toNat])=(BS C++P++F)++[c.1.toNat]:=by simp[aD]
  rw[this];exact List.perm_append_comm
 have nd:=Gw pm;have hp:=r.U2 hk;rw[r.pool]at hp;have hp2:=ZS (b:=hZ k+128) (by omega) (F:=F++[c.1.toNat]) (λy hy=>by have:=pm.mem_iff.1 (show y∈BS C++P++(F++[c.1.toNat]) from ax.2 (Or.inr hy));simp at this;omega) (aM.1 nd).2.1;have eg:(Aa s.2.2 [c.1]).1=(((hZ k+128:Nat):Int),384,4,(F++[c.1.toNat]).map λc:Nat=>(c:Int)):=by rw[r.pool,<-hc];have:=aaM (k:=k) (c:=c.1.toNat) hp hp2;rw[hc]at this⊢;exact this
 refine⟨by rw[en],?_,rfl⟩;unfold vH;rw[en];simp only;refine⟨r.ring,r.row,?_,rfl,nx.2,eg,pm,λy hy=>r.cok y (by simp[hy])⟩;rw[show x+1+C.length=x+(c::C).length by simp;omega];exact r.dev
theorem GA (hm:fE m)(hk:k<=1):∀(n:Nat)(s:ay Stream×bC×cX)(x:Nat)(C:ay Fx)(F:fR),EY m k s.2.1 s.2.2 hd x P C F->
 (iT (bJ 38) m 0 n s).1=min n C.length/\(iT (bJ 38) m 0 n s).2.2.1.2.2.2=s.2.1.2.2.2/\∃F',EY m k (iT (bJ 38) m 0 n s).2.2.1 (iT (bJ 38) m 0 n s).2.2.2 hd (x+min n C.length) P (C.drop n) F'
 |0,s,x,C,F,r=>⟨by rw[Nat.zero_min];rfl,rfl,F,by rw[Nat.zero_min];exact r⟩
 |n+1,s,x,[],F,r=>by
  have hn:hZ k=1280+1792*k:=rfl;have nx:=Jj hm (b:=hZ k+64) (by omega) r.YZ;have en:(ll (bJ 38) m 0 s.2.1.2.2.1).2.2=false:=by rw[r.Pk,nx]
  rw[iT,en];exact⟨by simp,rfl,F,r⟩
 |n+1,s,x,c::C,F,r=>by have ps:=Nm hm hk r;have ih:=GA hm hk n (vH (bJ 38) m 0 s) (x+1) C _ ps.2.1;rw[iT,ps.1];simp only[ak,af];obtain⟨F',hf⟩:=ih.2.2;refine⟨by rw[ih.1];simp only[aS];omega,ih.2.1.trans ps.2.2,F',?_⟩;rw[show x+min (n+1) (c::C).length=x+1+min n C.length by simp only[aS];omega];exact hf
theorem Jq (hm:fE m)(hk:k<=1){p:cX}(s:EY m k q p hd x P C F)(hq:BP q=true)(st:ay Stream){b:Nat}(hb:b<=1000:=by omega): fE (gJ (bJ 38) m 0 q p st (b:Int)).1/\(∃x' P',EY (gJ (bJ 38) m 0 q p st (b:Int)).1 k (gJ (bJ 38) m 0 q p st (b:Int)).2.1 (gJ (bJ 38) m 0 q p st (b:Int)).2.2.1 hd x' P' (C.drop b) [])/\(gJ (bJ 38) m 0 q p st (b:Int)).2.2.2.2=((min b C.length:Nat):Int)/\(gJ (bJ 38) m 0 q p st (b:Int)).2.1.2.2.2.2.1=q.2.2.2.2.1/\∀i,i<4864->(i<hZ k\/hZ k+64<=i)->mB (gJ (bJ 38) m 0 q p st (b:Int)).1 i=mB m i:=by have hp:=s.U2 hk;have pl:=GA hm hk b (st,q,p) x C F s;obtain⟨l1,l2,F',sf⟩:=pl;have ff:=Pq hm hk sf;unfold gJ;rw[hq,hp,aX.2 ⟨by omega,by omega⟩];simp only[ak,bG,af,aA];exact⟨ff.1,⟨_,_,ff.2.1⟩,by rw[l1],by rw[l2],ff.2.2⟩
theorem LC (k:Nat):lF k=((hZ k:Nat):Int):=by unfold lF hZ;omega
theorem acT (n j:Nat):(wD n).getD j 0=0:=by unfold wD aO;rw[bc,List.map_replicate,eD];split<;>rfl
theorem agf {a:Nat}(h:∀j,j<16->mB m (a+j)=0):(ry (ti m a 16)).2.1=0:=by
 have e:ti m a 16=List.replicate 16 0:=by unfold ti;refine List.ext_getElem (by simp) λj g1 g2=>?_;simp only[List.getElem_map,List.getElem_range,List.getElem_replicate];exact h j (by simpa using g1)
 rw[e];decide
theorem Qa (hm:fE m)(hk:k<=1)(u:ni×Bool×Int):fE (qB (bJ 38) m k).1/\(∃P,EY (qB (bJ 38) m k).1 k ((qB (bJ 38) m k).2.1,(lF k+64,4,0),(lF k+64,4,0),u) (qB (bJ 38) m k).2.2.1 0 0 P [] [])/\∀i,i<4864->(i<hZ k\/hZ k+1792<=i)->mB (qB (bJ 38) m k).1 i=mB m i:=by
 have hn:hZ k=1280+1792*k:=rfl;have pf:=Co hm (a:=hZ k) (s:=wD 128) (w:=false) (by rw[uH];omega) (by rw[uH];omega) (by simp);rw[uH]at pf;have np:=(H0 (a:=lF k+128) (b:=384) (n:=4) (by rw[LC];omega)).1;have ep:(kM (lF k+128) 384 4).1=(((hZ k+128:Nat):Int),384,4,[0,1,2,3].map λc:Nat=>(c:Int)):=by rw[np,LC];rfl
 have er:((lF k,4,0,0):mR)=fA (hZ k) 4 0 0:=by rw[LC];rfl
 have ec:((lF k+64,4,0):K7)=wu (hZ k+64) 0:=by rw[LC];rfl
 have s:EY (gT (bJ 38) m 0 ((hZ k:Nat):Int) (wD 128) false).1 k (fA (hZ k) 4 0 0,wu (hZ k+64) 0,wu (hZ k+64) 0,u) (((hZ k+128:Nat):Int),384,4,[0,1,2,3].map λc:Nat=>(c:Int)) 0 0 [] [] [0,1,2,3]:=by refine⟨rfl,⟨by simp,λj hj=>by simp at hj⟩,rfl,rfl,⟨by simp,λj hj=>by simp at hj,λj _ hj=>?_⟩,rfl,List.Perm.refl _,λc hc=>by cases hc⟩;rw[agf λi hi=>?_];unfold phN;rw[zip];decide;rw[pf.2.2 _ (by omega),zip];exact acT ..
 have f:=Pq pf.2.1 hk s;unfold qB;rw[ep,er,ec,LC];refine⟨f.1,⟨_,f.2.1⟩,λi hi ho=>?_⟩;rw[f.2.2 i hi (by omega),pf.2.2 i hi,kl]
def SS (c:cg):Prop:=∃DF last,c=DF++[last]/\(∀e∈DF,(cJ e).2=true/\FB (cJ e).1=false)/\(cJ last).2=true/\FB (cJ last).1=true
structure TxS (m:List Bytes) (t:eM) (hd:Nat) (L:List (List Bytes)):Prop where
 ring:t.1=fA 0 16 hd L.flatten.length
 row:su m 0 16 hd L.flatten
 Bx:L.length=t.2.2.1.length
 ch:∀c∈L,SS c
 pool:t.2.1.1=256/\t.2.1.2.1=128/\t.2.1.2.2.1=8
theorem TxS.frame (s:TxS m t hd L)(h:∀i,i<256->mB m' i=mB m i):TxS m' t hd L:=⟨s.ring,s.row.frame (Or.inr rfl) λi _ h2=>h i (by omega),s.Bx,s.ch,s.pool⟩
theorem LP (hm:fE m):∀(DF:cg)(last:Bytes)(rest:cg)(hd n:Nat)(acc:ay Dm),su m 0 16 hd (DF++last::rest)->DF.length+1<=n->(∀e∈DF,(cJ e).2=true/\FB (cJ e).1=false)->(cJ last).2=true->FB (cJ last).1=true->
 (qN (bJ 38) m 0 n acc (fA 0 16 hd (DF.length+1+rest.length))).2=(fA 0 16 (hd+(DF.length+1)) rest.length,true)/\su m 0 16 (hd+(DF.length+1)) rest
 |[],last,rest,hd,0,acc,r,hn,_,h1,h2=>by simp at hn
 |[],last,rest,hd,n+1,acc,r,hn,_,h1,h2=>by have t:=Ft hm (b:=0) (S:=16) (Or.inr rfl) (by omega) r;rw[show([]:cg).length+1+rest.length=rest.length+1 by simp;omega,qN,t.1,h1,h2];exact⟨rfl,t.2⟩
 |e::DF,last,rest,hd,0,acc,r,hn,_,h1,h2=>by simp at hn
 |e::DF,last,rest,hd,n+1,acc,r,hn,he,h1,h2=>by
  have t:=Ft hm (b:=0) (S:=16) (Or.inr rfl) (by omega) (show su m 0 16 hd (e::(DF++last::rest)) from r);have hl:(DF++last::rest).length=DF.length+1+rest.length:=by simp;omega
  rw[hl]at t;have g:=he e (by simp);simp only[aS]at hn;rw[show(e::DF).length+1+rest.length=DF.length+1+rest.length+1 by simp;omega,qN,t.1,g.1,g.2];simp only[ak,bG,af];have ih:=LP hm DF last rest (hd+1) n (acc++[(cJ e).1]) t.2 (by omega) (λy hy=>he y (by simp[hy])) h1 h2;rw[show hd+((e::DF).length+1)=hd+1+(DF.length+1) by simp;omega];exact ih
theorem UT (hm:fE m){c:cg}(hc:SS c)(r:su m 0 16 hd (c++L.flatten)):((hU (bJ 38) m 0 (fA 0 16 hd (c++L.flatten).length)).1=fA 0 16 (hd+c.length) L.flatten.length/\su m 0 16 (hd+c.length) L.flatten)/\((hU (bJ 38) m 0 (fA 0 16 hd (c++L.flatten).length)).2.2=1\/(hU (bJ 38) m 0 (fA 0 16 hd (c++L.flatten).length)).2.2=2):=by
 obtain⟨DF,last,rfl,h1,h2,h3⟩:=hc;have hl:(DF++[last]++L.flatten).length=DF.length+1+L.flatten.length:=by simp;omega
 have el:(DF++[last]).length=DF.length+1:=by simp
 have er:DF++[last]++L.flatten=DF++last::L.flatten:=by simp
 have SM:=r.len;rw[hl]at SM⊢;rw[er]at r;have v:=th (b:=0) (S:=16) (hd:=hd) (Or.inr rfl) (by omega) SM;have cf:=LP hm DF last L.flatten hd (DF.length+1+L.flatten.length) [] r (by omega) h1 h2 h3;have tk:(dg (bJ 38) m 0 (fA 0 16 hd (DF.length+1+L.flatten.length))).2=(fA 0 16 (hd+(DF.length+1)) L.flatten.length,true):=by unfold dg;rw[v.1,v.2,show(((DF.length+1+L.flatten.length:Nat):Int)==0)=false from by rw[cu];omega,aA];exact cf.1
 rw[el];unfold hU;rw[v.1,v.2,show(((DF.length+1+L.flatten.length:Nat):Int)==0)=false from by rw[cu];omega,tk];simp only[ak,cd,af];cases !(fC (dg (bJ 38) m 0 (fA 0 16 hd (DF.length+1+L.flatten.length))).1).2.2.2 with|true=>exact⟨⟨rfl,cf.2⟩,Or.inr rfl⟩|false=>simp only[af];cases !(kT (bJ 38) m 0 (fC (dg (bJ 38) m 0 (fA 0 16 hd (DF.length+1+L.flatten.length))).1).1).2||(!(wz (kT (bJ 38) m 0 (fC (dg (bJ 38) m 0 (fA 0 16 hd (DF.length+1+L.flatten.length))).1).1).1).2||((jE (wz (kT (bJ 38) m 0 (fC (dg (bJ 38) m 0 (fA 0 16 hd (DF.length+1+L.flatten.length))).1).1).1).1).2 !=0))with|true=>exact⟨⟨rfl,cf.2⟩,Or.inr rfl⟩|false=>exact⟨⟨rfl,cf.2⟩,Or.inl rfl⟩
theorem GI (hm:fE m):∀(L:ay cg)(hd n:Nat)(fr:cg)(dn bd:Nat),(∀c∈L,SS c)->su m 0 16 hd L.flatten->L.length<n->
 ∃(FD:Nat)(JZ:cg)(a b:Nat),ng (bJ 38) m 0 n fr dn bd (fA 0 16 hd L.flatten.length)=(fA 0 16 FD 0,JZ,(a:Int),(b:Int))/\a+b=dn+bd+L.length
 |[],hd,0,fr,dn,bd,_,_,h=>by simp at h
 |[],hd,n+1,fr,dn,bd,_,_,_=>by
  have v:=th (b:=0) (S:=16) (hd:=hd) (n:=0) (Or.inr rfl);have e:(hU (bJ 38) m 0 (fA 0 16 hd 0)).2.2=0:=by unfold hU;rw[v.1,v.2];rfl
  refine⟨hd,fr,dn,bd,?_,by simp⟩;show ng (bJ 38) m 0 (n+1) fr dn bd (fA 0 16 hd 0)=_;rw[ng,e];rfl
 |c::L,hd,0,fr,dn,bd,_,_,h=>by simp at h
 |c::L,hd,n+1,fr,dn,bd,hc,r,h=>by have hf:(c::L).flatten=c++L.flatten:=List.flatten_cons;rw[hf]at r⊢;simp only[aS]at h;have nx:=UT hm (hc c (by simp)) r;rw[ng,nx.1.1];rcases nx.2 with e|e;obtain⟨FD,JZ,a,b,g1,g2⟩:=GI hm L (hd+c.length) n (fr++(hU (bJ 38) m 0 (fA 0 16 hd (c++L.flatten).length)).2.1) (dn+1) bd (λy hy=>hc y (by simp[hy])) nx.1.2 (by omega);rw[e];exact⟨FD,JZ,a,b,g1,by simp only[aS];omega⟩;obtain⟨FD,JZ,a,b,g1,g2⟩:=GI hm L (hd+c.length) n (fr++(hU (bJ 38) m 0 (fA 0 16 hd (c++L.flatten).length)).2.1) dn (bd+1) (λy hy=>hc y (by simp[hy])) nx.1.2 (by omega);rw[e];exact⟨FD,JZ,a,b,g1,by simp only[aS];omega⟩
theorem Zr:∀(L:ay cg),(∀c∈L,SS c)->L.length<=L.flatten.length
 |[],_=>aV _
 |c::L,h=>by have:=Zr L λy hy=>h y (by simp[hy]);obtain⟨DF,last,e,_⟩:=h c (by simp);rw[List.flatten_cons,aj,e];simp only[aS,aj,dv];omega
theorem J3:∀(l:ay oJ)(p:cX),(nj p l).1=p.1/\(nj p l).2.1=p.2.1/\(nj p l).2.2.1=p.2.2.1
 |[],p=>⟨rfl,rfl,rfl⟩
 |x::l,p=>by
  have i:=J3 l (Aa p x.2.2).1;have g:(Aa p x.2.2).1.1=p.1/\(Aa p x.2.2).1.2.1=p.2.1/\(Aa p x.2.2).1.2.2.1=p.2.2.1:=by unfold Aa;cases Ab p x.2.2<;>exact⟨rfl,rfl,rfl⟩
  exact⟨i.1.trans g.1,i.2.1.trans g.2.1,i.2.2.trans g.2.2⟩
theorem VK (g:Good n h)(hn:n<=1000000000000)(Xg:h.2.1=bJ 38)(hm:fE h.1)(s:TxS h.1 h.2.2.1 hd L):∃FD,(dH h).2.2.1=(fA 0 16 FD 0,nj h.2.2.1.2.1 h.2.2.1.2.2.1,[],h.2.2.1.2.2.2):=by
 have hl:=s.row.len;have SM:=Zr L s.ch;obtain⟨FD,fr,a,b,e1,e2⟩:=GI hm L hd 17 [] 0 0 s.ch s.row (by omega);have e:rn h.2.1 h.1 0 h.2.2.1.1=(fA 0 16 FD 0,fr,(a:Int),(b:Int)):=by rw[Xg,s.ring];exact e1
 have hc:=s.Bx;have v:=th (b:=0) (S:=16) (hd:=FD) (n:=0) (Or.inr rfl);have eN:(if(h.2.2.1.2.2.1.length:Int)<au ((a:Int)+(b:Int)) then(h.2.2.1.2.2.1.length:Int) else au ((a:Int)+(b:Int)))=(h.2.2.1.2.2.1.length:Int):=by rw[al];split<;>omega
 have tx:=g.tx;have t2:Fy (fA 0 16 FD 0,h.2.2.1.2):=by refine⟨v.1,tx.next,λx hx=>?_,tx.pool,?_⟩;have:=tx.sent x hx;rw[s.ring]at this;exact this;have:=tx.Bx;rw[s.ring]at this;exact this
 have ec:lu (fA 0 16 FD 0,h.2.2.1.2) (h.2.2.1.2.2.1.length:Int)=((fA 0 16 FD 0,nj h.2.2.1.2.1 h.2.2.1.2.2.1,[],h.2.2.1.2.2.2),h.2.2.1.2.2.1.map (·.1)):=by unfold lu;rw[af8.2 t2,aX.2 ⟨by omega,eT _⟩];simp only[cY,ah,aA,eF,gx]
 refine⟨FD,?_⟩;unfold dH;rw[g.ok hn,e];simp only[ah,eN,ec]
theorem O0 (g:Good n h)(hn:n<=1000000000000)(Xg:h.2.1=bJ 38)(hm:fE h.1)(s:TxS h.1 h.2.2.1 hd L):(dH h).2.2.1.2.2.1=[]/\∃FD,TxS h.1 (dH h).2.2.1 FD []:=by obtain⟨FD,et⟩:=VK g hn Xg hm s;have gs:=J3 h.2.2.1.2.2.1 h.2.2.1.2.1;rw[et];exact⟨rfl,FD,rfl,⟨by simp,λj hj=>by simp at hj⟩,rfl,(λc hc=>by cases hc),gs.1.trans s.pool.1,gs.2.1.trans s.pool.2.1,gs.2.2.trans s.pool.2.2⟩
theorem YW {p:cX}(hp:p.1=256/\p.2.1=128/\p.2.2.1=8)(hb:dz p=true)(h:b∈p.2.2.2):∃a:Nat,nn p b=(a:Int)/\256<=a/\a+128<=1280:=by
 have hi:0<=b/\b<=7:=by unfold dz at hb;simp only[ab,aL,cy]at hb;obtain⟨i,hi,e⟩:=fX h;have:=hb.2.2.2 i hi;unfold BZ at this;rw[de hi,e,hp.2.2]at this;simp only[ab,aX]at this;omega
 refine⟨(256+b*128).toNat,?_,by omega,by omega⟩;unfold nn;rw[hb,hp.2.2,aX.2 ⟨hi.1,by omega⟩,hp.1,hp.2.1];show(256:Int)+b*128=_;omega
theorem Mb {p:cX}(hp:p.1=256/\p.2.1=128/\p.2.2.1=8)(hb:dz p=true){z:Nat}(hz:z<=128):∀(q:dB)(s:Bytes)(m:cg)(a:ay gV){x},(∀b∈q,b∈p.2.2.2)->fE m->uV (bJ 38) 0 p z q s m a=some x->fE x.2/\∀i,i<4864->(i<256\/1280<=i)->mB x.2 i=mB m i
 |[],s,m,a,x,_,hm,h=>by cases h;exact⟨hm,λ_ _ _=>rfl⟩
 |b::q,s,m,a,x,hq,hm,h=>by
  obtain⟨A,e,a1,a2⟩:=YW hp hb (hq b (by simp));have hl:(s.take z).length<=128:=by rw[aY];omega
  have pf:=Co hm (a:=A) (s:=s.take z) (w:=false) (by omega) (by omega) (by simp);rw[uV,e,pf.1]at h;have ih:=Mb hp hb hz q _ _ _ (λy hy=>hq y (by simp[hy])) pf.2.1 h;exact⟨ih.1,λi hi ho=>by rw[ih.2 i hi ho,pf.2.2 i hi,kl]⟩
theorem Kn:∀(q:cg)(m:cg)(hd:Nat)(E:cg),fE m->su m 0 16 hd E->(∀s∈q,s.length=16)->E.length+q.length<=16->∃m',tM (bJ 38) 0 q m (fA 0 16 hd E.length)=some (m',fA 0 16 hd (E++q).length)/\fE m'/\su m' 0 16 hd (E++q)/\∀i,i<4864->256<=i->mB m' i=mB m i
 |[],m,hd,E,hm,r,_,_=>⟨m,by rw[bA];rfl,hm,by rw[bA];exact r,λ_ _ _=>rfl⟩
 |s::q,m,hd,E,hm,r,hs,hl=>by
  simp only[aS]at hl;have p:=U8 hm (b:=0) (S:=16) (hd:=hd) (Or.inr rfl) (by omega) r (by omega) (hs s (by simp));have e1:E.length+1=(E++[s]).length:=by simp
  obtain⟨m',g1,g2,g3,g4⟩:=Kn q _ hd (E++[s]) p.2.1 p.2.2.1 (λy hy=>hs y (by simp[hy])) (by simp;omega);rw[aD,gk]at g1 g3;refine⟨m',?_,g2,g3,λi hi ho=>(g4 i hi ho).trans (p.2.2.2 i hi (by omega))⟩;rw[tM,p.1];simp only[ah];rw[e1];exact g1
theorem adT {ps:ay gV}{c:Int}(h:(kq ps z c).length=ps.length+1):kq ps z c=[(2,0,0,0,z,c)]++nM ps c ps.length/\([(2,0,0,0,z,c)]++nM ps c ps.length).all oG=true:=by unfold kq at h⊢;cases h1:((ps.length:Int)==0)||(!nD ps|| !dF z 1 128)with|true=>rw[h1]at h;simp at h|false=>rw[h1]at h;simp only[af]at h⊢;cases h2:([(2,0,0,0,z,c)]++nM ps c ps.length).all oG with|true=>exact⟨rfl,rfl⟩|false=>rw[h2]at h;simp at h
theorem Zl (f l a s c:Int)(hf:f=0\/f=1):FB (1,f,l,a,s,c)=(f==1):=by rcases hf with rfl|rfl;unfold FB;simp only[fO,ah];decide;unfold FB;simp only[fO,ah];decide
theorem Pf (ps:ay gV)(c:Int):∀i,i<ps.length->∀d∈nM ps c i,FB d=false
 |0,_,d,hd=>by cases hd
 |i+1,hi,d,hd=>by rw[nM]at hd;rcases ax.1 hd with g|g;exact Pf ps c i (by omega) d g;rw[bn.1 g];unfold dsc;rw[kl,Zl _ _ _ _ _ (Or.inl rfl)];rfl
theorem WV {ps:ay gV}{c:Int}(h:(kq ps z c).length=ps.length+1)(h0:0<ps.length):SS ((kq ps z c).map jc)/\∀s∈(kq ps z c).map jc,s.length=16:=by
 obtain⟨e,uJ⟩:=adT h;rw[e];rw[aL]at uJ;obtain⟨k,hk⟩:∃k,ps.length=k+1:=⟨ps.length-1,by omega⟩
 have ed:nM ps c ps.length=nM ps c k++[dsc ps.length c k (ps.getD k (0,0))]:=by rw[show nM ps c ps.length=nM ps c (k+1) from by rw[hk]];rfl
 rw[ed]at uJ⊢;refine⟨⟨([(2,0,0,0,z,c)]++nM ps c k).map jc,jc (dsc ps.length c k (ps.getD k (0,0))),?_,λs hs=>?_,?_,?_⟩,λs hs=>?_⟩;rw[<-aD,cp];rfl;obtain⟨d,hd,rfl⟩:=dp.1 hs;have Mr:d∈[(2,0,0,0,z,c)]++(nM ps c k++[dsc ps.length c k (ps.getD k (0,0))]):=by rw[<-aD];exact aR _ hd
 rw[(wG (uJ d Mr)).2];refine⟨rfl,?_⟩;rcases ax.1 hd with g|g;rw[bn.1 g];rfl;exact Pf ps c k (by omega) d g;rw[(wG (uJ _ (by rw[<-aD];exact bj _ (bn.2 rfl)))).2];rw[(wG (uJ _ (by rw[<-aD];exact bj _ (bn.2 rfl)))).2];show FB (1,(if k+1=ps.length then 1 else 0),_,_,0,c)=true;rw[aF hk.symm,Zl _ _ _ _ _ (Or.inr rfl)];rfl;obtain⟨d,hd,rfl⟩:=dp.1 hs;exact(wG (uJ d hd)).1
theorem Qu (hm:fE m)(s:TxS m t hd L)(ht:Fy t)(p:aQ)(c z:Int):fE (ug (bJ 38) m 0 t p c z).1/\(∃L',TxS (ug (bJ 38) m 0 t p c z).1 (ug (bJ 38) m 0 t p c z).2.1 hd L')/\∀i,i<4864->1280<=i->mB (ug (bJ 38) m 0 t p c z).1 i=mB m i:=by
 have R8:fE m/\(∃L',TxS m t hd L')/\∀i,i<4864->1280<=i->mB m i=mB m i:=⟨hm,⟨L,s⟩,λ_ _ _=>rfl⟩
 have hb:=ht.free;unfold ug;cases hg:Od t&&(cD p&&(dF z 1 t.2.1.2.1&&dF c 1 128));exact R8;simp only[ab,aX]at hg;simp only[ah];have tl:=NX hg.2.1;have hz:z.toNat<=128:=by have:=hg.2.2.1.2;rw[s.pool.2.1]at this;omega
 have hk0:0<yH p z.toNat:=by unfold yH;refine Nat.div_pos ?_ (by omega);omega
 generalize hk:yH p z.toNat=k at hk0;cases hf:He t k;exact R8;simp only[ah];rcases hx:uV (bJ 38) 0 t.2.1 z.toNat (kj t.2.1 (k:Int)).2.1 (lg p).1 m []with _|x;exact R8;simp only;unfold He at hf;simp only[ab,aN,cP]at hf;have hti:dF (k:Int) 0 (t.2.1.2.2.2.length:Int)=true:=by have:=hf.1;unfold kj at this;cases hq:dz t.2.1&&dF (k:Int) 0 (t.2.1.2.2.2.length:Int)with|true=>rw[ab]at hq;exact hq.2|false=>rw[hq]at this;cases this
 have et:kj t.2.1 (k:Int)=((t.2.1.1,t.2.1.2.1,t.2.1.2.2.1,t.2.1.2.2.2.drop k),t.2.1.2.2.2.take k,true):=by unfold kj;rw[hb,hti];rfl
 rw[et]at hx;have hti:=aX.1 hti;have hlen:(t.2.1.2.2.2.take k).length=k:=by rw[aY];omega
 have fw:=Mb s.pool hb hz _ _ _ _ (λb im=>List.mem_of_mem_take im) hm hx;have fo:=Hd (bJ 38) 0 t.2.1 z.toNat _ _ _ _ hx;have xl:x.1.length=k:=by rw[fo.2.1,hlen];simp
 have SM:k<=16:=by omega
 have da:=Tm (ps:=x.1) (z:=c) (c:=t.2.2.2) (by omega) (by omega) (λy hy=>by rcases fo.2.2 y hy with g|⟨⟨b,im,e⟩,g2,g3⟩;cases g;·obtain⟨A,eA,a1,a2⟩:=YW s.pool hb (List.mem_of_mem_take im);rw[e,eA];omega) (aX.2 hg.2.2.2) (aX.2 ht.next);have dc:=WV da (by omega);have r2:=s.row.frame (m':=x.2) (Or.inr rfl) λi _ h2=>fw.2 i (by omega) (by omega);have jQ:=hf.2.2.1;have v:=th (b:=0) (S:=16) (hd:=hd) (Or.inr rfl) (by omega) s.row.len;have efr:mx t.1=((16-L.flatten.length:Nat):Int):=by have:=s.row.len;unfold mx;rw[s.ring,v.1,v.2,ah];show au ((16:Int)-(L.flatten.length:Int))=_;rw[al];omega
 rw[efr]at jQ;obtain⟨m',g1,g2,g3,g4⟩:=Kn ((kq x.1 c t.2.2.2).map jc) x.2 hd L.flatten fw.1 r2 dc.2 (by rw[cI,da];omega);have ep:tN (bJ 38) x.2 0 t.1 ((kq x.1 c t.2.2.2).map jc)=(m',fA 0 16 hd (L.flatten++(kq x.1 c t.2.2.2).map jc).length,true):=by unfold tN;rw[s.ring,g1];rfl
 unfold NC;rw[ep,et];simp only[ah];have efl:L.flatten++(kq x.1 c t.2.2.2).map jc=(L++[(kq x.1 c t.2.2.2).map jc]).flatten:=by rw[eo];simp
 rw[efl]at g3⊢;refine⟨g2,⟨L++[(kq x.1 c t.2.2.2).map jc],rfl,g3,?_,λy hy=>?_,s.pool⟩,λi hi ho=>(g4 i hi (by omega)).trans (fw.2 i hi (by omega))⟩;show(L++[_]).length=(t.2.2.1++[_]).length;rw[aj,aj,s.Bx];rfl;rcases ax.1 hy with g|g;exact s.ch y g;rw[bn.1 g];exact dc.1
def QI (A:ay Fx->bC->Vector->Bool->Prop)(m:cg)(k:Nat)(q:bC)(p:cX)(v:Vector)(b:Bool):Prop:=
 ∃hd x P C F,EY m k q p hd x P C F/\v.2.1<=3/\v.2.2.2.2.1=b/\(b=false->C≠[]->1<=v.2.2.1)/\A C q v b
theorem QI.frame {A:ay Fx->bC->Vector->Bool->Prop}{p:cX}{b:Bool}(s:QI A m k q p v b)(h:∀i,hZ k<=i->i<hZ k+128->mB m' i=mB m i):QI A m' k q p v b:=by obtain⟨hd,x,P,C,F,s,t⟩:=s;exact⟨hd,x,P,C,F,s.frame h,t⟩
theorem QI.zD {A B:ay Fx->bC->Vector->Bool->Prop}{p:cX}{b:Bool}(s:QI A m k q p v b)(h:∀C q v b,A C q v b->B C q v b):QI B m k q p v b:=by obtain⟨hd,x,P,C,F,s,t1,t2,t3,t4⟩:=s;exact⟨hd,x,P,C,F,s,t1,t2,t3,h _ _ _ _ t4⟩
def acZ (A:ay Fx->bC->Vector->Bool->Prop)(h:Host)(k:Nat):Prop:=∃q p v b,h.2.2.2.1[k]?=some q/\h.2.2.2.2.1[k]?=some p/\h.2.2.2.2.2.1[k]?=some v/\h.2.2.2.2.2.2.1[k]?=some b/\QI A h.1 k q p v b
structure Live (Q:Nat->List Fx->bC->Vector->Bool->Prop) (h:Host):Prop where
 maps:h.2.1=bJ 38
 mem:fE h.1
 tx:∃hd L,TxS h.1 h.2.2.1 hd L
 rx:∀k,k<h.2.2.2.1.length->acZ (Q k) h k
abbrev Fz:Nat->ay Fx->bC->Vector->Bool->Prop:=λ_ _ _ _ _=>True
theorem Live.step {Q':Nat->ay Fx->bC->Vector->Bool->Prop}(f:Live Q h)(hk:k<h.2.2.2.1.length)(h2:h.2.2.2.1.length<=2)(hm:fE h'.1)(e1:h'.2.1=h.2.1)(e2:h'.2.2.1=h.2.2.1)(e3:h'.2.2.2.1.length=h.2.2.2.1.length)(hq:∀j,j≠k->h'.2.2.2.1[j]?=h.2.2.2.1[j]?/\h'.2.2.2.2.1[j]?=h.2.2.2.2.1[j]?/\h'.2.2.2.2.2.1[j]?=h.2.2.2.2.2.1[j]?/\h'.2.2.2.2.2.2.1[j]?=h.2.2.2.2.2.2.1[j]?)(out:∀i,i<4864->(i<hZ k\/hZ k+1792<=i)->mB h'.1 i=mB h.1 i)(hQ:∀j,j≠k->∀C q v b,Q j C q v b->Q' j C q v b)(hF:acZ (Q' k) h' k):Live Q' h':=by have hn:hZ k=1280+1792*k:=rfl;obtain⟨hd,L,s⟩:=f.tx;refine⟨e1.trans f.maps,hm,⟨hd,L,by rw[e2];exact s.frame λi hi=>out i (by omega) (by omega)⟩,λj hj=>?_⟩;by_cases RL:j=k;subst RL;exact hF;rw[e3]at hj;have hj2:hZ j=1280+1792*j:=rfl;obtain⟨q,p,v,b,g1,g2,g3,g4,g5⟩:=f.rx j hj;have e:=hq j RL;exact⟨q,p,v,b,by rw[e.1];exact g1,by rw[e.2.1];exact g2,by rw[e.2.2.1];exact g3,by rw[e.2.2.2];exact g4,(g5.zD (hQ j RL)).frame λi h1 h2=>out i (by omega) (by omega)⟩
theorem Live.same (f:Live Q h)(hm:fE h'.1)(e1:h'.2.1=h.2.1)(e3:h'.2.2.2.1=h.2.2.2.1)(e4:h'.2.2.2.2.1=h.2.2.2.2.1)(e5:h'.2.2.2.2.2.1=h.2.2.2.2.2.1)(e6:h'.2.2.2.2.2.2.1=h.2.2.2.2.2.2.1)(ht:∃hd L,TxS h'.1 h'.2.2.1 hd L)(out:∀i,i<4864->1280<=i->mB h'.1 i=mB h.1 i)(h2:h.2.2.2.1.length<=2):Live Q h':=by refine⟨e1.trans f.maps,hm,ht,λk hk=>?_⟩;rw[e3]at hk;have hn:hZ k=1280+1792*k:=rfl;obtain⟨q,p,v,b,g1,g2,g3,g4,g5⟩:=f.rx k hk;exact⟨q,p,v,b,by rw[e3];exact g1,by rw[e4];exact g2,by rw[e5];exact g3,by rw[e6];exact g4,g5.frame λi h1 h2=>out i (by omega) (by omega)⟩
theorem yG (v:Vector):(sC v).1=v.1/\(sC v).2.1=v.2.1/\(sC v).2.2.1=v.2.2.1/\(sC v).2.2.2.1=v.2.2.2.1/\(sC v).2.2.2.2.1=v.2.2.2.2.1:=by unfold sC;cases CC v&& !v.2.2.2.2.1<;>exact⟨rfl,rfl,rfl,rfl,rfl⟩
theorem aaA (hv:dU v=true):(evV v).2.1=v.2.1/\(evV v).2.2.2.2.1=v.2.2.2.2.1/\1<=(evV v).2.2.1:=by have w:=(tZ v).1 hv;have u:=YH w.2.2.1;have c:=yG (v.1,v.2.1,Lt v.2.2.1,v.2.2.2);unfold evV;rw[hv,ah];exact⟨c.2.1,c.2.2.2.2,by rw[c.2.2.1];show 1<=Lt v.2.2.1;omega⟩
def evN:Nat->Vector->Vector
 |0,v=>v
 |n+1,v=>evV (evN n v)
theorem ad1 (hv:dU v=true):∀n,dU (evN n v)=true/\(evN n v).2.1=v.2.1/\(evN n v).2.2.2.2.1=v.2.2.2.2.1/\(1<=n->1<=(evN n v).2.2.1)
 |0=>⟨hv,rfl,rfl,λh=>by omega⟩
 |n+1=>by have i:=ad1 hv n;have s:=aaA i.1;exact⟨agb i.1,s.1.trans i.2.1,s.2.1.trans i.2.2.1,λ_=>s.2.2⟩
theorem W0 (hv:h.2.2.2.2.2.1[k]?=some v):∀n,WZ k n h=(h.1,h.2.1,h.2.2.1,h.2.2.2.1,h.2.2.2.2.1,h.2.2.2.2.2.1.set k (evN n v),h.2.2.2.2.2.2)
 |0=>by obtain⟨ir,e⟩:=aB.1 hv;show h=_;rw[evN,<-e,List.set_getElem_self]
 |n+1=>by obtain⟨ir,e⟩:=aB.1 hv;rw[WZ,W0 hv n];unfold evS;simp only[bD ir,List.set_set];rfl
theorem UB (f:Live Q h)(h2:h.2.2.2.1.length<=2)(hk:k<h.2.2.2.1.length)(hq:h.2.2.2.1[k]?=some q){p:cX}(hp:h.2.2.2.2.1[k]?=some p)(hv:h.2.2.2.2.2.1[k]?=some v){b:Bool}(hb:h.2.2.2.2.2.2.1[k]?=some b)(s:EY h.1 k q p hd x P C F)(w3:v.2.1<=3)(wm:v.2.2.2.2.1=b)(wc:b=false->C≠[]->1<=v.2.2.1)(hvb:dU v=true){g:cg×bC}{H:Bool}{n:Nat}(hn:n<=4)(fl:QO h.1 k p x C F H g n): Live (λj C q v b=>(j=k->q.2.2.2.2.1=H)/\(j≠k->Q j C q v b)) (wi h k q.2.1.2.2 g):=by
 obtain⟨FD,P',C',s',l'⟩:=fl.st;have hc4:=s.YZ.len;have aql:=s'.YZ.len;have ed:q.2.1.2.2=(((x+C.length)%8:Nat):Int):=by rw[s.dev];rfl
 have ed':g.2.2.1.2.2=(((x+C'.length)%8:Nat):Int)/\g.2.2.1.2.1=4:=by rw[s'.dev];exact⟨rfl,rfl⟩
 have ec:((g.2.2.1.2.2-q.2.1.2.2)%(2*g.2.2.1.2.1)).toNat=n:=by rw[ed'.1,ed'.2,ed,l'];omega
 have SQ:(Ev h k g).2.2.2.2.2.1[k]?=some v:=hv;have e:wi h k q.2.1.2.2 g=(g.1,h.2.1,h.2.2.1,h.2.2.2.1.set k g.2,h.2.2.2.2.1,h.2.2.2.2.2.1.set k (evN n v),h.2.2.2.2.2.2):=by unfold wi;rw[ec,W0 SQ n];rfl
 have vk:=ad1 hvb n;obtain⟨V2,_⟩:=aB.1 hv;rw[e];refine Live.step (Q:=Q) (Q':=λj C q v b=>(j=k->q.2.2.2.2.1=H)/\(j≠k->Q j C q v b)) f hk h2 fl.mem rfl rfl (aK ..) (λj hj=>⟨aJ (cr hj),rfl,aJ (cr hj),rfl⟩) fl.out (λj hj C q v b hA=>⟨λe=>absurd e hj,λ_=>hA⟩) ?_;refine⟨g.2,p,evN n v,b,bD hk,hp,bD V2,hb,FD,x,P',C',F,s',by rw[vk.2.1];exact w3,by rw[vk.2.2.1];exact wm,λim yd=>?_,λ_=>fl.hold,λe=>absurd rfl e⟩;rcases Nat.eq_zero_or_pos n with g0|g0;subst g0;refine wc im λe0=>yd ?_;rw[e0]at l';exact bZ (by simpa using l');exact vk.2.2.2 g0
theorem Fj (g:Good n h):h.2.2.2.2.2.2.2.2.1.2.2.1.length=16:=by have:=g.JJ;unfold gA qG at this;simp only[ab,bm]at this;have e:=this.1.1.2.1.1.2;omega
theorem oA (g:Good n h):h.2.2.2.1.length<=2:=(vD g.lens).1
theorem Kc (hn:n<=500000000000)(g:Good n h)(f:Live Q h)(hk:k<h.2.2.2.1.length:=by omega):Live (λj C q v b=>(j=k->q.2.2.2.2.1=false)/\(j≠k->Q j C q v b)) (gS k h):=by
 have h2:=oA g;obtain⟨q,p,v,b,g1,g2,g3,g4,hd,x,P,C,F,s,w1,w2,w3,_⟩:=f.rx k hk;have rx:=g.rx q (aZ g1);obtain⟨c,hc,fl⟩:=zW f.mem (by omega) s (rx.rx (by omega)) h.2.2.2.2.2.2.2.2.1.2.2.1 (Fj g);have e:gS k h=wi h k q.2.1.2.2 (gz (bJ 38) h.1 0 q h.2.2.2.2.2.2.2.2.1.2.2.1):=by unfold gS;rw[g1,f.maps]
 rw[e];exact UB f h2 hk g1 g2 g3 g4 s w1 w2 w3 (g.vec v (aZ g3)) (by omega) fl
theorem Live.zD {Q':Nat->ay Fx->bC->Vector->Bool->Prop}(f:Live Q h)(hq:∀k,k<h.2.2.2.1.length->∀C q v b,Q k C q v b->Q' k C q v b):Live Q' h:=by refine⟨f.maps,f.mem,f.tx,λk hk=>?_⟩;obtain⟨q,p,v,b,g1,g2,g3,g4,g5⟩:=f.rx k hk;exact⟨q,p,v,b,g1,g2,g3,g4,g5.zD (hq k hk)⟩
abbrev ait:Nat->ay Fx->bC->Vector->Bool->Prop:=λ_ _ q _ _=>q.2.2.2.2.1=false
theorem Gs (hn:n<=400000000000)(g:Good n h)(f:Live Q h):Live ait (kR h):=by
 have h2:=oA g;have key:∀k:Nat,k<=h.2.2.2.1.length->Good (n+320*(k:Int)) (fT gS k h)/\(fT gS k h).2.2.2.1.length=h.2.2.2.1.length/\Live (λj _ q _ _=>j<k->q.2.2.2.2.1=false) (fT gS k h):=by intro k;induction k with|zero=>intro _;exact⟨g.mono,rfl,f.zD λk _ C q v b _ e=>by omega⟩|succ k ih=>intro hk;obtain⟨i1,i2,i3⟩:=ih (by omega);have st:=Kc (by omega) i1 i3 (k:=k);have gl:=D7 (by omega) i1 k;have e2:(gS k (fT gS k h)).2.2.2.1.length=(fT gS k h).2.2.2.1.length:=(qQ k _).rx;refine⟨gl.mono (by push_cast;omega),e2.trans i2,st.zD λj hj C q v b hA RL=>?_⟩;by_cases h1:j=k;exact hA.1 h1;exact hA.2 h1 (by omega)
 unfold kR;rw[g.ok (by omega),ah];obtain⟨i1,i2,i3⟩:=key h.2.2.2.1.length (aV _);exact i3.zD λj hj C q v b hA=>hA (by omega)
theorem R2 (hn:n<=400000000000)(g:Good n h)(f:Live Q h)(y:Bytes):Live Fz (lS h y):=by
 have h2:=oA g;have loose:Live Fz h:=f.zD λ_ _ _ _ _ _ _=>trivial;have Bx:∀a b c d,Live Fz (sD h a b c d):=λa b c d=>loose.same (h':=sD h a b c d) f.mem rfl rfl rfl rfl rfl f.tx (λ_ _ _=>rfl) h2;unfold lS;rw[g.ok (by omega)];simp only[ak,af];cases (gR y).2 !=0;case true=>exact Bx ..
 cases !sH h.2.2.2.2.2.2.2.1 (gR y).1;case true=>exact Bx ..
 cases iy h.2.2.2.2.2.2.2.2.1 (h.2.2.2.1.length:Int) (gR y).1== -1;case true=>exact Bx ..
 simp only[af];generalize (iy h.2.2.2.2.2.2.2.2.1 (h.2.2.2.1.length:Int) (gR y).1).toNat=k;rcases hq:h.2.2.2.1[k]? with _|q;exact loose;simp only;obtain⟨hk,_⟩:=aB.1 hq;obtain⟨q',p,v,b,g1,g2,g3,g4,hd,x,P,C,F,s,w1,w2,w3,_⟩:=loose.rx k hk;rw[hq]at g1;have g1:=cb g1;subst g1;obtain⟨c,H,hc,fl⟩:=JS f.mem (by omega) s (by omega) (g.rx q (aZ hq)) h.2.2.2.2.2.2.2.2.1.2.2.1 (Fj g) (gR y).1 h.2.2.2.2.2.2.2.2.2.2.1;rw[f.maps];have:=UB (Bx h.2.2.2.2.2.2.2.2.2.2.2.2.2.2.2.1 h.2.2.2.2.2.2.2.2.2.2.2.2.2.2.2.2.1 h.2.2.2.2.2.2.2.2.2.2.2.2.2.2.2.2.2.1 (au (h.2.2.2.2.2.2.2.2.2.2.2.2.2.2.2.2.2.2+1))) h2 hk hq g2 g3 g4 s w1 w2 w3 (g.vec v (aZ g3)) (by omega) fl;exact this.zD λ_ _ _ _ _ _ _=>trivial
def ig (l:ay Stream)(f:AB):aC Stream:=l.find? (Wf f)
def BN (p:aQ)(s:Stream):Stream:=
 bif p.2.2.2.2.2.2.2.2.1==17 then(s.1,s.2.1,s.2.2.1++udp p,s.2.2.2) else
 bif oD p 2 then s else bif s.2.2.2||oD p 4 then s else bif decide (fM s p<=((body p).length:Int)) then SH s p else s
def wW (p:aQ):aC Stream->aC Stream
 |none=>bif p.2.2.2.2.2.2.2.2.1==17 then some (dm p,0,udp p,false) else bif oD p 2 then some (dm p,Int.tmod (au (p.2.2.2.2.2.2.2.2.2.2.2.1+1)) 4294967296,([]:Bytes),false) else none
 |some s=>some (BN p s)
theorem VG (p:aQ)(s:Stream):(BN p s).1=s.1:=by
 unfold BN;cases p.2.2.2.2.2.2.2.2.1==17;case true=>rfl
 cases oD p 2;case true=>rfl
 cases s.2.2.2||oD p 4;case true=>rfl
 cases decide (fM s p<=((body p).length:Int))<;>rfl
theorem P0 (A:ay Stream)(y:Stream)(B:ay Stream)(f:AB):ig (A++y::B) f=(ig A f).or (if y.1=f then some y else ig B f):=by unfold ig;rw[List.find?_append,List.find?_cons];by_cases h:y.1=f;rw[aF h,show Wf f y=true from aq h];rw[aH h,show Wf f y=false from ar h]
theorem R3 (hp:cD p=true)(l:ay Stream)(f:AB):ig (lI l p) f=if dm p=f then wW p (ig l f) else ig l f:=by
 cases hi:l.findIdx? (Wf (dm p))with
 |none=>
  have hn:=List.findIdx?_eq_none_iff.1 hi;have hl:ig l (dm p)=none:=List.find?_eq_none.2 λs hs=>by rw[hn s hs];simp
  have e:lI l p=match wW p none with|some y=>l++[y]|none=>l:=by
   unfold lI wW;rw[hp,hi];simp only[ak,af];cases p.2.2.2.2.2.2.2.2.1==17;case true=>rfl
   cases oD p 2<;>rfl
  have hy:∀y,wW p none=some y->y.1=dm p:=by intro y hy;unfold wW at hy;cases h17:p.2.2.2.2.2.2.2.2.1==17 with|true=>rw[h17]at hy;rw[<-cb hy]|false=>rw[h17]at hy;cases h2:oD p 2 with|true=>rw[h2]at hy;rw[<-cb hy]|false=>rw[h2]at hy;cases hy
  rw[e];cases ho:wW p none with|none=>by_cases ef:dm p=f;rw[aF ef,<-ef,hl,ho];rw[aH ef]|some y=>have h1:=hy y ho;show ig (l++y::[]) f=_;rw[P0,h1];by_cases ef:dm p=f;rw[aF ef,aF ef,<-ef,hl,ho];rfl;rw[aH ef,aH ef];show(ig l f).or none=_;cases ig l f<;>rfl
 |some i=>
  obtain⟨ir,h1,h2⟩:=List.findIdx?_eq_some_iff_getElem.1 hi;have hd:l.getD i Sx=l[i]:=de ir Sx;have e:lI l p=l.set i (BN p l[i]):=by
   have same:l=l.set i l[i]:=(List.set_getElem_self ir).symm;unfold lI BN;rw[hp,hi];simp only[ak,af,hd];cases p.2.2.2.2.2.2.2.2.1==17;case true=>rfl
   cases oD p 2;case true=>exact same
   cases l[i].2.2.2||oD p 4;case true=>exact same
   cases decide (fM l[i] p<=((body p).length:Int))with|true=>rfl|false=>exact same
  have hs:∀y,l.set i y=l.take i++y::l.drop (i+1):=λy=>by rw[List.set_eq_take_append_cons_drop,aF ir]
  have hl:l=l.take i++l[i]::l.drop (i+1):=(List.set_getElem_self ir).symm.trans (hs _);have f1:l[i].1=dm p:=bw h1;have ht:ig (l.take i) (dm p)=none:=List.find?_eq_none.2 λs hs=>by obtain⟨j,hj⟩:=List.getElem?_of_mem hs;obtain⟨hjl,ej⟩:=aB.1 hj;rw[aY]at hjl;have:=h2 j (by omega);rw[<-ej,List.getElem_take];exact this
  have key:∀y:Stream,y.1=dm p->ig (l.take i++y::l.drop (i+1)) f=if dm p=f then some y else(ig (l.take i) f).or (ig (l.drop (i+1)) f):=by intro y hy;rw[P0,hy];by_cases ef:dm p=f;rw[aF ef,aF ef,<-ef,ht];rfl;rw[aH ef,aH ef]
  have k0:=key l[i] f1;rw[<-hl]at k0;rw[e,hs,key _ ((VG p l[i]).trans f1),k0];by_cases ef:dm p=f;rw[aF ef,aF ef,aF ef];rfl;rw[aH ef,aH ef,aH ef]
def Df (f:AB)(o:aC Stream)(p:aQ):aC Stream:=if dm p=f then wW p o else o
def yV (f:AB)(o:aC Stream)(l:ay aQ):aC Stream:=l.foldl (Df f) o
theorem As (f:AB)(o:aC Stream)(a b:ay aQ):yV f o (a++b)=yV f (yV f o a) b:=List.foldl_append ..
theorem Qq (f:AB)(o:aC Stream)(p:aQ)(b:ay aQ):yV f o (p::b)=yV f (Df f o p) b:=rfl
theorem Sl {f:AB}:∀(l:ay aQ)(o:aC Stream),(∀p∈l,dm p≠f)->yV f o l=o
 |[],o,_=>rfl
 |p::l,o,h=>by rw[Qq,Df,aH (h p List.mem_cons_self)];exact Sl l o λq hq=>h q (dS _ hq)
theorem abx (hp:cD p=true)(l:ay Stream)(f:AB):ig (lI l p) f=Df f (ig l f) p:=R3 hp l f
theorem LH (h:p.2.2.2.2.2.2.2.2.2.2.2.2.2.1=n):oD p b=(au (BitVec.toNat (ia n&&&ia b)) !=0):=by unfold oD;rw[h]
theorem W4 (h:zV p.2.2.2.2.2.2.2.2.2.2.2.2.2.1=true):oD p 2=false/\oD p 4=false:=by simp only[zV,cH,bm]at h;rcases h with((h|h)|h)|h<;>rw[LH h,LH h]<;>decide
theorem ac4 (h:p.2.2.2.2.2.2.2.2.2.2.2.2.2.1=16):oD p 1=false/\oD p 2=false/\oD p 4=false:=by rw[LH h,LH h,LH h];decide
theorem Ay (k:(p.2.2.2.2.2.2.2.2.1==17)=false)(b2:oD p 2=false)(b4:oD p 4=false)(t:Stream):BN p t=bif t.2.2.2 then t else bif decide (fM t p<=((body p).length:Int)) then SH t p else t:=by unfold BN;rw[k,b2,b4,Bool.or_false];rfl
theorem acP {s:ni}(h:DD s p=true)(f:AB)(o:aC Stream):Df f (Df f o s.1) p=Df f o (sv s p).1:=by
 have hc:=h;simp only[DD,Zw,Qh,Vq,ahC,ab,bm,aE]at hc;obtain⟨⟨hs,hp,⟨_,_,_,_,_,p6,p7,p8,p9,p10,_⟩,h6,SM,hfl⟩,⟨_,_,_,hlen,apN⟩,agN,_⟩:=hc;have e:(sv s p).1=(s.1.1,s.1.2.1,s.1.2.2.1,s.1.2.2.2.1,s.1.2.2.2.2.1,s.1.2.2.2.2.2.1,s.1.2.2.2.2.2.2.1,s.1.2.2.2.2.2.2.2.1,s.1.2.2.2.2.2.2.2.2.1,s.1.2.2.2.2.2.2.2.2.2.1,s.1.2.2.2.2.2.2.2.2.2.2.1,s.1.2.2.2.2.2.2.2.2.2.2.2.1,s.1.2.2.2.2.2.2.2.2.2.2.2.2.1,p.2.2.2.2.2.2.2.2.2.2.2.2.2.1,s.1.2.2.2.2.2.2.2.2.2.2.2.2.2.2.1,s.1.2.2.2.2.2.2.2.2.2.2.2.2.2.2.2++p.2.2.2.2.2.2.2.2.2.2.2.2.2.2.2):=by unfold sv;rw[h];rfl
 generalize (sv s p).1=j at e;have fj:dm j=dm s.1:=by rw[e];rfl
 have fp:dm p=dm s.1:=by unfold dm;rw[p6,p7,p8,p9,p10]
 unfold Df;rw[fj,fp];by_cases ef:dm s.1=f;rw[aF ef,aF ef,aF ef];have k6:(s.1.2.2.2.2.2.2.2.2.1==17)=false:=by rw[p8,h6];rfl
 have q6:(p.2.2.2.2.2.2.2.2.1==17)=false:=by rw[h6];rfl
 have j6:(j.2.2.2.2.2.2.2.2.1==17)=false:=by rw[e];exact k6
 have sb:=ac4 SM;have pb:=W4 hfl;have jb:∀b,oD j b=oD p b:=λb=>by rw[e];rfl
 cases o with
 |none=>
  show wW p (wW s.1 none)=wW j none;have e1:wW s.1 none=none:=by unfold wW;rw[k6,sb.2.1];rfl
  rw[e1];unfold wW;rw[q6,pb.1,j6,jb,pb.1];rfl
 |some t=>
  show some (BN p (BN s.1 t))=some (BN j t);congr 1;have bl:body j=body s.1++body p:=by rw[e];rfl
  have js:j.2.2.2.2.2.2.2.2.2.2.2.1=s.1.2.2.2.2.2.2.2.2.2.2.2.1:=by rw[e]
  have aj9:(body j).length=(body s.1).length+(body p).length:=by rw[bl,aj]
  have hl1:(body s.1).length+(body p).length<=320:=by have:(s.1.2.2.2.2.2.2.2.2.2.2.2.2.2.2.2.length:Int)+(p.2.2.2.2.2.2.2.2.2.2.2.2.2.2.2.length:Int)<=320:=apN;show s.1.2.2.2.2.2.2.2.2.2.2.2.2.2.2.2.length+p.2.2.2.2.2.2.2.2.2.2.2.2.2.2.2.length<=320;omega
  have seg:=uX (show nN s.1=true by simp only[cD,ab]at hs;exact hs.1);have sq:0<=s.1.2.2.2.2.2.2.2.2.2.2.2.1/\s.1.2.2.2.2.2.2.2.2.2.2.2.1<=4294967295:=by unfold qK at seg;rw[show(s.1.2.2.2.2.2.2.2.2.1==17)=false from k6]at seg;simp only[af,ab,aX]at seg;exact seg.2.2.2.2.1
  have aip:p.2.2.2.2.2.2.2.2.2.2.2.1=(s.1.2.2.2.2.2.2.2.2.2.2.2.1+((body s.1).length:Int))%4294967296:=by rw[agN];show Int.tmod (au (s.1.2.2.2.2.2.2.2.2.2.2.2.1+((body s.1).length:Int))) 4294967296=_;rw[al,dr (by omega)]
  rw[Ay k6 sb.2.1 sb.2.2 t,Ay j6 ((jb 2).trans pb.1) ((jb 4).trans pb.2) t];cases hd:t.2.2.2 with
  |true=>rw[ah,ah,Ay q6 pb.1 pb.2,hd,ah]
  |false=>
   rw[af,af];have a0:fM t s.1=(t.2.1-s.1.2.2.2.2.2.2.2.2.2.2.2.1)%4294967296:=rfl;have a1:fM t j=fM t s.1:=by unfold fM;rw[js]
   have ai:=SX t s.1;rw[a1,aj9];by_cases h1:fM t s.1<=((body s.1).length:Int)
   rw[aq h1,ah,aq (show fM t s.1<=(((body s.1).length+(body p).length:Nat):Int) by omega),ah,Ay q6 pb.1 pb.2];have d1:(SH t s.1).2.2.2=false:=sb.1;have a2:fM (SH t s.1) p=0:=by show((t.2.1+((body s.1).length:Int)-fM t s.1)%4294967296-p.2.2.2.2.2.2.2.2.2.2.2.1)%4294967296=0;rw[aip];omega
   rw[d1,af,a2,mh,ah];show(t.1,((t.2.1+((body s.1).length:Int)-fM t s.1)%4294967296+((body p).length:Int)-fM (SH t s.1) p)%4294967296,(t.2.2.1++(body s.1).drop (fM t s.1).toNat)++(body p).drop (fM (SH t s.1) p).toNat,oD p 1)=(t.1,(t.2.1+((body j).length:Int)-fM t j)%4294967296,t.2.2.1++(body j).drop (fM t j).toNat,oD j 1)
   rw[a2,a1,jb,aj9,bl,List.drop_append_of_le_length (by omega),aD];refine Prod.ext rfl (Prod.ext ?_ rfl);show((t.2.1+((body s.1).length:Int)-fM t s.1)%4294967296+((body p).length:Int)-0)%4294967296=(t.2.1+(((body s.1).length+(body p).length:Nat):Int)-fM t s.1)%4294967296;omega;rw[ar h1,af,Ay q6 pb.1 pb.2,hd,af];have a2:fM t p=(fM t s.1-((body s.1).length:Int)):=by show(t.2.1-p.2.2.2.2.2.2.2.2.2.2.2.1)%4294967296=_;rw[aip];omega
   rw[a2];by_cases h2:fM t s.1<=(((body s.1).length+(body p).length:Nat):Int)
   rw[aq h2,aq (show fM t s.1-((body s.1).length:Int)<=((body p).length:Int) by omega),ah,ah];show(t.1,(t.2.1+((body p).length:Int)-fM t p)%4294967296,t.2.2.1++(body p).drop (fM t p).toNat,oD p 1)=(t.1,(t.2.1+((body j).length:Int)-fM t j)%4294967296,t.2.2.1++(body j).drop (fM t j).toNat,oD j 1)
   rw[a2,a1,jb,aj9,bl];refine Prod.ext rfl (Prod.ext ?_ (Prod.ext ?_ rfl));show(t.2.1+((body p).length:Int)-(fM t s.1-((body s.1).length:Int)))%4294967296=(t.2.1+(((body s.1).length+(body p).length:Nat):Int)-fM t s.1)%4294967296;omega;show t.2.2.1++(body p).drop (fM t s.1-((body s.1).length:Int)).toNat=t.2.2.1++(body s.1++body p).drop (fM t s.1).toNat;rw[List.drop_append];rw[cB (show(body s.1).length<=(fM t s.1).toNat by omega),cC];congr 2;omega;rw[ar h2,ar (show¬fM t s.1-((body s.1).length:Int)<=((body p).length:Int) by omega)];rfl
 rw[aH ef,aH ef,aH ef]
theorem gu {s A B:Bytes}{n:Nat}(h:s.drop k=A++B)(hA:A.length=n):s.drop (k+n)=B:=by rw[<-eO,h,<-hA,List.drop_left]
theorem pR {s t:Bytes}{x:UInt8}(h:s.drop k=x::t):bO s k=x.toNat:=by
 have e:s[k]?=some x:=by have:=congrArg (λl=>l[0]?) h;simpa[bK]using this
 unfold bO;rw[bc,e];rfl
theorem ks {s t:Bytes}{x:UInt8}(h:s.drop k=x::t):s.drop (k+1)=t:=gu (A:=[x]) h rfl
theorem kB {s t:Bytes}{v:Nat}(hv:v<=65535)(h:s.drop k=aU (v:Int)++t):cl s (k:Int)=(v:Int):=by
 obtain⟨a,b,e,ea,eb⟩:=uG hv;rw[e]at h;have h1:s.drop k=a::b::t:=h;have hl:k+2<=s.length:=by have:=congrArg List.length h1;simp only[aP,aS]at this;omega
 unfold cl fz;rw[aq (show 0<=(k:Int)/\(k:Int)+2<=(s.length:Int) by omega),ah,aA,pR h1,pR (ks h1),ea,eb];omega
theorem zZ {s t:Bytes}{v:Nat}(hv:v<=4294967295)(h:s.drop k=dT (v:Int)++t):fP s (k:Int)=(v:Int):=by
 obtain⟨a,b,c,d,e,ea,eb,ec,ed⟩:=Cv hv;rw[e]at h;have h1:s.drop k=a::b::c::d::t:=h;have hl:k+4<=s.length:=by have:=congrArg List.length h1;simp only[aP,aS]at this;omega
 have g2:bO s (k+2)=c.toNat:=pR (ks (ks h1));have g3:bO s (k+3)=d.toNat:=pR (ks (ks (ks h1)));unfold fP fz;rw[aq (show 0<=(k:Int)/\(k:Int)+4<=(s.length:Int) by omega),ah,aA,pR h1,pR (ks h1),g2,g3,ea,eb,ec,ed];omega
theorem nI {v:Nat}(h:v<=65535:=by omega):(aU (v:Int)).length=2:=by rw[Dk,aX.2 ⟨by omega,by omega⟩];rfl
theorem Ix {v:Nat}(h:v<=4294967295:=by omega):(dT (v:Int)).length=4:=by rw[GL,aX.2 ⟨by omega,by omega⟩];rfl
theorem ZP {v:Nat}(h:v<=281474976710655):Gt (v:Int)=aU ((v/4294967296:Nat):Int)++dT ((v%4294967296:Nat):Int):=by have e32:(2:Int)^(nk 32)=4294967296:=rfl;have ea:BitVec.toNat (ia (v:Int)&&&ia 4294967295)=v%4294967296:=(ac6 v 4294967295).trans (Nat.and_two_pow_sub_one_eq_mod v 32);have h1:=bN ((v/4294967296:Nat):Int);have h2:=eQ ((v%4294967296:Nat):Int);unfold Gt iS;rw[kl];simp only[na,oY,ae];rw[e32,Int.fdiv_eq_ediv_of_nonneg _ (by omega),ea,iU (n:=v%4294967296),show(v:Int)/4294967296=((v/4294967296:Nat):Int) by omega,bg];rfl
theorem ZO {v:Nat}(h:v<=281474976710655):(Gt (v:Int)).length=6:=by rw[ZP h,aj,nI,Ix]
theorem HR {s t:Bytes}{v:Nat}(hv:v<=281474976710655)(h:s.drop k=Gt (v:Int)++t):yC s (k:Int)=(v:Int):=by rw[ZP hv,aD]at h;have h1:=kB (v:=v/4294967296) (by omega) h;have h3:=zZ (v:=v%4294967296) (by omega) (gu h (nI));unfold yC;rw[h1,show(k:Int)+2=((k+2:Nat):Int) by omega,h3];omega
theorem ad0 {e:Lx}(h:pt e=true):gb (Dv e)=(e,true):=by
 have hb:=h;unfold pt at hb;simp only[ab,aX,bne_iff_ne,ne_eq]at hb;obtain⟨d,s,v,t,b⟩:=e;simp only at hb;obtain⟨h1,h2,h3,h4,h5,h6⟩:=hb;obtain⟨d,rfl⟩:=az h1.1;obtain⟨s,rfl⟩:=az h2.1;obtain⟨t,rfl⟩:=az (show 0<=t by omega);have b1:d<=281474976710655:=by omega
 have b2:s<=281474976710655:=by omega
 have b4:t<=65535:=by omega
 have l1:=ZO b1;have l2:=ZO b2;have l3:=nI b4;by_cases hv:v<0;obtain rfl:v= -1:=by omega
 have e:Dv ((d:Int),(s:Int), -1,(t:Int),b)=Gt (d:Int)++(Gt (s:Int)++(aU (t:Int)++b)):=by show(bif decide ((-1:Int)>=0) then _ else Gt (d:Int)++Gt (s:Int))++aU (t:Int)++b=_;rw[show decide ((-1:Int)>=0)=false from rfl,af];simp only[aD]
 generalize Dv ((d:Int),(s:Int), -1,(t:Int),b)=x at e;have hl:x.length=14+b.length:=by rw[e];simp only[aj];omega
 have k0:x.drop 0=Gt (d:Int)++(Gt (s:Int)++(aU (t:Int)++b)):=e;have k1:x.drop 6=Gt (s:Int)++(aU (t:Int)++b):=gu k0 l1;have k2:x.drop 12=aU (t:Int)++b:=gu k1 l2;have k3:x.drop 14=b:=gu k2 l3;have f0:yC x 0=(d:Int):=HR b1 k0;have f1:yC x 6=(s:Int):=HR b2 k1;have f2:cl x 12=(t:Int):=kB b4 k2;have eb:uT x=((d:Int),(s:Int), -1,(t:Int),b):=by unfold uT;rw[f0,f1,f2,k3]
 unfold gb;rw[du,af,f2,show((t:Int)==33024)=false from by simpa using h5,af,eb,h];rfl;obtain⟨v,rfl⟩:=az (show 0<=v by omega);have b3:v<=65535:=by omega
 have l5:=nI (v:=33024);have l6:=nI b3;have e:Dv ((d:Int),(s:Int),(v:Int),(t:Int),b)=Gt (d:Int)++(Gt (s:Int)++(aU ((33024:Nat):Int)++(aU (v:Int)++(aU (t:Int)++b)))):=by show(bif decide ((v:Int)>=0) then(((Gt (d:Int)++Gt (s:Int))++aU 33024)++aU (v:Int)) else _)++aU (t:Int)++b=_;rw[mh,ah];simp only[aD];rfl
 generalize Dv ((d:Int),(s:Int),(v:Int),(t:Int),b)=x at e;have hl:x.length=18+b.length:=by rw[e];simp only[aj];omega
 have k0:x.drop 0=Gt (d:Int)++(Gt (s:Int)++(aU ((33024:Nat):Int)++(aU (v:Int)++(aU (t:Int)++b)))):=e;have k1:x.drop 6=Gt (s:Int)++(aU ((33024:Nat):Int)++(aU (v:Int)++(aU (t:Int)++b))):=gu k0 l1;have k2:x.drop 12=aU ((33024:Nat):Int)++(aU (v:Int)++(aU (t:Int)++b)):=gu k1 l2;have k3:x.drop 14=aU (v:Int)++(aU (t:Int)++b):=gu k2 l5;have k4:x.drop 16=aU (t:Int)++b:=gu k3 l6;have k5:x.drop 18=b:=gu k4 l3;have f0:yC x 0=(d:Int):=HR b1 k0;have f1:yC x 6=(s:Int):=HR b2 k1;have f2:cl x 12=33024:=kB (v:=33024) (by omega) k2;have f3:cl x 14=(v:Int):=kB b3 k3;have f4:cl x 16=(t:Int):=kB b4 k4;have eb:DV x=((d:Int),(s:Int),(v:Int),(t:Int),b):=by unfold DV;rw[f0,f1,f3,f4,k5]
 unfold gb;rw[du,af,f2,show((33024:Int)==33024)=true from rfl,ah,eb,h];rfl
theorem Sd {A X Y B:Bytes}(hA:A.length=k)(hX:X.length=Y.length:=by omega):vJ (A++(X++B)) (k:Int) Y=A++(Y++B):=by subst hA;unfold vJ fz;rw[aq (by simp only[aj];omega),ah,aA,List.take_left,<-eO,List.drop_left,<-hX,List.drop_left,aD]
theorem YT {x:Int}{y:Nat}(h:y<=255:=by omega):∃a b:UInt8,bs2 x (gF (y:Int))=[a,b]/\b.toNat=y:=by refine⟨_,_,rfl,?_⟩;rw[AA];exact ER
theorem agv {y:Nat}(h:x<=255)(k:y<=255):∃a b:UInt8,bs2 (gF (x:Int)) (gF (y:Int))=[a,b]/\a.toNat=x/\b.toNat=y:=by refine⟨_,_,rfl,?_,?_⟩;rw[AA];exact ER;rw[AA];exact ER
theorem YY (s:Bytes):∃c:Nat,c<=65535/\KO s=(c:Int):=by have:=Z8 s ((s.length+1)/2);exact⟨(KO s).toNat,by unfold KO;omega,by unfold KO;omega⟩
theorem ag7 {d:Ip}(h:RZ d=true)(z:Bytes):ky (yl d++d.2.2.2.2.2.2++z)=(d,true):=by
 have hb:=h;have hr:OB d=(yl d++d.2.2.2.2.2.2,true):=by unfold OB;rw[h];rfl
 unfold RZ at hb;simp only[ab,aX,aE]at hb;obtain⟨o,i,t,p,a,b,q⟩:=d;simp only at hb hr⊢;obtain⟨h1,h2,h3,h4,h5,h6,h7⟩:=hb;obtain⟨o,rfl⟩:=az h1.1;obtain⟨i,rfl⟩:=az h4.1;obtain⟨t,rfl⟩:=az h2.1;obtain⟨p,rfl⟩:=az h3.1;obtain⟨a,rfl⟩:=az h5.1;obtain⟨b,rfl⟩:=az h6.1;obtain⟨x0,x1,e0,e1⟩:=YT (x:=69) (y:=o);obtain⟨x8,x9,e8,e8',e9⟩:=agv (x:=t) (y:=p) (by omega) (by omega);obtain⟨c,hc,ec⟩:=YY (HK ((o:Int),(i:Int),(t:Int),(p:Int),(a:Int),(b:Int),q));have l2:=nI (v:=20+q.length);have l4:=nI (v:=i);have l6:=nI (v:=16384);have l0:=nI (v:=0);have lc:=nI hc;have la:=Ix (v:=a);have lb:=Ix (v:=b);have apf:HK ((o:Int),(i:Int),(t:Int),(p:Int),(a:Int),(b:Int),q)=([x0,x1]++(aU ((20+q.length:Nat):Int)++(aU (i:Int)++(aU ((16384:Nat):Int)++[x8,x9]))))++(aU ((0:Nat):Int)++(dT (a:Int)++dT (b:Int))):=by show((((((bs2 69 (gF (o:Int))++aU (20+(q.length:Int)))++aU (i:Int))++aU 16384)++bs2 (gF (t:Int)) (gF (p:Int)))++aU 0)++dT (a:Int))++dT (b:Int)=_;rw[e0,e8,show(20:Int)+(q.length:Int)=((20+q.length:Nat):Int) by omega];simp only[aD];rfl
 have eh:yl ((o:Int),(i:Int),(t:Int),(p:Int),(a:Int),(b:Int),q)=([x0,x1]++(aU ((20+q.length:Nat):Int)++(aU (i:Int)++(aU ((16384:Nat):Int)++[x8,x9]))))++(aU (c:Int)++(dT (a:Int)++dT (b:Int))):=by unfold yl;rw[ec,apf];exact Sd (k:=10) (by simp only[aj,aS,dv];omega)
 generalize hH:yl ((o:Int),(i:Int),(t:Int),(p:Int),(a:Int),(b:Int),q)=H at eh hr;have hHl:H.length=20:=by rw[eh];simp only[aj,aS,dv];omega
 have e:H++q++z=[x0,x1]++(aU ((20+q.length:Nat):Int)++(aU (i:Int)++(aU ((16384:Nat):Int)++([x8,x9]++(aU (c:Int)++(dT (a:Int)++(dT (b:Int)++(q++z)))))))):=by rw[eh];simp only[aD]
 have et:(H++q++z).take (20+q.length)=H++q:=List.take_left' (by rw[aj,hHl]);have hl:(H++q++z).length=20+q.length+z.length:=by simp only[aj,hHl]
 generalize H++q++z=s at e et hl;have k0:s.drop 0=[x0,x1]++(aU ((20+q.length:Nat):Int)++(aU (i:Int)++(aU ((16384:Nat):Int)++([x8,x9]++(aU (c:Int)++(dT (a:Int)++(dT (b:Int)++(q++z)))))))):=e;have k1:s.drop 1=x1::(aU ((20+q.length:Nat):Int)++(aU (i:Int)++(aU ((16384:Nat):Int)++([x8,x9]++(aU (c:Int)++(dT (a:Int)++(dT (b:Int)++(q++z)))))))):=ks k0;have k2:=gu k0 (n:=2) rfl;have k4:=gu k2 l2;have k6:=gu k4 l4;have k8:s.drop 8=x8::x9::(aU (c:Int)++(dT (a:Int)++(dT (b:Int)++(q++z)))):=gu k6 l6;have k10:s.drop 10=aU (c:Int)++(dT (a:Int)++(dT (b:Int)++(q++z))):=ks (ks k8);have k12:s.drop 12=dT (a:Int)++(dT (b:Int)++(q++z)):=gu k10 lc;have k16:s.drop 16=dT (b:Int)++(q++z):=gu k12 la;have k20:s.drop 20=q++z:=gu k16 lb;have f1:bO s 1=o:=(pR k1).trans e1;have f2:cl s 2=((20+q.length:Nat):Int):=kB (k:=2) (by omega) k2;have f4:cl s 4=(i:Int):=kB (k:=4) (by omega) k4;have f8:bO s 8=t:=(pR k8).trans e8';have f9:bO s 9=p:=(pR (ks k8)).trans e9;have f12:fP s 12=(a:Int):=zZ (k:=12) (by omega) k12;have f16:fP s 16=(b:Int):=zZ (k:=16) (by omega) k16;have fq:(s.take (20+q.length)).drop 20=q:=by rw[et];exact(congrArg (λn=>List.drop n (H++q)) hHl.symm).trans List.drop_left
 have ea:BG s=((o:Int),(i:Int),(t:Int),(p:Int),(a:Int),(b:Int),q):=by unfold BG;rw[f1,f2,f4,f8,f9,f12,f16,aA,fq]
 unfold ky;rw[ea,hr,f2,aA,et,du,du,du];simp only[bG,af,fO,cY,ah]
theorem sum_nat (a b:Int)(g:eY):∃c:Nat,c<=65535/\QB a b g=(c:Int):=by unfold QB;cases (KO (vI a b g.1 ((bare g).length:Int)++bare g)==0)&&(g.1==17)with|true=>exact⟨65535,by omega,rfl⟩|false=>exact YY _
theorem afv (h:C8 a b g=true):mJ a b g.1 (Bn a b g)=(g,true):=by
 have hr:yo a b g=(Bn a b g,true):=by unfold yo;rw[h];rfl
 have hs:qK g=true:=by unfold C8 at h;simp only[ab]at h;exact h.1
 obtain⟨c,hc,ec⟩:=sum_nat a b g;have lc:=nI hc;have l0:=nI (v:=0);unfold qK at hs;simp only[ab,aX,aN,cP]at hs;obtain⟨k,s,d,n,m,f,w,q⟩:=g;simp only at hs hr ec⊢;obtain⟨h1,h2,h3,h4⟩:=hs;obtain⟨s,rfl⟩:=az h1.1;obtain⟨d,rfl⟩:=az h2.1;have ls:=nI (v:=s);have ld:=nI (v:=d);cases h17:k==17 with
 |true=>
  have hk:k=17:=by simpa using h17
  rw[h17]at h4;simp only[ah,ab,bm]at h4;obtain⟨rfl,rfl,rfl,rfl⟩:=h4;subst hk;have ln:=nI (v:=8+q.length);have e:Bn a b (17,(s:Int),(d:Int),0,0,0,0,q)=(aU (s:Int)++(aU (d:Int)++aU ((8+q.length:Nat):Int)))++(aU (c:Int)++q):=by
   have eb:bare (17,(s:Int),(d:Int),0,0,0,0,q)=(aU (s:Int)++(aU (d:Int)++aU ((8+q.length:Nat):Int)))++(aU ((0:Nat):Int)++q):=by show(((aU (s:Int)++aU (d:Int))++aU (8+(q.length:Int)))++aU 0)++q=_;rw[show(8:Int)+(q.length:Int)=((8+q.length:Nat):Int) by omega];simp only[aD];rfl
   unfold Bn;rw[ec,eb];exact Sd (k:=6) (by simp only[aj];omega)
  generalize Bn a b (17,(s:Int),(d:Int),0,0,0,0,q)=x at e hr;have hl:x.length=8+q.length:=by rw[e];simp only[aj];omega
  have k0:x.drop 0=aU (s:Int)++(aU (d:Int)++(aU ((8+q.length:Nat):Int)++(aU (c:Int)++q))):=by rw[eP,e];simp only[aD]
  have k2:x.drop 2=aU (d:Int)++(aU ((8+q.length:Nat):Int)++(aU (c:Int)++q)):=gu k0 ls;have k4:x.drop 4=aU ((8+q.length:Nat):Int)++(aU (c:Int)++q):=gu k2 ld;have k6:x.drop 6=aU (c:Int)++q:=gu k4 ln;have k8:x.drop 8=q:=gu k6 lc;have f0:cl x 0=(s:Int):=kB (k:=0) (by omega) k0;have f2:cl x 2=(d:Int):=kB (k:=2) (by omega) k2;have eu:NB 17 x=(17,(s:Int),(d:Int),0,0,0,0,q):=by unfold NB;rw[f0,f2,k8]
  unfold mJ;rw[eu,hr,show((17:Int)==6)=false from rfl,show((17:Int)==17)=true from rfl,aq (show(x.length:Int)>=8 by omega)];simp only[eZ,af,cY,ah,fO]
 |false=>
  rw[h17]at h4;simp only[af,ab,bm,aX]at h4;obtain⟨rfl,h5,h6,h7,h8⟩:=h4;obtain⟨n,rfl⟩:=az h5.1;obtain⟨m,rfl⟩:=az h6.1;obtain⟨f,rfl⟩:=az h7.1;obtain⟨w,rfl⟩:=az h8.1;obtain⟨y,y',ey,ey'⟩:=YT (x:=80) (y:=f);have ln:=Ix (v:=n);have lm:=Ix (v:=m);have lw:=nI (v:=w);have e:Bn a b (6,(s:Int),(d:Int),(n:Int),(m:Int),(f:Int),(w:Int),q)=(aU (s:Int)++(aU (d:Int)++(dT (n:Int)++(dT (m:Int)++([y,y']++aU (w:Int))))))++(aU (c:Int)++(aU ((0:Nat):Int)++q)):=by
   have eb:bare (6,(s:Int),(d:Int),(n:Int),(m:Int),(f:Int),(w:Int),q)=(aU (s:Int)++(aU (d:Int)++(dT (n:Int)++(dT (m:Int)++([y,y']++aU (w:Int))))))++(aU ((0:Nat):Int)++(aU ((0:Nat):Int)++q)):=by show(((((aU (s:Int)++aU (d:Int))++dT (n:Int))++dT (m:Int))++bs2 80 (gF (f:Int)))++aU (w:Int))++dT 0++q=_;rw[ey,<-QJ];simp only[aD];rfl
   unfold Bn;rw[ec,eb];exact Sd (k:=16) (by simp only[aj,aS,dv];omega)
  generalize Bn a b (6,(s:Int),(d:Int),(n:Int),(m:Int),(f:Int),(w:Int),q)=x at e hr;have hl:x.length=20+q.length:=by rw[e];simp only[aj,aS,dv];omega
  have k0:x.drop 0=aU (s:Int)++(aU (d:Int)++(dT (n:Int)++(dT (m:Int)++([y,y']++(aU (w:Int)++(aU (c:Int)++(aU ((0:Nat):Int)++q))))))):=by rw[eP,e];simp only[aD]
  have k2:=gu k0 ls;have k4:=gu k2 ld;have k8:=gu k4 ln;have k12:x.drop 12=y::y'::(aU (w:Int)++(aU (c:Int)++(aU ((0:Nat):Int)++q))):=gu k8 lm;have k14:x.drop 14=aU (w:Int)++(aU (c:Int)++(aU ((0:Nat):Int)++q)):=ks (ks k12);have k16:x.drop 16=aU (c:Int)++(aU ((0:Nat):Int)++q):=gu k14 lw;have k18:x.drop 18=aU ((0:Nat):Int)++q:=gu k16 lc;have k20:x.drop 20=q:=gu k18 l0;have f0:cl x 0=(s:Int):=kB (k:=0) (by omega) k0;have f2:cl x 2=(d:Int):=kB (k:=2) (by omega) k2;have f4:fP x 4=(n:Int):=zZ (k:=4) (by omega) k4;have f8:fP x 8=(m:Int):=zZ (k:=8) (by omega) k8;have f13:bO x 13=f:=(pR (ks k12)).trans ey';have f14:cl x 14=(w:Int):=kB (k:=14) (by omega) k14;have eu:JC 6 x=(6,(s:Int),(d:Int),(n:Int),(m:Int),(f:Int),(w:Int),q):=by unfold JC;rw[f0,f2,f4,f8,f13,f14,k20]
  unfold mJ;rw[eu,hr,show((6:Int)==6)=true from rfl,aq (show(x.length:Int)>=20 by omega)];simp only[cY,ah,fO]
theorem afa (s:Bytes):∃z,pad s=s++z:=by unfold pad;split;exact⟨_,rfl⟩;exact⟨[],(bA s).symm⟩
theorem Xl (h:cD p=true):jE (cQ p).1=(p,0):=by
 have hh:nN p=true:=by simp only[cD,ab]at h;exact h.1
 have hg:=uX hh;have hb:=hh;unfold nN at hb;simp only[ab]at hb;obtain⟨h1,h2,h3,h4,h5,h6,h7,h8,_⟩:=hb;have hlen:=Cr hg;have hbl:=K8 p.2.2.2.2.2.2.2.2;have hk:dF p.2.2.2.2.2.2.2.2.1 0 255=true:=by unfold qK at hg;simp only[ab]at hg;have g4:=hg.2.2.2;cases h17:p.2.2.2.2.2.2.2.2.1==17 with|true=>rw[show p.2.2.2.2.2.2.2.2.1=17 from by simpa using h17];rfl|false=>rw[h17]at g4;simp only[af,ab,bm]at g4;rw[g4.1];rfl
 have hs:C8 p.2.2.2.2.2.2.1 p.2.2.2.2.2.2.2.1 p.2.2.2.2.2.2.2.2=true:=by unfold C8 xt;rw[hg,h7,h8,hk,aX.2 ⟨by omega,by omega⟩];rfl
 have es:K3 p=(Bn p.2.2.2.2.2.2.1 p.2.2.2.2.2.2.2.1 p.2.2.2.2.2.2.2.2,true):=by unfold K3 yo;rw[hs];rfl
 have ZB:=Z0 p.2.2.2.2.2.2.1 p.2.2.2.2.2.2.2.1 p.2.2.2.2.2.2.2.2;rw[show yo p.2.2.2.2.2.2.1 p.2.2.2.2.2.2.2.1 p.2.2.2.2.2.2.2.2=K3 p from rfl,es]at ZB;have hi:RZ (p.2.2.2.1,p.2.2.2.2.1,p.2.2.2.2.2.1,p.2.2.2.2.2.2.2.2.1,p.2.2.2.2.2.2.1,p.2.2.2.2.2.2.2.1,(K3 p).1)=true:=by unfold RZ;simp only[h4,h5,h6,h7,h8,hk,bF,aE];rw[es];show((Bn _ _ _).length:Int)<=380;simp only at ZB;omega
 have ei:PU p=(yl (p.2.2.2.1,p.2.2.2.2.1,p.2.2.2.2.2.1,p.2.2.2.2.2.2.2.2.1,p.2.2.2.2.2.2.1,p.2.2.2.2.2.2.2.1,(K3 p).1)++(K3 p).1,true):=by unfold PU OB;rw[hi];rfl
 have hl:=MR p;have hp:=Lm (PU p).1;have he:pt (p.1,p.2.1,p.2.2.1,2048,pad (PU p).1)=true:=by simp only[pt,ab];refine⟨h1,h2,h3,by decide,by decide,aX.2 ?_⟩;omega
 have em:(cQ p).1=Dv (p.1,p.2.1,p.2.2.1,2048,pad (PU p).1):=by unfold cQ adZ Rr;rw[h,he];rfl
 have eb:=ad0 he;obtain⟨z,ez⟩:=afa (PU p).1;have ib:=ag7 hi z;have sb:=afv hs;have e1:(PU p).1=yl (p.2.2.2.1,p.2.2.2.2.1,p.2.2.2.2.2.1,p.2.2.2.2.2.2.2.2.1,p.2.2.2.2.2.2.1,p.2.2.2.2.2.2.2.1,(K3 p).1)++(K3 p).1:=by rw[ei]
 rw[<-e1,<-ez]at ib;rw[em];unfold jE;simp only[eb,ib,es,sb,ak,cd,af,show((2048:Int) !=2048)=false from rfl,h]
abbrev CW:=Fx×aQ
def Of (m:cg)(k:Nat)(D:ay CW):Prop:=∀c∈D,cD c.2=true/\c.1.2.1=((cQ c.2).1.length:Int)/\ti m (hZ k+128+384*c.1.1.toNat) (cQ c.2).1.length=(cQ c.2).1
theorem Of.frame {D:ay CW}(h:Of m k D)(f:∀c∈D,∀i,hZ k+128+384*c.1.1.toNat<=i->i<hZ k+512+384*c.1.1.toNat->mB m' i=mB m i):Of m' k D:=λc hc=>by have hi:=nO c.2;exact⟨(h c hc).1,(h c hc).2.1,by rw[wJ λj hj=>f c hc _ (by omega) (by omega)];exact(h c hc).2.2⟩
def QD (m:cg)(k:Nat)(q:bC)(p:cX)(D:ay CW):Prop:=(∃hd x P F,EY m k q p hd x P (D.map (·.1)) F)/\Of m k D
theorem QD.agB {p:cX}{D:ay CW}(s:EY m k q p hd x P (D.map (·.1)) F){c:CW}(hc:c∈D):c.1.1.toNat∈BS (D.map (·.1)):=by unfold BS;exact dp.2 ⟨c.1,dp.2 ⟨c,hc,rfl⟩,rfl⟩
theorem QD.frame {p:cX}{D:ay CW}(s:QD m k q p D)(h:∀i,hZ k<=i->i<hZ k+1792->mB m' i=mB m i):QD m' k q p D:=by obtain⟨⟨hd,x,P,F,s⟩,c⟩:=s;refine⟨⟨hd,x,P,F,s.frame λi h1 h2=>h i h1 (by omega)⟩,c.frame λy hy i h1 h2=>h i (by omega) ?_⟩;have:=s.lt (c:=y.1.1.toNat) (by simp only[aD];exact aR _ (QD.agB s hy));omega
theorem QD.held {p:cX}{D:ay CW}(s:QD m k q p D)(u:ni×Bool×Int):QD m k (q.1,q.2.1,q.2.2.1,u) p D:=by obtain⟨⟨hd,x,P,F,s⟩,c⟩:=s;exact⟨⟨hd,x,P,F,s.held u⟩,c⟩
theorem acI (hm:fE m)(hk:k<=1){p:cX}{c:Nat}(s:EY m k q p hd x (c::P) C F)(hq:BP q=true)(hh:q.2.2.2.2.1=true)(key:Bytes)(BE:key.length=16): ∃y:Fx,y.1=(c:Int)/\y.2.1=((cQ q.2.2.2.1.1).1.length:Int)/\(gh (bJ 38) m 0 q key (jc (ub k c))).2=(wu (hZ k+64) (x+C.length+1),true)/\fE (gh (bJ 38) m 0 q key (jc (ub k c))).1/\Lv (gh (bJ 38) m 0 q key (jc (ub k c))).1 (hZ k+64) x (C++[y])/\ti (gh (bJ 38) m 0 q key (jc (ub k c))).1 (hZ k+128+384*c) (cQ q.2.2.2.1.1).1.length=(cQ q.2.2.2.1.1).1/\∀i,i<4864->(i<hZ k+64\/hZ k+128<=i)->(i<hZ k+128+384*c\/hZ k+512+384*c<=i)->mB (gh (bJ 38) m 0 q key (jc (ub k c))).1 i=mB m i:=by
 have hc:c<4:=s.lt (by simp);have hl:=s.len;simp only[aS]at hl;have db:=wG (Q0 hk hc);have r:=(EA _).1 hq;have hs:=r.held hh;have hi:=nO q.2.2.2.1.1;have hn:hZ k=1280+1792*k:=rfl;have pf:=Co hm (a:=hZ k+128+384*c) (s:=(cQ q.2.2.2.1.1).1) (w:=true) (by omega) (by omega) (λ_=>by omega);generalize hy:(((c:Int),((cQ q.2.2.2.1.1).1.length:Int),q.2.2.2.1.2.1,q.2.2.2.1.2.2,sL key (oK (dm q.2.2.2.1.1))):Fx)=y;have ok:qb y=true:=by rw[<-hy];unfold qb;simp only[ab,aX];have hb:=TP BE (PB (dm q.2.2.2.1.1));omega
 have cm:=s.YZ.frame (m':=(gT (bJ 38) m 0 ((hZ k+128+384*c:Nat):Int) (cQ q.2.2.2.1.1).1 true).1) λi h1 h2=>by rw[pf.2.2 i (by omega),kl]
 have pc:=Qk pf.2.1 (b:=hZ k+64) (by omega) cm (by omega) ok;have eA:(ub k c).2.2.2.1=((hZ k+128+384*c:Nat):Int):=rfl;have eL:(ub k c).2.2.1=384:=rfl;have eC:(ub k c).2.2.2.2.2=(c:Int):=rfl;have e:gh (bJ 38) m 0 q key (jc (ub k c))=rf (bJ 38) (gT (bJ 38) m 0 ((hZ k+128+384*c:Nat):Int) (cQ q.2.2.2.1.1).1 true).1 0 (wu (hZ k+64) (x+C.length)) y:=by rw[Qy db.2 rfl (by rw[eL];omega) (by rw[eA];exact pf.1),eA,eC,s.dev,hy]
 rw[e];refine⟨y,by rw[<-hy],by rw[<-hy],pc.1,pc.2.1,pc.2.2.1,Nv λj hj=>?_,λi hi ho ho2=>?_⟩;rw[pc.2.2.2 _ (by omega) (by omega),pf.2.2 _ (by omega),zip,Nat.add_sub_cancel_left];rw[pc.2.2.2 i hi (by omega),pf.2.2 i hi,kl]
def ur (q:bC):ay aQ:=bif q.2.2.2.2.1 then [q.2.2.2.1.1] else []
def sy (D:ay CW)(q:bC):ay aQ:=D.map (·.2)++ur q
def Adv (e:ay aQ)(D:ay CW)(q:bC)(D':ay CW)(q':bC):Prop:=
 (∀w∈sy D' q',cD w=true/\∃v∈sy D q++e,dm v=dm w)/\(q.2.2.2.2.2<q'.2.2.2.2.2\/q'.2.2.2.2.2=q.2.2.2.2.2/\∀f o,yV f o (sy D' q')=yV f o (sy D q++e))
theorem Adv.trans {e':ay aQ}{D D1 D2:ay CW}{q1 q2:bC}(a:Adv e D q D1 q1)(b:Adv e' D1 q1 D2 q2):Adv (e++e') D q D2 q2:=by refine⟨λw hw=>?_,?_⟩;obtain⟨h1,v,hv,hf⟩:=b.1 w hw;refine⟨h1,?_⟩;rcases ax.1 hv with g|g;obtain⟨_,u,hu,B8⟩:=a.1 v g;exact⟨u,by rw[<-aD];exact aR _ hu,B8.trans hf⟩;exact⟨v,by rw[<-aD];exact bj _ g,hf⟩;rcases b.2 with g|⟨g1,g2⟩;exact Or.inl (by rcases a.2 with h|⟨h1,h2⟩<;>omega);rcases a.2 with h|⟨h1,h2⟩;exact Or.inl (by rw[g1];exact h);refine Or.inr ⟨g1.trans h1,λf o=>?_⟩;rw[g2,As,h2,<-As,aD]
theorem CA {D:ay CW}(h:Of m k D):∀w∈D.map (·.2),cD w=true:=by intro w hw;obtain⟨c,hc,rfl⟩:=dp.1 hw;exact(h c hc).1
theorem Ni {D:ay CW}(h:Of m k D)(hq:wq n q):∀w∈sy D q,cD w=true:=by intro w hw;rcases ax.1 hw with g|g;exact CA h w g;unfold ur at g;cases hh:q.2.2.2.2.1 with|false=>rw[hh]at g;cases g|true=>rw[hh]at g;rw[bn.1 g];exact(hq.held hh).1
theorem Adv.same {D:ay CW}(h:Of m k D)(hq:wq n q):Adv [] D q D q:=⟨λw hw=>⟨Ni h hq w hw,w,aR _ hw,rfl⟩,Or.inr ⟨rfl,λf o=>by rw[bA]⟩⟩
theorem IT (hm:fE m)(hk:k<=1){p:cX}{D:ay CW}(s:QD m k q p D)(hN:N<=500000000000)(hq:wq N q)(key:Bytes)(BE:key.length=16):∃D',QD (gz (bJ 38) m 0 q key).1 k (gz (bJ 38) m 0 q key).2 p D'/\Adv [] D q D' (gz (bJ 38) m 0 q key).2:=by
 have hn:hZ k=1280+1792*k:=rfl;have Li:BP q=true:=(EA _).2 (hq.mono);obtain⟨⟨hd,x,P,F,s⟩,ct⟩:=s;unfold gz;rw[Li,BE];cases hh:q.2.2.2.2.1 with
 |false=>exact⟨D,⟨⟨hd,x,P,F,s⟩,ct⟩,Adv.same ct hq⟩
 |true=>
  have hs:=hq.held hh;have el:ur q=[q.2.2.2.1.1]:=by unfold ur;rw[hh];rfl
  simp only[ak,cd,show(((16:Nat):Int) !=16)=false from rfl,af];cases P with
  |nil=>
   have t:=QE (m:=m) (b:=hZ k) (S:=4) (hd:=hd) (Or.inl rfl);have e:bq (bJ 38) m 0 q.1=([],q.1,false):=by rw[s.ring];exact t
   rw[e];have hd0:=hq.drop;refine⟨D,⟨⟨hd,x,[],F,s.held _⟩,ct⟩,λw hw=>?_,Or.inl ?_⟩;have hw:w∈D.map (·.2)++[]:=hw;rw[bA]at hw;exact⟨CA ct w hw,w,aR _ (aR _ hw),rfl⟩;show q.2.2.2.2.2<au (q.2.2.2.2.2+q.2.2.2.1.2.2);rw[al];omega
  |cons c P=>
   have t:=Ft hm (b:=hZ k) (S:=4) (Or.inl rfl) (by omega) (show su m (hZ k) 4 hd (jc (ub k c)::P.map λc=>jc (ub k c)) from s.row);have e:bq (bJ 38) m 0 q.1=(jc (ub k c),fA (hZ k) 4 (hd+1) P.length,true):=by rw[s.ring];have:=t.1;rw[cI]at this;exact this
   obtain⟨y,y1,y0,y2,y3,y4,yr,y5⟩:=acI hm hk s Li hh key BE;have hc4:c<4:=s.lt (by simp);have nd:=Gw s.perm;rw[aD]at nd;have B6:∀z∈D,z.1.1.toNat≠c:=λz hz e=>(aM.1 nd).2.2 _ (QD.agB s hz) c (by simp) e;rw[e,y2];simp only[cY,ah];refine⟨D++[(y,q.2.2.2.1.1)],⟨⟨hd+1,x,P,F,⟨rfl,?_,by simp;rfl,s.Pk,by rw[cp];exact y4,s.pool,?_,λz hz=>?_⟩⟩,λz hz=>?_⟩,λw hw=>?_,Or.inr ⟨rfl,λf o=>?_⟩⟩;exact t.2.frame (Or.inl rfl) λi h1 h2=>y5 i (by omega) (by omega) (by omega);refine List.Perm.trans ?_ s.perm;have ey:y.1.toNat=c:=by rw[y1];simp
   simp only[BS,cp,cZ,List.map_nil,ey,aD,gO,cC];exact List.Perm.refl _;rw[cp]at hz;rcases ax.1 hz with g|g;exact s.cok z g;rw[bn.1 g];show 0<=y.1;rw[y1];omega;rcases ax.1 hz with g|g;have c0:=ct z g;have:=nO z.2;have lt:=s.lt (c:=z.1.1.toNat) (by simp only[aD];exact aR _ (QD.agB s g));have ne:=B6 z g;exact⟨c0.1,c0.2.1,(wJ λj hj=>y5 _ (by omega) (by omega) (by omega)).trans c0.2.2⟩;rw[bn.1 g];refine⟨hs.1,y0,?_⟩;have ey:y.1.toNat=c:=by rw[y1];simp
   show ti _ (hZ k+128+384*y.1.toNat) _=_;rw[ey];exact yr;have hw:w∈(D++[(y,q.2.2.2.1.1)]).map (·.2)++[]:=hw;rw[bA,cp]at hw;have hw:w∈sy D q:=by unfold sy;rw[el];exact hw
   exact⟨Ni ct hq w hw,w,aR _ hw,rfl⟩;show yV f o ((D++[(y,q.2.2.2.1.1)]).map (·.2)++[])=yV f o (sy D q++[]);unfold sy;rw[el,bA,bA,cp];rfl
theorem W6 (l:ay aG)(m:cg)(q:bC)(key:Bytes)(hq:BP q=true)(BE:key.length=16):(gz l m 0 q key).2.2.2.2.2.1=false:=by unfold gz;rw[hq,BE];cases hh:q.2.2.2.2.1 with|false=>exact hh|true=>simp only[ak,cd,show(((16:Nat):Int) !=16)=false from rfl,af];cases (bq l m 0 q.1).2.2&&(gh l m 0 q key (bq l m 0 q.1).1).2.2<;>rfl
theorem aeh {p:cX}{D:ay CW}(s:QD m k q p D)(hq:wq N q)(hh:q.2.2.2.2.1=false){w:aQ}(hw:fZ w=true):QD m k (Eb q (jw w)) p D/\Adv [w] D q D (Eb q (jw w)):=by
 refine⟨s.held _,λv hv=>?_,Or.inr ⟨rfl,λf o=>?_⟩⟩;have el:ur q=[]:=by unfold ur;rw[hh];rfl
 have hv:v∈D.map (·.2)++[w]:=hv;rcases ax.1 hv with g|g;exact⟨CA s.2 v g,v,aR _ (aR _ g),rfl⟩;rw[bn.1 g];exact⟨(Fq hw).1,w,by simp,rfl⟩;have el:ur q=[]:=by unfold ur;rw[hh];rfl
 show yV f o (D.map (·.2)++[w])=yV f o (sy D q++[w]);unfold sy;rw[el,bA]
theorem abm {s:ni}(h:DD s p=true):dm (sv s p).1=dm s.1:=by unfold sv;rw[h];rfl
theorem Wc (hm:fE m)(hk:k<=1){p:cX}{D:ay CW}(s:QD m k q p D)(hN:N<=400000000000)(hq:wq N q)(key:Bytes)(BE:key.length=16){w:aQ}(hw:fZ w=true)(c:Bool):∃D',QD (jl (bJ 38) m 0 q key w c).1 k (jl (bJ 38) m 0 q key w c).2 p D'/\Adv [w] D q D' (jl (bJ 38) m 0 q key w c).2:=by
 have Li:BP q=true:=(EA _).2 (hq.mono);have ml:fE m:=hm;unfold jl;rw[Li,BE,hw];simp only[ak,cd,show(((16:Nat):Int) !=16)=false from rfl,af];cases hj:c&&(q.2.2.2.2.1&&DD q.2.2.2.1 w)with
 |true=>
  simp only[ab]at hj;have fj:=acP hj.2.2;have el:ur q=[q.2.2.2.1.1]:=by unfold ur;rw[hj.2.1];rfl
  have sj:cD (sv q.2.2.2.1 w).1=true/\dm (sv q.2.2.2.1 w).1=dm q.2.2.2.1.1:=⟨(ZL hj.2.2).1,abm hj.2.2⟩
  have el2:ur (q.1,q.2.1,q.2.2.1,sv q.2.2.2.1 w,q.2.2.2.2)=[(sv q.2.2.2.1 w).1]:=by unfold ur;simp only[hj.2.1];rfl
  refine⟨D,s.held _,λv hv=>?_,Or.inr ⟨rfl,λf o=>?_⟩⟩;have hv:v∈D.map (·.2)++ur (q.1,q.2.1,q.2.2.1,sv q.2.2.2.1 w,q.2.2.2.2):=hv;rw[el2]at hv;rcases ax.1 hv with g|g;exact⟨CA s.2 v g,v,aR _ (aR _ g),rfl⟩;rw[bn.1 g];exact⟨sj.1,q.2.2.2.1.1,by unfold sy;rw[el];simp,sj.2.symm⟩;show yV f o (D.map (·.2)++ur (q.1,q.2.1,q.2.2.1,sv q.2.2.2.1 w,q.2.2.2.2))=yV f o ((D.map (·.2)++ur q)++[w]);rw[el2,el,As,As,As];exact(fj f _).symm
 |false=>simp only[af];obtain⟨D1,s1,a1⟩:=IT hm hk s (by omega) hq key BE;have fr:=W6 (bJ 38) m q key Li BE;have k1:=(zX (by omega) hq hm.ok (bJ 38) 0 key).2;obtain⟨s2,a2⟩:=aeh s1 k1 fr hw;obtain⟨⟨hd,x,P,F,s0⟩,_⟩:=s;obtain⟨_,_,fl⟩:=zW hm hk s0 Li key BE;have f0:=fl.mem;cases c with|true=>exact⟨D1,s2,a1.trans a2⟩|false=>have so:=Fq hw;have k2:=RG k1 so.1 so.2.1 so.2.2;obtain⟨D3,s3,a3⟩:=IT f0 hk s2 (by omega) k2 key BE;exact⟨D3,s3,(a1.trans a2).trans a3⟩
theorem ab7 (hm:fE m)(hk:k<=1){c:CW}{D:ay CW}(r:EY m k s.2.1 s.2.2 hd x P (c.1::D.map (·.1)) F)(ct:Of m k (c::D)):(vH (bJ 38) m 0 s).1=lI s.1 c.2:=by
 have hn:hZ k=1280+1792*k:=rfl;have nx:=Ji hm (b:=hZ k+64) (by omega) r.YZ;have en:ll (bJ 38) m 0 s.2.1.2.2.1=(c.1,wu (hZ k+64) (x+1),true):=by rw[r.Pk];exact nx.1
 have hc:((c.1.1.toNat:Nat):Int)=c.1.1:=Int.toNat_of_nonneg (r.cok c.1 (by simp));have lt:c.1.1.toNat<4:=r.lt (by simp[BS]);have hp:=r.U2 hk;rw[r.pool]at hp;have ba:=YV hk hp lt;rw[hc]at ba;have c0:=ct c List.mem_cons_self;have hi:=nO c.2;have d:=G9 hm (a:=hZ k+128+384*c.1.1.toNat) (r:=(cQ c.2).1.length);rw[c0.2.2]at d;unfold vH;rw[en];simp only;rw[r.pool,ba,c0.2.1];unfold agH;rw[d,Xl c0.1];rfl
theorem Qj (hm:fE m)(hk:k<=1):∀(n:Nat)(s:ay Stream×bC×cX)(x:Nat)(D:ay CW)(F:fR),EY m k s.2.1 s.2.2 hd x P (D.map (·.1)) F->Of m k D->(iT (bJ 38) m 0 n s).2.1=((D.take n).map (·.2)).foldl lI s.1
 |0,s,x,D,F,r,_=>by rw[List.take_zero];rfl
 |n+1,s,x,[],F,r,_=>by
  have hn:hZ k=1280+1792*k:=rfl;have nx:=Jj hm (b:=hZ k+64) (by omega) r.YZ;have en:(ll (bJ 38) m 0 s.2.1.2.2.1).2.2=false:=by rw[r.Pk,nx]
  rw[iT,en];rfl
 |n+1,s,x,c::D,F,r,ct=>by have ps:=Nm hm hk r;have pc:=ab7 hm hk r ct;have ih:=Qj hm hk n (vH (bJ 38) m 0 s) (x+1) D _ ps.2.1 λy hy=>ct y (dS _ hy);rw[iT,ps.1];simp only[ak,af];rw[ih,pc];rfl
theorem aff (hm:fE m)(hk:k<=1){p:cX}{D:ay CW}(s:QD m k q p D)(hq:BP q=true)(st:ay Stream){b:Nat}(hb:b<=1000): QD (gJ (bJ 38) m 0 q p st (b:Int)).1 k (gJ (bJ 38) m 0 q p st (b:Int)).2.1 (gJ (bJ 38) m 0 q p st (b:Int)).2.2.1 (D.drop b)/\(gJ (bJ 38) m 0 q p st (b:Int)).2.2.2.1=((D.take b).map (·.2)).foldl lI st/\(gJ (bJ 38) m 0 q p st (b:Int)).2.1.2.2.2=q.2.2.2:=by obtain⟨⟨hd,x,P,F,s⟩,ct⟩:=s;have hp:=s.U2 hk;have pl:=GA hm hk b (st,q,p) x _ F s;have pc:=Qj hm hk b (st,q,p) x D F s ct;have pf:=Jq hm hk s hq st hb;obtain⟨l1,l2,F',sf⟩:=pl;obtain⟨f1,⟨x',P',f2⟩,f3,f4,f5⟩:=pf;refine⟨⟨⟨hd,x',P',[],by rw[List.map_drop];exact f2⟩,Of.frame (m:=m) (λy hy=>ct y (List.mem_of_mem_drop hy)) λy hy i h1 h2=>f5 i ?_ (by omega)⟩,?_,?_⟩;have:=s.lt (c:=y.1.1.toNat) (by simp only[aD];exact aR _ (QD.agB s (List.mem_of_mem_drop hy)));unfold hZ at h1 h2;omega;unfold gJ;rw[hq,hp,aX.2 ⟨by omega,by omega⟩];simp only[ak,bG,af,aA];exact pc;unfold gJ;rw[hq,hp,aX.2 ⟨by omega,by omega⟩];simp only[ak,bG,af,aA];exact l2
theorem P1:∀(l:ay aQ)(s:ay Stream)(f:AB),(∀w∈l,cD w=true)->ig (l.foldl lI s) f=yV f (ig s f) l
 |[],s,f,_=>rfl
 |w::l,s,f,h=>by rw[List.foldl_cons,P1 l _ f λv hv=>h v (dS _ hv),abx (h w List.mem_cons_self),Qq]
abbrev Fl:=AB
variable {qf:Fl->Nat}
def akt (Q:ay CW->bC->Prop)(h:Host)(k:Nat):Prop:=∃q p D,h.2.2.2.1[k]?=some q/\h.2.2.2.2.1[k]?=some p/\QD h.1 k q p D/\Q D q
def Con (Q:Nat->ay CW->bC->Prop)(h:Host):Prop:=∀k,k<h.2.2.2.1.length->akt (Q k) h k
theorem Con.step {Q Q':Nat->ay CW->bC->Prop}(f:Con Q h)(h2:h.2.2.2.1.length<=2)(hk:k<h.2.2.2.1.length)(e3:h'.2.2.2.1.length=h.2.2.2.1.length)(hq:∀j,j≠k->h'.2.2.2.1[j]?=h.2.2.2.1[j]?/\h'.2.2.2.2.1[j]?=h.2.2.2.2.1[j]?)(out:∀i,i<4864->(i<hZ k\/hZ k+1792<=i)->mB h'.1 i=mB h.1 i)(hQ:∀j,j≠k->∀D q,Q j D q->Q' j D q)(hF:akt (Q' k) h' k):Con Q' h':=by intro j hj;by_cases RL:j=k;subst RL;exact hF;rw[e3]at hj;have hn:hZ k=1280+1792*k:=rfl;have hj2:hZ j=1280+1792*j:=rfl;obtain⟨q,p,D,g1,g2,g3,g4⟩:=f j hj;have e:=hq j RL;exact⟨q,p,D,by rw[e.1];exact g1,by rw[e.2];exact g2,g3.frame λi h1 h2=>out i (by omega) (by omega),hQ j RL D q g4⟩
theorem Con.same {Q Q':Nat->ay CW->bC->Prop}(f:Con Q h)(h2:h.2.2.2.1.length<=2)(e3:h'.2.2.2.1=h.2.2.2.1)(e4:h'.2.2.2.2.1=h.2.2.2.2.1)(out:∀i,i<4864->1280<=i->mB h'.1 i=mB h.1 i)(hQ:∀j D q,Q j D q->Q' j D q):Con Q' h':=by intro j hj;rw[e3]at hj;have hj2:hZ j=1280+1792*j:=rfl;obtain⟨q,p,D,g1,g2,g3,g4⟩:=f j hj;exact⟨q,p,D,by rw[e3];exact g1,by rw[e4];exact g2,g3.frame λi h1 h2=>out i (by omega) (by omega),hQ j D q g4⟩
def wV (h:Host):ay Stream:=h.2.2.2.2.2.2.2.2.2.1
def PQ (B:Nat->Int)(qf:Fl->Nat)(o Z:Fl->aC Stream)(k:Nat)(D:ay CW)(q:bC):Prop:=
 (∀w∈sy D q,cD w=true/\qf (dm w)=k)/\B k<=q.2.2.2.2.2/\(B k<q.2.2.2.2.2\/∀f,qf f=k->yV f (o f) (sy D q)=Z f)
def kG (B:Nat->Int)(qf:Fl->Nat)(Z:Fl->aC Stream)(h:Host):Prop:=Con (PQ B qf (ig (wV h)) Z) h
theorem PQ.adv {B:Nat->Int}{o Z:Fl->aC Stream}{D D':ay CW}{q':bC}(a:PQ B qf o Z k D q)(he:∀w∈e,qf (dm w)=k)(b:Adv e D q D' q'):PQ B qf o (λf=>yV f (Z f) e) k D' q':=by refine⟨λw hw=>?_,by have:=a.2.1;rcases b.2 with g|g<;>omega,?_⟩;obtain⟨h1,v,hv,hf⟩:=b.1 w hw;refine⟨h1,?_⟩;rw[<-hf];rcases ax.1 hv with g|g;exact(a.1 v g).2;exact he v g;rcases b.2 with g|⟨g1,g2⟩;exact Or.inl (by have:=a.2.1;omega);rcases a.2.2 with h|h;exact Or.inl (by rw[g1];exact h);refine Or.inr λf hf=>?_;rw[g2,As,h f hf]
theorem TD {B:Nat->Int}{Z:Fl->aC Stream}(f:kG B qf Z h)(h2:h.2.2.2.1.length<=2)(hk:k<h.2.2.2.1.length)(hv:h.2.2.2.2.2.1[k]?=some v)(he:∀w∈e,qf (dm w)=k){g:cg×bC}(out:∀i,i<4864->(i<hZ k\/hZ k+1792<=i)->mB g.1 i=mB h.1 i)(hG:∀q p D,h.2.2.2.1[k]?=some q->QD h.1 k q p D->∃D',QD g.1 k g.2 p D'/\Adv e D q D' g.2):kG B qf (λf=>yV f (Z f) e) (wi h k b g):=by
 have SQ:(Ev h k g).2.2.2.2.2.1[k]?=some v:=hv;have ew:∃n,wi h k b g=(g.1,h.2.1,h.2.2.1,h.2.2.2.1.set k g.2,h.2.2.2.2.1,h.2.2.2.2.2.1.set k (evN n v),h.2.2.2.2.2.2):=⟨_,by unfold wi;rw[W0 SQ];rfl⟩
 obtain⟨n,ew⟩:=ew;obtain⟨q,p,D,g1,g2,g3,g4⟩:=f k hk;obtain⟨D',g5,g6⟩:=hG q p D g1 g3;rw[ew];refine Con.step (Q:=PQ B qf (ig (wV h)) Z) f h2 hk (aK ..) (λj hj=>⟨aJ (cr hj),rfl⟩) out (λj hj D q hQ=>⟨hQ.1,hQ.2.1,?_⟩) ⟨g.2,p,D',bD hk,g2,g5,g4.adv he g6⟩;rcases hQ.2.2 with hz|hz;exact Or.inl hz;refine Or.inr λf hf=>?_;show yV f (ig (wV h) f) (sy D q)=yV f (Z f) e;rw[hz f hf,Sl e (Z f) λw hw e0=>hj (by rw[<-hf,<-e0];exact he w hw)]
theorem TC (hn:n<=500000000000)(g:Good n h)(l:Live Q h){B:Nat->Int}{Z:Fl->aC Stream}(f:kG B qf Z h)(hk:k<h.2.2.2.1.length):kG B qf Z (gS k h):=by
 have h2:=oA g;obtain⟨q,p,v,b,g1,g2,g3,g4,hd,x,P,C,F,s,w1,w2,w3,_⟩:=l.rx k hk;have rx:=g.rx q (aZ g1);have e:gS k h=wi h k q.2.1.2.2 (gz (bJ 38) h.1 0 q h.2.2.2.2.2.2.2.2.1.2.2.1):=by unfold gS;rw[g1,l.maps]
 obtain⟨_,_,fl⟩:=zW l.mem (by omega) s (rx.rx (by omega)) _ (Fj g);rw[e];refine TD f h2 hk g3 (e:=[]) (λw hw=>by cases hw) fl.out λq' p' D Li hD=>?_;rw[g1]at Li;have Li:=cb Li;subst Li;exact IT l.mem (by omega) hD hn rx _ (Fj g)
theorem Mj (hn:n<=400000000000)(g:Good n h)(l:Live Q h){B:Nat->Int}{Z:Fl->aC Stream}(f:kG B qf Z h):kG B qf Z (kR h):=by
 have h2:=oA g;have key:∀k:Nat,k<=h.2.2.2.1.length->Good (n+320*(k:Int)) (fT gS k h)/\(fT gS k h).2.2.2.1.length=h.2.2.2.1.length/\Live Fz (fT gS k h)/\kG B qf Z (fT gS k h):=by intro k;induction k with|zero=>intro _;exact⟨g.mono,rfl,l.zD λ_ _ _ _ _ _ _=>trivial,f⟩|succ k ih=>intro hk;obtain⟨i1,i2,i3,i4⟩:=ih (by omega);have st:=Kc (by omega) i1 i3 (k:=k);have gl:=D7 (by omega) i1 k;have e2:(gS k (fT gS k h)).2.2.2.1.length=(fT gS k h).2.2.2.1.length:=(qQ k _).rx;exact⟨gl.mono (by push_cast;omega),e2.trans i2,st.zD λ_ _ _ _ _ _ _=>trivial,TC (by omega) i1 i3 i4 (by omega)⟩
 unfold kR;rw[g.ok (by omega),ah];exact(key h.2.2.2.1.length (aV _)).2.2.2
def afy (fl:Filter)(st:cV)(n:Int)(Z:Fl->aC Stream)(y:Bytes):Fl->aC Stream:=
 bif ((gR y).2==0)&&(sH fl (gR y).1&&(iy st n (gR y).1 != -1)) then λf=>Df f (Z f) (gR y).1 else Z
theorem afj {y:Bytes}(h:((gR y).2==0)=true):fZ (gR y).1=true:=by
 cases hp:fZ (gR y).1 with
 |true=>rfl
 |false=>
  unfold gR at h hp;cases hc:(yf y).2 with|false=>simp only[hc,bQ,ah]at h;cases h|true=>?_
  simp only[hc,ak,af]at h hp;cases hr:(jE (yf y).1).2 !=0 with|true=>simp only[hr,ah]at h;unfold bne at hr;rw[h]at hr;cases hr|false=>simp only[hr,af]at h hp;cases hk:fZ (jE (yf y).1).1 with|false=>simp only[hk,bQ,ah]at h;cases h|true=>simp only[hk,ak,af]at hp;cases hp
theorem Ry (hn:n<=400000000000)(g:Good n h)(l:Live Q h){B:Nat->Int}{Z:Fl->aC Stream}(f:kG B qf Z h)(y:Bytes)(hqf:cD (gR y).1=true->iy h.2.2.2.2.2.2.2.2.1 (h.2.2.2.1.length:Int) (gR y).1≠ -1->(iy h.2.2.2.2.2.2.2.2.1 (h.2.2.2.1.length:Int) (gR y).1).toNat=qf (dm (gR y).1)):kG B qf (afy h.2.2.2.2.2.2.2.1 h.2.2.2.2.2.2.2.2.1 (h.2.2.2.1.length:Int) Z y) (lS h y):=by
 have h2:=oA g;have Bx:∀a b c d,kG B qf Z (sD h a b c d):=λa b c d=>Con.same (h':=sD h a b c d) f h2 rfl rfl (λ_ _ _=>rfl) λ_ _ _ hQ=>hQ;have lc:∀a b c d,Live Fz (sD h a b c d):=λa b c d=>(l.zD λ_ _ _ _ _ _ _=>trivial).same (h':=sD h a b c d) l.mem rfl rfl rfl rfl rfl l.tx (λ_ _ _=>rfl) h2;unfold lS afy;rw[g.ok (by omega)];simp only[ak,af];cases he:(gR y).2 !=0 with
 |true=>rw[show((gR y).2==0)=false from by simpa[bne]using he];exact Bx _ _ _ _
 |false=>
  have he0:((gR y).2==0)=true:=by simpa[bne]using he
  have pk:=afj he0;rw[he0];cases ha:sH h.2.2.2.2.2.2.2.1 (gR y).1;exact Bx _ _ _ _;cases hs:iy h.2.2.2.2.2.2.2.2.1 (h.2.2.2.1.length:Int) (gR y).1== -1 with
  |true=>rw[show(iy h.2.2.2.2.2.2.2.2.1 (h.2.2.2.1.length:Int) (gR y).1 != -1)=false from by unfold bne;rw[hs];rfl];exact Bx _ _ _ _
  |false=>
   rw[show(iy h.2.2.2.2.2.2.2.2.1 (h.2.2.2.1.length:Int) (gR y).1 != -1)=true from by unfold bne;rw[hs];rfl];simp only[ak,af,cY,ah];have sup:cD (gR y).1=true:=by simp only[fZ,ab]at pk;exact pk.1
   have ne:iy h.2.2.2.2.2.2.2.2.1 (h.2.2.2.1.length:Int) (gR y).1≠ -1:=by simpa using hs
   have hk:=hqf sup ne;rcases JK (s:=h.2.2.2.2.2.2.2.2.1) (q:=(h.2.2.2.1.length:Int)) (p:=(gR y).1)with e|⟨k,e,ir⟩;exact absurd e ne;rw[e,aA]at hk⊢;have Zz:k<h.2.2.2.1.length:=by omega
   rw[aw Zz];simp only;obtain⟨q,p,v,b,g1,g2,g3,g4,hd,x,P,C,F,s,w1,w2,w3,_⟩:=l.rx k Zz;have e1:h.2.2.2.1[k]=q:=by rw[aw Zz]at g1;exact cb g1
   rw[e1,l.maps];have rx:=g.rx q (aZ g1);obtain⟨_,_,_,fl⟩:=JS l.mem (by omega) s (by omega) rx h.2.2.2.2.2.2.2.2.1.2.2.1 (Fj g) (gR y).1 h.2.2.2.2.2.2.2.2.2.2.1;exact TD (Bx h.2.2.2.2.2.2.2.2.2.2.2.2.2.2.2.1 h.2.2.2.2.2.2.2.2.2.2.2.2.2.2.2.2.1 h.2.2.2.2.2.2.2.2.2.2.2.2.2.2.2.2.2.1 (au (h.2.2.2.2.2.2.2.2.2.2.2.2.2.2.2.2.2.2+1))) h2 Zz g3 (e:=[(gR y).1]) (λw hw=>by rw[bn.1 hw];exact hk.symm) fl.out λq' p' D Li hD=>by have Li:h.2.2.2.1[k]?=some q':=Li;rw[g1]at Li;have Li:=cb Li;subst Li;exact Wc l.mem (by omega) hD hn rx _ (Fj g) pk _
theorem abv (g:Good n h)(f:Live Q h)(p:aQ)(c z:Int):Live Q (Au h p c z).1:=by obtain⟨hd,L,s⟩:=f.tx;obtain⟨a,⟨L',b⟩,c'⟩:=Qu f.mem s g.tx p c z;unfold Au;cases fU h with|false=>exact f|true=>rw[f.maps];exact f.same a f.maps.symm rfl rfl rfl rfl ⟨hd,L',b⟩ c' (oA g)
theorem BH (hn:n<=1000000000000)(g:Good n h)(f:Live Q h):Live Q (dH h)/\(dH h).2.2.1.2.2.1=[]:=by
 obtain⟨hd,L,s⟩:=f.tx;obtain⟨a,FD,b⟩:=O0 g hn f.maps f.mem s;refine⟨?_,a⟩;have e1:(dH h).1=h.1:=by unfold dH;rw[g.ok hn];rfl
 have e2:(dH h).2.1=h.2.1:=by unfold dH;rw[g.ok hn];rfl
 have e3:(dH h).2.2.2.1=h.2.2.2.1:=by unfold dH;rw[g.ok hn];rfl
 have e4:(dH h).2.2.2.2.1=h.2.2.2.2.1:=by unfold dH;rw[g.ok hn];rfl
 have e5:(dH h).2.2.2.2.2.1=h.2.2.2.2.2.1:=by unfold dH;rw[g.ok hn];rfl
 have e6:(dH h).2.2.2.2.2.2.1=h.2.2.2.2.2.2.1:=by unfold dH;rw[g.ok hn];rfl
 exact f.same (by rw[e1];exact f.mem) e2 e3 e4 e5 e6 ⟨FD,[],by rw[e1];exact b⟩ (λi _ _=>by rw[e1]) (oA g)
theorem KJ (hv:dU v=true):(yb v).1=v.1/\(yb v).2.1=v.2.1/\(yb v).2.2.1=v.2.2.1/\(yb v).2.2.2.2.1=v.2.2.2.2.1/\(1<=v.2.2.1->v.2.2.2.2.1=false->(yb v).2.2.2.2.2=true\/v.2.2.2.1+1<=(yb v).2.2.2.1/\(yb v).2.2.2.1<v.2.1):=by
 have w:=(tZ v).1 hv;have vt:=N4 hv;unfold yb at vt⊢;rw[hv]at vt⊢;simp only[ah]at vt⊢;by_cases h:v.2.2.1>0;rw[aq h]at vt⊢;simp only[ah]at vt⊢;have c:=yG (v.1,v.2.1,v.2.2.1,Lt v.2.2.2.1,v.2.2.2.2);refine⟨c.1,c.2.1,c.2.2.1,c.2.2.2.2,λ_ hm=>?_⟩;have eu:Lt v.2.2.2.1=v.2.2.2.1+1\/Lt v.2.2.2.1=1000000:=by unfold Lt;rw[al];split<;>omega
 have t3:(sC (v.1,v.2.1,v.2.2.1,Lt v.2.2.2.1,v.2.2.2.2)).2.2.2.1=Lt v.2.2.2.1:=c.2.2.2.1;cases hd:CC (v.1,v.2.1,v.2.2.1,Lt v.2.2.2.1,v.2.2.2.2)with
 |true=>left;unfold sC;rw[hd,hm];rfl
 |false=>
  right;have nd:¬(1<=v.2.2.1/\(v.1<=v.2.2.1\/v.2.1<=Lt v.2.2.2.1)):=by rw[<-CD (v.1,v.2.1,v.2.2.1,Lt v.2.2.2.1,v.2.2.2.2),hd];simp
  rw[t3];omega
 rw[ar h]at vt⊢;simp only[af]at vt⊢;have c:=yG v;exact⟨c.1,c.2.1,c.2.2.1,c.2.2.2.2,λh1=>by omega⟩
theorem XS (g:Good n h){B:Nat->ay Fx->bC->Vector->Bool->Prop}(f:Live Q h)(hk:k<h.2.2.2.1.length)(hB:∀C q v b,dU v=true->v.2.1<=3->v.2.2.2.2.1=b->(b=false->C≠[]->1<=v.2.2.1)->Q k C q v b->B k C q (yb v) b):Live (λj C q v b=>(j=k->B k C q v b)/\(j≠k->Q j C q v b)) (jv k h):=by
 obtain⟨q,p,v,b,g1,g2,g3,g4,hd,x,P,C,F,s,w1,w2,w3,w4⟩:=f.rx k hk;have hv:=g.vec v (aZ g3);have ts:=KJ hv;obtain⟨V2,_⟩:=aB.1 g3;have e:jv k h=(h.1,h.2.1,h.2.2.1,h.2.2.2.1,h.2.2.2.2.1,h.2.2.2.2.2.1.set k (yb v),h.2.2.2.2.2.2):=by unfold jv;rw[g3]
 rw[e];refine Live.step (Q:=Q) (Q':=λj C q v b=>(j=k->B k C q v b)/\(j≠k->Q j C q v b)) f hk (oA g) f.mem rfl rfl rfl (λj hj=>⟨rfl,rfl,aJ (cr hj),rfl⟩) (λ_ _ _=>rfl) (λj hj C q v b hA=>⟨λe=>absurd e hj,λ_=>hA⟩) ?_;exact⟨q,p,yb v,b,g1,g2,bD V2,g4,hd,x,P,C,F,s,by rw[ts.2.1];exact w1,by rw[ts.2.2.2.1];exact w2,λe1 e2=>by rw[ts.2.2.1];exact w3 e1 e2,λ_=>hB C q v b hv w1 w2 w3 w4,λe=>absurd rfl e⟩
theorem Xa (g:Good n h)(k:Nat):Good n (jv k h):=by unfold jv;cases hv:h.2.2.2.2.2.1[k]? with|none=>exact g|some v=>exact⟨g.mem,g.maps,g.tx,g.GO,by have:=g.lens;unfold tc at this⊢;rw[aK];exact this,g.JJ,g.rx,g.pool,AK g.vec (N4 (g.vec v (aZ hv))),g.Bx⟩
theorem Ja (hn:n<=1000000000000)(g:Good n h){B:Nat->ay Fx->bC->Vector->Bool->Prop}(f:Live Q h)(hB:∀k C q v b,dU v=true->v.2.1<=3->v.2.2.2.2.1=b->(b=false->C≠[]->1<=v.2.2.1)->Q k C q v b->B k C q (yb v) b):Live B (sA h):=by
 have hl:=vD g.lens;have key:∀k:Nat,k<=h.2.2.2.1.length->Good n (fT jv k h)/\(fT jv k h).2.2.2.1.length=h.2.2.2.1.length/\Live (λj C q v b=>(j<k->B j C q v b)/\(¬j<k->Q j C q v b)) (fT jv k h):=by intro k;induction k with|zero=>intro _;exact⟨g,rfl,f.zD λk _ C q v b hA=>⟨λe=>by omega,λ_=>hA⟩⟩|succ k ih=>intro hk;obtain⟨i1,i2,i3⟩:=ih (by omega);have st:=XS (B:=B) i1 i3 (k:=k) (by omega) (λC q v b a1 a2 a3 a4 hA=>hB k C q v b a1 a2 a3 a4 (hA.2 (by omega)));refine⟨Xa i1 k,((wX k _).rx).trans i2,st.zD λj hj C q v b hA=>⟨λRL=>?_,λRL=>?_⟩⟩;by_cases h1:j=k;subst h1;exact hA.1 rfl;exact(hA.2 h1).1 (by omega);exact(hA.2 (by omega)).2 (by omega)
 unfold sA;rw[g.ok hn,ah,hl.2.2.1];obtain⟨i1,i2,i3⟩:=key h.2.2.2.1.length (aV _);exact i3.zD λj hj C q v b hA=>hA.1 (by omega)
theorem VH (hv:dU v=true):(qH v).1.2.1=v.2.1/\(qH v).2=v.2.2.2.2.2/\(v.2.2.2.2.2=true->(qH v).1.2.2.2.2.1=true)/\(v.2.2.2.2.2=false->(qH v).1=v):=by unfold qH;rw[hv];cases hr:v.2.2.2.2.2 with|true=>exact⟨rfl,rfl,λ_=>rfl,λe=>by cases e⟩|false=>exact⟨rfl,rfl,λe=>(by cases e),λ_=>rfl⟩
theorem O1 (hv:dU v=true):(zB v).2.1=v.2.1/\(zB v).2.2.2.2.1=false:=by unfold zB;rw[hv,ah];have c:=yG (v.1,v.2.1,v.2.2.1,v.2.2.2.1,false,v.2.2.2.2.2);exact⟨c.2.1,c.2.2.2.2⟩
theorem Ke (hn:n<=1000000000000)(t:Int)(g:Good n h){B:Nat->ay Fx->bC->Vector->Bool->Prop}(f:Live Q h)(hk:k<h.2.2.2.1.length){c:Nat}(hc:1<=c/\c<=1000)(hB:∀C q v b q' v' b',dU v=true->v.2.1<=3->v.2.2.2.2.1=b->(b=false->C≠[]->1<=v.2.2.1)->q'.2.2.2.2.1=q.2.2.2.2.1->Q k C q v b-> ((b=false/\v.2.2.2.2.2=false->b'=false->v'=v->B k C q' v' b')/\(b=true\/v.2.2.2.2.2=true->C.length<c->b'=false->B k [] q' v' b')/\(b=true\/v.2.2.2.2.2=true->¬C.length<c->b'=true->B k (C.drop c) q' v' b'))):Live (λj C q v b=>(j=k->B k C q v b)/\(j≠k->Q j C q v b)) (wK (c:Int) k (t,h)).2:=by
 have Cx:hZ k=1280+1792*k:=rfl;have h2:=oA g;obtain⟨q,p,v,b,g1,g2,g3,g4,hd,x,P,C,F,s,w1,w2,w3,w4⟩:=f.rx k hk;have hv:=g.vec v (aZ g3);have tv:=VH hv;have vt:=VO hv;have rq:=(g.rx q (aZ g1)).rx hn;obtain⟨m1,⟨x',P',s'⟩,m3,m4,m5⟩:=Jq f.mem (by omega) s rq h.2.2.2.2.2.2.2.2.2.1 (b:=c);obtain⟨hql,_⟩:=aB.1 g1;obtain⟨DE,_⟩:=aB.1 g2;obtain⟨V2,_⟩:=aB.1 g3;obtain⟨hbl,_⟩:=aB.1 g4;unfold wK;simp only[g1,g2,g3,g4,f.maps];generalize hR:gJ (bJ 38) h.1 0 q p h.2.2.2.2.2.2.2.2.2.1 (c:Int)=R at m1 s' m3 m4 m5;cases hpt:b||(qH v).2 with
 |false=>
  simp only[cj]at hpt;have hr:v.2.2.2.2.2=false:=by rw[<-tv.2.1];exact hpt.2
  have ev:=tv.2.2.2 hr;simp only[af];refine Live.step (Q:=Q) (Q':=λj C q v b=>(j=k->B k C q v b)/\(j≠k->Q j C q v b)) f hk h2 f.mem f.maps.symm rfl rfl (λj hj=>⟨rfl,rfl,aJ (cr hj),aJ (cr hj)⟩) (λ_ _ _=>rfl) (λj hj C q v b hA=>⟨λe=>absurd e hj,λ_=>hA⟩) ?_;refine⟨q,p,(qH v).1,false,g1,g2,bD V2,bD hbl,hd,x,P,C,F,s,by rw[ev];exact w1,by rw[ev,w2];exact hpt.1,λ_ e2=>by rw[ev];exact w3 hpt.1 e2,λ_=>?_,λe=>absurd rfl e⟩;exact(hB C q v b q (qH v).1 false hv w1 w2 w3 rfl w4).1 ⟨hpt.1,hr⟩ rfl ev
 |true=>
  simp only[cH]at hpt;have hpt:b=true\/v.2.2.2.2.2=true:=by rw[<-tv.2.1];exact hpt
  have msk:(qH v).1.2.2.2.2.1=true:=by cases hr:v.2.2.2.2.2 with|true=>exact tv.2.2.1 hr|false=>rw[tv.2.2.2 hr,w2];rcases hpt with e|e;exact e;rw[hr]at e;cases e
  simp only[ah,m3];have um:=O1 vt;refine Live.step (Q:=Q) (Q':=λj C q v b=>(j=k->B k C q v b)/\(j≠k->Q j C q v b)) f hk h2 m1 f.maps.symm rfl (aK ..) (λj hj=>⟨aJ (cr hj),aJ (cr hj),aJ (cr hj),aJ (cr hj)⟩) (λi hi ho=>m5 i hi (by omega)) (λj hj C q v b hA=>⟨λe=>absurd e hj,λ_=>hA⟩) ?_;by_cases hcl:C.length<c;have ed:C.drop c=[]:=cB (by omega);rw[ed]at s';have e1:decide (((min c C.length:Nat):Int)<(c:Int))=true:=mh;rw[e1];refine⟨R.2.1,R.2.2.1,zB (qH v).1,false,bD hql,bD DE,bD V2,bD hbl,hd,x',P',[],[],s',by rw[um.1,tv.1];exact w1,um.2,λ_ e=>absurd rfl e,λ_=>?_,λe=>absurd rfl e⟩;exact(hB C q v b R.2.1 _ false hv w1 w2 w3 m4 w4).2.1 hpt hcl rfl;have e1:decide (((min c C.length:Nat):Int)<(c:Int))=false:=du;rw[e1];refine⟨R.2.1,R.2.2.1,(qH v).1,true,bD hql,bD DE,bD V2,bD hbl,hd,x',P',C.drop c,[],s',by rw[tv.1];exact w1,msk,(λe=>by cases e),λ_=>?_,λe=>absurd rfl e⟩;exact(hB C q v b R.2.1 _ true hv w1 w2 w3 m4 w4).2.2 hpt hcl rfl
theorem HP (hn:n<=1000000000000)(g:Good n h){B:Nat->ay Fx->bC->Vector->Bool->Prop}(f:Live Q h){c:Nat}(hc:1<=c/\c<=1000)(hB:∀k C q v b q' v' b',dU v=true->v.2.1<=3->v.2.2.2.2.1=b->(b=false->C≠[]->1<=v.2.2.1)->q'.2.2.2.2.1=q.2.2.2.2.1->Q k C q v b-> ((b=false/\v.2.2.2.2.2=false->b'=false->v'=v->B k C q' v' b')/\(b=true\/v.2.2.2.2.2=true->C.length<c->b'=false->B k [] q' v' b')/\(b=true\/v.2.2.2.2.2=true->¬C.length<c->b'=true->B k (C.drop c) q' v' b'))):Live B (iD h (c:Int)).1:=by
 have key:∀k:Nat,k<=h.2.2.2.1.length->Good n (ki (c:Int) k h).2/\(ki (c:Int) k h).2.2.2.2.1.length=h.2.2.2.1.length/\Live (λj C q v b=>(j<k->B j C q v b)/\(¬j<k->Q j C q v b)) (ki (c:Int) k h).2:=by intro k;induction k with|zero=>intro _;exact⟨g,rfl,f.zD λk _ C q v b hA=>⟨λe=>by omega,λ_=>hA⟩⟩|succ k ih=>intro hk;obtain⟨i1,i2,i3⟩:=ih (by omega);have st:=Ke (B:=B) hn (ki (c:Int) k h).1 i1 i3 (k:=k) (by omega) hc (λC q v b q' v' b' a1 a2 a3 a4 a5 hA=>hB k C q v b q' v' b' a1 a2 a3 a4 a5 (hA.2 (by omega)));refine⟨D8 (c:Int) k i1,((EB (c:Int) k _).rx).trans i2,st.zD λj hj C q v b hA=>⟨λRL=>?_,λRL=>?_⟩⟩;by_cases h1:j=k;subst h1;exact hA.1 rfl;exact(hA.2 h1).1 (by omega);exact(hA.2 (by omega)).2 (by omega)
 unfold iD;rw[g.ok hn,aX.2 ⟨by omega,by omega⟩];obtain⟨i1,i2,i3⟩:=key h.2.2.2.1.length (aV _);exact i3.zD λj hj C q v b hA=>hA.1 (by show j<_;rw[<-i2];exact hj)
def Ends (o:aC α)(P:α->Prop):Prop:=∃x,o=some x/\P x
theorem Ends.pure {x:α}{P:α->Prop}(h:P x):Ends (some x) P:=⟨x,rfl,h⟩
theorem Ends.bind {o:aC α}{P:α->Prop}{k:α->aC R}{Q:R->Prop}(h:Ends o P)(hk:∀x,P x->Ends (k x) Q):Ends (aa o k) Q:=by obtain⟨x,rfl,hx⟩:=h;exact hk x hx
theorem Ends.mono {o:aC α}{P Q:α->Prop}(h:Ends o P)(hq:∀x,P x->Q x):Ends o Q:=by obtain⟨x,hx,hp⟩:=h;exact⟨x,hx,hq x hp⟩
theorem Ends.cond {c:Bool}{a b:aC α}{P:α->Prop}(h1:c=true->Ends a P)(h2:c=false->Ends b P):Ends (cond c a b) P:=by cases c with|true=>exact h1 rfl|false=>exact h2 rfl
theorem Ends.ifn {p:Prop}[Decidable p]{a:aC α}{P:α->Prop}(h:¬p)(ha:Ends a P):Ends (if p then none else a) P:=by rw[aH h];exact ha
theorem Ends.room {n:Nat}{k:aC α}{P:α->Prop}(h:n<=1073741824)(hk:Ends k P):Ends (room n k) P:=by rw[bg h];exact hk
theorem Ends.of {o:aC α}{x:α}{P:α->Prop}(h:o=some x)(hp:P x):Ends o P:=⟨x,h,hp⟩
theorem Ends.iter {σ:Type}{T:(σ->aC R)->σ->aC R}{Q:R->Prop}(I:σ->Prop)(m:σ->Nat)(hs:∀x nx,I x->(∀y,I y->m y<m x->Ends (nx y) Q)->Ends (T nx x) Q): ∀n x,I x->m x<n->Ends (bt T n x) Q:=by intro n;induction n with|zero=>intro x _ h;omega|succ n ih=>intro x hx hm;rw[bt];exact hs x _ hx λy hy ir=>ih y hy (by omega)
theorem Ends.xS {σ:Type}{T:(σ->aC R)->σ->aC R}{Q:R->Prop}(I:σ->Prop)(m:σ->Nat){x:σ}(hx:I x)(hm:m x<=1000000000000)(hs:∀x nx,I x->(∀y,I y->m y<m x->Ends (nx y) Q)->Ends (T nx x) Q):Ends (bt T fuel x) Q:=Ends.iter I m hs fuel x hx (by have:=eS;omega)
theorem Ends.idx {xs:ay α}{k:α->aC R}{Q:R->Prop}(h0:0<=i)(h1:i<(xs.length:Int))(hk:∀(h:i.toNat<xs.length),Ends (k xs[i.toNat]) Q):Ends (aa (idx xs i) k) Q:=by
 obtain⟨n,rfl⟩:=az h0;have hn:n<xs.length:=by omega
 rw[bS hn,ae];exact hk (by simpa using hn)
abbrev SL:=dB×Int×Int
variable {c:SL}
def Cu (c:SL):Prop:=0<=c.2.1/\c.2.1<=(c.1.length:Int)/\c.1.length<=1048576
theorem ac7 (x y:Int)(n:Nat)(hy:(ia y).toNat=n)(hn:n<9223372036854775808):0<=au (BitVec.toNat (ia x&&&ia y))/\au (BitVec.toNat (ia x&&&ia y))<=n:=by
 have h:(ia x&&&ia y).toNat<=n:=by rw[BitVec.toNat_and,hy];exact Nat.and_le_right
 generalize (ia x&&&ia y).toNat=k at h;rw[al];omega
theorem aj6 {a:dB}(ha:a.length<=1048576):Ends (Bq a) Cu:=by
 unfold Bq;refine Ends.xS (λx=>0<=x.2/\x.2<=4000) (λx=>(4000-x.2).toNat) ⟨by omega,by omega⟩ (by simp) λx nx hx hn=>?_;unfold Aw;refine Ends.bind (P:=λb=>b=true->x.2<(a.length:Int)/\x.2<4000) (Ends.cond (λh=>Ends.pure λh2=>⟨bw h,bw h2⟩) λh=>Ends.pure λh2=>by cases h2) λq hq=>?_;refine Ends.cond (λh=>?_) (λh=>Ends.pure ⟨eT _,by simp,ha⟩);have hq:=hq h;refine Ends.idx hx.1 hq.1 λ_=>hn _ ⟨?_,?_⟩ ?_;all_goals simp only[al (n:=x.2+1) (by omega) (by omega)]
 all_goals omega
theorem E2 (h:Cu c):Ends (kZ c) λr=>(0<=r.1/\r.1<=255)/\Cu r.2:=by
 unfold kZ;refine Ends.ifn (by decide) (Ends.ifn (by decide) (Ends.cond (λh1=>?_) λh1=>?_))
 ·have h1:=bw h1;refine Ends.idx h.1 h1 λ_=>Ends.pure ⟨ac7 _ 255 255 rfl (by decide),?_⟩;refine⟨?_,?_,h.2.2⟩;all_goals simp only[al (n:=c.2.1+1) (by have:=h.1;omega) (by have:=h.2.2;omega)]
  have:=h.1;omega;omega
 exact Ends.pure ⟨ac7 _ 255 255 rfl (by decide),h.1,h.2.1,h.2.2⟩
theorem iA (h:Cu c)(hn:0<n:=by omega):Ends (cE c n) λr=>(0<=r.1/\r.1<n)/\Cu r.2:=by unfold cE;rw[du];simp only[af];refine Ends.cond (λh1=>?_) λh1=>?_;refine(E2 h).bind λr hr=>Ends.ifn (by omega) (Ends.pure ⟨⟨Int.tmod_nonneg _ hr.1.1,Int.tmod_lt_of_pos _ hn⟩,hr.2⟩);refine(E2 h).bind λr2 h2=>(E2 h2.2).bind λr3 h3=>(E2 h3.2).bind λr4 h4=>(E2 h4.2).bind λr5 h5=>Ends.ifn (by omega) (Ends.pure ⟨⟨Int.tmod_nonneg _ ?_,Int.tmod_lt_of_pos _ hn⟩,h5.2⟩);have a2:=h2.1;have a3:=h3.1;have a4:=h4.1;have a5:=h5.1;rw[al (n:=r2.1*16777216),al (n:=r3.1*65536),al (n:=r4.1*256)];rw[al (n:=r2.1*16777216+r3.1*65536)];rw[al (n:=r2.1*16777216+r3.1*65536+r4.1*256)];rw[al];omega
theorem GZ (h:Cu c)(n:Int):Ends (cE c n) λr=>(0<=r.1/\(r.1<n\/r.1=0))/\Cu r.2:=by
 rcases Int.lt_or_le 0 n with hn|hn;exact(iA h hn).mono λr hr=>⟨⟨hr.1.1,Or.inl hr.1.2⟩,hr.2⟩
 unfold cE;rw[aq hn];exact Ends.pure ⟨⟨eT _,Or.inr rfl⟩,h⟩
theorem xr (h:Cu c)(n:Int):Ends (ix c n) λr=>Cu r.2:=by unfold ix;exact(GZ h n).bind λr hr=>Ends.pure hr.2
theorem jH (h:Cu c){l:dB}{P:Int->Prop}(hl:0<l.length)(hp:∀x∈l,P x):Ends (cL c l) λr=>P r.1/\Cu r.2:=by unfold cL;exact(iA h).bind λr hr=>Ends.idx hr.1.1 hr.1.2 λhi=>Ends.pure ⟨hp _ (bE hi),hr.2⟩
theorem Ir (h:Cu c)(n:Int):Ends (mO c n) λr=>(r.1.length<=5000/\(0<=n->n<=5000->(r.1.length:Int)=n)/\(n<=0->r.1=[]))/\Cu r.2:=by
 have key:∀v:Int,v<=5000->∀Q:(Bytes×SL)->Prop,(∀x c,((x.length:Int)=v\/(v<=0/\x=[]))->Cu c->Q (aO x,c))->Ends (bt (pF (λy _ z=>some (aO y,z)) v) fuel (([]:dB),0,c)) Q:=by
  intro v hv Q hQ;refine Ends.xS (λx=>(x.1.length:Int)=x.2.1/\(x.2.1<=v\/x.2.1=0)/\Cu x.2.2) (λx=>(v-x.2.1).toNat) ⟨rfl,Or.inr rfl,h⟩ (by simp;omega) λx nx hx hn=>?_;unfold pF;refine Ends.cond (λh1=>?_) λh1=>Ends.pure (hQ _ _ ?_ hx.2.2)
  ·have h1:=bw h1;refine(E2 hx.2.2).bind λr hr=>Ends.room (by simp;omega) (hn _ ⟨?_,?_,hr.2⟩ ?_);all_goals simp only[al (n:=x.2.1+1) (by omega) (by omega)]
   simp;omega;omega;omega
  have h1:=fI h1;rcases hx.2.1 with h2|h2;exact Or.inl (by omega);rcases Int.lt_or_le 0 v with h3|h3;omega;exact Or.inr ⟨h3,bZ (by omega)⟩
 have hb:∀x:dB,(aO x).length=x.length:=λx=>by simp[aO]
 unfold mO;refine Ends.cond (λh1=>?_) λh1=>?_;have h1:=bw h1;refine key 5000 (by omega) _ λx c hx hc=>⟨⟨by rw[hb];rcases hx with hx|hx<;>omega,λ_ _=>by omega,λ_=>by omega⟩,hc⟩
 have h1:=fI h1;refine key n (by omega) _ λx c hx hc=>⟨⟨?_,λh0 _=>?_,λh0=>?_⟩,hc⟩
 rw[hb];rcases hx with hx|hx;omega;rw[hx.2];simp;rw[hb];rcases hx with hx|hx;omega;rw[hx.2];simp;omega;rcases hx with hx|hx;have:x=[]:=bZ (by omega);rw[this];rfl;rw[hx.2];rfl
theorem Mx (h:Cu c):Ends (sm c) λr=>(167772161<=r.1/\r.1<=167772163)/\Cu r.2:=by unfold sm;refine(iA h (by decide)).bind λr hr=>Ends.pure ⟨?_,hr.2⟩;have:=hr.1;simp only[al (n:=167772161+r.1) (by omega) (by omega)];omega
theorem aaG (h:Cu c):Ends (xD c) λr=>(0<=r.1/\r.1<=31)/\Cu r.2:=by unfold xD;exact(jH (P:=λx=>0<=x/\x<=31) h (by decide) (by decide)).bind λr hr=>Ends.pure hr
theorem akk (h:Cu c){m:Int}(h0:0<=m)(h1:m<=320):Ends (tV c m) λr=>(qK r.1=true/\(r.1.2.2.2.2.2.2.2.length:Int)<=m)/\Cu r.2:=by
 unfold tV;refine(iA h (by decide)).bind λr1 p1=>(iA p1.2 (by decide)).bind λr2 p2=>?_;refine(jH (P:=λx=>0<=x/\x<=4294967295) p2.2 (by simp) ?_).bind λr3 p3=>?_;have:=p2.1;intro x hx;simp only[cw,List.not_mem_nil,or_false]at hx;omega;refine(jH (P:=λx=>0<=x/\x<=4294967295) p3.2 (by decide) (by decide)).bind λr4 p4=>(aaG p4.2).bind λr5 p5=>?_;refine(jH (P:=λx=>0<=x/\x<=65535) p5.2 (by decide) (by decide)).bind λr6 p6=>?_;rw[al (n:=m+1)];refine(iA p6.2).bind λr7 p7=>(Ir p7.2 r7.1).bind λr8 p8=>(xr p8.2 4).bind λr9 p9=>?_;have a1:=p1.1;have a7:=p7.1;have a8:=p8.1.2.1 a7.1 (by omega);rw[al (n:=1000+r1.1)];refine Ends.cond (λ_=>Ends.pure ⟨⟨afu (by omega) (by omega) (by omega),?_⟩,p9⟩) λ_=>Ends.pure ⟨⟨Vk (by omega) (by omega) p3.1 p4.1 p5.1 p6.1 (by omega),?_⟩,p9⟩;all_goals show(r8.1.length:Int)<=m
 all_goals omega
theorem Qd (h:Cu c){m:Int}(h0:0<=m:=by omega)(h1:m<=320:=by omega):Ends (lT c m) λr=>(cD r.1=true/\(r.1.2.2.2.2.2.2.2.2.2.2.2.2.2.2.2.length:Int)<=m/\(r.1.2.2.2.2.2.2.2.2.1=6\/r.1.2.2.2.2.2.2.2.2.1=17))/\Cu r.2:=by
 unfold lT;refine(jH (P:=λx=>0<=x/\x<=281474976710655) h (by decide) (by decide)).bind λr1 p1=>?_;refine(jH (P:=λx=>0<=x/\x<=281474976710655) p1.2 (by decide) (by decide)).bind λr2 p2=>?_;refine(jH (P:=λx=> -1<=x/\x<=4095) p2.2 (by decide) (by decide)).bind λr3 p3=>?_;refine(jH (P:=λx=>0<=x/\x<=255) p3.2 (by decide) (by decide)).bind λr4 p4=>?_;refine(jH (P:=λx=>0<=x/\x<=65535) p4.2 (by decide) (by decide)).bind λr5 p5=>?_;refine(jH (P:=λx=>0<=x/\x<=255) p5.2 (by decide) (by decide)).bind λr6 p6=>?_;refine(Mx p6.2).bind λr7 p7=>?_;refine(akk p7.2 (m:=if 128<m then 128 else m) (by split<;>omega) (by split<;>omega)).bind λr8 p8=>?_;have hh:∀g:eY,qK g=true->nN (r1.1,r2.1,r3.1,r4.1,r5.1,r6.1,r7.1,167772161,g)=true:=λg hg=>aeb p1.1 p2.1 p3.1 p4.1 p5.1 p6.1 (by have:=p7.1;omega) (by omega) hg;have hk:∀g:eY,qK g=true->g.1=6\/g.1=17:=by intro g hg;unfold qK at hg;simp only[ab]at hg;have h2:=hg.2.2.2;cases h17:g.1==17 with|true=>exact Or.inr (by simpa using h17)|false=>rw[h17]at h2;simp only[af,ab]at h2;exact Or.inl (by simpa using h2.1)
 have hl:(r8.1.2.2.2.2.2.2.2.length:Int)<=128/\(r8.1.2.2.2.2.2.2.2.length:Int)<=m:=by have:=p8.1.2;split at this<;>omega
 have short:∀c':SL,Cu c'->Ends (some ((r1.1,r2.1,r3.1,r4.1,r5.1,r6.1,r7.1,(167772161:Int),r8.1),c')) λr:aQ×SL=>(cD r.1=true/\(r.1.2.2.2.2.2.2.2.2.2.2.2.2.2.2.2.length:Int)<=m/\(r.1.2.2.2.2.2.2.2.2.1=6\/r.1.2.2.2.2.2.2.2.2.1=17))/\Cu r.2:=by intro c' yd;refine Ends.pure ⟨⟨?_,hl.2,hk _ p8.1.1⟩,yd⟩;unfold cD;rw[hh _ p8.1.1,bF];have:decide ((r8.1.2.2.2.2.2.2.2.length:Int)<=128)=true:=aq hl.1;show(decide ((r8.1.2.2.2.2.2.2.2.length:Int)<=128)||_)=true;rw[this,iM]
 refine Ends.cond (λk1=>Ends.cond (λk2=>Ends.cond (λk3=>?_) λ_=>short _ p8.2) λ_=>short _ p8.2) λ_=>short _ p8.2;have k3:=bw k3;refine(xr p8.2 2).bind λr9 p9=>Ends.cond (λ_=>?_) λ_=>short _ p9;rw[al (n:=m-128),al (n:=m-128+1)];refine(iA p9).bind λri p10=>?_;have a10:=p10.1;rw[al (n:=128+ri.1)];refine(Ir p10.2 _).bind λwo p11=>?_;have a11:=p11.1.2.1 (by omega) (by omega);have hs:=acq p8.1.1 (x:=wo.1) (by omega);refine Ends.pure ⟨⟨?_,by show(wo.1.length:Int)<=m;omega,Or.inl (by simpa using k1)⟩,p11.2⟩;unfold cD;rw[hh _ hs,bF];rw[Me _ (Fp p8.1.1 k1)]at k2;show(_||(r8.1.1==6)&&zV r8.1.2.2.2.2.2.1)=true;rw[k1,k2,cY,jA]
def Plain (p:aQ):Prop:=nN p=true/\p.2.2.2.2.2.2.2.2.2.2.2.2.2.2.2.length<=40
theorem Plain.ok (h:Plain p):fZ p=true:=(UW p).2 ⟨h.1,by have:=h.2;omega⟩
theorem HZ (h:Cu c):Ends (lT c 40) λr=>Plain r.1/\Cu r.2:=(Qd h).mono λr hr=>⟨⟨by have:=hr.1.1;unfold cD at this;simp only[ab]at this;exact this.1,by have:=hr.1.2.1;omega⟩,hr.2⟩
theorem aeQ {Q:R->Prop}{k0:ay aQ->SL->aQ->aC R}{l:ay aQ}(hl:l.length<=1000)(hc:Cu c)(hp:Plain p)(hk:∀c' p',Cu c'->Plain p'->Ends (k0 (l++[p]) c' p') Q):Ends (ow k0 l z n c p) Q:=by
 unfold ow;have hi:=ahk (Mt hp.1);have hs:=uX hp.1;refine Ends.room (by simp;omega) (Ends.ifn (by decide) (Ends.cond (λh6=>?_) λ_=>hk _ _ hc ⟨B7 (p:=p) hp.1 hi hs,hp.2⟩));have h6:p.2.2.2.2.2.2.2.2.1=6:=by simpa using h6
 refine(xr hc 8).bind λr hr=>Ends.cond (λ_=>Ends.ifn (by decide) (hk _ _ hr ⟨B7 (p:=p) hp.1 hi ?_,hp.2⟩)) λ_=>hk _ _ hr ⟨B7 (p:=p) hp.1 hi hs,hp.2⟩;have k:=ZZ hs h6;have hlen:p.2.2.2.2.2.2.2.2.2.2.2.2.2.2.2.length<=320:=by have:=hp.2;omega
 exact NA hs h6 (ae1 k.2.2.1 hlen) k.2.2.2.2.1 hlen
theorem aeP {Q:R->Prop}{k0:ay aQ->SL->aQ->aC R}{l:ay aQ}(hl:l.length<=1000)(hz:1<=z/\z<=40)(hc:Cu c)(hp:Plain p)(hk:∀q c' p',Plain q->Cu c'->Plain p'->Ends (k0 (l++[q]) c' p') Q):Ends (ov k0 l z n c p) Q:=by
 unfold ov;refine Ends.cond (λh6=>?_) λ_=>aeQ hl hc hp λc' p' h1 h2=>hk _ _ _ hp h1 h2;have h6:p.2.2.2.2.2.2.2.2.1=6:=by simpa using h6
 refine(jH (P:=λx=>0<=x/\x<=31) hc (by decide) (by decide)).bind λr8 p8=>(Ir p8.2 z).bind λr9 p9=>?_;have a9:=p9.1.2.1 (by omega) (by omega);have hs:=uX hp.1;have hq:Plain (p.1,p.2.1,p.2.2.1,p.2.2.2.1,p.2.2.2.2.1,p.2.2.2.2.2.1,p.2.2.2.2.2.2.1,p.2.2.2.2.2.2.2.1,p.2.2.2.2.2.2.2.2.1,p.2.2.2.2.2.2.2.2.2.1,p.2.2.2.2.2.2.2.2.2.2.1,p.2.2.2.2.2.2.2.2.2.2.2.1,p.2.2.2.2.2.2.2.2.2.2.2.2.1,r8.1,p.2.2.2.2.2.2.2.2.2.2.2.2.2.2.1,r9.1):=⟨B7 hp.1 (Mt hp.1) (NA hs h6 (ZZ hs h6).2.2.1 p8.1 (by omega)),by show r9.1.length<=40;omega⟩
 exact aeQ hl p9.2 hq λc' p' h1 h2=>hk _ _ _ hq h1 h2
theorem ais {Q:R->Prop}{k0:ay aQ->Int->SL->aQ->aC R}{l:ay aQ}(hl:l.length<=1000)(hz:1<=z/\z<=40)(hc:Cu c)(hp:Plain p)(hk:∀q z' c' p',Plain q->(1<=z'/\z'<=40)->Cu c'->Plain p'->Ends (k0 (l++[q]) z' c' p') Q):Ends (pH k0 l z n c p) Q:=by unfold pH;refine(xr hc 6).bind λr6 p6=>Ends.cond (λ_=>?_) λ_=>aeP hl hz p6 hp λq c' p' h1 h2 h3=>hk _ _ _ _ h1 hz h2 h3;refine(iA p6 (by decide)).bind λr7 p7=>?_;have a7:=p7.1;rw[al (n:=1+r7.1)];exact aeP hl (by omega) p7.2 hp λq c' p' h1 h2 h3=>hk _ _ _ _ h1 (by omega) h2 h3
theorem alP {Q:R->Prop}{k0:ay aQ->Int->Int->SL->aQ->aC R}{l:ay aQ}(hl:l.length<=1000)(hz:1<=z/\z<=40)(hn:0<n/\n<=1000)(hc:Cu c)(hp:Plain p)(hk:∀q z' c' p',Plain q->(1<=z'/\z'<=40)->Cu c'->Plain p'->Ends (k0 (l++[q]) z' (n-1) c' p') Q):Ends (tW k0 l z n c p) Q:=by unfold tW;have e:au (n-1)=n-1:=al;refine(xr hc 5).bind λr4 p4=>Ends.cond (λ_=>?_) λ_=>?_;refine(HZ p4).bind λr5 p5=>ais hl hz p5.2 p5.1 λq z' c' p' h1 h2 h3 h4=>?_;unfold pG;rw[e];exact hk _ _ _ _ h1 h2 h3 h4;refine ais hl hz p4 hp λq z' c' p' h1 h2 h3 h4=>?_;unfold pG;rw[e];exact hk _ _ _ _ h1 h2 h3 h4
theorem ahf (h:Cu c){m:Int}(h0:0<m)(h1:m<=100):Ends (zb c m) λr=>((∀p∈r.1,Plain p)/\0<r.1.length/\(r.1.length:Int)<=m)/\Cu r.2:=by unfold zb;refine(HZ h).bind λr1 p1=>(iA p1.2 (by decide)).bind λr2 p2=>(iA p2.2 h0).bind λr3 p3=>?_;have a2:=p2.1;have a3:=p3.1;rw[al (n:=r2.1*8),al (n:=8+r2.1*8),al (n:=1+r3.1)];refine Ends.xS (λx=>(∀p∈x.1,Plain p)/\(1<=x.2.1/\x.2.1<=40)/\0<=x.2.2.1/\(x.1.length:Int)+x.2.2.1=1+r3.1/\Cu x.2.2.2.1/\Plain x.2.2.2.2) (λx=>x.2.2.1.toNat) ⟨by simp,(by dsimp only;omega),(by dsimp only;omega),by simp,p3.2,p1.1⟩ (by simp;omega) λx nx hx hn=>?_;unfold yt;refine Ends.cond (λk=>?_) λk=>?_;have k:=bw k;refine alP (by omega) hx.2.1 (by omega) hx.2.2.2.2.1 hx.2.2.2.2.2 λq z' c' p' h1 h2 h3 h4=>hn _ ⟨?_,h2,?_,?_,h3,h4⟩ ?_;intro y hy;rcases ax.1 hy with hy|hy;exact hx.1 y hy;simp only[bn]at hy;rw[hy];exact h1;show 0<=x.2.2.1-1;omega;show((x.1++[q]).length:Int)+(x.2.2.1-1)=1+r3.1;have:=hx.2.2.2.1;simp;omega;show(x.2.2.1-1).toNat<x.2.2.1.toNat;omega;have k:=fI k;have:=hx.2.2.2.1;have:=hx.2.2.1;exact Ends.pure ⟨⟨hx.1,(by dsimp only;omega),(by dsimp only;omega)⟩,hx.2.2.2.2.1⟩
theorem ahn (h:Cu c){l:ay aQ}(hl:l.length<=1000000):Ends (ze c l) λr=>(r.1.length<=l.length/\∀s∈r.1,s.2.2.1=[])/\Cu r.2:=by unfold ze;refine Ends.xS (λx=>0<=x.2.1/\(x.1.length:Int)<=x.2.1/\x.2.1<=(l.length:Int)/\(∀s∈x.1,s.2.2.1=[])/\Cu x.2.2) (λx=>((l.length:Int)-x.2.1).toNat) ⟨by simp,by simp,by simp,by simp,h⟩ (by simp;omega) λx nx hx hn=>?_;have e:x.2.1<(l.length:Int)->au (x.2.1+1)=x.2.1+1:=λ_=>al;unfold yu;refine Ends.cond (λk=>?_) λk=>Ends.pure ⟨⟨(by dsimp only;omega),hx.2.2.2.1⟩,hx.2.2.2.2⟩;have k:=bw k;rw[e k];have skip:∀c',Cu c'->Ends (nx (x.1,x.2.1+1,c')) _:=λc' yd=>hn _ ⟨by show 0<=x.2.1+1;omega,by show(x.1.length:Int)<=x.2.1+1;omega,by show x.2.1+1<=_;omega,hx.2.2.2.1,yd⟩ (by show((l.length:Int)-(x.2.1+1)).toNat<_;omega);refine Ends.idx hx.1 k λhi=>?_;rw[afD,ae];refine Ends.cond (λ_=>?_) λ_=>skip _ hx.2.2.2.2;rw[afH _ _ (by omega),ae];refine Ends.cond (λ_=>?_) λ_=>skip _ hx.2.2.2.2;refine(xr hx.2.2.2.2 6).bind λr4 p4=>Ends.cond (λ_=>?_) λ_=>skip _ p4;refine Ends.idx hx.1 k λhi=>(jH (P:=λ_=>True) p4 (by decide) (by simp)).bind λr6 p6=>Ends.room (by simp;omega) (hn _ ⟨by show 0<=x.2.1+1;omega,?_,by show x.2.1+1<=_;omega,?_,p6.2⟩ (by show((l.length:Int)-(x.2.1+1)).toNat<_;omega));show((x.1++[_]).length:Int)<=x.2.1+1;simp;omega;intro s hs;rcases ax.1 hs with hs|hs;exact hx.2.2.2.1 s hs;simp only[bn]at hs;rw[hs]
theorem ajU (h:Cu c):Ends (Br c) λr=>r.1.length=16/\Cu r.2:=by unfold Br;exact(Ir h 16).bind λr hr=>Ends.pure ⟨by have:=hr.1.2.1 (by omega) (by omega);omega,hr.2⟩
theorem aaH (h:Cu c):Ends (zg c) λr=>Cu r.2:=by unfold zg;refine(jH (P:=λ_=>True) h (by decide) (by simp)).bind λr1 p1=>(Mx p1.2).bind λr2 p2=>(iA p2.2 (by decide)).bind λr3 p3=>?_;exact(jH (P:=λ_=>True) p3.2 (by decide) (by simp)).bind λr4 p4=>Ends.pure p4.2
theorem acH (h:Cu c):Ends (vV c) λr=>(r.1.1.1.length=16/\r.1.1.2.length<=8/\1<=r.1.2/\r.1.2<=4)/\Cu r.2:=by unfold vV;refine(iA h (by decide)).bind λr1 p1=>(ajU p1.2).bind λr2 p2=>(jH (P:=λx=>0<=x/\x<=8) p2.2 (by decide) (by decide)).bind λr3 p3=>?_;have a1:=p1.1;have a3:=p3.1;rw[al (n:=1+r1.1)];refine Ends.xS (λx=>0<=x.1/\x.1+(x.2.2.2.length:Int)=r3.1/\x.2.2.1.length=16/\Cu x.2.1) (λx=>x.1.toNat) ⟨by omega,by simp,p2.1,p3.2⟩ (by simp;omega) λx nx hx hn=>?_;unfold vW;refine Ends.cond (λk=>?_) λk=>Ends.pure ⟨⟨hx.2.2.1,by have:=hx.1;have:=hx.2.1;show x.2.2.2.length<=8;omega,by show(1:Int)<=1+r1.1;omega,by show 1+r1.1<=(4:Int);omega⟩,hx.2.2.2⟩;have k:=bw k;rw[al (n:=x.1-1) (by omega) (by have:=hx.2.1;omega)];refine(GZ hx.2.2.2 _).bind λr4 p4=>Ends.room (by have:=hx.2.1;simp;omega) (hn _ ⟨?_,?_,hx.2.2.1,p4.2⟩ ?_);show 0<=x.1-1;omega;show x.1-1+((x.2.2.2++[r4.1]).length:Int)=r3.1;have:=hx.2.1;simp;omega;show(x.1-1).toNat<x.1.toNat;omega
theorem ahx (h:Cu c):Ends (zj c) λr=>Cu r.2:=by unfold zj;refine(iA h (by decide)).bind λr1 p1=>(jH (P:=λ_=>True) p1.2 (by decide) (by simp)).bind λr2 p2=>(Mx p2.2).bind λr3 p3=>?_;refine(jH (P:=λ_=>True) p3.2 (by decide) (by simp)).bind λr4 p4=>(jH (P:=λ_=>True) p4.2 (by decide) (by simp)).bind λr5 p5=>(jH (P:=λ_=>True) p5.2 (by decide) (by simp)).bind λr6 p6=>?_;refine(jH (P:=λ_=>True) p6.2 (by decide) (by simp)).bind λr7 p7=>(jH (P:=λ_=>True) p7.2 (by decide) (by simp)).bind λr8 p8=>?_;exact Ends.cond (λ_=>(iA p8.2 (by decide)).bind λr9 p9=>Ends.pure p9.2) λ_=>Ends.pure p8.2
theorem afr (h:Cu c):Ends (xE c) λr=>r.1.length<=4/\Cu r.2:=by unfold xE;refine(iA h (by decide)).bind λr1 p1=>?_;have a1:=p1.1;refine Ends.xS (λx=>0<=x.2.1/\x.2.1+(x.1.length:Int)=r1.1/\Cu x.2.2) (λx=>x.2.1.toNat) ⟨a1.1,by simp,p1.2⟩ (by simp;omega) λx nx hx hn=>?_;unfold wR;refine Ends.cond (λk=>?_) λk=>Ends.pure ⟨by have:=hx.1;have:=hx.2.1;show x.1.length<=4;omega,hx.2.2⟩;have k:=bw k;rw[al (n:=x.2.1-1) (by omega) (by have:=hx.2.1;omega)];refine(ahx hx.2.2).bind λr2 p2=>Ends.room (by have:=hx.2.1;simp;omega) (hn _ ⟨?_,?_,p2⟩ ?_);show 0<=x.2.1-1;omega;show x.2.1-1+((x.1++[r2.1]).length:Int)=r1.1;have:=hx.2.1;simp;omega;show(x.2.1-1).toNat<x.2.1.toNat;omega
theorem N6 (t:ay Slot)(f:iV):∀n k,walk t f n k= -1\/(0<=walk t f n k/\walk t f n k<8)
 |0,_=>Or.inl rfl
 |n+1,k=>by rw[walk];have:=Fw f k;split;exact Or.inl rfl;split;exact Or.inr ⟨by omega,by omega⟩;exact N6 t f n (k+1)
theorem acN {t:ay Slot}(h:pn t=true):t.length=8:=by unfold pn at h;simp only[ab,bm]at h;exact h.1
theorem akf (t:ay Slot)(f:iV)(q:Int)(hl:t.length<=1000):Ends (yY t f q) λr=>r.1.length=t.length:=by
 unfold yY;rw[F0 _ (by omega),ae,Qx,ae];refine Ends.bind (P:=λb=>b=false->pn t=true) ?_ λb hb=>Ends.cond (λ_=>Ends.pure rfl) λOa=>?_;refine Ends.cond (λ_=>Ends.pure λh=>by cases h) λh=>?_;rw[eU,ae];exact Ends.pure λ_=>by simpa using h
 ·have h8:=acN (hb Oa);rw[Vt _ _ h8,ae];have hw:=N6 t f 8 0;refine Ends.xS (λx=>(x.1= -1\/(0<=x.1/\x.1<8))/\0<=x.2/\x.2<=8) (λx=>(8-x.2).toNat) ⟨hw,by simp,by simp⟩ (by simp) λx nx hx hn=>?_;unfold yq;refine Ends.bind (P:=λb=>b=true->x.2<8) (Ends.cond (λh=>Ends.pure λ_=>bw h) λh=>Ends.pure λh=>by cases h) λb hb=>Ends.cond (λOa=>?_) λ_=>?_
  ·have hb:=hb Oa;rw[Vu,ae];have hh:=Mw f;rw[al (n:=Cc f+x.2),al (n:=x.2+1)];have m1:=Int.tmod_nonneg 8 (a:=Cc f+x.2) (by omega);have m2:=Int.tmod_lt_of_pos (Cc f+x.2) (b:=8) (by omega);refine Ends.ifn (by decide) (Ends.idx m1 (by omega) λ_=>Ends.cond (λ_=>hn _ ⟨Or.inr ⟨m1,m2⟩,?_,?_⟩ ?_) λ_=>hn _ ⟨hx.1,?_,?_⟩ ?_);all_goals simp only
   all_goals omega
  refine Ends.cond (λ_=>Ends.pure rfl) λh=>?_;have h:=fI h;have h0:0<=x.1/\x.1<8:=by omega
  exact Ends.idx h0.1 (by omega) λ_=>Ends.idx h0.1 (by omega) λ_=>Ends.pure (by simp)
structure wZ (s:cV):Prop where
 r:s.1.length<=100
 t:s.2.1.length<=100
 k:s.2.2.1.length=16
 p:s.2.2.2.length<=100
theorem afI (h:Cu c):Ends (sn c) λr=>(wZ r.1.1/\1<=r.1.2/\r.1.2<=4)/\Cu r.2:=by
 unfold sn;have T0:nb=some (List.replicate 8 (0,(0,0,0,0,0),0)):=by unfold nb;rw[aF (by decide),bg (by decide)];rfl
 rw[T0,ae];refine(acH h).bind λr2 p2=>(xr p2.2 2).bind λr3 p3=>?_;have t11:∀(n:Int)(s:cV)(c':SL),n<=4->wZ s->Cu c'->Ends (bt (jg (λ(_:Int) JO KM=>some ((KM,r2.1.2),JO)) r2.1.2 (([]:ay km),([]:ay Slot),([]:Bytes),([]:dB))) fuel (n,c',s)) λr:(cV×Int)×SL=>(wZ r.1.1/\1<=r.1.2/\r.1.2<=4)/\Cu r.2:=by intro n s c' hn hs hc;refine Ends.xS (λx=>x.1<=4/\wZ x.2.2/\Cu x.2.1) (λx=>x.1.toNat) ⟨hn,hs,hc⟩ (by simp;omega) λx nx hx hn=>?_;unfold jg;refine Ends.cond (λk=>?_) λk=>Ends.pure ⟨⟨hx.2.1,p2.1.2.2⟩,hx.2.2⟩;have k:=bw k;rw[al (n:=x.1-1) (by omega) (by have:=hx.1;omega)];refine(aaH hx.2.2).bind λwo p11=>(GZ p11 _).bind λtf p12=>(akf _ _ _ (by have:=hx.2.1.t;omega)).bind λAE p13=>hn _ ⟨?_,⟨hx.2.1.r,by have:=hx.2.1.t;show AE.1.length<=100;omega,hx.2.1.k,hx.2.1.p⟩,p12.2⟩ ?_;show x.1-1<=4;have:=hx.1;omega;show(x.1-1).toNat<x.1.toNat;omega
 have t7:∀(s:cV)(c' b:SL),wZ s->s.1.length<=4->Cu c'->Ends (bt (kP (λ(_:Int) y9=>aa (cE c' 4) λri=>bt (jg (λ(_:Int) JO KM=>some ((KM,r2.1.2),JO)) r2.1.2 (([]:ay km),([]:ay Slot),([]:Bytes),([]:dB))) fuel (ri.1,ri.2,y9)) r2.1.2 b (([]:ay km),([]:ay Slot),([]:Bytes),([]:dB))) fuel (0,s)) λr:(cV×Int)×SL=>(wZ r.1.1/\1<=r.1.2/\r.1.2<=4)/\Cu r.2:=by intro s c' b hs hl hc;refine Ends.xS (λx=>0<=x.1/\x.2.1.length=s.1.length/\wZ x.2) (λx=>((s.1.length:Int)-x.1).toNat) ⟨by simp,rfl,hs⟩ (by simp;omega) λx nx hx hn=>?_;unfold kP;refine Ends.cond (λk=>?_) λk=>(iA hc (by decide)).bind λri p10=>t11 _ _ _ (by have:=p10.1;omega) hx.2.2 p10.2;have k:=bw k;rw[al (n:=x.1+1) (by omega) (by have:=hx.2.1;omega)];refine Ends.idx hx.1 k λ_=>Ends.ifn (by have:=p2.1.2.2;omega) (Ends.idx hx.1 k λ_=>Ends.idx hx.1 k λ_=>hn _ ⟨?_,?_,⟨?_,hx.2.2.t,hx.2.2.k,hx.2.2.p⟩⟩ ?_);show 0<=x.1+1;have:=hx.1;omega;show(List.set _ _ _).length=_;rw[aK];exact hx.2.1;show(List.set _ _ _).length<=100;rw[aK];exact hx.2.2.r;show((s.1.length:Int)-(x.1+1)).toNat<_;have:=hx.2.1;omega
 refine Ends.cond (λ_=>(afr p3).bind λr4 p4=>t7 _ _ _ ⟨by have:=p4.1;show r4.1.length<=100;omega,by simp,p2.1.1,by have:=p2.1.2.1;show r2.1.1.2.length<=100;omega⟩ p4.1 p4.2) λ_=>t7 _ _ _ ⟨by simp,by simp,p2.1.1,by have:=p2.1.2.1;show r2.1.1.2.length<=100;omega⟩ (by simp) p3
theorem Tt (h:Cu c):Ends (wa c) λr=>(r.1.1=2/\(r.1.2.2=[7]\/r.1.2.2=[]))/\Cu r.2:=by unfold wa;exact(xr h 4).bind λr1 p1=>(xr p1 2).bind λr2 p2=>Ends.cond (λ_=>Ends.pure ⟨⟨rfl,Or.inl rfl⟩,p2⟩) λ_=>Ends.pure ⟨⟨rfl,Or.inr rfl⟩,p2⟩
def QL (a:Act):Prop:=a.2.1.2.2.2.2.2.2.2.2.2.2.2.2.2.2.2.length<=1000/\a.2.2.2.2.1.length<=382/\0<=a.1/\a.1<=6
def GW (r:Bool)(a:Act):Prop:=QL a/\(a.1=6->r=true)
theorem GX {a:Act}(h:GW r a):(l++[a]).length<=l.length+1/\∀y∈l++[a],y∈l\/GW r y:=by refine⟨by simp,λy hy=>?_⟩;rcases ax.1 hy with hy|hy;exact Or.inl hy;rw[bn.1 hy];exact Or.inr h
theorem V7 {Q:R->Prop}{k0:ay Act->SL->aC R}{x:Int}{b:Bool}(hl:l.length<=1000)(hc:Cu c)(hk:∀l' c',l'.length<=l.length+1->(∀y∈l',y∈l\/GW r y)->Cu c'->Ends (k0 l' c') Q):Ends (lD k0 r l ps i x b c) Q:=by
 have add:∀(a:Act)(c':SL),GW r a->Cu c'->Ends (k0 (l++[a]) c') Q:=λa c' ha yd=>by have k:=GX (r:=r) (l:=l) (a:=a) ha;exact hk _ _ k.1 k.2 yd
 have gX:∀c',Cu c'->Ends (k0 l c') Q:=λc' yd=>hk _ _ (by omega) (λy hy=>Or.inl hy) yd;unfold lD;refine Ends.cond (λ_=>(iA hc (by decide)).bind λr9 p9=>Ends.room (by simp;omega) (by exact add _ _ (by simp[GW,QL]) p9.2)) λ_=>?_;refine Ends.cond (λ_=>(Qd hc).bind λri p10=>(iA p10.2 (by decide)).bind λwo p11=>(jH (P:=λ_=>True) p11.2 (by decide) (by simp)).bind λtf p12=>Ends.room (by simp;omega) (by exact add _ _ ⟨⟨by have:=p10.1.2.1;show ri.1.2.2.2.2.2.2.2.2.2.2.2.2.2.2.2.length<=1000;omega,by simp⟩,by simp⟩ p12.2)) λ_=>?_;refine Ends.cond (λ_=>Ends.room (by simp;omega) (by exact add _ _ (by simp[GW,QL]) hc)) λ_=>?_;exact Ends.cond (λ_=>Ends.cond (λkr=>Ends.room (by simp;omega) (by exact add _ _ ⟨by simp[QL],λ_=>kr⟩ hc)) λ_=>gX _ hc) λ_=>gX _ hc
theorem ac5 {Q:R->Prop}{k0:ay Act->SL->aC R}{x:Int}{b:Bool}(hl:l.length<=1000)(hc:Cu c)(hk:∀l' c',l'.length<=l.length+1->(∀y∈l',y∈l\/GW r y)->Cu c'->Ends (k0 l' c') Q):Ends (oy k0 r l ps i x b c) Q:=by unfold oy;refine Ends.cond (λ_=>Ends.room (by simp;omega) ?_) λ_=>?_;have k:=GX (r:=r) (l:=l) (a:=(4,(0,0,0,0,0,0,0,0,0,0,0,0,0,0,0,([]:Bytes)),0,0,([]:Bytes),0)) (by simp[GW,QL]);exact hk _ _ k.1 k.2 hc;exact Ends.cond (λ_=>V7 hl hc hk) λ_=>Ends.cond (λ_=>V7 hl hc hk) λ_=>V7 hl hc hk
theorem ah1 {Q:R->Prop}{k0:ay Act->SL->aC R}{x:Bytes}(hl:l.length<=900)(hx:x.length<=382)(hc:Cu c)(hk:∀l' c',l'.length<=l.length+2->(∀y∈l',y∈l\/GW r y)->Cu c'->Ends (k0 l' c') Q):Ends (pL k0 r l ps i x c) Q:=by unfold pL;have k:=GX (r:=r) (l:=l) (a:=(2,(0,0,0,0,0,0,0,0,0,0,0,0,0,0,0,([]:Bytes)),0,0,x,0)) ⟨⟨by simp,hx,by simp,by simp⟩,by simp⟩;generalize hL:l++[((2,(0,0,0,0,0,0,0,0,0,0,0,0,0,0,0,([]:Bytes)),0,0,x,0):Act)]=L at k⊢;have Zy:∀l' c',l'.length<=L.length+1->(∀y∈l',y∈L\/GW r y)->Cu c'->Ends (k0 l' c') Q:=λl' c' h1 h2 h3=>hk _ _ (by omega) (λy hy=>by rcases h2 y hy with h|h;exact k.2 y h;exact Or.inr h) h3;refine Ends.room (by simp;omega) ((iA hc (by decide)).bind λr8 p8=>?_);refine Ends.cond (λ_=>Ends.room (by simp;omega) ?_) λ_=>?_;have k:=GX (r:=r) (l:=L) (a:=(3,(0,0,0,0,0,0,0,0,0,0,0,0,0,0,0,([]:Bytes)),0,0,([]:Bytes),0)) (by simp[GW,QL]);exact Zy _ _ k.1 k.2 p8.2;exact Ends.cond (λ_=>ac5 (by omega) p8.2 Zy) λ_=>ac5 (by omega) p8.2 Zy
theorem akT {Q:R->Prop}{k0:ay Act->Int->SL->aC R}(hl:l.length<=900)(h0:0<=i)(h1:i<(ps.length:Int))(hn:ps.length<=1000)(hc:Cu c)(hk:∀l' c',l'.length<=l.length+2->(∀y∈l',y∈l\/GW r y)->Cu c'->Ends (k0 l' (i+1) c') Q):Ends (tY k0 r l ps i c) Q:=by
 have e:au (i+1)=i+1:=al;unfold tY;refine Ends.idx h0 h1 λhi=>?_;have hf:=Py ps[i.toNat];rw[acy,ae];refine(xr hc 12).bind λr4 p4=>Ends.cond (λ_=>?_) λ_=>ah1 hl hf p4 λl' c' g1 g2 g3=>by unfold pK;rw[e];exact hk _ _ g1 g2 g3
 refine(GZ p4 _).bind λr5 p5=>(Ir p5.2 1).bind λr6 p6=>?_;rw[Ii _ _ _,ae];exact ah1 hl (by rw[xX];exact hf) p6.2 λl' c' g1 g2 g3=>by unfold pK;rw[e];exact hk _ _ g1 g2 g3
theorem agq (h:Cu c)(r:Bool):Ends (zw c r) λx=>(x.1.length<=20/\∀a∈x.1,GW r a)/\Cu x.2:=by unfold zw;refine(ahf h (m:=10) (by omega) (by omega)).bind λr1 p1=>?_;have hn:=p1.1.2.2;refine Ends.xS (λx=>0<=x.2.1/\(x.1.length:Int)<=2*x.2.1/\x.2.1<=(r1.1.length:Int)/\(∀a∈x.1,GW r a)/\Cu x.2.2) (λx=>((r1.1.length:Int)-x.2.1).toNat) ⟨by simp,by simp,by simp,by simp,p1.2⟩ (by simp;omega) λx nx hx hn=>?_;unfold yx;refine Ends.cond (λk=>?_) λk=>Ends.pure ⟨⟨by have:=hx.2.1;have:=hx.2.2.1;show x.1.length<=20;omega,hx.2.2.2.1⟩,hx.2.2.2.2⟩;have k:=bw k;have h2:=hx.2.1;refine akT (by omega) hx.1 k (by omega) hx.2.2.2.2 λl' c' g1 g2 g3=>hn _ ⟨?_,?_,?_,?_,g3⟩ ?_;show 0<=x.2.1+1;have:=hx.1;omega;show(l'.length:Int)<=2*(x.2.1+1);omega;show x.2.1+1<=(r1.1.length:Int);omega;intro a ha;rcases g2 a ha with h|h;exact hx.2.2.2.1 a h;exact h;show((r1.1.length:Int)-(x.2.1+1)).toNat<((r1.1.length:Int)-x.2.1).toNat;omega
structure SV (a b:Host):Prop where
 maps:b.2.1=a.2.1
 mem:b.1.length=a.1.length
theorem SV.refl (a:Host):SV a a:=⟨rfl,rfl⟩
theorem SV.trans {a b c:Host}(h:SV a b)(g:SV b c):SV a c:=⟨g.maps.trans h.maps,g.mem.trans h.mem⟩
theorem SV.of {a b:Host}(h:lE k a b):SV a b:=⟨h.maps,h.mem⟩
theorem ahL (l:ay aG)(m:cg)(d:Int)(q:bC)(k s:Bytes):(gh l m d q k s).1.length=m.length:=by
 unfold gh;cases !(cJ s).2||(((cJ s).1.1 !=3)||decide ((cJ s).1.2.2.1<((cQ q.2.2.2.1.1).1.length:Int)));case true=>rfl
 cases (gT l m d (cJ s).1.2.2.2.1 (cQ q.2.2.2.1.1).1 true).2 with
 |false=>rfl
 |true=>
  simp only[af,ak];unfold rf;cases !gw q.2.1|| !qb _;case true=>exact lR ..
  cases (gT l (gT l m d (cJ s).1.2.2.2.1 (cQ q.2.2.2.1.1).1 true).1 d (rj q.2.1) _ true).2 with|false=>exact lR ..|true=>exact(lR ..).trans (lR ..)
theorem Rz (l:ay aG)(m:cg)(d:Int)(q:bC)(k:Bytes):(gz l m d q k).1.length=m.length:=by
 unfold gz;cases !BP q||(!q.2.2.2.2.1||((k.length:Int) !=16));case true=>rfl
 cases (bq l m d q.1).2.2&&(gh l m d q k (bq l m d q.1).1).2.2 with|true=>exact ahL ..|false=>rfl
theorem ac8 (l:ay aG)(m:cg)(d:Int)(q:bC)(k:Bytes)(p:aQ)(c:Bool):(jl l m d q k p c).1.length=m.length:=by
 unfold jl;cases !BP q||(!fZ p||((k.length:Int) !=16));case true=>rfl
 cases c&&(q.2.2.2.2.1&&DD q.2.2.2.1 p);case true=>rfl
 cases c with|true=>exact Rz ..|false=>exact(Rz ..).trans (Rz ..)
abbrev OK:Nat->ay Fx->bC->Vector->Bool->Prop:=λ_ C q _ b=>C=[]/\b=false/\q.2.2.2.2.1=false/\bL q.1=4
theorem ahm (hm:fE m)(hk:k<=1)(u:ni×Bool×Int)(hu:u.2.1=false)(h1:v.2.1<=3)(h2:v.2.2.2.2.1=false):QI (OK k) (qB (bJ 38) m k).1 k ((qB (bJ 38) m k).2.1,(lF k+64,4,0),(lF k+64,4,0),u) (qB (bJ 38) m k).2.2.1 v false:=by
 obtain⟨_,⟨P,s⟩,_⟩:=Qa hm hk u;have hl:P.length=4:=by have:=s.perm.length_eq;simpa[BS]using this
 have hr:=s.ring;simp only at hr;exact⟨0,0,P,[],[],s,h1,h2,λ_ e=>absurd rfl e,rfl,rfl,hu,by show bL (qB (bJ 38) m k).2.1=4;rw[hr,(th (Or.inl rfl) (by unfold hZ;omega)).2,hl];rfl⟩
structure JQ (k:Nat) (h:Host):Prop where
 maps:h.2.1=bJ 38
 mem:fE h.1
 tx:∃hd L,TxS h.1 h.2.2.1 hd L
 lens:h.2.2.2.1.length<=2/\h.2.2.2.2.1.length=h.2.2.2.1.length/\h.2.2.2.2.2.1.length=h.2.2.2.1.length/\h.2.2.2.2.2.2.1.length=h.2.2.2.1.length
 vec:∀v∈h.2.2.2.2.2.1,v.2.1<=3
 rx:∀j,j<k->acZ (OK j) h j
theorem JQ.new (r:JQ h.2.2.2.1.length h):Live OK h:=⟨r.maps,r.mem,r.tx,λk hk=>r.rx k hk⟩
theorem JQ.live (r:JQ h.2.2.2.1.length h):Live Fz h:=r.new.zD λ_ _ _ _ _ _ _=>trivial
theorem FV (hn:n<=1000000000000)(g:Good n h)(f:Live Q h)(b:Int):Live Fz (iD h b).1:=by
 cases hb:dF b 1 1000 with
 |true=>have hb:=aX.1 hb;obtain⟨c,rfl⟩:=az (show 0<=b by omega);exact HP hn g f (c:=c) ⟨by omega,by omega⟩ λk C q v b q' v' b' _ _ _ _ _ _=>⟨λ_ _ _=>trivial,λ_ _ _=>trivial,λ_ _ _=>trivial⟩
 |false=>unfold iD;rw[hb,ee];exact f.zD λ_ _ _ _ _ _ _=>trivial
abbrev Ql (r:Nat):Nat->ay Fx->bC->Vector->Bool->Prop:=λ_ C q v b=>q.2.2.2.2.1=false/\(C≠[]->C.length+(bif b then 0 else(v.2.1-v.2.2.2.1).toNat)<=r)
abbrev al0 (r:Nat):Nat->ay Fx->bC->Vector->Bool->Prop:=λ_ C q v b=>q.2.2.2.2.1=false/\(C≠[]->C.length<=r/\(b=false->v.2.2.2.2.2=false->C.length+(v.2.1-v.2.2.2.1).toNat+1<=r))
theorem abu (g:Good n h)(f:Live ait h):Live (Ql 7) h:=by refine⟨f.maps,f.mem,f.tx,λk hk=>?_⟩;obtain⟨q,p,v,b,g1,g2,g3,g4,hd,x,P,C,F,s,w1,w2,w3,w4⟩:=f.rx k hk;have hv:=(tZ v).1 (g.vec v (aZ g3));have hc:=s.YZ.len;refine⟨q,p,v,b,g1,g2,g3,g4,hd,x,P,C,F,s,w1,w2,w3,w4,λ_=>?_⟩;cases b with|true=>show C.length+0<=7;omega|false=>show C.length+(v.2.1-v.2.2.2.1).toNat<=7;omega
theorem XR (hn:n<=1000000000000)(g:Good n h){r c:Nat}(hc:1<=c/\c<=1000)(f:Live (Ql r) h):Live (Ql (r-1)) (iD (sA h) (c:Int)).1:=by
 have t:Live (al0 r) (sA h):=by
  refine Ja hn g f λk C q v b hv w1 w2 w3 hA=>⟨hA.1,λhC=>?_⟩
  have ts:=KJ hv;have hr:=hA.2 hC;cases b with|true=>have hr:C.length+0<=r:=hr;exact⟨by omega,λe=>by cases e⟩|false=>have hr:C.length+(v.2.1-v.2.2.2.1).toNat<=r:=hr;refine⟨by omega,λ_ e=>?_⟩;rcases ts.2.2.2.2 (w3 rfl hC) w2 with g1|g1;rw[e]at g1;cases g1;rw[ts.2.1];omega
 refine HP hn (B4 g) t hc λk C q v b q' v' b' hv w1 w2 w3 hq hA=>⟨λhb im SQ=>⟨hq.trans hA.1,λhC=>?_⟩,λ_ _ _=>⟨hq.trans hA.1,λe=>absurd rfl e⟩,λ_ hl im=>⟨hq.trans hA.1,λhC=>?_⟩⟩
 have:=(hA.2 hC).2 hb.1 hb.2;subst im SQ;show C.length+(v'.2.1-v'.2.2.2.1).toNat<=r-1;omega;subst im;have hC':C≠[]:=λe=>hC (by rw[e];simp);have:=(hA.2 hC').1;have:0<C.length:=List.length_pos_iff.2 hC';show(C.drop c).length+0<=r-1;rw[aP];omega
theorem AZ (b:Int)(g:Good n h):∀k,Good n (uS b k h)
 |0=>g
 |k+1=>Hi (B4 (AZ b g k)) b
theorem Kd (hn:n<=1000000000000)(g:Good n h){r c:Nat}(hc:1<=c/\c<=1000)(f:Live (Ql r) h):∀k,Live (Ql (r-k)) (uS (c:Int) k h)
 |0=>f
 |k+1=>by have i:=Kd hn g hc f k;have:=XR hn (AZ (c:Int) g k) hc i;rw[show r-(k+1)=r-k-1 by omega];exact this
theorem ahQ (h:Host):(sA h).2.2.1=h.2.2.1:=by unfold sA;cases fU h with|false=>rfl|true=>exact(oz wX h _).tx
theorem Yo (h:Host)(b:Int):(iD h b).1.2.2.1=h.2.2.1:=by unfold iD;cases fU h&&dF b 1 1000 with|false=>rfl|true=>exact(zN b h _).tx
theorem ad5 (h:Host):(kR h).2.2.1=h.2.2.1:=by unfold kR;cases fU h with|false=>rfl|true=>exact(oz qQ h _).tx
theorem Qo (h:Host)(b:Int):∀k,(uS b k h).2.2.1=h.2.2.1
 |0=>rfl
 |k+1=>(Yo _ b).trans ((ahQ _).trans (Qo h b k))
theorem DU (hn:n<=300000000000)(g:Good n h)(f:Live Q h){c r:Nat}(hc:1<=c/\c<=1000)(hr:7<=r/\r<=200):Good (n+640) (lJ h (c:Int) (r:Int))/\Live (Ql 0) (lJ h (c:Int) (r:Int))/\Ju (lJ h (c:Int) (r:Int))=true:=by
 have gt:=BB g;obtain⟨ft,wt⟩:=BH (by omega) g f;have gf:=Gi (by omega) gt;have ff:=Gs (by omega) gt ft;have e:lJ h (c:Int) (r:Int)=uS (c:Int) r (kR (dH h)):=by unfold lJ;rw[g.ok (by omega),aX.2 ⟨by omega,by omega⟩,aX.2 ⟨by omega,by omega⟩];rfl
 have gd:=AZ (c:Int) gf r;have fd:=Kd (by omega) gf hc (abu gf ff) r;have tx:=(Qo (kR (dH h)) (c:Int) r).trans (ad5 _);rw[show 7-r=0 by omega]at fd;rw[e];refine⟨gd,fd,?_⟩;unfold Ju;rw[gd.ok (by omega),tx,wt];simp only[dv,bF];rw[du,bQ,bF,aL];intro q hq;obtain⟨k,hk⟩:=List.getElem?_of_mem hq;obtain⟨ir,_⟩:=aB.1 hk;have h2:=oA gd;obtain⟨q',p,v,b,g1,g2,g3,g4,hd,x,P,C,F,s,w1,w2,w3,w4,w5⟩:=fd.rx k ir;rw[hk]at g1;have g1:=cb g1;subst g1;have hC:C=[]:=by cases C with|nil=>rfl|cons y C=>have:=w5 (by simp);simp at this
 subst hC;have nx:=Jj fd.mem (b:=hZ k+64) (by unfold hZ;omega) s.YZ;have SO:yK (uS (c:Int) r (kR (dH h))).2.1 (uS (c:Int) r (kR (dH h))).1 0 q=false:=by unfold yK;rw[fd.maps,s.Pk,nx,ee]
 rw[SO,w4];rfl
theorem kG.same {B:Nat->Int}{Z:Fl->aC Stream}(f:kG B qf Z h)(h2:h.2.2.2.1.length<=2)(e3:h'.2.2.2.1=h.2.2.2.1)(e4:h'.2.2.2.2.1=h.2.2.2.2.1)(es:wV h'=wV h)(out:∀i,i<4864->1280<=i->mB h'.1 i=mB h.1 i):kG B qf Z h':=Con.same f h2 e3 e4 out λj D q hQ=>by rw[es];exact hQ
theorem aaI (g:Good n h)(l:Live Q h){B:Nat->Int}{Z:Fl->aC Stream}(f:kG B qf Z h)(p:aQ)(c z:Int):kG B qf Z (Au h p c z).1:=by obtain⟨hd,L,s⟩:=l.tx;obtain⟨a,⟨L',b⟩,c'⟩:=Qu l.mem s g.tx p c z;unfold Au;cases fU h with|false=>exact f|true=>rw[l.maps];exact f.same (h':=(_,_,_,h.2.2.2)) (oA g) rfl rfl rfl c'
theorem FH (hn:n<=1000000000000)(g:Good n h){B:Nat->Int}{Z:Fl->aC Stream}(f:kG B qf Z h):kG B qf Z (dH h):=by unfold dH;rw[g.ok hn,ah];exact kG.same (h':=(h.1,h.2.1,_,h.2.2.2.1,h.2.2.2.2.1,h.2.2.2.2.2.1,h.2.2.2.2.2.2.1,h.2.2.2.2.2.2.2.1,h.2.2.2.2.2.2.2.2.1,h.2.2.2.2.2.2.2.2.2.1,_)) f (oA g) rfl rfl rfl λ_ _ _=>rfl
theorem Px (hn:n<=1000000000000)(g:Good n h){B:Nat->Int}{Z:Fl->aC Stream}(f:kG B qf Z h):kG B qf Z (sA h):=by
 have key:∀k,(fT jv k h).1=h.1/\(fT jv k h).2.2.2.1=h.2.2.2.1/\(fT jv k h).2.2.2.2.1=h.2.2.2.2.1/\wV (fT jv k h)=wV h:=by intro k;induction k with|zero=>exact⟨rfl,rfl,rfl,rfl⟩|succ k ih=>refine(?_:(jv k (fT jv k h)).1=h.1/\(jv k (fT jv k h)).2.2.2.1=h.2.2.2.1/\(jv k (fT jv k h)).2.2.2.2.1=h.2.2.2.2.1/\wV (jv k (fT jv k h))=wV h);generalize fT jv k h=r at ih⊢;unfold jv;cases r.2.2.2.2.2.1[k]?<;>exact ih
 unfold sA;rw[g.ok hn,ah];obtain⟨a,b,c,d⟩:=key h.2.2.2.2.2.1.length;exact f.same (oA g) b c d λi _ _=>by rw[a]
theorem TE (hn:n<=1000000000000)(t:Int)(g:Good n h)(l:Live Q h){B:Nat->Int}{Z:Fl->aC Stream}(f:kG B qf Z h)(hk:k<h.2.2.2.1.length){c:Nat}(hc:1<=c/\c<=1000):kG B qf Z (wK (c:Int) k (t,h)).2:=by
 have Cx:hZ k=1280+1792*k:=rfl;have h2:=oA g;obtain⟨q,p,v,b,g1,g2,g3,g4,hd,x,P,C,F,s,w1,w2,w3,w4⟩:=l.rx k hk;have rq:=(g.rx q (aZ g1)).rx hn;obtain⟨q',p',D,d1,d2,d3,d4⟩:=f k hk;rw[g1]at d1;have d1:=cb d1;subst d1;rw[g2]at d2;have d2:=cb d2;subst d2;obtain⟨m1,_,_,_,m5⟩:=Jq l.mem (by omega) s rq h.2.2.2.2.2.2.2.2.2.1 (b:=c);obtain⟨r1,r2,r3⟩:=aff l.mem (by omega) d3 rq h.2.2.2.2.2.2.2.2.2.1 (b:=c) (by omega);obtain⟨hql,_⟩:=aB.1 g1;obtain⟨DE,_⟩:=aB.1 g2;unfold wK;simp only[g1,g2,g3,g4,l.maps];generalize hR:gJ (bJ 38) h.1 0 q p h.2.2.2.2.2.2.2.2.2.1 (c:Int)=R at m1 m5 r1 r2 r3;cases b||(qH v).2 with
 |false=>exact kG.same (h':=(h.1,bJ 38,h.2.2.1,h.2.2.2.1,h.2.2.2.2.1,_,_,h.2.2.2.2.2.2.2)) f h2 rfl rfl rfl λ_ _ _=>rfl
 |true=>
  simp only[ah];have alv:∀w∈(D.take c).map (·.2),cD w=true/\qf (dm w)=k:=λw hw=>by obtain⟨y,hy,rfl⟩:=dp.1 hw;exact d4.1 _ (aR _ (dp.2 ⟨y,List.mem_of_mem_take hy,rfl⟩))
  have lk:∀fl,ig R.2.2.2.1 fl=yV fl (ig (wV h) fl) ((D.take c).map (·.2)):=λfl=>by rw[r2,P1 _ _ _ λw hw=>(alv w hw).1];rfl
  have hl:ur R.2.1=ur q:=by unfold ur;rw[r3]
  refine Con.step (Q:=PQ B qf (ig (wV h)) Z) f h2 hk (aK ..) (λj hj=>⟨aJ (cr hj),aJ (cr hj)⟩) (λi hi ho=>m5 i hi (by omega)) (λj hj D' q' hQ=>⟨hQ.1,hQ.2.1,?_⟩) ⟨R.2.1,R.2.2.1,D.drop c,bD hql,bD DE,r1,λw hw=>?_,by rw[r3];exact d4.2.1,?_⟩;rcases hQ.2.2 with hz|hz;exact Or.inl hz;refine Or.inr λfl hf=>?_;show yV fl (ig R.2.2.2.1 fl) (sy D' q')=Z fl;have e9:yV fl (ig (wV h) fl) ((D.take c).map (·.2))=ig (wV h) fl:=Sl _ _ λw hw e0=>hj (by rw[<-hf,<-e0];exact(alv w hw).2);rw[lk,e9];exact hz fl hf;unfold sy at hw;rw[hl]at hw;refine d4.1 w ?_;rcases ax.1 hw with u|u;obtain⟨y,hy,rfl⟩:=dp.1 u;exact aR _ (dp.2 ⟨y,List.mem_of_mem_drop hy,rfl⟩);exact bj _ u;rcases d4.2.2 with hz|hz;exact Or.inl (by rw[r3];exact hz);refine Or.inr λfl hf=>?_;show yV fl (ig R.2.2.2.1 fl) (sy (D.drop c) R.2.1)=Z fl;unfold sy;rw[lk,hl,<-As,<-aD,<-cp,cz];exact hz fl hf
theorem Hf (hn:n<=1000000000000)(g:Good n h)(l:Live Q h){B:Nat->Int}{Z:Fl->aC Stream}(f:kG B qf Z h)(b:Int):kG B qf Z (iD h b).1:=by
 cases hb:dF b 1 1000 with
 |false=>unfold iD;rw[hb,ee];exact f
 |true=>
  have hb:=aX.1 hb;obtain⟨c,rfl⟩:=az (show 0<=b by omega);have hc:1<=c/\c<=1000:=by omega
  have key:∀k:Nat,k<=h.2.2.2.1.length->Good n (ki (c:Int) k h).2/\(ki (c:Int) k h).2.2.2.2.1.length=h.2.2.2.1.length/\Live Fz (ki (c:Int) k h).2/\kG B qf Z (ki (c:Int) k h).2:=by intro k;induction k with|zero=>intro _;exact⟨g,rfl,l.zD λ_ _ _ _ _ _ _=>trivial,f⟩|succ k ih=>intro hk;obtain⟨i1,i2,i3,i4⟩:=ih (by omega);have st:=Ke (B:=Fz) hn (ki (c:Int) k h).1 i1 i3 (k:=k) (by omega) hc (λC q v b q' v' b' _ _ _ _ _ _=>⟨λ_ _ _=>trivial,λ_ _ _=>trivial,λ_ _ _=>trivial⟩);exact⟨D8 (c:Int) k i1,((EB (c:Int) k _).rx).trans i2,st.zD λ_ _ _ _ _ _ _=>trivial,TE hn (ki (c:Int) k h).1 i1 i3 i4 (by omega) hc⟩
  unfold iD;rw[g.ok hn,aX.2 ⟨by omega,by omega⟩];exact(key h.2.2.2.1.length (aV _)).2.2.2
theorem JY (hn:n<=1000000000000)(g:Good n h)(l:Live Fz h){B:Nat->Int}{Z:Fl->aC Stream}(f:kG B qf Z h)(b:Int):∀k,Live Fz (uS b k h)/\kG B qf Z (uS b k h)
 |0=>⟨l,f⟩
 |k+1=>by obtain⟨i1,i2⟩:=JY hn g l f b k;have gd:=AZ b g k;have lt:=Ja hn gd i1 (B:=Fz) λ_ _ _ _ _ _ _ _ _ _=>trivial;exact⟨FV hn (B4 gd) lt b,Hf hn (B4 gd) lt (Px hn gd i2) b⟩
theorem acm (h:Host):(kR h).2.2.2.1.length=h.2.2.2.1.length:=by unfold kR;cases fU h with|false=>rfl|true=>exact(oz qQ h _).rx
theorem aft (h:Host):(sA h).2.2.2.1.length=h.2.2.2.1.length:=by unfold sA;cases fU h with|false=>rfl|true=>exact(oz wX h _).rx
theorem Vj (h:Host)(b:Int):(iD h b).1.2.2.2.1.length=h.2.2.2.1.length:=by unfold iD;cases fU h&&dF b 1 1000 with|false=>rfl|true=>exact(zN b h _).rx
theorem Nx (h:Host)(b:Int):∀k,(uS b k h).2.2.2.1.length=h.2.2.2.1.length
 |0=>rfl
 |k+1=>(Vj _ b).trans ((aft _).trans (Nx h b k))
theorem Sm (h:Host):(dH h).2.2.2.1.length=h.2.2.2.1.length:=by unfold dH;cases fU h<;>rfl
theorem Tp (hn:n<=1000000000000)(g:Good n h)(hq:q∈h.2.2.2.1)(hp:0<q.2.2.2.2.2):0<ic h:=by
 have h2:=oA g;have uJ:∀q∈h.2.2.2.1,0<=q.2.2.2.2.2/\q.2.2.2.2.2<=1000000000000:=λq hq=>by have:=(g.rx q hq).drop;omega
 unfold ic;generalize h.2.2.2.1=l at h2 hq uJ;clear g;rcases l with _|⟨a,l⟩;cases hq;have ha:=uJ a (by simp);rcases l with _|⟨b,l⟩;rw[bn.1 hq]at hp;show 0<au (0+a.2.2.2.2.2);rw[al];omega;have hb:=uJ b (by simp);rcases l with _|⟨c,l⟩;show 0<au (au (0+a.2.2.2.2.2)+b.2.2.2.2.2);have hab:0<a.2.2.2.2.2\/0<b.2.2.2.2.2:=by rcases cw.1 hq with e|e;rw[e]at hp;exact Or.inl hp;rw[bn.1 e]at hp;exact Or.inr hp
 rw[al (n:=0+a.2.2.2.2.2),al];omega;simp only[aS]at h2;omega
theorem TB (hn:n<=300000000000)(g:Good n h)(l:Live Fz h){B:Nat->Int}{Z:Fl->aC Stream}(f:kG B qf Z h){c r:Nat}(hc:1<=c/\c<=1000)(hr:7<=r/\r<=200)(hq:∀fl,qf fl<h.2.2.2.1.length):(∃k q,(lJ h (c:Int) (r:Int)).2.2.2.1[k]?=some q/\B k<q.2.2.2.2.2)\/∀fl,ig (wV (lJ h (c:Int) (r:Int))) fl=Z fl:=by
 obtain⟨gd,ld,qd⟩:=DU hn g l hc hr;have gt:=BB g;obtain⟨lt,_⟩:=BH (by omega) g l;have ft:=FH (by omega) g f;have gf:=Gi (by omega) gt;have lf:=Gs (by omega) gt lt;have ff:=Mj (by omega) gt lt ft;have e:lJ h (c:Int) (r:Int)=uS (c:Int) r (kR (dH h)):=by unfold lJ;rw[g.ok (by omega),aX.2 ⟨by omega,by omega⟩,aX.2 ⟨by omega,by omega⟩];rfl
 obtain⟨_,fd⟩:=JY (by omega) gf (lf.zD λ_ _ _ _ _ _ _=>trivial) ff (c:Int) r;rw[<-e]at fd;have el:(lJ h (c:Int) (r:Int)).2.2.2.1.length=h.2.2.2.1.length:=by rw[e,Nx,acm,Sm]
 generalize lJ h (c:Int) (r:Int)=y at gd ld qd fd el⊢;by_cases h0:∃k q,y.2.2.2.1[k]?=some q/\B k<q.2.2.2.2.2;exact Or.inl h0;refine Or.inr λfl=>?_;have hk:qf fl<y.2.2.2.1.length:=by rw[el];exact hq fl
 obtain⟨q,p,D,d1,d2,⟨⟨hd,x,P,F,s⟩,ct⟩,d4⟩:=fd (qf fl) hk;have h2:=oA gd;unfold Ju at qd;simp only[ab,aN,aL]at qd;have q1:=qd.2.2 q (aZ d1);rw[cj]at q1;have hh:=q1.1;have hD:D=[]:=by cases D with|nil=>rfl|cons z D=>have nx:=Ji ld.mem (b:=hZ (qf fl)+64) (by unfold hZ;omega) s.YZ;have e1:=q1.2;unfold yK at e1;rw[ld.maps,s.Pk,nx.1,(gd.rx q (aZ d1)).rx (by omega)]at e1;cases e1
 have hdr:¬B (qf fl)<q.2.2.2.2.2:=λhp=>h0 ⟨_,q,d1,hp⟩;rcases d4.2.2 with hz|hz;exact absurd hz hdr;have:=hz fl rfl;unfold sy ur at this;rw[hD,hh]at this;exact this
theorem W5 (hn:n<=300000000000)(g:Good n h)(l:Live Fz h){Z:Fl->aC Stream}(f:kG (λ_=>0) qf Z h){c r:Nat}(hc:1<=c/\c<=1000)(hr:7<=r/\r<=200)(hq:∀fl,qf fl<h.2.2.2.1.length):0<ic (lJ h (c:Int) (r:Int))\/∀fl,ig (wV (lJ h (c:Int) (r:Int))) fl=Z fl:=by rcases TB hn g l f hc hr hq with⟨k,q,h1,h2⟩|h;exact Or.inl (Tp (n:=n+640) (by omega) (DU hn g l hc hr).1 (aZ h1) h2);exact Or.inr h
theorem ajV:gq (bJ 38)=true:=by decide+kernel
def yB (f:Filter)(s:cV)(c:Bool):ay Vector->Host
 |[]=>T1 f s c 38
 |v::vs=>Kh ((yB f s c vs).1,(yB f s c vs).2.1,(yB f s c vs).2.2.1,(yB f s c vs).2.2.2.1++[((0,0,0,0),(0,0,0),(0,0,0),((0,0,0,0,0,0,0,0,0,0,0,0,0,0,0,([]:Bytes)),0,0),false,0)],(yB f s c vs).2.2.2.2.1++[(0,0,0,([]:dB))],(yB f s c vs).2.2.2.2.2.1++[v],(yB f s c vs).2.2.2.2.2.2.1++[false],(yB f s c vs).2.2.2.2.2.2.2) vs.length
def Pb (h:Host):=(h.1,h.2.1,h.2.2.1,h.2.2.2.1,h.2.2.2.2.1,h.2.2.2.2.2.1,h.2.2.2.2.2.2.1)
structure Made (f:Filter) (s:cV) (c:Bool) (k:Nat) (h:Host):Prop where
 mem:df h.1=true
 ml:h.1.length=38
 maps:h.2.1=bJ 38
 tx:h.2.2.1=N1
 rx:h.2.2.2.1.length=k
 rxs:∀r∈h.2.2.2.1,wq 0 r/\r.2.2.2.2.1=false
 pl:h.2.2.2.2.1.length=k
 pls:∀p∈h.2.2.2.2.1,dz p=true/\p.2.2.2.length<=1000
 vec:h.2.2.2.2.2.1.length=k
 agc:∀v∈h.2.2.2.2.2.1,dU v=true
 pol:h.2.2.2.2.2.2.1.length=k
 rest:h.2.2.2.2.2.2.2=(f,s,([]:List Stream),c,([]:List Bytes),([]:List Int),([]:List Int),0,0,0,0,0)
 is:∃vs,vs.length=k/\h=yB f s c vs/\∀v∈vs,v.2.1<=3/\v.2.2.2.2.1=false
theorem Vo (l:ay α)(x y:α):(l++[x]).set l.length y=l++[y]:=by simp
theorem ahi {n:Nat}(h:n<=64):df (KY n)=true:=od.2 ⟨λx hx=>by rw[(List.mem_replicate.1 hx).2];exact uH 128,by simp[KY];exact h⟩
theorem aby {s:cV}{c:Bool}(m:Made f s c k h)(hk:k<=8)(hv:dU v=true)(h3:v.2.1<=3/\v.2.2.2.2.1=false):Ends (wb (h.1,h.2.1,h.2.2.1,h.2.2.2.1++[((0,0,0,0),(0,0,0),(0,0,0),((0,0,0,0,0,0,0,0,0,0,0,0,0,0,0,([]:Bytes)),0,0),false,0)],h.2.2.2.2.1++[(0,0,0,([]:dB))],h.2.2.2.2.2.1++[v],h.2.2.2.2.2.2.1++[false],h.2.2.2.2.2.2.2) (k:Int)) λr=>Made f s c (k+1) r.2:=by
 refine Ends.of (afF _ k hk (by simp[m.rx]) (by simp[m.pl]) (by show h.2.1.length<=_;rw[m.maps,Jd];omega) (by show h.1.length<=_;rw[m.ml];omega)) ?_;have o:=abU m.mem h.2.1 hk;have e1:(h.2.2.2.1++[(((0,0,0,0),(0,0,0),(0,0,0),((0,0,0,0,0,0,0,0,0,0,0,0,0,0,0,([]:Bytes)),0,0),false,0):bC)])[k]?=some ((0,0,0,0),(0,0,0),(0,0,0),((0,0,0,0,0,0,0,0,0,0,0,0,0,0,0,([]:Bytes)),0,0),false,0):=by rw[<-m.rx];simp
 have e2:∀y:bC,(h.2.2.2.1++[(((0,0,0,0),(0,0,0),(0,0,0),((0,0,0,0,0,0,0,0,0,0,0,0,0,0,0,([]:Bytes)),0,0),false,0):bC)]).set k y=h.2.2.2.1++[y]:=λy=>by rw[<-m.rx];exact Vo _ _ _
 have e3:∀y:cX,(h.2.2.2.2.1++[(((0,0,0,([]:dB))):cX)]).set k y=h.2.2.2.2.1++[y]:=λy=>by rw[<-m.pl];exact Vo _ _ _
 obtain⟨vs,vl,ve,vb⟩:=m.is;have is0:Kh (h.1,h.2.1,h.2.2.1,h.2.2.2.1++[((0,0,0,0),(0,0,0),(0,0,0),((0,0,0,0,0,0,0,0,0,0,0,0,0,0,0,([]:Bytes)),0,0),false,0)],h.2.2.2.2.1++[(0,0,0,([]:dB))],h.2.2.2.2.2.1++[v],h.2.2.2.2.2.2.1++[false],h.2.2.2.2.2.2.2) k=yB f s c (v::vs):=by rw[yB,<-ve,vl]
 unfold Kh at is0⊢;simp only[e1,e2,e3]at is0⊢;have hp:(qB h.2.1 h.1 k).2.2.1.2.2.2.length<=1000:=by unfold qB;exact bT (Ma ..) (CY _ _ _)
 refine⟨o.1,?_,m.maps,m.tx,by show(_++[_]).length=_;rw[aj,m.rx];rfl,?_,by show(_++[_]).length=_;rw[aj,m.pl];rfl,?_,by show(_++[_]).length=_;rw[aj,m.vec];rfl,?_,by show(_++[_]).length=_;rw[aj,m.pol];rfl,m.rest,⟨v::vs,by simp[vl],is0,λw hw=>?_⟩⟩;show(qB h.2.1 h.1 k).1.length=38;rw[abT,m.ml];intro r hr;rcases ax.1 hr with hr|hr;exact m.rxs r hr;rw[bn.1 hr];exact⟨afs hk o.2.1 ⟨eT _,eT _⟩,rfl⟩;intro p hp';rcases ax.1 hp' with hp'|hp';exact m.pls p hp';rw[bn.1 hp'];exact⟨o.2.2,hp⟩;intro w hw;rcases ax.1 hw with hw|hw;exact m.agc w hw;rw[bn.1 hw];exact hv;rcases cw.1 hw with e|e;rw[e];exact h3;exact vb w e
def EJ (h:Host):cV:=h.2.2.2.2.2.2.2.2.1
structure JP (h:Host):Prop where
 TM:Good 0 h
 sz:AI 2000 h
 maps:∀m∈h.2.1,m.2.2.1<(h.1.length:Int)
 led:h.2.2.1.2.2.1=[]/\h.2.2.2.2.2.2.2.2.2.2.2.1=[]/\h.2.2.2.2.2.2.2.2.2.2.2.2.1=[]/\h.2.2.2.2.2.2.2.2.2.2.2.2.2.1=[]
 is:∃f s c vs,vs.length<=2/\Pb h=Pb (yB f s c vs)/\∀v∈vs,v.2.1<=3/\v.2.2.2.2.1=false
theorem XU {s:cV}{c:Bool}(m:Made f s c k h)(hk:1<=k/\k<=2)(hf:rz f=true)(B8:f.2.2.length<=1000)(hs:gA s (k:Int)=true)(hz:wZ s):JP h:=by have h4:=CY 256 128 8;obtain⟨vs,vl,ve,vb⟩:=m.is;obtain⟨m1,m2,m3,m4,m5,m6,m7,m8,m9,m10,m11,m12,_⟩:=m;obtain⟨mem,maps,tx,rx,pl,vec,pol,rest⟩:=h;simp only at m1 m2 m3 m4 m5 m6 m7 m8 m9 m10 m11 m12;subst m12 m3 m4;refine⟨⟨m1,ajV,ako 0 (by omega),hf,?_,by show gA s (rx.length:Int)=true;rw[m5];exact hs,λr hr=>(m6 r hr).1,λp hp=>(m8 p hp).1,m10,?_⟩,⟨?_,?_⟩,?_,⟨rfl,rfl,rfl,rfl⟩,⟨f,s,c,vs,by omega,congrArg Pb ve,vb⟩⟩;unfold tc;simp only[ab,aX,bm];omega;intro x hx;simp only[jo,cw,List.not_mem_nil,or_false,or_self]at hx;omega;have hm:=(od.1 m1).1;refine⟨⟨by show mem.length<=2000;omega,λx hx=>by show x.length<=2000;rw[hm x hx];omega⟩,⟨by show(bJ 38).length<=2000;rw[Jd];omega,λ_ _=>⟨dq,dq,dq,dq⟩⟩,?_,?_,?_,?_,?_,⟨dq,dq,by show f.2.2.length<=2000;omega,λ_ _=>trivial⟩,?_,⟨cq _,λx hx=>by cases hx⟩,dq,⟨cq _,λx hx=>by cases hx⟩,⟨cq _,λx hx=>by cases hx⟩,⟨cq _,λx hx=>by cases hx⟩,dq,dq,dq,dq,dq⟩;exact⟨⟨dq,dq,dq,dq⟩,⟨dq,dq,dq,by show List.length (kM 256 128 8).1.2.2.2<=2000;omega,λ_ _=>trivial⟩,⟨cq _,λx hx=>by cases hx⟩,dq⟩;refine⟨by show rx.length<=2000;omega,λx hx=>?_⟩;have e:=(m6 x hx).1.free (m6 x hx).2;refine⟨⟨dq,dq,dq,dq⟩,⟨dq,dq,dq⟩,⟨dq,dq,dq⟩,?_,dq,dq⟩;rw[e];exact⟨⟨dq,dq,dq,dq,dq,dq,dq,dq,dq,dq,dq,dq,dq,dq,dq,cq _⟩,dq,dq⟩;exact⟨by show pl.length<=2000;omega,λx hx=>⟨dq,dq,dq,by have:=(m8 x hx).2;show x.2.2.2.length<=2000;omega,λ_ _=>trivial⟩⟩;exact⟨by show vec.length<=2000;omega,λx hx=>⟨dq,dq,dq,dq,dq,dq⟩⟩;exact⟨by show pol.length<=2000;omega,λx hx=>trivial⟩;exact⟨⟨by have:=hz.r;show s.1.length<=2000;omega,λ_ _=>⟨dq,dq,dq,dq,dq,dq,dq,dq,dq⟩⟩,⟨by have:=hz.t;show s.2.1.length<=2000;omega,λ_ _=>⟨dq,⟨dq,dq,dq,dq,dq⟩,dq⟩⟩,by have:=hz.k;show s.2.2.1.length<=2000;omega,by have:=hz.p;show s.2.2.2.length<=2000;omega,λ_ _=>trivial⟩;show List.length (kM 256 128 8).1.2.2.2+0<=2000;omega;intro m hm;have hm:m∈bJ 38:=hm;simp only[bJ,dp,cy]at hm;obtain⟨i,hi,rfl⟩:=hm;show 37-(i:Int)<(mem.length:Int);omega
theorem abQ (h:(vE a b).2=true):dU (vE a b).1=true:=by unfold vE at h⊢;cases hv:dU (a,b,0,0,false,false)with|false=>rw[hv]at h;cases h|true=>exact hv
theorem aeZ (h:(vE a b).2=true)(hb:b<=3):(vE a b).1.2.1<=3/\(vE a b).1.2.2.2.2.1=false:=by unfold vE at h⊢;cases hv:dU (a,b,0,0,false,false)with|false=>rw[hv]at h;cases h|true=>exact⟨hb,rfl⟩
theorem M8 (q:Int)(f:Filter)(s:cV)(c:Bool)(a b:Int)(hf:f.2.2.length<=1000)(hs:wZ s)(hb3:b<=3):Ends (vO q f s c a b) λr=>(r.2=true->JP r.1/\EJ r.1=s)/\((1<=q/\q<=2)->rz f=true->gA s q=true->(vE a b).2=true->r.2=true):=by
 have z1:=hs.r;have z2:=hs.t;have z3:=hs.p;unfold vO;rw[NI,ae,eU,ae];refine Ends.bind (P:=λx=>(x=false->(1<=q/\q<=2)/\rz f=true/\gA s q=true/\(vE a b).2=true)/\(x=true->(1<=q/\q<=2)->rz f=true->gA s q=true->(vE a b).2=true->False)) ?_ λx hx=>Ends.cond (λZC=>Ends.pure ⟨(λh=>by cases h),λg1 g2 g3 g4=>(hx.2 ZC g1 g2 g3 g4).elim⟩) λh=>?_;refine Ends.cond (λk=>Ends.pure ⟨(λh=>by cases h),λ_ g1 _ _ _=>by rw[aX.2 g1]at k;cases k⟩) λh1=>?_;rw[Ys f (by omega),ae];refine Ends.cond (λk=>Ends.pure ⟨(λh=>by cases h),λ_ _ g2 _ _=>by rw[g2]at k;cases k⟩) λh2=>?_;rw[Su s q (by omega) (by omega) (by omega),ae];refine Ends.cond (λk=>Ends.pure ⟨(λh=>by cases h),λ_ _ _ g3 _=>by rw[g3]at k;cases k⟩) λh3=>Ends.pure ⟨λh4=>?_,λk _ _ _ g4=>by rw[g4]at k;cases k⟩;exact⟨aX.1 (by simpa using h1),by simpa using h2,by simpa using h3,by simpa using h4⟩;obtain⟨hq,h1,h2,h3⟩:=hx.1 h;have hm:rk 38=some (KY 38):=Yu 38 (by omega);rw[hm,ae,acE,ae,NG f (by omega),ae,OR s (by omega) (by omega) (by omega),ae];have hv:=abQ h3;refine Ends.xS (λx=>0<=x.1/\x.1<=38/\x.2=T1 f s c x.1.toNat) (λx=>(38-x.1).toNat) ⟨by simp,by simp,rfl⟩ (by simp) λx nx hx hn=>?_;obtain⟨i,y⟩:=x;obtain⟨x1,x2,x3⟩:=hx;simp only at x1 x2 x3;unfold yp;refine Ends.cond (λk=>?_) λk=>?_;have k:=bw k;have hl:=Jd i.toNat;simp only at k;rw[eU,ae];simp only;rw[al (n:=i+1),al (n:=37-i)];subst x3;refine Ends.room (by show(bJ i.toNat).length+1<=_;omega) (hn _ ⟨by show 0<=i+1;omega,by show i+1<=38;omega,?_⟩ (by show(38-(i+1)).toNat<(38-i).toNat;omega));have e:(i+1).toNat=i.toNat+1:=by omega
 show(KY 38,bJ i.toNat++_,_)=T1 f s c (i+1).toNat;rw[e];unfold T1;rw[XV,show((i.toNat:Nat):Int)=i by omega];have k:=fI k;simp only at k;have e:i.toNat=38:=by omega
 rw[e]at x3;have hm0:Made f s c 0 y:=by rw[x3];exact⟨ahi (by omega),by show(KY 38).length=38;simp[KY],rfl,rfl,rfl,(λ_ hr=>by cases hr),rfl,(λ_ hr=>by cases hr),rfl,(λ_ hr=>by cases hr),rfl,rfl,⟨[],rfl,rfl,λ_ hv=>by cases hv⟩⟩
 simp only;refine Ends.xS (λx=>0<=x.1/\x.1<=q/\Made f s c x.1.toNat x.2) (λx=>(q-x.1).toNat) ⟨by simp,by show(0:Int)<=q;omega,hm0⟩ (by simp;omega) λx nx hx hn=>?_;obtain⟨i,y⟩:=x;obtain⟨x1,x2,m⟩:=hx;simp only at x1 x2 m;unfold wP;refine Ends.cond (λk=>?_) λk=>Ends.pure ⟨λ_=>?_,λ_ _ _ _=>rfl⟩;have k:=bw k;simp only at k;have l1:=m.rx;have l2:=m.pl;have l3:=m.vec;have l4:=m.pol;refine Ends.room (by simp;omega) (Ends.room (by simp;omega) (Ends.room (by simp;omega) (Ends.room (by simp;omega) ?_)));have ho:=aby m (by omega) hv (aeZ h3 hb3);rw[show((i.toNat:Nat):Int)=i by omega]at ho;refine ho.bind λr hr=>?_;simp only;rw[al (n:=i+1)];refine hn _ ⟨by show 0<=i+1;omega,by show i+1<=q;omega,?_⟩ (by show(q-(i+1)).toNat<(q-i).toNat;omega);show Made f s c (i+1).toNat r.2;rw[show(i+1).toNat=i.toNat+1 by omega];exact hr;have k:=fI k;simp only at k;have hi:i=q:=by omega
 subst hi;exact⟨XU m (by omega) h1 hf (by rw[show((i.toNat:Nat):Int)=i by omega];exact h2) hs,congrArg (λx=>x.2.1) m.rest⟩
theorem ahg (n x:Int)(h0:0<=n)(h1:n<=1000000):Ends (ju n x) λr=>(r.length:Int)=n:=by unfold ju;rw[aF ⟨h0,eT _⟩];refine Ends.room (by omega) (Ends.xS (λy=>(y.1.length:Int)=n/\0<=y.2/\y.2<=n) (λy=>(n-y.2).toNat) ⟨by simp;omega,by simp,h0⟩ (by simp;omega) λy nx hy hn=>?_);unfold pE;refine Ends.cond (λk=>?_) λk=>Ends.pure (by simp[aO];exact hy.1);have k:=bw k;rw[al (n:=y.2+1)];refine Ends.idx hy.2.1 (by omega) λ_=>Ends.idx hy.2.1 (by omega) λ_=>hn _ ⟨?_,?_,?_⟩ ?_;show((List.set _ _ _).length:Int)=n;rw[aK];exact hy.1;show 0<=y.2+1;omega;show y.2+1<=n;omega;show(n-(y.2+1)).toNat<(n-y.2).toNat;omega
theorem US:nb=some (List.replicate 8 (0,(0,0,0,0,0),0)):=by unfold nb;rw[aF (by decide),bg (by decide)];rfl
theorem XN {k:Bytes}(hk:k.length=16):gA (([]:ay km),List.replicate 8 (0,(0,0,0,0,0),0),k,[0]) 1=true:=by
 have ht:pn (List.replicate 8 (0,(0,0,0,0,0),0))=true:=by decide+kernel
 have hs:qG (k,[0]) 1=true:=by unfold qG;simp only[hk];decide+kernel
 unfold gA;rw[show yn ([]:ay km)=true from rfl,ht,hs];rfl
def Vl (l:ay km):Prop:=∀r∈l,r.2.2.2.2.2.2.1= -2
theorem aaT (h:Cu c):Ends (zv c) λr=>(JP r.1/\Vl (EJ r.1).1)/\Cu r.2:=by
 unfold zv;refine Ends.xS (λx=>0<=x.1/\x.1<=4/\Cu x.2) (λx=>(4-x.1).toNat) ⟨by simp,by simp,h⟩ (by simp) λx nx hx hn=>?_;unfold yv;refine Ends.cond (λk=>?_) λk=>?_;have k:=bw k;refine(afI hx.2.2).bind λr1 p1=>?_;refine Ends.xS (λy=>(0<=y.1/\∀(j:Nat) r,(j:Int)<y.1->y.2.1[j]?=some r->r.2.2.2.2.2.2.1= -2)/\wZ y.2) (λy=>((y.2.1.length:Int)-y.1).toNat) ⟨⟨by simp,λj r hj=>by simp at hj;omega⟩,p1.1.1⟩ (by have:=p1.1.1.r;simp;omega) λy ny hy hm=>?_;unfold yw;refine Ends.cond (λk2=>?_) λk2=>?_;have k2:=bw k2;have hr:=hy.2.r;rw[al (n:=y.1+1)];refine Ends.idx hy.1.1 k2 λ_=>Ends.idx hy.1.1 k2 λ_=>hm _ ⟨⟨?_,λj r hj hr'=>?_⟩,⟨?_,hy.2.t,hy.2.k,hy.2.p⟩⟩ ?_;show 0<=y.1+1;have:=hy.1.1;omega;have hj:(j:Int)<y.1+1:=hj;have h0:=hy.1.1;by_cases hjy:j=y.1.toNat;subst hjy;rw[bD (by omega)]at hr';rw[<-cb hr'];rw[aJ (λe=>hjy e.symm)]at hr';exact hy.1.2 j r (by omega) hr';show(List.set _ _ _).length<=100;rw[aK];exact hr;show(((List.set _ _ _).length:Int)-(y.1+1)).toNat<_;rw[aK];omega;refine(Tt p1.2).bind λr6 p6=>(iA p6.2 (by decide)).bind λr7 p7=>(iA p7.2 (by decide)).bind λr8 p8=>(iA p8.2 (by decide)).bind λr9 p9=>?_;have hf:r6.1.2.2.length<=1000:=by rcases p6.1.2 with e|e<;>rw[e]<;>simp
 have vl:Vl y.2.1:=λr hr=>by obtain⟨j,hj⟩:=List.getElem?_of_mem hr;obtain⟨ir,_⟩:=aB.1 hj;exact hy.1.2 j r (by have:=fI k2;omega) hj
 refine(M8 _ _ _ _ _ _ hf hy.2 (by have:=p9.1;omega)).bind λri p10=>Ends.cond (λk3=>Ends.pure ⟨⟨(p10.1 k3).1,by rw[(p10.1 k3).2];exact vl⟩,p9.2⟩) λ_=>?_;rw[al (n:=x.1+1) (by omega) (by have:=hx.2.1;omega)];refine hn _ ⟨by show 0<=x.1+1;have:=hx.1;omega,by show x.1+1<=4;omega,p9.2⟩ (by show(4-(x.1+1)).toNat<(4-x.1).toNat;omega);simp only[US,ae];refine(ahg 16 5 (by omega) (by omega)).bind λr14 p14=>?_;refine(M8 1 (2,false,([]:dB)) (([]:ay km),List.replicate 8 (0,(0,0,0,0,0),0),r14,[0]) true 1 0 (by simp) ⟨by simp,by simp,by show r14.length=16;omega,by simp⟩ (by omega)).bind λC3 p15=>?_;have f15:=p15.1 (p15.2 (by omega) (by decide+kernel) (XN (by omega)) (by decide+kernel));exact Ends.pure ⟨⟨f15.1,by rw[f15.2];exact λr hr=>by cases hr⟩,hx.2.2⟩
def VQ (h:Host)(s:ay Stream):Host:=(h.1,h.2.1,h.2.2.1,h.2.2.2.1,h.2.2.2.2.1,h.2.2.2.2.2.1,h.2.2.2.2.2.2.1,h.2.2.2.2.2.2.2.1,h.2.2.2.2.2.2.2.2.1,s,h.2.2.2.2.2.2.2.2.2.2)
theorem Ol (f:JP h){s:ay Stream}(h1:s.length<=2000)(h2:∀x∈s,x.2.2.1=[]):JP (VQ h s):=by have g:=f.TM;have z:=f.sz.z;refine⟨⟨g.mem,g.maps,g.tx,g.GO,g.lens,g.JJ,g.rx,g.pool,g.vec,g.Bx⟩,⟨⟨z.1,z.2.1,z.2.2.1,z.2.2.2.1,z.2.2.2.2.1,z.2.2.2.2.2.1,z.2.2.2.2.2.2.1,z.2.2.2.2.2.2.2.1,z.2.2.2.2.2.2.2.2.1,⟨h1,λx hx=>?_⟩,z.2.2.2.2.2.2.2.2.2.2⟩,f.sz.t⟩,f.maps,f.led,f.is⟩;refine⟨⟨dq,dq,dq,dq,dq⟩,dq,?_,dq⟩;show x.2.2.1.length<=2000;rw[h2 x hx];simp
theorem W8 (h:Cu c)(hl:l.length<=20)(ha:∀a∈l,QL a):Ends (xH c l) λr=>(JP r.1/\Vl (EJ r.1).1)/\Cu r.2:=by unfold xH;refine(aaT h).bind λr1 p1=>?_;refine Ends.xS (λx=>0<=x.2/\(x.1.length:Int)<=x.2/\x.2<=(l.length:Int)) (λx=>((l.length:Int)-x.2).toNat) ⟨by simp,by simp,by simp⟩ (by simp;omega) λx nx hx hn=>?_;unfold wS;refine Ends.cond (λk=>?_) λk=>?_;have k:=bw k;rw[al (n:=x.2+1)];refine Ends.idx hx.1 k λhi=>?_;have ZC:=ha _ (bE hi);replace ZC:=ZC.2.1;rw[acB _ (by omega),ae];refine Ends.cond (λ_=>Ends.room (by simp;omega) (hn _ ⟨?_,?_,?_⟩ ?_)) λ_=>hn _ ⟨?_,?_,?_⟩ ?_;show 0<=x.2+1;omega;show((x.1++[_]).length:Int)<=x.2+1;simp;omega;show x.2+1<=_;omega;show((l.length:Int)-(x.2+1)).toNat<_;omega;show 0<=x.2+1;omega;show(x.1.length:Int)<=x.2+1;omega;show x.2+1<=_;omega;show((l.length:Int)-(x.2+1)).toNat<_;omega;exact(ahn p1.2 (by omega)).bind λr6 p6=>Ends.pure ⟨⟨Ol p1.1.1 (by omega) p6.1.2,p1.1.2⟩,p6.2⟩
theorem OO {a:dB}(ha:a.length<=1048576):Ends (qC a) λr=>(JP r.1/\Vl (EJ r.1).1)/\r.2.length<=20/\∀x∈r.2,QL x/\x.1≠6:=by unfold qC;exact(aj6 ha).bind λr1 p1=>(agq p1 false).bind λr2 p2=>(W8 p2.2 p2.1.1 λx hx=>(p2.1.2 x hx).1).bind λr3 p3=>Ends.pure ⟨p3.1,p2.1.1,λx hx=>⟨(p2.1.2 x hx).1,λe=>by cases (p2.1.2 x hx).2 e⟩⟩
theorem ahR:TxS m N1 0 []:=by have np:=(H0 (a:=256) (b:=128) (n:=8)).1;refine⟨rfl,⟨by simp,λj hj=>by simp at hj⟩,rfl,(λc hc=>by cases hc),?_⟩;show(kM 256 128 8).1.1=256/\(kM 256 128 8).1.2.1=128/\(kM 256 128 8).1.2.2.1=8;rw[np];exact⟨rfl,rfl,rfl⟩
theorem abt (f:Filter)(s:cV)(c:Bool):JQ 0 (T1 f s c 38):=by refine⟨rfl,⟨λx hx=>?_,?_⟩,⟨0,[],ahR⟩,⟨cq _,rfl,rfl,rfl⟩,(λv hv=>by cases hv),λj hj=>by omega⟩;have hx:x∈List.replicate 38 (wD 128):=hx;rw[(List.mem_replicate.1 hx).2];exact uH 128;show(List.replicate 38 (wD 128)).length=38;simp
theorem Zt {l:ay α}{j:Nat}(hl:l.length=k)(hj:j<k)(x y:α):((l++[x]).set k y)[j]?=l[j]?:=by rw[aJ (by omega),bp (by omega)]
theorem TK {l:ay α}(hl:l.length=k)(x y:α):((l++[x]).set k y)[k]?=some y:=bD (by simp;omega)
theorem Zu {l:ay α}{j:Nat}(hl:l.length=k)(hj:j<k)(x:α):(l++[x])[j]?=l[j]?:=bp (by omega)
theorem RA {l:ay α}(hl:l.length=k)(x:α):(l++[x])[k]?=some x:=by rw[<-hl];simp
theorem abV (r:JQ h.2.2.2.1.length h)(hk:h.2.2.2.1.length<=1)(h3:v.2.1<=3/\v.2.2.2.2.1=false):JQ (h.2.2.2.1.length+1) (Kh (h.1,h.2.1,h.2.2.1,h.2.2.2.1++[((0,0,0,0),(0,0,0),(0,0,0),((0,0,0,0,0,0,0,0,0,0,0,0,0,0,0,([]:Bytes)),0,0),false,0)],h.2.2.2.2.1++[(0,0,0,([]:dB))],h.2.2.2.2.2.1++[v],h.2.2.2.2.2.2.1++[false],h.2.2.2.2.2.2.2) h.2.2.2.1.length)/\(Kh (h.1,h.2.1,h.2.2.1,h.2.2.2.1++[((0,0,0,0),(0,0,0),(0,0,0),((0,0,0,0,0,0,0,0,0,0,0,0,0,0,0,([]:Bytes)),0,0),false,0)],h.2.2.2.2.1++[(0,0,0,([]:dB))],h.2.2.2.2.2.1++[v],h.2.2.2.2.2.2.1++[false],h.2.2.2.2.2.2.2) h.2.2.2.1.length).2.2.2.1.length=h.2.2.2.1.length+1:=by obtain⟨l0,l2,l3,l4⟩:=r.lens;generalize Ou:h.2.2.2.1.length=k at*;have l1:=Ou;have hn:hZ k=1280+1792*k:=rfl;unfold Kh;simp only[RA l1,r.maps];obtain⟨o1,⟨P,o2⟩,o3⟩:=Qa r.mem hk (((0,0,0,0,0,0,0,0,0,0,0,0,0,0,0,([]:Bytes)),0,0),false,0);have q:=ahm r.mem hk (((0,0,0,0,0,0,0,0,0,0,0,0,0,0,0,([]:Bytes)),0,0),false,0) rfl (v:=v) h3.1 h3.2;generalize qB (bJ 38) h.1 k=O at o1 o2 o3 q;obtain⟨hd,L,st⟩:=r.tx;refine⟨⟨rfl,o1,⟨hd,L,st.frame λi hi=>o3 i (by omega) (by omega)⟩,?_,λw hw=>?_,λj hj=>?_⟩,?_⟩;show(List.set _ _ _).length<=2/\(List.set _ _ _).length=(List.set _ _ _).length/\(_++[_]).length=(List.set _ _ _).length/\(_++[_]).length=(List.set _ _ _).length;simp only[aK,aj,bB];omega;rcases ax.1 hw with e|e;exact r.vec w e;rw[bn.1 e];exact h3.1;by_cases RL:j=k;subst RL;exact⟨_,_,v,false,TK l1 _ _,TK l2 _ _,RA l3 v,RA l4 false,q⟩;have hj2:hZ j=1280+1792*j:=rfl;obtain⟨q',p',v',b',g1,g2,g3,g4,g5⟩:=r.rx j (by omega);exact⟨q',p',v',b',(Zt l1 (by omega) _ _).trans g1,(Zt l2 (by omega) _ _).trans g2,(Zu l3 (by omega) v).trans g3,(Zu l4 (by omega) false).trans g4,g5.frame λi h1 h2=>o3 i (by omega) (by omega)⟩;show(List.set _ _ _).length=_;simp only[aK,aj,bB];omega
theorem My (f:Filter)(s:cV)(c:Bool):∀vs:ay Vector,vs.length<=2->(∀v∈vs,v.2.1<=3/\v.2.2.2.2.1=false)->JQ (yB f s c vs).2.2.2.1.length (yB f s c vs)/\(yB f s c vs).2.2.2.1.length=vs.length
 |[],_,_=>⟨abt f s c,rfl⟩
 |v::vs,hl,hv=>by simp only[aS]at hl;have i:=My f s c vs (by omega) λw hw=>hv w (by simp[hw]);have o:=abV (v:=v) i.1 (by omega) (hv v (by simp));rw[yB];rw[i.2]at o;refine⟨?_,by rw[o.2];rfl⟩;rw[o.2];exact o.1
theorem aat {k:Host}(e:Pb h=Pb k)(f:Live Q k):Live Q h:=by obtain⟨a1,a2,a3,a4,a5,a6,a7,a8⟩:=h;obtain⟨b1,b2,b3,b4,b5,b6,b7,b8⟩:=k;unfold Pb at e;simp only[Prod.mk.injEq]at e;obtain⟨rfl,rfl,rfl,rfl,rfl,rfl,rfl⟩:=e;exact⟨f.maps,f.mem,f.tx,f.rx⟩
theorem aaL (f:JP h):Live OK h:=by obtain⟨fl,s,c,vs,hl,e,hv⟩:=f.is;exact aat e (My fl s c vs hl hv).1.new
def Ly (h:Host)(a:Act):Host×Int:=
 bif !fU h|| !QR a then(h, -1) else
 bif a.1==0 then((Au h a.2.1 a.2.2.1 a.2.2.2.1).1,ap9 (Au h a.2.1 a.2.2.1 a.2.2.2.1).2) else
 bif a.1==1 then(dH h,0) else
 bif a.1==2 then(lS h a.2.2.2.2.1,0) else
 bif a.1==3 then(kR h,0) else
 bif a.1==4 then(sA h,0) else iD h a.2.2.2.2.2
def NoR (a:Act):Prop:=(0<=a.1/\a.1<=6)/\a.1≠6
theorem Xq (h:Host)(a:Act)(k:AI 90000000 h)(hx:a.2.2.2.2.1.length<=10^9)(hn:NoR a):CO h a=some (Ly h a):=by
 have z:eI 1000000000 gI h:=k.z.mono;unfold CO Ly;rw[sO h (k.sz (by omega)),ae,agQ,ae];cases fU h;simp only[bQ,ah,iM,ae,jR h z];cases QR a;simp only[ak,bQ,ah,af,jA,ae,jR h z];simp only[ak,af,bG,ae,aba h _ _ _ (k.mono),HE h (k.mono),RY h _ (k.mono) hx,MI h (k.mono),Ul h (k.sz (by omega)) z,Kb h _ (k.mono)];cases e0:a.1==0;case true=>(simp only[ah];cases (Au h a.2.1 a.2.2.1 a.2.2.2.1).2<;>rfl)
 cases e1:a.1==1;case true=>rfl
 cases e2:a.1==2;case true=>rfl
 cases e3:a.1==3;case true=>rfl
 cases e4:a.1==4;case true=>rfl
 cases e5:a.1==5;case true=>rfl
 unfold NoR at hn;simp at e0 e1 e2 e3 e4 e5;omega
theorem agn {n:Nat}(hn:1000<=n)(a:Act)(k:AI n h):AI (n+645000) (Ly h a).1:=by
 unfold Ly;cases !fU h|| !QR a;case true=>exact k.mono
 simp only[af];cases a.1==0;case true=>exact(afx hn _ _ _ k).mono
 cases a.1==1;case true=>exact(Dh (by omega) k).mono
 cases a.1==2;case true=>exact(Vc hn _ k).1.mono
 cases a.1==3;case true=>exact(IS hn k).mono
 cases a.1==4;case true=>exact(NY hn k).mono
 exact(Kr hn _ k).mono
theorem aaN (hn:n<=700000000000)(g:Good n h)(a:Act):Good (n+641) (Ly h a).1:=by
 unfold Ly;cases !fU h|| !QR a;case true=>exact g.mono
 simp only[af];cases a.1==0;case true=>exact(aaO g _ _ _).mono
 cases a.1==1;case true=>exact(BB g).mono
 cases a.1==2;case true=>exact RB hn g _
 cases a.1==3;case true=>exact(Gi hn g).mono
 cases a.1==4;case true=>exact(B4 g).mono
 exact(Hi g _).mono
def afJ (s:Host×dB)(a:Act):Host×dB:=((Ly s.1 a).1,s.2++[(Ly s.1 a).2])
def runN (h:Host)(l:ay Act):Host×dB:=l.foldl afJ (h,[])
theorem Qp (h:Host)(l:ay Act)(i:Nat)(hi:i<l.length):runN h (l.take (i+1))=afJ (runN h (l.take i)) l[i]:=by rw[bV hi,runN,List.foldl_append];rfl
theorem Nw {n:Nat}(hn:1000<=n)(k:AI n h)(l:ay Act):∀i,i<=l.length->AI (n+645000*i) (runN h (l.take i)).1/\(runN h (l.take i)).2.length=i
 |0,_=>⟨k,rfl⟩
 |i+1,hi=>by have g:=Nw hn k l i (by omega);rw[Qp h l i (by omega)];refine⟨(agn (by omega) (l[i]'(by omega)) g.1).mono,?_⟩;show(_++[_]).length=_;rw[aj,g.2];rfl
theorem aeH (hb:fU h=true)(hl:l.length<=40)(k:AI 50000000 h)(hx:∀a∈l,a.2.2.2.2.1.length<=10^9/\NoR a):oS h l=some (runN h l):=by have B9:=eS;unfold oS;rw[jR h (k.z.mono),ae,sO h (k.sz (by omega)),ae,hb,du];simp only[ak,af,ae,bG];refine fW (λi=>((runN h (l.take i)).2,(i:Int),(runN h (l.take i)).1)) l.length (by omega) (λi nx hi=>?_) (λnx=>?_);have g:=Nw (by omega) k l i (by omega);have x:=hx _ (bE hi);rw[Qp h l i hi];generalize runN h (l.take i)=s at g⊢;simp only[tE];rw[mh,ah,bS hi,ae,Xq _ _ (g.1.mono) x.1 x.2,ae,bg (by rw[g.2,bB];omega),al];rfl;simp only[tE];rw[du,af,eF]
theorem ahy {n:Nat}(hn:1000<=n)(k:AI n h)(hl:l.length<=40):AI (n+25800000) (runN h l).1:=by have g:=Nw hn k l l.length (aV _);rw[eF]at g;exact g.1.mono
structure ql (a b:Host):Prop where
 GO:b.2.2.2.2.2.2.2.1=a.2.2.2.2.2.2.2.1
 JJ:EJ b=EJ a
 len:b.2.2.2.1.length=a.2.2.2.1.length
theorem ql.refl (a:Host):ql a a:=⟨rfl,rfl,rfl⟩
theorem ql.trans {a b c:Host}(h:ql a b)(g:ql b c):ql a c:=⟨g.GO.trans h.GO,g.JJ.trans h.JJ,g.len.trans h.len⟩
theorem ql.of {a b:Host}(h:lE k a b):ql a b:=⟨h.GO,h.JJ,h.rx⟩
theorem Uz (h:Host):ql h (kR h):=by unfold kR;cases fU h with|false=>exact ql.refl h|true=>exact .of (oz qQ h _)
theorem XJ (h:Host):ql h (sA h):=by unfold sA;cases fU h with|false=>exact ql.refl h|true=>exact .of (oz wX h _)
theorem OD (h:Host)(b:Int):ql h (iD h b).1:=by unfold iD;cases fU h&&dF b 1 1000 with|false=>exact ql.refl h|true=>exact .of (zN b h _)
theorem MT (h:Host):ql h (dH h):=by unfold dH;cases fU h<;>exact⟨rfl,rfl,rfl⟩
theorem XI (h:Host)(p:aQ)(c z:Int):ql h (Au h p c z).1:=by unfold Au;cases fU h<;>exact⟨rfl,rfl,rfl⟩
theorem OC (h:Host)(x:Bytes):ql h (lS h x):=by
 have c:∀a b c d,ql h (sD h a b c d):=λ_ _ _ _=>⟨rfl,rfl,rfl⟩
 unfold lS;cases !fU h;case true=>exact ql.refl h
 cases (gR x).2 !=0;case true=>exact c _ _ _ _
 cases !sH h.2.2.2.2.2.2.2.1 (gR x).1;case true=>exact c _ _ _ _
 cases iy h.2.2.2.2.2.2.2.2.1 (h.2.2.2.1.length:Int) (gR x).1== -1;case true=>exact c _ _ _ _
 simp only[af];cases h.2.2.2.1[(iy h.2.2.2.2.2.2.2.2.1 (h.2.2.2.1.length:Int) (gR x).1).toNat]? with|none=>exact ql.refl h|some q=>exact(c _ _ _ _).trans (.of (ET (ac8 ..)))
def SK (fl:Filter)(st:cV)(c:Nat)(Z:Fl->aC Stream)(a:Act):Fl->aC Stream:=bif QR a&&(a.1==2) then afy fl st (c:Int) Z a.2.2.2.2.1 else Z
structure Run (n:Int) (qf:Fl->Nat) (fl:Filter) (st:cV) (c:Nat) (Z:Fl->Option Stream) (h:Host):Prop where
 TM:Good n h
 live:Live Fz h
 flow:kG (λ_=>0) qf Z h
 GO:h.2.2.2.2.2.2.2.1=fl
 JJ:EJ h=st
 len:h.2.2.2.1.length=c
theorem Run.gX {n':Int}{c:Nat}{Z Z':Fl->aC Stream}(r:Run n qf fl st c Z h)(g:Good n' h')(l:Live Fz h')(f:kG (λ_=>0) qf Z' h')(k:ql h h'):Run n' qf fl st c Z' h':=⟨g,l,f,k.GO.trans r.GO,k.JJ.trans r.JJ,k.len.trans r.len⟩
theorem ahz (hn:n<=400000000000){c:Nat}(hqf:∀p,cD p=true->iy st (c:Int) p≠ -1->(iy st (c:Int) p).toNat=qf (dm p)){Z:Fl->aC Stream}(r:Run n qf fl st c Z h)(a:Act):Run (n+641) qf fl st c (SK fl st c Z a) (Ly h a).1:=by
 have g:=r.TM;have l:=r.live;have f:=r.flow;have same:Run (n+641) qf fl st c Z h:=r.gX (g.mono) l f (ql.refl h);have no:a.1≠2->SK fl st c Z a=Z:=λe=>by unfold SK;rw[show(a.1==2)=false from by simpa using e,ee];rfl
 have ga:=aaN (by omega) g a;unfold Ly at ga⊢;rw[g.ok (by omega)]at ga⊢;cases ha:QR a with
 |false=>unfold SK;rw[ha];exact same
 |true=>
  rw[ha]at ga;simp only[ak,bG,af]at ga⊢;cases e0:a.1==0 with|true=>rw[e0]at ga;rw[no (by simp at e0;omega)];exact r.gX ga (abv g l _ _ _) (aaI g l f _ _ _) (XI ..)|false=> ?_
  rw[e0]at ga;cases e1:a.1==1 with|true=>rw[e1]at ga;rw[no (by simp at e1;omega)];exact r.gX ga (BH (by omega) g l).1 (FH (by omega) g f) (MT h)|false=> ?_
  rw[e1]at ga;cases e2:a.1==2 with|true=>rw[e2]at ga;have fr:=Ry (by omega) g l (qf:=qf) f a.2.2.2.2.1 (by have e:h.2.2.2.2.2.2.2.2.1=st:=r.JJ;rw[e,r.len];exact hqf _);have e:h.2.2.2.2.2.2.2.2.1=st:=r.JJ;rw[e,r.len,r.GO]at fr;unfold SK;rw[ha,e2];exact r.gX ga (R2 (by omega) g l _) fr (OC ..)|false=> ?_
  rw[e2]at ga;rw[no (by simp at e2;omega)];cases e3:a.1==3 with|true=>rw[e3]at ga;exact r.gX ga ((Gs (by omega) g l).zD λ_ _ _ _ _ _ _=>trivial) (Mj (by omega) g l f) (Uz h)|false=> ?_
  rw[e3]at ga;cases e4:a.1==4 with|true=>rw[e4]at ga;exact r.gX ga (Ja (by omega) g l λ_ _ _ _ _ _ _ _ _ _=>trivial) (Px (by omega) g f) (XJ h)|false=> ?_
  rw[e4]at ga;exact r.gX ga (FV (by omega) g l _) (Hf (by omega) g l f _) (OD ..)
theorem Vh {c:Nat}(hqf:∀p,cD p=true->iy st (c:Int) p≠ -1->(iy st (c:Int) p).toNat=qf (dm p)):∀(l:ay Act)(s:dB){n:Int}{Z:Fl->aC Stream}{h:Host},n+641*(l.length:Int)<=400000000000->Run n qf fl st c Z h->Run (n+641*(l.length:Int)) qf fl st c (l.foldl (SK fl st c) Z) (l.foldl afJ (h,s)).1
 |[],s,n,Z,h,_,r=>r.gX (r.TM.mono (by simp)) r.live r.flow (ql.refl h)
 |a::l,s,n,Z,h,hn,r=>by simp only[aS]at hn;have i:=Vh hqf l (s++[(Ly h a).2]) (by omega) (ahz (by omega) hqf r a);refine i.gX (i.TM.mono (by simp only[aS];omega)) i.live i.flow (ql.refl _)
theorem XX {r:km}(hr:r.2.2.2.2.2.2.1= -2){p':aQ}(h1:cD p=true)(h2:cD p'=true)(e:dm p=dm p'):CX r p=CX r p':=by unfold dm at e;simp only[Prod.mk.injEq]at e;obtain⟨a,b,_,_,d⟩:=e;unfold CX adi;rw[h1,h2,a,b,d,hr];rfl
theorem O7 {l:ay km}(hl:Vl l){p':aQ}(h1:cD p=true)(h2:cD p'=true)(e:dm p=dm p'):∀i,i<=l.length->uP l p i=uP l p' i
 |0,_=>rfl
 |i+1,hi=>by rw[uP,uP,O7 hl h1 h2 e i (by omega),de (show i<l.length by omega),XX (hl _ (bE _)) h1 h2 e]
theorem Yz (hl:Vl st.1)(n:Int){p':aQ}(h1:cD p=true)(h2:cD p'=true)(e:dm p=dm p'):iy st n p=iy st n p':=by
 have ef:BW st.1 p=BW st.1 p':=by unfold BW;rw[O7 hl h1 h2 e _ (aV _)]
 unfold iy;rw[h1,h2,ef,e]
noncomputable def ace (st:cV)(n:Int)(f:Fl):Nat:=(iy st n (Classical.epsilon λp=>cD p=true/\dm p=f)).toNat
theorem aht (hl:Vl st.1)(hp:cD p=true):(iy st n p).toNat=ace st n (dm p):=by have c:=Classical.epsilon_spec (p:=λp'=>cD p'=true/\dm p'=dm p) ⟨p,hp,rfl⟩;unfold ace;rw[Yz hl n hp c.1 c.2.symm]
theorem ahu (st:cV){n:Nat}(hn:0<n)(f:Fl):ace st (n:Int) f<n:=by unfold ace;rcases JK (s:=st) (q:=(n:Int)) (p:=Classical.epsilon λp=>cD p=true/\dm p=f)with e|⟨k,e,hk⟩;rw[e];omega;rw[e];omega
theorem ad4 (l:Live OK h)(qf:Fl->Nat){B:Nat->Int}(hB:∀k q,h.2.2.2.1[k]?=some q->B k<=q.2.2.2.2.2):kG B qf (ig (wV h)) h:=by
 refine λk hk=>?_;obtain⟨q,p,v,b,g1,g2,g3,g4,hd,x,P,C,F,s,w1,w2,w3,rfl,_,w6,_⟩:=l.rx k hk;have e:sy [] q=[]:=by unfold sy ur;rw[w6];rfl
 refine⟨q,p,[],g1,g2,⟨⟨hd,x,P,F,s⟩,λc hc=>by cases hc⟩,λw hw=>?_,hB k q g1,Or.inr λf _=>?_⟩;rw[e]at hw;cases hw;rw[e];rfl
theorem ahA (g:Good n h)(l:Live OK h)(qf:Fl->Nat):Run n qf h.2.2.2.2.2.2.2.1 (EJ h) h.2.2.2.1.length (ig (wV h)) h:=⟨g,l.zD λ_ _ _ _ _ _ _=>trivial,ad4 l qf λk q hq=>(g.rx q (aZ hq)).drop.1,rfl,rfl,rfl⟩
theorem abR (l:Live OK h){vs:ay Vector}(hv:vs.length=h.2.2.2.2.2.1.length)(h3:∀v∈vs,v.2.1<=3/\v.2.2.2.2.1=false){r:Filter×cV×ay Stream×Bool×cg×dB×dB×Int×Int×Int×Int×Int}:Live OK (h.1,h.2.1,h.2.2.1,h.2.2.2.1,h.2.2.2.2.1,vs,h.2.2.2.2.2.2.1,r):=by
 refine⟨l.maps,l.mem,l.tx,λk hk=>?_⟩;obtain⟨q,p,v,b,g1,g2,g3,g4,hd,x,P,C,F,s,w1,w2,w3,rfl,rfl,w6,w7⟩:=l.rx k hk;obtain⟨V2,_⟩:=aB.1 g3;have Zy:k<vs.length:=by omega
 have h4:=h3 _ (bE Zy);exact⟨q,p,vs[k],false,g1,g2,aw Zy,g4,hd,x,P,[],F,s,h4.1,h4.2,λ_ e=>absurd rfl e,rfl,rfl,w6,w7⟩
theorem UG (l:ay Stream)(f:AB)(h:l.length<=10^9):idx l (xJ f l 0)=ig l f:=by have e:xJ f l 0=OW l f:=cb ((I2 l f (by omega)).symm.trans (Uk l f h));rw[e];unfold OW ig;rw[List.find?_eq_bind_findIdx?_getElem?];cases l.findIdx? (Wf f)with|none=>rfl|some i=>exact Lj l i
theorem aak {a b:ay Stream}(ha:a.length<=10^9)(hb:b.length<=10^9)(h:∀f,ig a f=ig b f):(a.all (λs=>zQ a b s.1)&&b.all (λs=>zQ a b s.1))=true:=by
 have key:∀(l:ay Stream),(∀f,ig a f=ig l f)->∀s∈l,zQ a b s.1=true:=λl hl s hs=>by unfold zQ;rw[UG a _ ha,UG b _ hb,<-h];cases hx:ig a s.1 with|none=>rw[hl]at hx;have:=List.find?_eq_none.1 hx s hs;unfold Wf at this;simp at this|some x=>simp
 rw[aL.2 (key a λ_=>rfl),aL.2 (key b h)];rfl
end
end Go.Pu
