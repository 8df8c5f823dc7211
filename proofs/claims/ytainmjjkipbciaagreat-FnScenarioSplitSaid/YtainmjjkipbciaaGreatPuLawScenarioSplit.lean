import Derived.Test.YtainmjjkipbciaaGreatPuX2
namespace Go.Pu
open Go.Dn
set_option linter.unusedSimpArgs false
set_option linter.unusedVariables false
noncomputable section
variable {r:Bool} {x:Bytes} {c:N3} {f:Filter} {h:Host} {a b d i n:Int} {k:Nat} {p:aO} {q:bT} {g:ed} {s:cV} {R α:Type} {v:Vector} {l:aw Act} {ps:aw aO} {m:ca}
/- What makes segments and packets valid. -/
theorem Tn {s k f w:Int}(h1:0<=a/\a<=65535)(h2:0<=b/\b<=65535)(h3:0<=s/\s<=4294967295)(h4:0<=k/\k<=4294967295)(h5:0<=f/\f<=31)(h6:0<=w/\w<=65535)(hx:x.length<=320):rp (6,a,b,s,k,f,w,x)=true:=by have zt:decide ((x.length:Int)>320)=false:=jj;simp only[rp,bh.2 h1,bh.2 h2,bh.2 h3,bh.2 h4,bh.2 h5,bh.2 h6,zt];rfl
theorem acR (h1:0<=a/\a<=65535)(h2:0<=b/\b<=65535)(hx:x.length<=320):rp (17,a,b,0,0,0,0,x)=true:=by have zt:decide ((x.length:Int)>320)=false:=jj;simp only[rp,bh.2 h1,bh.2 h2,zt];rfl
theorem aak (h:rp g=true)(hx:x.length<=320):rp (g.1,g.2.1,g.2.2.1,g.2.2.2.1,g.2.2.2.2.1,g.2.2.2.2.2.1,g.2.2.2.2.2.2.1,x)=true:=by have e:decide ((x.length:Int)>320)=false:=jj;unfold rp at h⊢;simp only[ae]at h⊢;exact⟨h.1,h.2.1,by rw[e];rfl,h.2.2.2⟩
theorem abv {v t l s:Int}(h1:0<=a/\a<=281474976710655)(h2:0<=b/\b<=281474976710655)(h3: -1<=v/\v<=4095)(h4:0<=t/\t<=255)(h5:0<=i/\i<=65535)(h6:0<=l/\l<=255)(h7:0<=s/\s<=4294967295)(h8:0<=d/\d<=4294967295)(hg:rp g=true):oJ (a,b,v,t,i,l,s,d,g)=true:=by simp only[oJ,bh.2 h1,bh.2 h2,bh.2 h3,bh.2 h4,bh.2 h5,bh.2 h6,bh.2 h7,bh.2 h8,hg];rfl
theorem S1 (p:aO):fV p=true↔oJ p=true/\p.2.2.2.2.2.2.2.2.2.2.2.2.2.2.2.length<=128:=by unfold fV dw;rw[ae,ae,cC,aB];constructor;rintro⟨⟨h1,_⟩,h2⟩;exact⟨h1,by omega⟩;rintro⟨h1,h2⟩;exact⟨⟨h1,Or.inl (by omega)⟩,by omega⟩
theorem XB (h:rp g=true)(h6:g.1=6):(0<=g.2.1/\g.2.1<=65535)/\(0<=g.2.2.1/\g.2.2.1<=65535)/\(0<=g.2.2.2.1/\g.2.2.2.1<=4294967295)/\(0<=g.2.2.2.2.1/\g.2.2.2.2.1<=4294967295)/\(0<=g.2.2.2.2.2.1/\g.2.2.2.2.2.1<=31)/\(0<=g.2.2.2.2.2.2.1/\g.2.2.2.2.2.2.1<=65535)/\g.2.2.2.2.2.2.2.length<=320:=by have hl:=CB h;unfold rp at h;rw[h6]at h;simp only[ae,bh,show((6:Int)==17)=false from rfl,af]at h;exact⟨h.1,h.2.1,h.2.2.2.2.1,h.2.2.2.2.2.1,h.2.2.2.2.2.2.1,h.2.2.2.2.2.2.2,hl⟩
theorem Lh (h:rp g=true)(h6:g.1=6){s f:Int}(hs:0<=s/\s<=4294967295)(hf:0<=f/\f<=31)(hx:x.length<=320):rp (g.1,g.2.1,g.2.2.1,s,g.2.2.2.2.1,f,g.2.2.2.2.2.2.1,x)=true:=by have k:=XB h h6;rw[h6];exact Tn k.1 k.2.1 hs k.2.2.2.1 hf k.2.2.2.2.2.1 hx
theorem zN (h:oJ p=true)(hi:0<=i/\i<=65535)(hg:rp g=true):oJ (p.1,p.2.1,p.2.2.1,p.2.2.2.1,i,p.2.2.2.2.2.1,p.2.2.2.2.2.2.1,p.2.2.2.2.2.2.2.1,g)=true:=by unfold oJ at h⊢;simp only[ae]at h⊢;exact⟨h.1,h.2.1,h.2.2.1,h.2.2.2.1,h.2.2.2.2.1,bh.2 hi,h.2.2.2.2.2.2.1,h.2.2.2.2.2.2.2.1,hg⟩
theorem Kf (h:oJ p=true):0<=p.2.2.2.2.1/\p.2.2.2.2.1<=65535:=by unfold oJ at h;simp only[ae]at h;exact bh.1 h.2.2.2.2.2.1
theorem afn (h:0<=i/\i<=65535):0<=Int.tmod (aq (i+1)) 65536/\Int.tmod (aq (i+1)) 65536<=65535:=by rw[ak];have h1:=Int.tmod_nonneg 65536 (a:=i+1) (by omega);have h2:=Int.tmod_lt_of_pos (i+1) (b:=65536) (by omega);omega
theorem acq {s:Int}{n:Nat}(h:0<=s/\s<=4294967295)(hn:n<=320):0<=Int.tmod (aq (s+(n:Int))) 4294967296/\Int.tmod (aq (s+(n:Int))) 4294967296<=4294967295:=by rw[ak];have h1:=Int.tmod_nonneg 4294967296 (a:=s+(n:Int)) (by omega);have h2:=Int.tmod_lt_of_pos (s+(n:Int)) (b:=4294967296) (by omega);omega
theorem CY (v:Vector):B0 v=true↔1<=v.2.2.1/\(v.1<=v.2.2.1\/v.2.1<=v.2.2.2.1):=by unfold B0;by_cases h1:v.2.2.1>=1;rw[au h1,ah];by_cases h2:v.2.2.1>=v.1;rw[au h2];simp;omega;rw[ar h2,af,aB];omega;rw[ar h1];simp;omega
theorem ajY (v:Vector):ez v=(dm v.1 1 64&&(dm v.2.1 0 64&&(dm v.2.2.1 0 1000000&&(dm v.2.2.2.1 0 1000000&&((decide (v.2.2.1>0)||(v.2.2.2.1==0))&&(v.2.2.2.2.2==(B0 v&& !v.2.2.2.2.1))))))):=by
 have h:=EC v;unfold lM at h;simp only[ei,afI,ab]at h;generalize ez v=w at h⊢;revert h;cases dm v.1 1 64 with|false=>(intro h;cases h;rfl)|true=>?_
 cases dm v.2.1 0 64 with|false=>(intro h;cases h;rfl)|true=>?_
 cases dm v.2.2.1 0 1000000 with|false=>(intro h;cases h;rfl)|true=>?_
 cases dm v.2.2.2.1 0 1000000 with|false=>(intro h;cases h;rfl)|true=>?_
 cases decide (v.2.2.1>0)<;>cases (v.2.2.2.1==0)<;>cases B0 v<;>(intro h;cases h;rfl)
theorem vS (v:Vector):ez v=true↔(1<=v.1/\v.1<=64)/\(0<=v.2.1/\v.2.1<=64)/\(0<=v.2.2.1/\v.2.2.1<=1000000)/\(0<=v.2.2.2.1/\v.2.2.2.1<=1000000)/\(v.2.2.1>0\/v.2.2.2.1=0)/\v.2.2.2.2.2=(B0 v&& !v.2.2.2.2.1):=by rw[ajY];simp only[ae,bh,cC,aB,aV]
theorem EZ (h1:1<=v.1/\v.1<=64)(h2:0<=v.2.1/\v.2.1<=64)(h3:0<=v.2.2.1/\v.2.2.1<=1000000)(h4:0<=v.2.2.2.1/\v.2.2.2.1<=1000000)(h5:v.2.2.1>0\/v.2.2.2.1=0)(hr:v.2.2.2.2.2=true->B0 v=true/\v.2.2.2.2.1=false):ez (BP v)=true:=by unfold BP;cases hd:B0 v&& !v.2.2.2.2.1 with|true=>exact(vS _).2 ⟨h1,h2,h3,h4,h5,by show true=(B0 v&& !v.2.2.2.2.1);rw[hd]⟩|false=>refine(vS _).2 ⟨h1,h2,h3,h4,h5,?_⟩;rw[af,hd];cases hv:v.2.2.2.2.2 with|false=>rfl|true=>have:=hr hv;rw[this.1,this.2]at hd;cases hd
theorem AY (h:ez v=true)(hr:v.2.2.2.2.2=true):B0 v=true/\v.2.2.2.2.1=false:=by have:=((vS v).1 h).2.2.2.2.2;rw[hr]at this;cases hd:B0 v with|false=>rw[hd]at this;cases this|true=>rw[hd]at this;cases hm:v.2.2.2.2.1 with|true=>rw[hm]at this;cases this|false=>exact⟨rfl,rfl⟩
theorem ael (h:0<=n/\n<=1000000):n<=upM n/\0<upM n/\upM n<=1000000:=by unfold upM;rw[ak];split<;>omega
theorem ajZ (h:ez v=true):ez (evV v)=true:=by have k:=(vS v).1 h;have u:=ael k.2.2.1;unfold evV;rw[h,ah];refine EZ (v:=(v.1,v.2.1,upM v.2.2.1,v.2.2.2)) k.1 k.2.1 ⟨by show 0<=upM v.2.2.1;omega,u.2.2⟩ k.2.2.2.1 (Or.inl u.2.1) λhr=>?_;have d:=AY h hr;have d1:=(CY v).1 d.1;exact⟨(CY _).2 ⟨by show 1<=upM v.2.2.1;omega,by show v.1<=upM v.2.2.1\/v.2.1<=v.2.2.2.1;omega⟩,d.2⟩
theorem aep (h:ez v=true):ez (TN v)=true:=by have k:=(vS v).1 h;have u:=ael k.2.2.2.1;unfold TN;rw[h,ah];by_cases h0:v.2.2.1>0;rw[au h0,ah];refine EZ (v:=(v.1,v.2.1,v.2.2.1,upM v.2.2.2.1,v.2.2.2.2)) k.1 k.2.1 k.2.2.1 ⟨by show 0<=upM v.2.2.2.1;omega,u.2.2⟩ (Or.inl h0) λhr=>?_;have d:=AY h hr;have d1:=(CY v).1 d.1;exact⟨(CY _).2 ⟨d1.1,by show v.1<=v.2.2.1\/v.2.1<=upM v.2.2.2.1;omega⟩,d.2⟩;rw[ar h0,af];exact EZ k.1 k.2.1 k.2.2.1 k.2.2.2.1 k.2.2.2.2.1 λhr=>AY h hr
theorem aeo (h:ez v=true):ez (BG v).1=true:=by have k:=(vS v).1 h;unfold BG;cases ez v&&v.2.2.2.2.2 with|false=>exact h|true=>exact(vS _).2 ⟨k.1,k.2.1,⟨dC _,by show(0:Int)<=1000000;omega⟩,⟨dC _,by show(0:Int)<=1000000;omega⟩,Or.inr rfl,by show false=(_&& !true);simp⟩
theorem Wr (h:ez v=true):ez (Gi v)=true:=by have k:=(vS v).1 h;unfold Gi;rw[h,ah];refine EZ (v:=(v.1,v.2.1,v.2.2.1,v.2.2.2.1,false,v.2.2.2.2.2)) k.1 k.2.1 k.2.2.1 k.2.2.2.1 k.2.2.2.2.1 λhr=>?_;exact⟨(CY _).2 ((CY v).1 (AY h hr).1),rfl⟩
theorem aaL (h:ez v=true):ez (v.1,v.2.1,0,0,false,false)=true:=by have k:=(vS v).1 h;exact(vS _).2 ⟨k.1,k.2.1,⟨dC _,by show(0:Int)<=1000000;omega⟩,⟨dC _,by show(0:Int)<=1000000;omega⟩,Or.inr rfl,by simp[B0]⟩
structure yw (n:Int) (r:bT):Prop where
 ring:cU r.1=true
 dev:fF r.2.1=true
 drv:fF r.2.2.1=true
 base:r.2.1.1=r.2.2.1.1
 size:r.2.1.2.1=r.2.2.1.2.1
 drop:0<=r.2.2.2.2.2/\r.2.2.2.2.2<=n
 held:r.2.2.2.2.1=true->dw r.2.2.2.1.1=true/\(0<=r.2.2.2.1.2.1/\r.2.2.2.1.2.1<=320)/\1<=r.2.2.2.1.2.2/\r.2.2.2.1.2.2<=320
 free:r.2.2.2.2.1=false->r.2.2.2.1=aaG
theorem acQ (r:bT):EP r=true↔yw 1000000000000 r:=by constructor;intro h;unfold EP at h;rw[ae]at h;simp only[ae,aV,bh]at h;obtain⟨⟨h1,h2,h3,h4,h5,h6⟩,h7⟩:=h;refine⟨h1,h2,h3,h4,h5,h6,λhh=>?_,λhh=>?_⟩;rw[hh,ah]at h7;simp only[ae,bh]at h7;exact⟨h7.1,h7.2.1,h7.2.2⟩;rw[hh,af]at h7;exact(ac6 _).1 h7;intro h;unfold EP;rw[ae];simp only[ae,aV,bh];refine⟨⟨h.ring,h.dev,h.drv,h.base,h.size,h.drop⟩,?_⟩;cases hh:r.2.2.2.2.1 with|true=>have:=h.held hh;simp only[ah,ae,bh];exact⟨this.1,this.2.1,this.2.2⟩|false=>rw[af];exact(ac6 _).2 (h.free hh)
theorem yw.mono {m:Int}{r:bT}(h:yw n r)(hn:n<=m:=by omega):yw m r:=⟨h.ring,h.dev,h.drv,h.base,h.size,⟨h.drop.1,by have:=h.drop.2;omega⟩,h.held,h.free⟩
theorem yw.rx {r:bT}(h:yw n r)(hn:n<=1000000000000):EP r=true:=(acQ r).2 (h.mono hn)
theorem Zy (h:cD m=true)(l:aw aA)(d:Int)(q:LP)(x:D4):cD (yU l m d q x).1=true:=by
 unfold yU;cases !fF q|| !xP x with|true=>exact h|false=>?_
 cases (gZ l m d (qK q) (O6 x (yh q)) true).2 with|false=>exact h|true=>exact Cs h ..
theorem Zz (h:cD m=true)(l:aw aA)(d:Int)(q:bT)(k s:Bytes):cD (gX l m d q k s).1=true:=by
 unfold gX;cases !(cP s).2||(((cP s).1.1 !=3)||decide ((cP s).1.2.2.1<((dy q.2.2.2.1.1).1.length:Int)))with|true=>exact h|false=>?_
 cases (gZ l m d (cP s).1.2.2.2.1 (dy q.2.2.2.1.1).1 true).2 with|false=>exact h|true=>exact Zy (Cs h ..) ..
theorem afQ {l:aw aA}{k s:Bytes}(hm:cD m=true)(hq:fF q.2.1=true):fF (gX l m d q k s).2.1=true/\(gX l m d q k s).2.1.1=q.2.1.1/\(gX l m d q k s).2.1.2.1=q.2.1.2.1:=(NS (n:=128) (by omega) (NB (by omega) (qp.1 hm)) hq).2.2
theorem Eg (hn:n<=900000000000)(h:yw n q)(hm:cD m=true)(l:aw aA)(d:Int)(k:Bytes):cD (iB l m d q k).1=true/\yw (n+320) (iB l m d q k).2:=by
 unfold iB;cases hc: !EP q||(!q.2.2.2.2.1||((k.length:Int) !=16))with|true=>exact⟨hm,h.mono⟩|false=>?_
 simp only[ch,dz]at hc;have hh:=h.held hc.2.1;have hd:=h.drop;have hr:=NK h.ring l m d;have hs:=afQ (l:=l) (d:=d) (k:=k) (s:=(bl l m d q.1).1) hm h.dev;simp only[af];cases (bl l m d q.1).2.2&&(gX l m d q k (bl l m d q.1).1).2.2 with|true=>exact⟨Zz hm ..,hr.1,hs.1,h.drv,hs.2.1.trans h.base,hs.2.2.trans h.size,⟨hd.1,by show q.2.2.2.2.2<=n+320;omega⟩,λhf=>(by cases hf),λ_=>rfl⟩|false=>refine⟨hm,hr.1,h.dev,h.drv,h.base,h.size,?_,λhf=>(by cases hf),λ_=>rfl⟩;show 0<=aq (q.2.2.2.2.2+q.2.2.2.1.2.2)/\aq (q.2.2.2.2.2+q.2.2.2.1.2.2)<=n+320;rw[ak];omega
theorem ae9 {s:qH}(h:Gw s p=true):dw (DL s p).1=true/\(0<=(DL s p).2.1/\(DL s p).2.1<=320)/\1<=(DL s p).2.2/\(DL s p).2.2<=320:=by
 have hl:=Of h;unfold DL;rw[h,ah];simp only[Gw,abw,XE,ae,aB,bh,aV]at h;obtain⟨⟨hs,hp,amT,h6,h16,hf⟩,⟨hz,hc,hn,C8,auk⟩,_⟩:=h;have auh:s.2.2+1<=320:=by
  have:s.2.2<=s.2.1*s.2.2:=by have:=Int.mul_le_mul_of_nonneg_right hz (show 0<=s.2.2 by omega);omega
  omega
 have am2:s.2.1<=320:=by
  have:s.2.1<=s.2.1*s.2.2:=by have:=Int.mul_le_mul_of_nonneg_left hc.1 (show 0<=s.2.1 by omega);omega
  omega
 refine⟨?_,⟨by show 0<=s.2.1;omega,am2⟩,?_⟩;have hh:oJ s.1=true:=by unfold dw at hs;simp only[ae]at hs;exact hs.1
 have hk:s.1.2.2.2.2.2.2.2.2.1=6:=by
  have e:s.1.2.2.2.2.2.2.2.2.1=p.2.2.2.2.2.2.2.2.1:=by have h2:=amT;unfold S2 at h2;simp only[ae,aV]at h2;exact h2.2.2.2.2.2.2.2.1
  rw[e];exact h6
 have hsg:=xZ hh;have hfl:dm p.2.2.2.2.2.2.2.2.2.2.2.2.2.1 0 31=true:=FO hp (by rw[h6];rfl);have hg:=Lh hsg hk (XB hsg hk).2.2.1 (bh.1 hfl) (x:=s.1.2.2.2.2.2.2.2.2.2.2.2.2.2.2.2++p.2.2.2.2.2.2.2.2.2.2.2.2.2.2.2) (by rw[ai];omega);unfold dw;rw[ae];refine⟨zN hh (Kf hh) hg,?_⟩;show(_||(s.1.2.2.2.2.2.2.2.2.1==6)&&As p.2.2.2.2.2.2.2.2.2.2.2.2.2.1)=true;rw[hk,hf];simp;show 1<=aq (s.2.2+1)/\aq (s.2.2+1)<=320;rw[ak];omega
theorem aeO (h:yw n q){s:qH}(hs:dw s.1=true)(h1:0<=s.2.1/\s.2.1<=320)(h2:1<=s.2.2/\s.2.2<=320):yw n (Kg q s):=⟨h.ring,h.dev,h.drv,h.base,h.size,h.drop,λ_=>⟨hs,h1,h2⟩,λhf=>(by cases hf)⟩
theorem aaq (h:fV p=true):dw (lP p).1=true/\(0<=(lP p).2.1/\(lP p).2.1<=320)/\1<=(lP p).2.2/\(lP p).2.2<=320:=by
 have hl:=Ew h;have hs:dw p=true:=by unfold fV at h;simp only[ae]at h;exact h.1
 refine⟨hs,?_,by show(1:Int)<=1/\(1:Int)<=320;omega⟩;show 0<=(p.2.2.2.2.2.2.2.2.2.2.2.2.2.2.2.length:Int)/\(p.2.2.2.2.2.2.2.2.2.2.2.2.2.2.2.length:Int)<=320;omega
theorem QP (hn:n<=800000000000)(h:yw n q)(hm:cD m=true)(l:aw aA)(d:Int)(k:Bytes)(p:aO)(c:Bool):cD (kU l m d q k p c).1=true/\yw (n+640) (kU l m d q k p c).2:=by
 unfold kU;cases hc: !EP q||(!fV p||((k.length:Int) !=16))with|true=>exact⟨hm,h.mono⟩|false=>?_
 simp only[ch,dz]at hc;have hs:=aaq hc.2.1;have hf:=Eg (by omega) h hm l d k;have Ax:=aeO hf.2 hs.1 hs.2.1 hs.2.2;simp only[af];cases hj:c&&(q.2.2.2.2.1&&Gw q.2.2.2.1 p)with|true=>simp only[ae]at hj;have j:=ae9 hj.2.2;exact⟨hm,h.ring,h.dev,h.drv,h.base,h.size,⟨h.drop.1,by show q.2.2.2.2.2<=n+640;have:=h.drop.2;omega⟩,λ_=>j,λhf=>(by have hf:q.2.2.2.2.1=false:=hf;rw[hj.2.1]at hf;cases hf)⟩|false=>simp only[af];cases c with|true=>exact⟨hf.1,Ax.mono⟩|false=>have:=Eg (by omega) Ax hf.1 l d k;exact⟨this.1,this.2.mono⟩
theorem aju {l:aw aA}{q:LP}(h:fF q=true):fF (qJ l m d q).2.1=true/\(qJ l m d q).2.1.1=q.1/\(qJ l m d q).2.1.2.1=q.2.1:=by unfold qJ;cases PU l m d q with|false=>exact⟨h,rfl,rfl⟩|true=>have k:=tU h;refine⟨?_,rfl,rfl⟩;have e:=Qx (a:=q.2.2+1) (b:=2*q.2.1);simp only[ah,agl,fF,ae,bh]at h⊢;refine⟨h.1,h.2.1,?_⟩;rw[xK h.2.1];omega
theorem VQ {s:aw Stream×bT×cK}(h:yw n s.2.1)(hp:dx s.2.2=true)(l:aw aA)(m:ca)(d:Int):yw n (Cv l m d s).2.1/\dx (Cv l m d s).2.2=true:=by have k:=aju (l:=l) (m:=m) (d:=d) h.drv;exact⟨⟨h.ring,h.dev,k.1,h.base.trans k.2.1.symm,h.size.trans k.2.2.symm,h.drop,h.held,h.free⟩,Z3 hp _⟩
theorem K3 (l:aw aA)(m:ca)(d:Int):∀(k:Nat)(s:aw Stream×bT×cK),yw n s.2.1->dx s.2.2=true->yw n (jB l m d k s).2.2.1/\dx (jB l m d k s).2.2.2=true
 |0,s,h,hp=>⟨h,hp⟩
 |k+1,s,h,hp=>by rw[jB];cases (qJ l m d s.2.1.2.2.1).2.2 with|false=>exact⟨h,hp⟩|true=>have e:=VQ h hp l m d;exact K3 l m d k _ e.1 e.2
theorem J0 (l:aw aA)(d:Int)(p:cK):∀(q:cL)(m:ca)(r:lE),cD m=true->cU r=true->cD (lQ l d p q m r).2.1=true/\cU (lQ l d p q m r).2.2=true
 |[],m,r,hm,hr=>⟨hm,hr⟩
 |b::q,m,r,hm,hr=>by rw[lQ];cases (cJ l m d r (eP p b)).2.2 with|false=>exact⟨hm,hr⟩|true=>exact J0 l d p q _ _ (HN hm ..) (Th hr ..).1
theorem MV (hm:cD m=true){r:lE}(hr:cU r=true){p:cK}(hp:dx p=true)(l:aw aA)(d:Int):cD (tf l m d r p).1=true/\cU (tf l m d r p).2.1=true/\dx (tf l m d r p).2.2.1=true:=by unfold tf;rw[hr,hp];have k:=J0 l d p p.2.2.2 m r hm hr;exact⟨k.1,k.2,Cw hp (List.drop_sublist _ _)⟩
theorem NH {rx:bT}(h:yw n rx)(hm:cD m=true){pl:cK}(hp:dx pl=true)(l:aw aA)(d:Int)(st:aw Stream)(c:Int):cD (jo l m d rx pl st c).1=true/\yw n (jo l m d rx pl st c).2.1/\dx (jo l m d rx pl st c).2.2.1=true:=by
 unfold jo;cases !EP rx||(!dx pl|| !dm c 0 1000)with|true=>exact⟨hm,h,hp⟩|false=>?_
 have k:=K3 l m d c.toNat (st,rx,pl) h hp;have f:=MV hm k.1.ring k.2 l d;exact⟨f.1,⟨f.2.1,k.1.dev,k.1.drv,k.1.base,k.1.size,k.1.drop,k.1.held,k.1.free⟩,f.2.2⟩
structure Good (n:Int) (h:Host):Prop where
 mem:cD h.1=true
 maps:dF h.2.1=true
 tx:ET h.2.2.1
 IP:pT h.2.2.2.2.2.2.2.1=true
 lens:qI h=true
 Qm:ff h.2.2.2.2.2.2.2.2.1 (h.2.2.2.1.length:Int)=true
 rx:∀r∈h.2.2.2.1,yw n r
 pool:∀p∈h.2.2.2.2.1,dx p=true
 vec:∀v∈h.2.2.2.2.2.1,ez v=true
 EK:∀x∈ie h,0<=x/\x<=n
theorem Good.mono {m:Int}(g:Good n h)(hn:n<=m:=by omega):Good m h:=⟨g.mem,g.maps,g.tx,g.IP,g.lens,g.Qm,λr hr=>(g.rx r hr).mono hn,g.pool,g.vec,λx hx=>⟨(g.EK x hx).1,by have:=(g.EK x hx).2;omega⟩⟩
theorem abC (h:Host):dW h=true↔Good 1000000000000 h:=by unfold dW Ti;simp only[ae,aE,bh,ajX,acQ];constructor;rintro⟨h1,h2,h3,h4,h5,h6,⟨h7,h8,h9⟩,h10⟩;exact⟨h1,h2,h3,h4,h5,h6,h7,h8,h9,h10⟩;intro g;exact⟨g.mem,g.maps,g.tx,g.IP,g.lens,g.Qm,⟨g.rx,g.pool,g.vec⟩,g.EK⟩
theorem Good.ok (g:Good n h)(hn:n<=1000000000000):dW h=true:=(abC h).2 (g.mono hn)
theorem rE {P:α->Prop}{l:aw α}{i:Nat}{v:α}(h:∀x∈l,P x)(hv:P v):∀x∈l.set i v,P x:=by intro x hx;rcases List.mem_or_eq_of_mem_set hx with g|g;exact h x g;rw[g];exact hv
theorem aeM (g:Good n h)(k:Nat):Good n (evS k h):=by unfold evS;cases hv:h.2.2.2.2.2.1[k]? with|none=>exact g|some v=>exact⟨g.mem,g.maps,g.tx,g.IP,by have:=g.lens;unfold qI at this⊢;rw[aC];exact this,g.Qm,g.rx,g.pool,rE g.vec (ajZ (g.vec v (bp hv))),g.EK⟩
theorem RM (g:Good n h)(k:Nat):∀i,Good n (Yf k i h)
 |0=>g
 |i+1=>aeM (RM g k i) k
theorem HE (g:Good n h)(k:Nat)(b:Int){f:ca×bT}(h1:cD f.1=true)(h2:yw n f.2):Good n (Hr h k b f):=by refine RM (h:=FV h k f) ⟨h1,g.maps,g.tx,g.IP,?_,?_,rE g.rx h2,g.pool,g.vec,g.EK⟩ _ _;have:=g.lens;unfold qI FV at*;simp only[aC];exact this;show ff _ ((h.2.2.2.1.set k f.2).length:Int)=true;rw[aC];exact g.Qm
theorem RN (hn:n<=800000000000)(g:Good n h)(k:Nat):Good (n+320) (oC k h):=by unfold oC;cases hx:h.2.2.2.1[k]? with|none=>exact g.mono|some x=>have f:=Eg (by omega) (g.rx x (bp hx)) g.mem h.2.1 0 h.2.2.2.2.2.2.2.2.1.2.2.1;exact HE (g.mono) k _ f.1 f.2
theorem UM (hn:n<=700000000000)(g:Good n h):Good (n+640) (xU h):=by
 unfold xU;have hl:=qo g.lens;cases dW h with
 |false=>exact g.mono
 |true=>
  have key:∀k:Nat,k<=2->Good (n+320*(k:Int)) (kP oC k h):=by intro k;induction k with|zero=>intro _;exact g.mono|succ k ih=>intro hk;exact(RN (by omega) (ih (by omega)) k).mono
  exact(key _ hl.1).mono (by have:=hl.1;omega)
theorem Ys (g:Good n h):Good n (Aj h):=by
 unfold Aj;cases dW h with
 |false=>exact g
 |true=>
  have key:∀k,Good n (kP wu k h):=by intro k;induction k with|zero=>exact g|succ k ih=>show Good n (wu k (kP wu k h));generalize kP wu k h=s at ih⊢;unfold wu;cases hv:s.2.2.2.2.2.1[k]? with|none=>exact ih|some v=>exact⟨ih.mem,ih.maps,ih.tx,ih.IP,by have:=ih.lens;unfold qI at this⊢;rw[aC];exact this,ih.Qm,ih.rx,ih.pool,rE ih.vec (aep (ih.vec v (bp hv))),ih.EK⟩
  exact key _
theorem Yr (g:Good n h)(p:aO)(c z:Int):Good n (Af h p c z).1:=by unfold Af;cases dW h with|false=>exact g|true=>have k:=aam g.tx g.mem h.2.1 0 p c z;exact⟨k.1,g.maps,k.2,g.IP,g.lens,g.Qm,g.rx,g.pool,g.vec,g.EK⟩
theorem L2 (g:Good n h):Good n (mW h):=by unfold mW;cases dW h with|false=>exact g|true=>have r:=CN h.2.1 h.1 0 17 [] 0 0 h.2.2.1.1 g.tx.ring;exact⟨g.mem,g.maps,TP (afU g.tx r.1 r.2) _,g.IP,g.lens,g.Qm,g.rx,g.pool,g.vec,g.EK⟩
theorem BR {x:Int}(h:0<=x/\x<=n)(hn:n<=800000000000:=by omega):0<=aq (x+1)/\aq (x+1)<=n+1:=by rw[ak];omega
theorem Av (hn:n<=800000000000)(g:Good n h){c:Int}(ha:0<=a/\a<=n+1)(hb:0<=b/\b<=n+1)(hc:0<=c/\c<=n+1)(hd:0<=d/\d<=n+1):Good (n+1) (zi h a b c d):=by have k:=g.mono (show n<=n+1 by omega);refine⟨k.mem,k.maps,k.tx,k.IP,k.lens,k.Qm,k.rx,k.pool,k.vec,λx hx=>?_⟩;have h1:=BR (g.EK _ (List.mem_cons_self ..)) hn;simp only[ie,zi,cm,List.not_mem_nil,or_false]at hx;rcases hx with rfl|rfl|rfl|rfl|rfl;exact h1;exact ha;exact hb;exact hc;exact hd
theorem Pg (hn:n<=700000000000)(g:Good n h)(x:Bytes):Good (n+641) (nT h x):=by
 have c1:=g.EK h.2.2.2.2.2.2.2.2.2.2.2.2.2.2.2.1 (by simp[ie]);have c2:=g.EK h.2.2.2.2.2.2.2.2.2.2.2.2.2.2.2.2.1 (by simp[ie]);have c3:=g.EK h.2.2.2.2.2.2.2.2.2.2.2.2.2.2.2.2.2.1 (by simp[ie]);have c4:=g.EK h.2.2.2.2.2.2.2.2.2.2.2.2.2.2.2.2.2.2 (by simp[ie]);have u:∀{y:Int},0<=y/\y<=n->0<=y/\y<=n+1:=λhy=>⟨hy.1,by omega⟩
 unfold nT;cases dW h with|false=>exact g.mono|true=>?_
 cases (rm x).2 !=0 with|true=>exact(Av (by omega) g (BR c1) (u c2) (u c3) (u c4)).mono|false=>?_
 cases !xL h.2.2.2.2.2.2.2.1 (rm x).1 with|true=>exact(Av (by omega) g (u c1) (BR c2) (u c3) (u c4)).mono|false=>?_
 cases ur h.2.2.2.2.2.2.2.2.1 (h.2.2.2.1.length:Int) (rm x).1== -1 with|true=>exact(Av (by omega) g (u c1) (u c2) (BR c3) (u c4)).mono|false=>?_
 simp only[aj,af];cases hq:h.2.2.2.1[(ur h.2.2.2.2.2.2.2.2.1 (h.2.2.2.1.length:Int) (rm x).1).toNat]? with|none=>exact g.mono|some q=>have a:=QP (by omega) (g.rx q (bp hq)) g.mem h.2.1 0 h.2.2.2.2.2.2.2.2.1.2.2.1 (rm x).1 h.2.2.2.2.2.2.2.2.2.2.1;exact HE ((Av (by omega) g (u c1) (u c2) (u c3) (BR c4)).mono) _ _ a.1 (a.2.mono)
theorem RO (g:Good n h)(i:Nat)(c:Int):Good n (yk h i c).2:=by
 unfold yk;cases h1:h.2.2.2.1[i]? with|none=>exact g|some rx=>?_
 cases h2:h.2.2.2.2.1[i]? with|none=>exact g|some pl=>?_
 have k:=NH (g.rx rx (bp h1)) g.mem (g.pool pl (bp h2)) h.2.1 0 h.2.2.2.2.2.2.2.2.2.1 c;refine⟨k.1,g.maps,g.tx,g.IP,?_,?_,rE g.rx k.2.1,rE g.pool k.2.2,g.vec,g.EK⟩;have:=g.lens;unfold qI at*;simp only[aC];exact this;show ff _ ((h.2.2.2.1.set i _).length:Int)=true;rw[aC];exact g.Qm
theorem RQ (b:Int)(k:Nat){s:Int×Host}(g:Good n s.2):Good n (Bc b k s).2:=by
 unfold Bc;cases h1:s.2.2.2.2.2.2.1[k]? with|none=>exact g|some v=>?_
 cases h2:s.2.2.2.2.2.2.2.1[k]? with|none=>exact g|some p=>?_
 cases h3:s.2.2.2.2.1[k]? with|none=>exact g|some x=>?_
 cases h4:s.2.2.2.2.2.1[k]? with|none=>exact g|some pl=>?_
 have hv:=aeo (g.vec v (bp h1));simp only;cases p||(BG v).2 with|false=>refine⟨g.mem,g.maps,g.tx,g.IP,?_,g.Qm,g.rx,g.pool,rE g.vec hv,g.EK⟩;have:=g.lens;unfold qI at*;simp only[af,aC];exact this|true=>have e:=NH (g.rx x (bp h3)) g.mem (g.pool pl (bp h4)) s.2.2.1 0 s.2.2.2.2.2.2.2.2.2.2.1 b;refine⟨e.1,g.maps,g.tx,g.IP,?_,?_,rE g.rx e.2.1,rE g.pool e.2.2,rE g.vec ?_,g.EK⟩;have:=g.lens;unfold qI at*;simp only[ah,aC];exact this;show ff _ ((s.2.2.2.2.1.set k _).length:Int)=true;rw[aC];exact g.Qm;cases decide ((jo s.2.2.1 s.2.1 0 x pl s.2.2.2.2.2.2.2.2.2.2.1 b).2.2.2.2<b)with|true=>exact Wr hv|false=>exact hv
theorem Kc (b:Int)(g:Good n h):∀k,Good n (qO b k h).2
 |0=>g
 |k+1=>RQ b k (Kc b g k)
theorem Ph (g:Good n h)(b:Int):Good n (pK h b).1:=by unfold pK;cases dW h&&dm b 1 1000 with|false=>exact g|true=>exact Kc b g _
theorem Fa (g:Good n h):∀k,Good n (tR h k)
 |0=>g
 |k+1=>RO (Fa g k) k 1000
theorem Yq (g:Good n h)(l:cL):Good n (acK h l):=⟨g.mem,g.maps,g.tx,g.IP,g.lens,g.Qm,g.rx,g.pool,g.vec,g.EK⟩
theorem DC (g:Good n h):∀k,Good n (returned h k)
 |0=>Fa g _
 |k+1=>by show Good n (P5 h.2.2.1.2.2.1 k (returned h k));have:=DC g k;unfold P5;cases h.2.2.1.2.2.1[k]? with|none=>exact this|some x=>exact Yq this _
theorem S7 (ha:0<=a/\a<=130944:=by omega)(hb:1<=b/\b<=512:=by omega)(hn:0<=n/\n<=16:=by omega):gS a b n=((a,b,n,upto n.toNat),true)/\dx (a,b,n,upto n.toNat)=true:=by have h1:dx (a,b,n,[])=true:=Ab.2 ⟨ha,hb,hn,by simp,List.nodup_nil⟩;refine⟨by unfold gS;rw[h1];rfl,Ab.2 ⟨ha,hb,hn,?_,?_⟩⟩;intro x hx;simp only[upto,List.mem_map,bW]at hx;obtain⟨i,hi,rfl⟩:=hx;show 0<=Int.ofNat i/\Int.ofNat i<=n-1;simp only[Int.ofNat_eq_natCast];omega;show(upto n.toNat).Nodup;unfold upto;rw[List.Nodup,List.pairwise_map];exact List.nodup_range.imp λh he=>h (Int.ofNat.inj he)
theorem aej (c:Int)(hc:0<=c/\c<=65535):ET (D2.1,D2.2.1,D2.2.2.1,c):=by
 have p:=S7 (a:=256) (b:=128) (n:=8);refine⟨Cz,hc,λx hx=>(by cases hx),?_,by show(0:Int)<=16;omega⟩;show dx (gk (gS 256 128 8).1 [])=true;rw[p.1];have e:gk (256,128,8,upto (8:Int).toNat) []=(256,128,8,upto (8:Int).toNat):=by simp[gk]
 show dx (gk (256,128,8,upto (8:Int).toNat) [])=true;rw[e];exact p.2
theorem Pf (g:Good n h):Good n (rG h):=by have k:=DC g h.2.2.1.2.2.1.length;exact⟨k.mem,k.maps,aej _ k.tx.next,k.IP,k.lens,k.Qm,k.rx,k.pool,k.vec,k.EK⟩
theorem WA {i:Nat}(h:i<=8):0<=gQ i/\gQ i<=16000:=by unfold gQ;omega
theorem Nx (hm:cD m=true)(l:aw aA){i:Nat}(hi:i<=8):cD (sN l m i).1=true/\cU (sN l m i).2.1=true/\dx (sN l m i).2.2.1=true:=by have hb:=WA hi;have p:=S7 (a:=gQ i+128) (b:=384) (n:=4);unfold sN;rw[p.1];exact MV (Cs hm ..) (Cz) p.2 l 0
theorem Tm {i:Nat}(hi:i<=8){r:lE}(hr:cU r=true)(hd:0<=d/\d<=n):yw n (r,(gQ i+64,4,0),(gQ i+64,4,0),((0,0,0,0,0,0,0,0,0,0,0,0,0,0,0,([]:Bytes)),0,0),false,d):=by
 have hb:=WA hi;have hq:fF (gQ i+64,4,0)=true:=by have hs:iL 4=true:=gF.2 (by omega);unfold fF;rw[ae,ae];exact⟨bh.2 (by omega),hs,by rw[xK hs];rfl⟩
 exact⟨hr,hq,hq,rfl,rfl,hd,λhf=>(by cases hf),λ_=>rfl⟩
theorem RP (hn:n<=800000000000)(g:Good n h){i:Nat}(hi:i<=8):Good (n+320) (ym i h):=by
 have gm:=g.mono (show n<=n+320 by omega);unfold ym;cases h1:h.2.2.2.1[i]? with|none=>exact gm|some x=>?_
 cases h2:h.2.2.2.2.2.1[i]? with|none=>exact gm|some v=>?_
 have o:=Nx g.mem h.2.1 hi;have hx:=g.rx x (bp h1);have hd:0<=Dx x/\Dx x<=n+320:=by have d:=hx.drop;unfold Dx;cases hh:x.2.2.2.2.1 with|false=>simp only[af];omega|true=>have:=hx.held hh;rw[ah,ak];omega
 refine⟨o.1,gm.maps,gm.tx,gm.IP,?_,?_,rE gm.rx (Tm hi o.2.1 hd),rE gm.pool o.2.2,rE gm.vec (aaL (g.vec v (bp h2))),gm.EK⟩;have:=g.lens;unfold qI DP at*;simp only[aC];exact this;show ff _ (((DP h i (Dx x)).2.2.2.1).length:Int)=true;unfold DP;simp only[aC];exact g.Qm
theorem DA (hn:n<=700000000000)(g:Good n h):∀k:Nat,k<=8->Good (n+320*(k:Int)) (il h k)
 |0,_=>g.mono
 |k+1,hk=>(RP (by omega) (DA hn g k (by omega)) (i:=k) (by omega)).mono
theorem UN (hn:n<=700000000000)(g:Good n h):Good (n+640) (zA h):=by have hl:=qo g.lens;unfold zA;cases dW h with|false=>exact g.mono|true=>exact(DA hn (Pf g) _ (by omega)).mono (by have:=hl.1;omega)
theorem abr (hn:n<=700000000000)(g:Good n h)(a:Act):Good (n+641) (zg h a).1:=by
 unfold zg;cases !dW h|| !QI a with|true=>exact g.mono|false=>?_
 simp only[af];cases a.1==0 with|true=>exact(Yr g _ _ _).mono|false=>?_
 cases a.1==1 with|true=>exact(L2 g).mono|false=>?_
 cases a.1==2 with|true=>exact Pg hn g _|false=>?_
 cases a.1==3 with|true=>exact(UM hn g).mono|false=>?_
 cases a.1==4 with|true=>exact(Ys g).mono|false=>?_
 cases a.1==5 with|true=>exact(Ph g _).mono|false=>exact(UN hn g).mono
theorem map_take {β:Type}(f:α->β)(l:aw α)(i:Nat)(hi:i<l.length):(l.take i).map f++[f l[i]]=(l.take (i+1)).map f:=by rw[bI hi,List.map_append];rfl
def Iy (n:Nat):ca:=List.replicate n (wR 128)
theorem Zx (n:Nat):Iy (n+1)=Iy n++[wR 128]:=List.replicate_succ'
theorem Wa (n:Nat)(h:n<=64):pM (n:Int)=some (Iy n):=by have hz:im 128 0=some (wR 128):=Lo 128;unfold pM;refine eo (λi=>((i:Int),Iy i)) n (by omega) (λi nx hi=>?_) (λnx=>?_);simp only[pc];rw[au (show(i:Int)<n by omega),ah,kK,ab,ah,hz,ab,aS (by simp[Iy];omega),ak,Zx];rfl;simp only[pc];rw[ar (show¬(n:Int)<n by omega),af,ab,af]
def wE (a b:Int):Vector×Bool:=bif ez (a,b,0,0,false,false) then((a,b,0,0,false,false),true) else((0,0,0,0,false,false),false)
theorem Wb (a b:Int):ub a b=some (wE a b):=by unfold ub wE;rw[EC,ab];cases ez (a,b,0,0,false,false)<;>rfl
def zX (i:Nat):aw aA:=(List.range i).map λ(p:Nat)=>(0,(p:Int),37-(p:Int), !dm (p:Int) 2 9)
theorem Vv (i:Nat):zX (i+1)=zX i++[(0,(i:Int),37-(i:Int), !dm (i:Int) 2 9)]:=by simp[zX,List.range_succ]
theorem GW (i:Nat):(zX i).length=i:=by simp[zX]
def Xa (f:Filter)(s:cV)(c:Bool)(i:Nat):Host:=(Iy 38,zX i,D2,([]:aw bT),([]:aw cK),([]:aw Vector),([]:aw Bool),f,s,([]:aw Stream),c,([]:ca),([]:cL),([]:cL),0,0,0,0,0)
theorem Kl (h:Cu c):Ends (qB c) λr=>(167772161<=r.1/\r.1<=167772163)/\Cu r.2:=by unfold qB;refine(gw h (by decide)).bind λr hr=>Ends.pure ⟨?_,hr.2⟩;have:=hr.1;simp only[ak (n:=167772161+r.1) (by omega) (by omega)];omega
theorem Ym (h:Cu c):Ends (vM c) λr=>(0<=r.1/\r.1<=31)/\Cu r.2:=by unfold vM;exact(iE (P:=λx=>0<=x/\x<=31) h (by decide) (by decide)).bind λr hr=>Ends.pure hr
theorem ajQ (h:Cu c){m:Int}(h0:0<=m)(h1:m<=320):Ends (sk c m) λr=>(rp r.1=true/\(r.1.2.2.2.2.2.2.2.length:Int)<=m)/\Cu r.2:=by
 unfold sk;refine(gw h (by decide)).bind λr1 p1=>(gw p1.2 (by decide)).bind λr2 p2=>?_;refine(iE (P:=λx=>0<=x/\x<=4294967295) p2.2 (by simp) ?_).bind λr3 p3=>?_;have:=p2.1;intro x hx;simp only[cm,List.not_mem_nil,or_false]at hx;omega;refine(iE (P:=λx=>0<=x/\x<=4294967295) p3.2 (by decide) (by decide)).bind λr4 p4=>(Ym p4.2).bind λr5 p5=>?_;refine(iE (P:=λx=>0<=x/\x<=65535) p5.2 (by decide) (by decide)).bind λr6 p6=>?_;rw[ak (n:=m+1)];refine(gw p6.2).bind λr7 p7=>(Gd p7.2 r7.1).bind λr8 p8=>(vB p8.2 4).bind λr9 p9=>?_;have a1:=p1.1;have a7:=p7.1;have a8:=p8.1.2.1 a7.1 (by omega);rw[ak (n:=1000+r1.1)];refine Ends.cond (λ_=>Ends.pure ⟨⟨acR (by omega) (by omega) (by omega),?_⟩,p9⟩) λ_=>Ends.pure ⟨⟨Tn (by omega) (by omega) p3.1 p4.1 p5.1 p6.1 (by omega),?_⟩,p9⟩;all_goals show(r8.1.length:Int)<=m
 all_goals omega
theorem Nz (h:Cu c){m:Int}(h0:0<=m:=by omega)(h1:m<=320:=by omega):Ends (ky c m) λr=>(dw r.1=true/\(r.1.2.2.2.2.2.2.2.2.2.2.2.2.2.2.2.length:Int)<=m/\(r.1.2.2.2.2.2.2.2.2.1=6\/r.1.2.2.2.2.2.2.2.2.1=17))/\Cu r.2:=by
 unfold ky;refine(iE (P:=λx=>0<=x/\x<=281474976710655) h (by decide) (by decide)).bind λr1 p1=>?_;refine(iE (P:=λx=>0<=x/\x<=281474976710655) p1.2 (by decide) (by decide)).bind λr2 p2=>?_;refine(iE (P:=λx=> -1<=x/\x<=4095) p2.2 (by decide) (by decide)).bind λr3 p3=>?_;refine(iE (P:=λx=>0<=x/\x<=255) p3.2 (by decide) (by decide)).bind λr4 p4=>?_;refine(iE (P:=λx=>0<=x/\x<=65535) p4.2 (by decide) (by decide)).bind λr5 p5=>?_;refine(iE (P:=λx=>0<=x/\x<=255) p5.2 (by decide) (by decide)).bind λr6 p6=>?_;refine(Kl p6.2).bind λr7 p7=>?_;refine(ajQ p7.2 (m:=if 128<m then 128 else m) (by split<;>omega) (by split<;>omega)).bind λr8 p8=>?_;have hh:∀g:ed,rp g=true->oJ (r1.1,r2.1,r3.1,r4.1,r5.1,r6.1,r7.1,167772161,g)=true:=λg hg=>abv p1.1 p2.1 p3.1 p4.1 p5.1 p6.1 (by have:=p7.1;omega) (by omega) hg;have hk:∀g:ed,rp g=true->g.1=6\/g.1=17:=by intro g hg;unfold rp at hg;simp only[ae]at hg;have h2:=hg.2.2.2;cases h17:g.1==17 with|true=>exact Or.inr (by simpa using h17)|false=>rw[h17]at h2;simp only[af,ae]at h2;exact Or.inl (by simpa using h2.1)
 have hl:(r8.1.2.2.2.2.2.2.2.length:Int)<=128/\(r8.1.2.2.2.2.2.2.2.length:Int)<=m:=by have:=p8.1.2;split at this<;>omega
 have short:∀c':N3,Cu c'->Ends (some ((r1.1,r2.1,r3.1,r4.1,r5.1,r6.1,r7.1,(167772161:Int),r8.1),c')) λr:aO×N3=>(dw r.1=true/\(r.1.2.2.2.2.2.2.2.2.2.2.2.2.2.2.2.length:Int)<=m/\(r.1.2.2.2.2.2.2.2.2.1=6\/r.1.2.2.2.2.2.2.2.2.1=17))/\Cu r.2:=by intro c' wQ;refine Ends.pure ⟨⟨?_,hl.2,hk _ p8.1.1⟩,wQ⟩;unfold dw;rw[hh _ p8.1.1,bC];have:decide ((r8.1.2.2.2.2.2.2.2.length:Int)<=128)=true:=au hl.1;show(decide ((r8.1.2.2.2.2.2.2.2.length:Int)<=128)||_)=true;rw[this,gG]
 refine Ends.cond (λk1=>Ends.cond (λk2=>Ends.cond (λk3=>?_) λ_=>short _ p8.2) λ_=>short _ p8.2) λ_=>short _ p8.2;have k3:=bk k3;refine(vB p8.2 2).bind λr9 p9=>Ends.cond (λ_=>?_) λ_=>short _ p9;rw[ak (n:=m-128),ak (n:=m-128+1)];refine(gw p9).bind λpQ p10=>?_;have a10:=p10.1;rw[ak (n:=128+pQ.1)];refine(Gd p10.2 _).bind λuB p11=>?_;have a11:=p11.1.2.1 (by omega) (by omega);have hs:=aak p8.1.1 (x:=uB.1) (by omega);refine Ends.pure ⟨⟨?_,by show(uB.1.length:Int)<=m;omega,Or.inl (by simpa using k1)⟩,p11.2⟩;unfold dw;rw[hh _ hs,bC];rw[J2 _ (Di p8.1.1 k1)]at k2;show(_||(r8.1.1==6)&&As r8.1.2.2.2.2.2.1)=true;rw[k1,k2,eU,iu]
def Plain (p:aO):Prop:=oJ p=true/\p.2.2.2.2.2.2.2.2.2.2.2.2.2.2.2.length<=40
theorem Plain.ok (h:Plain p):fV p=true:=(S1 p).2 ⟨h.1,by have:=h.2;omega⟩
theorem FP (h:Cu c):Ends (ky c 40) λr=>Plain r.1/\Cu r.2:=(Nz h).mono λr hr=>⟨⟨by have:=hr.1.1;unfold dw at this;simp only[ae]at this;exact this.1,by have:=hr.1.2.1;omega⟩,hr.2⟩
theorem ace {Q:R->Prop}{k0:aw aO->N3->aO->ax R}{l:aw aO}{z:Int}(hl:l.length<=1000)(hc:Cu c)(hp:Plain p)(hk:∀c' p',Cu c'->Plain p'->Ends (k0 (l++[p]) c' p') Q):Ends (mT k0 l z n c p) Q:=by
 unfold mT;have hi:=afn (Kf hp.1);have hs:=xZ hp.1;refine Ends.room (by simp;omega) (Ends.ifn (by decide) (Ends.cond (λh6=>?_) λ_=>hk _ _ hc ⟨zN (p:=p) hp.1 hi hs,hp.2⟩));have h6:p.2.2.2.2.2.2.2.2.1=6:=by simpa using h6
 refine(vB hc 8).bind λr hr=>Ends.cond (λ_=>Ends.ifn (by decide) (hk _ _ hr ⟨zN (p:=p) hp.1 hi ?_,hp.2⟩)) λ_=>hk _ _ hr ⟨zN (p:=p) hp.1 hi hs,hp.2⟩;have k:=XB hs h6;have hlen:p.2.2.2.2.2.2.2.2.2.2.2.2.2.2.2.length<=320:=by have:=hp.2;omega
 exact Lh hs h6 (acq k.2.2.1 hlen) k.2.2.2.2.1 hlen
theorem acd {Q:R->Prop}{k0:aw aO->N3->aO->ax R}{l:aw aO}{z:Int}(hl:l.length<=1000)(hz:1<=z/\z<=40)(hc:Cu c)(hp:Plain p)(hk:∀q c' p',Plain q->Cu c'->Plain p'->Ends (k0 (l++[q]) c' p') Q):Ends (mS k0 l z n c p) Q:=by
 unfold mS;refine Ends.cond (λh6=>?_) λ_=>ace hl hc hp λc' p' h1 h2=>hk _ _ _ hp h1 h2;have h6:p.2.2.2.2.2.2.2.2.1=6:=by simpa using h6
 refine(iE (P:=λx=>0<=x/\x<=31) hc (by decide) (by decide)).bind λr8 p8=>(Gd p8.2 z).bind λr9 p9=>?_;have a9:=p9.1.2.1 (by omega) (by omega);have hs:=xZ hp.1;have hq:Plain (p.1,p.2.1,p.2.2.1,p.2.2.2.1,p.2.2.2.2.1,p.2.2.2.2.2.1,p.2.2.2.2.2.2.1,p.2.2.2.2.2.2.2.1,p.2.2.2.2.2.2.2.2.1,p.2.2.2.2.2.2.2.2.2.1,p.2.2.2.2.2.2.2.2.2.2.1,p.2.2.2.2.2.2.2.2.2.2.2.1,p.2.2.2.2.2.2.2.2.2.2.2.2.1,r8.1,p.2.2.2.2.2.2.2.2.2.2.2.2.2.2.1,r9.1):=⟨zN hp.1 (Kf hp.1) (Lh hs h6 (XB hs h6).2.2.1 p8.1 (by omega)),by show r9.1.length<=40;omega⟩
 exact ace hl p9.2 hq λc' p' h1 h2=>hk _ _ _ hq h1 h2
theorem agk {Q:R->Prop}{k0:aw aO->Int->N3->aO->ax R}{l:aw aO}{z:Int}(hl:l.length<=1000)(hz:1<=z/\z<=40)(hc:Cu c)(hp:Plain p)(hk:∀q z' c' p',Plain q->(1<=z'/\z'<=40)->Cu c'->Plain p'->Ends (k0 (l++[q]) z' c' p') Q):Ends (nZ k0 l z n c p) Q:=by unfold nZ;refine(vB hc 6).bind λr6 p6=>Ends.cond (λ_=>?_) λ_=>acd hl hz p6 hp λq c' p' h1 h2 h3=>hk _ _ _ _ h1 hz h2 h3;refine(gw p6 (by decide)).bind λr7 p7=>?_;have a7:=p7.1;rw[ak (n:=1+r7.1)];exact acd hl (by omega) p7.2 hp λq c' p' h1 h2 h3=>hk _ _ _ _ h1 (by omega) h2 h3
theorem anJ {Q:R->Prop}{k0:aw aO->Int->Int->N3->aO->ax R}{l:aw aO}{z:Int}(hl:l.length<=1000)(hz:1<=z/\z<=40)(hn:0<n/\n<=1000)(hc:Cu c)(hp:Plain p)(hk:∀q z' c' p',Plain q->(1<=z'/\z'<=40)->Cu c'->Plain p'->Ends (k0 (l++[q]) z' (n-1) c' p') Q):Ends (sm k0 l z n c p) Q:=by unfold sm;have e:aq (n-1)=n-1:=ak;refine(vB hc 5).bind λr4 p4=>Ends.cond (λ_=>?_) λ_=>?_;refine(FP p4).bind λr5 p5=>agk hl hz p5.2 p5.1 λq z' c' p' h1 h2 h3 h4=>?_;unfold nY;rw[e];exact hk _ _ _ _ h1 h2 h3 h4;refine agk hl hz p4 hp λq z' c' p' h1 h2 h3 h4=>?_;unfold nY;rw[e];exact hk _ _ _ _ h1 h2 h3 h4
theorem afi (h:Cu c){m:Int}(h0:0<m)(h1:m<=100):Ends (xl c m) λr=>((∀p∈r.1,Plain p)/\0<r.1.length/\(r.1.length:Int)<=m)/\Cu r.2:=by unfold xl;refine(FP h).bind λr1 p1=>(gw p1.2 (by decide)).bind λr2 p2=>(gw p2.2 h0).bind λr3 p3=>?_;have a2:=p2.1;have a3:=p3.1;rw[ak (n:=r2.1*8),ak (n:=8+r2.1*8),ak (n:=1+r3.1)];refine Ends.wc (λx=>(∀p∈x.1,Plain p)/\(1<=x.2.1/\x.2.1<=40)/\0<=x.2.2.1/\(x.1.length:Int)+x.2.2.1=1+r3.1/\Cu x.2.2.2.1/\Plain x.2.2.2.2) (λx=>x.2.2.1.toNat) ⟨by simp,(by dsimp only;omega),(by dsimp only;omega),by simp,p3.2,p1.1⟩ (by simp;omega) λx nx hx hn=>?_;unfold wI;refine Ends.cond (λk=>?_) λk=>?_;have k:=bk k;refine anJ (by omega) hx.2.1 (by omega) hx.2.2.2.2.1 hx.2.2.2.2.2 λq z' c' p' h1 h2 h3 h4=>hn _ ⟨?_,h2,?_,?_,h3,h4⟩ ?_;intro y hy;rcases ay.1 hy with hy|hy;exact hx.1 y hy;simp only[cn]at hy;rw[hy];exact h1;show 0<=x.2.2.1-1;omega;show((x.1++[q]).length:Int)+(x.2.2.1-1)=1+r3.1;have:=hx.2.2.2.1;simp;omega;show(x.2.2.1-1).toNat<x.2.2.1.toNat;omega;have k:=fP k;have:=hx.2.2.2.1;have:=hx.2.2.1;exact Ends.pure ⟨⟨hx.1,(by dsimp only;omega),(by dsimp only;omega)⟩,hx.2.2.2.2.1⟩
theorem afy (h:Cu c){l:aw aO}(hl:l.length<=1000000):Ends (xm c l) λr=>(r.1.length<=l.length/\∀s∈r.1,s.2.2.1=[])/\Cu r.2:=by unfold xm;refine Ends.wc (λx=>0<=x.2.1/\(x.1.length:Int)<=x.2.1/\x.2.1<=(l.length:Int)/\(∀s∈x.1,s.2.2.1=[])/\Cu x.2.2) (λx=>((l.length:Int)-x.2.1).toNat) ⟨by simp,by simp,by simp,by simp,h⟩ (by simp;omega) λx nx hx hn=>?_;have e:x.2.1<(l.length:Int)->aq (x.2.1+1)=x.2.1+1:=λ_=>ak;unfold wJ;refine Ends.cond (λk=>?_) λk=>Ends.pure ⟨⟨(by dsimp only;omega),hx.2.2.2.1⟩,hx.2.2.2.2⟩;have k:=bk k;rw[e k];have skip:∀c',Cu c'->Ends (nx (x.1,x.2.1+1,c')) _:=λc' wQ=>hn _ ⟨by show 0<=x.2.1+1;omega,by show(x.1.length:Int)<=x.2.1+1;omega,by show x.2.1+1<=_;omega,hx.2.2.2.1,wQ⟩ (by show((l.length:Int)-(x.2.1+1)).toNat<_;omega);refine Ends.idx hx.1 k λhi=>?_;rw[acZ,ab];refine Ends.cond (λ_=>?_) λ_=>skip _ hx.2.2.2.2;rw[ac3 _ _ (by omega),ab];refine Ends.cond (λ_=>?_) λ_=>skip _ hx.2.2.2.2;refine(vB hx.2.2.2.2 6).bind λr4 p4=>Ends.cond (λ_=>?_) λ_=>skip _ p4;refine Ends.idx hx.1 k λhi=>(iE (P:=λ_=>True) p4 (by decide) (by simp)).bind λr6 p6=>Ends.room (by simp;omega) (hn _ ⟨by show 0<=x.2.1+1;omega,?_,by show x.2.1+1<=_;omega,?_,p6.2⟩ (by show((l.length:Int)-(x.2.1+1)).toNat<_;omega));show((x.1++[_]).length:Int)<=x.2.1+1;simp;omega;intro s hs;rcases ay.1 hs with hs|hs;exact hx.2.2.2.1 s hs;simp only[cn]at hs;rw[hs]
theorem ajg (h:Cu c):Ends (yZ c) λr=>r.1.length=16/\Cu r.2:=by unfold yZ;exact(Gd h 16).bind λr hr=>Ends.pure ⟨by have:=hr.1.2.1 (by omega) (by omega);omega,hr.2⟩
theorem Yn (h:Cu c):Ends (xn c) λr=>Cu r.2:=by unfold xn;refine(iE (P:=λ_=>True) h (by decide) (by simp)).bind λr1 p1=>(Kl p1.2).bind λr2 p2=>(gw p2.2 (by decide)).bind λr3 p3=>?_;exact(iE (P:=λ_=>True) p3.2 (by decide) (by simp)).bind λr4 p4=>Ends.pure p4.2
theorem aaA (h:Cu c):Ends (uh c) λr=>(r.1.1.1.length=16/\r.1.1.2.length<=8/\1<=r.1.2/\r.1.2<=4)/\Cu r.2:=by unfold uh;refine(gw h (by decide)).bind λr1 p1=>(ajg p1.2).bind λr2 p2=>(iE (P:=λx=>0<=x/\x<=8) p2.2 (by decide) (by decide)).bind λr3 p3=>?_;have a1:=p1.1;have a3:=p3.1;rw[ak (n:=1+r1.1)];refine Ends.wc (λx=>0<=x.1/\x.1+(x.2.2.2.length:Int)=r3.1/\x.2.2.1.length=16/\Cu x.2.1) (λx=>x.1.toNat) ⟨by omega,by simp,p2.1,p3.2⟩ (by simp;omega) λx nx hx hn=>?_;unfold ui;refine Ends.cond (λk=>?_) λk=>Ends.pure ⟨⟨hx.2.2.1,by have:=hx.1;have:=hx.2.1;show x.2.2.2.length<=8;omega,by show(1:Int)<=1+r1.1;omega,by show 1+r1.1<=(4:Int);omega⟩,hx.2.2.2⟩;have k:=bk k;rw[ak (n:=x.1-1) (by omega) (by have:=hx.2.1;omega)];refine(EW hx.2.2.2 _).bind λr4 p4=>Ends.room (by have:=hx.2.1;simp;omega) (hn _ ⟨?_,?_,hx.2.2.1,p4.2⟩ ?_);show 0<=x.1-1;omega;show x.1-1+((x.2.2.2++[r4.1]).length:Int)=r3.1;have:=hx.2.1;simp;omega;show(x.1-1).toNat<x.1.toNat;omega
theorem afD (h:Cu c):Ends (xp c) λr=>Cu r.2:=by unfold xp;refine(gw h (by decide)).bind λr1 p1=>(iE (P:=λ_=>True) p1.2 (by decide) (by simp)).bind λr2 p2=>(Kl p2.2).bind λr3 p3=>?_;refine(iE (P:=λ_=>True) p3.2 (by decide) (by simp)).bind λr4 p4=>(iE (P:=λ_=>True) p4.2 (by decide) (by simp)).bind λr5 p5=>(iE (P:=λ_=>True) p5.2 (by decide) (by simp)).bind λr6 p6=>?_;refine(iE (P:=λ_=>True) p6.2 (by decide) (by simp)).bind λr7 p7=>(iE (P:=λ_=>True) p7.2 (by decide) (by simp)).bind λr8 p8=>?_;exact Ends.cond (λ_=>(gw p8.2 (by decide)).bind λr9 p9=>Ends.pure p9.2) λ_=>Ends.pure p8.2
theorem acO (h:Cu c):Ends (vN c) λr=>r.1.length<=4/\Cu r.2:=by unfold vN;refine(gw h (by decide)).bind λr1 p1=>?_;have a1:=p1.1;refine Ends.wc (λx=>0<=x.2.1/\x.2.1+(x.1.length:Int)=r1.1/\Cu x.2.2) (λx=>x.2.1.toNat) ⟨a1.1,by simp,p1.2⟩ (by simp;omega) λx nx hx hn=>?_;unfold uS;refine Ends.cond (λk=>?_) λk=>Ends.pure ⟨by have:=hx.1;have:=hx.2.1;show x.1.length<=4;omega,hx.2.2⟩;have k:=bk k;rw[ak (n:=x.2.1-1) (by omega) (by have:=hx.2.1;omega)];refine(afD hx.2.2).bind λr2 p2=>Ends.room (by have:=hx.2.1;simp;omega) (hn _ ⟨?_,?_,p2⟩ ?_);show 0<=x.2.1-1;omega;show x.2.1-1+((x.1++[r2.1]).length:Int)=r1.1;have:=hx.2.1;simp;omega;show(x.2.1-1).toNat<x.2.1.toNat;omega
theorem LL (t:aw Slot)(f:iz):∀n k,walk t f n k= -1\/(0<=walk t f n k/\walk t f n k<8)
 |0,_=>Or.inl rfl
 |n+1,k=>by rw[walk];have:=Dm f k;split;exact Or.inl rfl;split;exact Or.inr ⟨by omega,by omega⟩;exact LL t f n (k+1)
theorem aaH {t:aw Slot}(h:nH t=true):t.length=8:=by unfold nH at h;simp only[ae,aV]at h;exact h.1
theorem ajK (t:aw Slot)(f:iz)(q:Int)(hl:t.length<=1000):Ends (xi t f q) λr=>r.1.length=t.length:=by
 unfold xi;rw[DV _ (by omega),ab,NR,ab];refine Ends.bind (P:=λb=>b=false->nH t=true) ?_ λb hb=>Ends.cond (λ_=>Ends.pure rfl) λIT=>?_;refine Ends.cond (λ_=>Ends.pure λh=>by cases h) λh=>?_;rw[ei,ab];exact Ends.pure λ_=>by simpa using h
 ·have h8:=aaH (hb IT);rw[Tw _ _ h8,ab];have hw:=LL t f 8 0;refine Ends.wc (λx=>(x.1= -1\/(0<=x.1/\x.1<8))/\0<=x.2/\x.2<=8) (λx=>(8-x.2).toNat) ⟨hw,by simp,by simp⟩ (by simp) λx nx hx hn=>?_;unfold wH;refine Ends.bind (P:=λb=>b=true->x.2<8) (Ends.cond (λh=>Ends.pure λ_=>bk h) λh=>Ends.pure λh=>by cases h) λb hb=>Ends.cond (λIT=>?_) λ_=>?_
  ·have hb:=hb IT;rw[Tx,ab];have hh:=Kk f;rw[ak (n:=zQ f+x.2),ak (n:=x.2+1)];have m1:=Int.tmod_nonneg 8 (a:=zQ f+x.2) (by omega);have m2:=Int.tmod_lt_of_pos (zQ f+x.2) (b:=8) (by omega);refine Ends.ifn (by decide) (Ends.idx m1 (by omega) λ_=>Ends.cond (λ_=>hn _ ⟨Or.inr ⟨m1,m2⟩,?_,?_⟩ ?_) λ_=>hn _ ⟨hx.1,?_,?_⟩ ?_);all_goals simp only
   all_goals omega
  refine Ends.cond (λ_=>Ends.pure rfl) λh=>?_;have h:=fP h;have h0:0<=x.1/\x.1<8:=by omega
  exact Ends.idx h0.1 (by omega) λ_=>Ends.idx h0.1 (by omega) λ_=>Ends.pure (by simp)
structure uX (s:cV):Prop where
 r:s.1.length<=100
 t:s.2.1.length<=100
 k:s.2.2.1.length=16
 p:s.2.2.2.length<=100
theorem ac5 (h:Cu c):Ends (qC c) λr=>(uX r.1.1/\1<=r.1.2/\r.1.2<=4)/\Cu r.2:=by
 unfold qC;have R5:lL=some (List.replicate 8 (0,(0,0,0,0,0),0)):=by unfold lL;rw[aF (by decide),aS (by decide)];rfl
 rw[R5,ab];refine(aaA h).bind λr2 p2=>(vB p2.2 2).bind λr3 p3=>?_;have t11:∀(n:Int)(s:cV)(c':N3),n<=4->uX s->Cu c'->Ends (bc (gT (λ(_:Int) Gp Io=>some ((Io,r2.1.2),Gp)) r2.1.2 (([]:aw iH),([]:aw Slot),([]:Bytes),([]:cL))) fuel (n,c',s)) λr:(cV×Int)×N3=>(uX r.1.1/\1<=r.1.2/\r.1.2<=4)/\Cu r.2:=by intro n s c' hn hs hc;refine Ends.wc (λx=>x.1<=4/\uX x.2.2/\Cu x.2.1) (λx=>x.1.toNat) ⟨hn,hs,hc⟩ (by simp;omega) λx nx hx hn=>?_;unfold gT;refine Ends.cond (λk=>?_) λk=>Ends.pure ⟨⟨hx.2.1,p2.1.2.2⟩,hx.2.2⟩;have k:=bk k;rw[ak (n:=x.1-1) (by omega) (by have:=hx.1;omega)];refine(Yn hx.2.2).bind λuB p11=>(EW p11 _).bind λsB p12=>(ajK _ _ _ (by have:=hx.2.1.t;omega)).bind λyv p13=>hn _ ⟨?_,⟨hx.2.1.r,by have:=hx.2.1.t;show yv.1.length<=100;omega,hx.2.1.k,hx.2.1.p⟩,p12.2⟩ ?_;show x.1-1<=4;have:=hx.1;omega;show(x.1-1).toNat<x.1.toNat;omega
 have t7:∀(s:cV)(c' b:N3),uX s->s.1.length<=4->Cu c'->Ends (bc (jF (λ(_:Int) y9=>aa (cg c' 4) λpQ=>bc (gT (λ(_:Int) Gp Io=>some ((Io,r2.1.2),Gp)) r2.1.2 (([]:aw iH),([]:aw Slot),([]:Bytes),([]:cL))) fuel (pQ.1,pQ.2,y9)) r2.1.2 b (([]:aw iH),([]:aw Slot),([]:Bytes),([]:cL))) fuel (0,s)) λr:(cV×Int)×N3=>(uX r.1.1/\1<=r.1.2/\r.1.2<=4)/\Cu r.2:=by intro s c' b hs hl hc;refine Ends.wc (λx=>0<=x.1/\x.2.1.length=s.1.length/\uX x.2) (λx=>((s.1.length:Int)-x.1).toNat) ⟨by simp,rfl,hs⟩ (by simp;omega) λx nx hx hn=>?_;unfold jF;refine Ends.cond (λk=>?_) λk=>(gw hc (by decide)).bind λpQ p10=>t11 _ _ _ (by have:=p10.1;omega) hx.2.2 p10.2;have k:=bk k;rw[ak (n:=x.1+1) (by omega) (by have:=hx.2.1;omega)];refine Ends.idx hx.1 k λ_=>Ends.ifn (by have:=p2.1.2.2;omega) (Ends.idx hx.1 k λ_=>Ends.idx hx.1 k λ_=>hn _ ⟨?_,?_,⟨?_,hx.2.2.t,hx.2.2.k,hx.2.2.p⟩⟩ ?_);show 0<=x.1+1;have:=hx.1;omega;show(List.set _ _ _).length=_;rw[aC];exact hx.2.1;show(List.set _ _ _).length<=100;rw[aC];exact hx.2.2.r;show((s.1.length:Int)-(x.1+1)).toNat<_;have:=hx.2.1;omega
 refine Ends.cond (λ_=>(acO p3).bind λr4 p4=>t7 _ _ _ ⟨by have:=p4.1;show r4.1.length<=100;omega,by simp,p2.1.1,by have:=p2.1.2.1;show r2.1.1.2.length<=100;omega⟩ p4.1 p4.2) λ_=>t7 _ _ _ ⟨by simp,by simp,p2.1.1,by have:=p2.1.2.1;show r2.1.1.2.length<=100;omega⟩ (by simp) p3
theorem Rx (h:Cu c):Ends (uo c) λr=>(r.1.1=2/\(r.1.2.2=[7]\/r.1.2.2=[]))/\Cu r.2:=by unfold uo;exact(vB h 4).bind λr1 p1=>(vB p1 2).bind λr2 p2=>Ends.cond (λ_=>Ends.pure ⟨⟨rfl,Or.inl rfl⟩,p2⟩) λ_=>Ends.pure ⟨⟨rfl,Or.inr rfl⟩,p2⟩
theorem ajh:dF (zX 38)=true:=by decide+kernel
def BC (f:Filter)(s:cV)(c:Bool):aw Vector->Host
 |[]=>Xa f s c 38
 |v::vs=>S0 ((BC f s c vs).1,(BC f s c vs).2.1,(BC f s c vs).2.2.1,(BC f s c vs).2.2.2.1++[((0,0,0,0),(0,0,0),(0,0,0),((0,0,0,0,0,0,0,0,0,0,0,0,0,0,0,([]:Bytes)),0,0),false,0)],(BC f s c vs).2.2.2.2.1++[(0,0,0,([]:cL))],(BC f s c vs).2.2.2.2.2.1++[v],(BC f s c vs).2.2.2.2.2.2.1++[false],(BC f s c vs).2.2.2.2.2.2.2) vs.length
def aa6 (h:Host):=(h.1,h.2.1,h.2.2.1,h.2.2.2.1,h.2.2.2.2.1,h.2.2.2.2.2.1,h.2.2.2.2.2.2.1)
structure Made (f:Filter) (s:cV) (c:Bool) (k:Nat) (h:Host):Prop where
 mem:cD h.1=true
 ml:h.1.length=38
 maps:h.2.1=zX 38
 tx:h.2.2.1=D2
 rx:h.2.2.2.1.length=k
 rxs:∀r∈h.2.2.2.1,yw 0 r/\r.2.2.2.2.1=false
 pl:h.2.2.2.2.1.length=k
 pls:∀p∈h.2.2.2.2.1,dx p=true/\p.2.2.2.length<=1000
 vec:h.2.2.2.2.2.1.length=k
 TS:∀v∈h.2.2.2.2.2.1,ez v=true
 VO:h.2.2.2.2.2.2.1.length=k
 rest:h.2.2.2.2.2.2.2=(f,s,([]:List Stream),c,([]:List Bytes),([]:List Int),([]:List Int),0,0,0,0,0)
 is:∃vs,vs.length=k/\h=BC f s c vs/\∀v∈vs,v.2.1<=3/\v.2.2.2.2.1=false
theorem Ts (l:aw α)(x y:α):(l++[x]).set l.length y=l++[y]:=by simp
theorem afl {n:Nat}(h:n<=64):cD (Iy n)=true:=qp.2 ⟨λx hx=>by rw[(List.mem_replicate.1 hx).2];exact Dp 128,by simp[Iy];exact h⟩
theorem Zt {c:Bool}(m:Made f s c k h)(hk:k<=8)(hv:ez v=true)(h3:v.2.1<=3/\v.2.2.2.2.1=false):Ends (uq (h.1,h.2.1,h.2.2.1,h.2.2.2.1++[((0,0,0,0),(0,0,0),(0,0,0),((0,0,0,0,0,0,0,0,0,0,0,0,0,0,0,([]:Bytes)),0,0),false,0)],h.2.2.2.2.1++[(0,0,0,([]:cL))],h.2.2.2.2.2.1++[v],h.2.2.2.2.2.2.1++[false],h.2.2.2.2.2.2.2) (k:Int)) λr=>Made f s c (k+1) r.2:=by
 refine Ends.of (ac1 _ k hk (by simp[m.rx]) (by simp[m.pl]) (by show h.2.1.length<=_;rw[m.maps,GW];omega) (by show h.1.length<=_;rw[m.ml];omega)) ?_;have o:=Nx m.mem h.2.1 hk;have e1:(h.2.2.2.1++[(((0,0,0,0),(0,0,0),(0,0,0),((0,0,0,0,0,0,0,0,0,0,0,0,0,0,0,([]:Bytes)),0,0),false,0):bT)])[k]?=some ((0,0,0,0),(0,0,0),(0,0,0),((0,0,0,0,0,0,0,0,0,0,0,0,0,0,0,([]:Bytes)),0,0),false,0):=by rw[<-m.rx];simp
 have e2:∀y:bT,(h.2.2.2.1++[(((0,0,0,0),(0,0,0),(0,0,0),((0,0,0,0,0,0,0,0,0,0,0,0,0,0,0,([]:Bytes)),0,0),false,0):bT)]).set k y=h.2.2.2.1++[y]:=λy=>by rw[<-m.rx];exact Ts _ _ _
 have e3:∀y:cK,(h.2.2.2.2.1++[(((0,0,0,([]:cL))):cK)]).set k y=h.2.2.2.2.1++[y]:=λy=>by rw[<-m.pl];exact Ts _ _ _
 obtain⟨vs,vl,ve,vb⟩:=m.is;have is0:S0 (h.1,h.2.1,h.2.2.1,h.2.2.2.1++[((0,0,0,0),(0,0,0),(0,0,0),((0,0,0,0,0,0,0,0,0,0,0,0,0,0,0,([]:Bytes)),0,0),false,0)],h.2.2.2.2.1++[(0,0,0,([]:cL))],h.2.2.2.2.2.1++[v],h.2.2.2.2.2.2.1++[false],h.2.2.2.2.2.2.2) k=BC f s c (v::vs):=by rw[BC,<-ve,vl]
 unfold S0 at is0⊢;simp only[e1,e2,e3]at is0⊢;have hp:(sN h.2.1 h.1 k).2.2.1.2.2.2.length<=1000:=by unfold sN;exact bA (Ee ..) (nu _ _ _)
 refine⟨o.1,?_,m.maps,m.tx,by show(_++[_]).length=_;rw[ai,m.rx];rfl,?_,by show(_++[_]).length=_;rw[ai,m.pl];rfl,?_,by show(_++[_]).length=_;rw[ai,m.vec];rfl,?_,by show(_++[_]).length=_;rw[ai,m.VO];rfl,m.rest,⟨v::vs,by simp[vl],is0,λw hw=>?_⟩⟩;show(sN h.2.1 h.1 k).1.length=38;rw[Nw,m.ml];intro r hr;rcases ay.1 hr with hr|hr;exact m.rxs r hr;rw[cn.1 hr];exact⟨Tm hk o.2.1 ⟨dC _,dC _⟩,rfl⟩;intro p hp';rcases ay.1 hp' with hp'|hp';exact m.pls p hp';rw[cn.1 hp'];exact⟨o.2.2,hp⟩;intro w hw;rcases ay.1 hw with hw|hw;exact m.TS w hw;rw[cn.1 hw];exact hv;rcases cm.1 hw with e|e;rw[e];exact h3;exact vb w e
structure I7 (h:Host):Prop where
 amt:Good 0 h
 sz:yy 2000 h
 maps:∀m∈h.2.1,m.2.2.1<(h.1.length:Int)
 led:h.2.2.1.2.2.1=[]/\h.2.2.2.2.2.2.2.2.2.2.2.1=[]/\h.2.2.2.2.2.2.2.2.2.2.2.2.1=[]/\h.2.2.2.2.2.2.2.2.2.2.2.2.2.1=[]
 is:∃f s c vs,vs.length<=2/\aa6 h=aa6 (BC f s c vs)/\∀v∈vs,v.2.1<=3/\v.2.2.2.2.1=false
theorem Vu {c:Bool}(m:Made f s c k h)(hk:1<=k/\k<=2)(hf:pT f=true)(Ax:f.2.2.length<=1000)(hs:ff s (k:Int)=true)(hz:uX s):I7 h:=by have h4:=nu 256 128 8;obtain⟨vs,vl,ve,vb⟩:=m.is;obtain⟨m1,m2,m3,m4,m5,m6,m7,m8,m9,m10,m11,m12,_⟩:=m;obtain⟨mem,maps,tx,rx,pl,vec,VO,rest⟩:=h;simp only at m1 m2 m3 m4 m5 m6 m7 m8 m9 m10 m11 m12;subst m12 m3 m4;refine⟨⟨m1,ajh,aej 0 (by omega),hf,?_,by show ff s (rx.length:Int)=true;rw[m5];exact hs,λr hr=>(m6 r hr).1,λp hp=>(m8 p hp).1,m10,?_⟩,⟨?_,?_⟩,?_,⟨rfl,rfl,rfl,rfl⟩,⟨f,s,c,vs,by omega,congrArg aa6 ve,vb⟩⟩;unfold qI;simp only[ae,bh,aV];omega;intro x hx;simp only[ie,cm,List.not_mem_nil,or_false,or_self]at hx;omega;have hm:=(qp.1 m1).1;refine⟨⟨by show mem.length<=2000;omega,λx hx=>by show x.length<=2000;rw[hm x hx];omega⟩,⟨by show(zX 38).length<=2000;rw[GW];omega,λ_ _=>⟨cx,cx,cx,cx⟩⟩,?_,?_,?_,?_,?_,⟨cx,cx,by show f.2.2.length<=2000;omega,λ_ _=>trivial⟩,?_,⟨bO _,λx hx=>by cases hx⟩,cx,⟨bO _,λx hx=>by cases hx⟩,⟨bO _,λx hx=>by cases hx⟩,⟨bO _,λx hx=>by cases hx⟩,cx,cx,cx,cx,cx⟩;exact⟨⟨cx,cx,cx,cx⟩,⟨cx,cx,cx,by show List.length (gS 256 128 8).1.2.2.2<=2000;omega,λ_ _=>trivial⟩,⟨bO _,λx hx=>by cases hx⟩,cx⟩;refine⟨by show rx.length<=2000;omega,λx hx=>?_⟩;have e:=(m6 x hx).1.free (m6 x hx).2;refine⟨⟨cx,cx,cx,cx⟩,⟨cx,cx,cx⟩,⟨cx,cx,cx⟩,?_,cx,cx⟩;rw[e];exact⟨⟨cx,cx,cx,cx,cx,cx,cx,cx,cx,cx,cx,cx,cx,cx,cx,bO _⟩,cx,cx⟩;exact⟨by show pl.length<=2000;omega,λx hx=>⟨cx,cx,cx,by have:=(m8 x hx).2;show x.2.2.2.length<=2000;omega,λ_ _=>trivial⟩⟩;exact⟨by show vec.length<=2000;omega,λx hx=>⟨cx,cx,cx,cx,cx,cx⟩⟩;exact⟨by show VO.length<=2000;omega,λx hx=>trivial⟩;exact⟨⟨by have:=hz.r;show s.1.length<=2000;omega,λ_ _=>⟨cx,cx,cx,cx,cx,cx,cx,cx,cx⟩⟩,⟨by have:=hz.t;show s.2.1.length<=2000;omega,λ_ _=>⟨cx,⟨cx,cx,cx,cx,cx⟩,cx⟩⟩,by have:=hz.k;show s.2.2.1.length<=2000;omega,by have:=hz.p;show s.2.2.2.length<=2000;omega,λ_ _=>trivial⟩;show List.length (gS 256 128 8).1.2.2.2+0<=2000;omega;intro m hm;have hm:m∈zX 38:=hm;simp only[zX,List.mem_map,bW]at hm;obtain⟨i,hi,rfl⟩:=hm;show 37-(i:Int)<(mem.length:Int);omega
theorem ZN (h:(wE a b).2=true):ez (wE a b).1=true:=by unfold wE at h⊢;cases hv:ez (a,b,0,0,false,false)with|false=>rw[hv]at h;cases h|true=>exact hv
theorem acp (h:(wE a b).2=true)(hb:b<=3):(wE a b).1.2.1<=3/\(wE a b).1.2.2.2.2.1=false:=by unfold wE at h⊢;cases hv:ez (a,b,0,0,false,false)with|false=>rw[hv]at h;cases h|true=>exact⟨hb,rfl⟩
theorem KU (q:Int)(f:Filter)(s:cV)(c:Bool)(a b:Int)(hf:f.2.2.length<=1000)(hs:uX s)(hb3:b<=3):Ends (tZ q f s c a b) λr=>(r.2=true->I7 r.1)/\((1<=q/\q<=2)->pT f=true->ff s q=true->(wE a b).2=true->r.2=true):=by
 have z1:=hs.r;have z2:=hs.t;have z3:=hs.p;unfold tZ;rw[Wb,ab,ei,ab];refine Ends.bind (P:=λx=>(x=false->(1<=q/\q<=2)/\pT f=true/\ff s q=true/\(wE a b).2=true)/\(x=true->(1<=q/\q<=2)->pT f=true->ff s q=true->(wE a b).2=true->False)) ?_ λx hx=>Ends.cond (λXc=>Ends.pure ⟨(λh=>by cases h),λg1 g2 g3 g4=>(hx.2 Xc g1 g2 g3 g4).elim⟩) λh=>?_;refine Ends.cond (λk=>Ends.pure ⟨(λh=>by cases h),λ_ g1 _ _ _=>by rw[bh.2 g1]at k;cases k⟩) λh1=>?_;rw[V8 f (by omega),ab];refine Ends.cond (λk=>Ends.pure ⟨(λh=>by cases h),λ_ _ g2 _ _=>by rw[g2]at k;cases k⟩) λh2=>?_;rw[Qi s q (by omega) (by omega) (by omega),ab];refine Ends.cond (λk=>Ends.pure ⟨(λh=>by cases h),λ_ _ _ g3 _=>by rw[g3]at k;cases k⟩) λh3=>Ends.pure ⟨λh4=>?_,λk _ _ _ g4=>by rw[g4]at k;cases k⟩;exact⟨bh.1 (by simpa using h1),by simpa using h2,by simpa using h3,by simpa using h4⟩;obtain⟨hq,h1,h2,h3⟩:=hx.1 h;have hm:pM 38=some (Iy 38):=Wa 38 (by omega);rw[hm,ab,aax,ab,Ln f (by omega),ab,Mt s (by omega) (by omega) (by omega),ab];have hv:=ZN h3;refine Ends.wc (λx=>0<=x.1/\x.1<=38/\x.2=Xa f s c x.1.toNat) (λx=>(38-x.1).toNat) ⟨by simp,by simp,rfl⟩ (by simp) λx nx hx hn=>?_;obtain⟨i,y⟩:=x;obtain⟨x1,x2,x3⟩:=hx;simp only at x1 x2 x3;unfold wG;refine Ends.cond (λk=>?_) λk=>?_;have k:=bk k;have hl:=GW i.toNat;simp only at k;rw[ei,ab];simp only;rw[ak (n:=i+1),ak (n:=37-i)];subst x3;refine Ends.room (by show(zX i.toNat).length+1<=_;omega) (hn _ ⟨by show 0<=i+1;omega,by show i+1<=38;omega,?_⟩ (by show(38-(i+1)).toNat<(38-i).toNat;omega));have e:(i+1).toNat=i.toNat+1:=by omega
 show(Iy 38,zX i.toNat++_,_)=Xa f s c (i+1).toNat;rw[e];unfold Xa;rw[Vv,show((i.toNat:Nat):Int)=i by omega];have k:=fP k;simp only at k;have e:i.toNat=38:=by omega
 rw[e]at x3;have hm0:Made f s c 0 y:=by rw[x3];exact⟨afl (by omega),by show(Iy 38).length=38;simp[Iy],rfl,rfl,rfl,(λ_ hr=>by cases hr),rfl,(λ_ hr=>by cases hr),rfl,(λ_ hr=>by cases hr),rfl,rfl,⟨[],rfl,rfl,λ_ hv=>by cases hv⟩⟩
 simp only;refine Ends.wc (λx=>0<=x.1/\x.1<=q/\Made f s c x.1.toNat x.2) (λx=>(q-x.1).toNat) ⟨by simp,by show(0:Int)<=q;omega,hm0⟩ (by simp;omega) λx nx hx hn=>?_;obtain⟨i,y⟩:=x;obtain⟨x1,x2,m⟩:=hx;simp only at x1 x2 m;unfold uQ;refine Ends.cond (λk=>?_) λk=>Ends.pure ⟨λ_=>?_,λ_ _ _ _=>rfl⟩;have k:=bk k;simp only at k;have l1:=m.rx;have l2:=m.pl;have l3:=m.vec;have l4:=m.VO;refine Ends.room (by simp;omega) (Ends.room (by simp;omega) (Ends.room (by simp;omega) (Ends.room (by simp;omega) ?_)));have ho:=Zt m (by omega) hv (acp h3 hb3);rw[show((i.toNat:Nat):Int)=i by omega]at ho;refine ho.bind λr hr=>?_;simp only;rw[ak (n:=i+1)];refine hn _ ⟨by show 0<=i+1;omega,by show i+1<=q;omega,?_⟩ (by show(q-(i+1)).toNat<(q-i).toNat;omega);show Made f s c (i+1).toNat r.2;rw[show(i+1).toNat=i.toNat+1 by omega];exact hr;have k:=fP k;simp only at k;have hi:i=q:=by omega
 subst hi;exact Vu m (by omega) h1 hf (by rw[show((i.toNat:Nat):Int)=i by omega];exact h2) hs
def BM (a:Act):Prop:=a.2.1.2.2.2.2.2.2.2.2.2.2.2.2.2.2.2.length<=1000/\a.2.2.2.2.1.length<=382/\0<=a.1/\a.1<=6
theorem EU {a:Act}(h:BM a):(l++[a]).length<=l.length+1/\∀y∈l++[a],y∈l\/BM y:=by refine⟨by simp,λy hy=>?_⟩;rcases ay.1 hy with hy|hy;exact Or.inl hy;rw[cn.1 hy];exact Or.inr h
theorem Ua {Q:R->Prop}{k0:aw Act->N3->ax R}{x:Int}{b:Bool}(hl:l.length<=1000)(hc:Cu c)(hk:∀l' c',l'.length<=l.length+1->(∀y∈l',y∈l\/BM y)->Cu c'->Ends (k0 l' c') Q):Ends (kf k0 r l ps i x b c) Q:=by
 have add:∀(a:Act)(c':N3),BM a->Cu c'->Ends (k0 (l++[a]) c') Q:=λa c' ha wQ=>by have k:=EU (l:=l) (a:=a) ha;exact hk _ _ k.1 k.2 wQ
 have keep:∀c',Cu c'->Ends (k0 l c') Q:=λc' wQ=>hk _ _ (by omega) (λy hy=>Or.inl hy) wQ;unfold kf;refine Ends.cond (λ_=>(gw hc (by decide)).bind λr9 p9=>Ends.room (by simp;omega) (by exact add _ _ (by simp[BM]) p9.2)) λ_=>?_;refine Ends.cond (λ_=>(Nz hc).bind λpQ p10=>(gw p10.2 (by decide)).bind λuB p11=>(iE (P:=λ_=>True) p11.2 (by decide) (by simp)).bind λsB p12=>Ends.room (by simp;omega) (by exact add _ _ ⟨by have:=p10.1.2.1;show pQ.1.2.2.2.2.2.2.2.2.2.2.2.2.2.2.2.length<=1000;omega,by simp⟩ p12.2)) λ_=>?_;refine Ends.cond (λ_=>Ends.room (by simp;omega) (by exact add _ _ (by simp[BM]) hc)) λ_=>?_;exact Ends.cond (λ_=>Ends.cond (λ_=>Ends.room (by simp;omega) (by exact add _ _ (by simp[BM]) hc)) λ_=>keep _ hc) λ_=>keep _ hc
theorem aaV {Q:R->Prop}{k0:aw Act->N3->ax R}{x:Int}{b:Bool}(hl:l.length<=1000)(hc:Cu c)(hk:∀l' c',l'.length<=l.length+1->(∀y∈l',y∈l\/BM y)->Cu c'->Ends (k0 l' c') Q):Ends (mV k0 r l ps i x b c) Q:=by unfold mV;refine Ends.cond (λ_=>Ends.room (by simp;omega) ?_) λ_=>?_;have k:=EU (l:=l) (a:=(4,(0,0,0,0,0,0,0,0,0,0,0,0,0,0,0,([]:Bytes)),0,0,([]:Bytes),0)) (by simp[BM]);exact hk _ _ k.1 k.2 hc;exact Ends.cond (λ_=>Ua hl hc hk) λ_=>Ends.cond (λ_=>Ua hl hc hk) λ_=>Ua hl hc hk
theorem af5 {Q:R->Prop}{k0:aw Act->N3->ax R}(hl:l.length<=900)(hx:x.length<=382)(hc:Cu c)(hk:∀l' c',l'.length<=l.length+2->(∀y∈l',y∈l\/BM y)->Cu c'->Ends (k0 l' c') Q):Ends (od k0 r l ps i x c) Q:=by unfold od;have k:=EU (l:=l) (a:=(2,(0,0,0,0,0,0,0,0,0,0,0,0,0,0,0,([]:Bytes)),0,0,x,0)) ⟨by simp,hx,by simp,by simp⟩;generalize hL:l++[((2,(0,0,0,0,0,0,0,0,0,0,0,0,0,0,0,([]:Bytes)),0,0,x,0):Act)]=L at k⊢;have hk2:∀l' c',l'.length<=L.length+1->(∀y∈l',y∈L\/BM y)->Cu c'->Ends (k0 l' c') Q:=λl' c' h1 h2 h3=>hk _ _ (by omega) (λy hy=>by rcases h2 y hy with h|h;exact k.2 y h;exact Or.inr h) h3;refine Ends.room (by simp;omega) ((gw hc (by decide)).bind λr8 p8=>?_);refine Ends.cond (λ_=>Ends.room (by simp;omega) ?_) λ_=>?_;have k:=EU (l:=L) (a:=(3,(0,0,0,0,0,0,0,0,0,0,0,0,0,0,0,([]:Bytes)),0,0,([]:Bytes),0)) (by simp[BM]);exact hk2 _ _ k.1 k.2 p8.2;exact Ends.cond (λ_=>aaV (by omega) p8.2 hk2) λ_=>aaV (by omega) p8.2 hk2
theorem akY {Q:R->Prop}{k0:aw Act->Int->N3->ax R}(hl:l.length<=900)(h0:0<=i)(h1:i<(ps.length:Int))(hn:ps.length<=1000)(hc:Cu c)(hk:∀l' c',l'.length<=l.length+2->(∀y∈l',y∈l\/BM y)->Cu c'->Ends (k0 l' (i+1) c') Q):Ends (so k0 r l ps i c) Q:=by
 have e:aq (i+1)=i+1:=ak;unfold so;refine Ends.idx h0 h1 λhi=>?_;have hf:=M0 ps[i.toNat];rw[aar,ab];refine(vB hc 12).bind λr4 p4=>Ends.cond (λ_=>?_) λ_=>af5 hl hf p4 λl' c' g1 g2 g3=>by unfold oc;rw[e];exact hk _ _ g1 g2 g3
 refine(EW p4 _).bind λr5 p5=>(Gd p5.2 1).bind λr6 p6=>?_;rw[F5 _ _ _,ab];exact af5 hl (by rw[wj];exact hf) p6.2 λl' c' g1 g2 g3=>by unfold oc;rw[e];exact hk _ _ g1 g2 g3
theorem aew (h:Cu c)(r:Bool):Ends (xw c r) λx=>(x.1.length<=20/\∀a∈x.1,BM a)/\Cu x.2:=by unfold xw;refine(afi h (m:=10) (by omega) (by omega)).bind λr1 p1=>?_;have hn:=p1.1.2.2;refine Ends.wc (λx=>0<=x.2.1/\(x.1.length:Int)<=2*x.2.1/\x.2.1<=(r1.1.length:Int)/\(∀a∈x.1,BM a)/\Cu x.2.2) (λx=>((r1.1.length:Int)-x.2.1).toNat) ⟨by simp,by simp,by simp,by simp,p1.2⟩ (by simp;omega) λx nx hx hn=>?_;unfold wM;refine Ends.cond (λk=>?_) λk=>Ends.pure ⟨⟨by have:=hx.2.1;have:=hx.2.2.1;show x.1.length<=20;omega,hx.2.2.2.1⟩,hx.2.2.2.2⟩;have k:=bk k;have h2:=hx.2.1;refine akY (by omega) hx.1 k (by omega) hx.2.2.2.2 λl' c' g1 g2 g3=>hn _ ⟨?_,?_,?_,?_,g3⟩ ?_;show 0<=x.2.1+1;have:=hx.1;omega;show(l'.length:Int)<=2*(x.2.1+1);omega;show x.2.1+1<=(r1.1.length:Int);omega;intro a ha;rcases g2 a ha with h|h;exact hx.2.2.2.1 a h;exact h;show((r1.1.length:Int)-(x.2.1+1)).toNat<((r1.1.length:Int)-x.2.1).toNat;omega
theorem afj (n x:Int)(h0:0<=n)(h1:n<=1000000):Ends (im n x) λr=>(r.length:Int)=n:=by unfold im;rw[aF ⟨h0,dC _⟩];refine Ends.room (by omega) (Ends.wc (λy=>(y.1.length:Int)=n/\0<=y.2/\y.2<=n) (λy=>(n-y.2).toNat) ⟨by simp;omega,by simp,h0⟩ (by simp;omega) λy nx hy hn=>?_);unfold nW;refine Ends.cond (λk=>?_) λk=>Ends.pure (by simp[aJ];exact hy.1);have k:=bk k;rw[ak (n:=y.2+1)];refine Ends.idx hy.2.1 (by omega) λ_=>Ends.idx hy.2.1 (by omega) λ_=>hn _ ⟨?_,?_,?_⟩ ?_;show((List.set _ _ _).length:Int)=n;rw[aC];exact hy.1;show 0<=y.2+1;omega;show y.2+1<=n;omega;show(n-(y.2+1)).toNat<(n-y.2).toNat;omega
theorem SY:lL=some (List.replicate 8 (0,(0,0,0,0,0),0)):=by unfold lL;rw[aF (by decide),aS (by decide)];rfl
theorem Vp {k:Bytes}(hk:k.length=16):ff (([]:aw iH),List.replicate 8 (0,(0,0,0,0,0),0),k,[0]) 1=true:=by
 have ht:nH (List.replicate 8 (0,(0,0,0,0,0),0))=true:=by decide+kernel
 have hs:qD (k,[0]) 1=true:=by unfold qD;simp only[hk];decide+kernel
 unfold ff;rw[show wF ([]:aw iH)=true from rfl,ht,hs];rfl
theorem YB (h:Cu c):Ends (xv c) λr=>I7 r.1/\Cu r.2:=by
 unfold xv;refine Ends.wc (λx=>0<=x.1/\x.1<=4/\Cu x.2) (λx=>(4-x.1).toNat) ⟨by simp,by simp,h⟩ (by simp) λx nx hx hn=>?_;unfold wK;refine Ends.cond (λk=>?_) λk=>?_;have k:=bk k;refine(ac5 hx.2.2).bind λr1 p1=>?_;refine Ends.wc (λy=>0<=y.1/\uX y.2) (λy=>((y.2.1.length:Int)-y.1).toNat) ⟨by simp,p1.1.1⟩ (by have:=p1.1.1.r;simp;omega) λy ny hy hm=>?_;unfold wL;refine Ends.cond (λk2=>?_) λk2=>?_;have k2:=bk k2;have hr:=hy.2.r;rw[ak (n:=y.1+1)];refine Ends.idx hy.1 k2 λ_=>Ends.idx hy.1 k2 λ_=>hm _ ⟨?_,⟨?_,hy.2.t,hy.2.k,hy.2.p⟩⟩ ?_;show 0<=y.1+1;have:=hy.1;omega;show(List.set _ _ _).length<=100;rw[aC];exact hr;show(((List.set _ _ _).length:Int)-(y.1+1)).toNat<_;rw[aC];omega;refine(Rx p1.2).bind λr6 p6=>(gw p6.2 (by decide)).bind λr7 p7=>(gw p7.2 (by decide)).bind λr8 p8=>(gw p8.2 (by decide)).bind λr9 p9=>?_;have hf:r6.1.2.2.length<=1000:=by rcases p6.1.2 with e|e<;>rw[e]<;>simp
 refine(KU _ _ _ _ _ _ hf hy.2 (by have:=p9.1;omega)).bind λpQ p10=>Ends.cond (λk3=>Ends.pure ⟨p10.1 k3,p9.2⟩) λ_=>?_;rw[ak (n:=x.1+1) (by omega) (by have:=hx.2.1;omega)];refine hn _ ⟨by show 0<=x.1+1;have:=hx.1;omega,by show x.1+1<=4;omega,p9.2⟩ (by show(4-(x.1+1)).toNat<(4-x.1).toNat;omega);simp only[SY,ab];refine(afj 16 5 (by omega) (by omega)).bind λXw p14=>?_;refine(KU 1 (2,false,([]:cL)) (([]:aw iH),List.replicate 8 (0,(0,0,0,0,0),0),Xw,[0]) true 1 0 (by simp) ⟨by simp,by simp,by show Xw.length=16;omega,by simp⟩ (by omega)).bind λAX p15=>Ends.pure ⟨p15.1 (p15.2 (by omega) (by decide+kernel) (Vp (by omega)) (by decide+kernel)),hx.2.2⟩
def TV (h:Host)(s:aw Stream):Host:=(h.1,h.2.1,h.2.2.1,h.2.2.2.1,h.2.2.2.2.1,h.2.2.2.2.2.1,h.2.2.2.2.2.2.1,h.2.2.2.2.2.2.2.1,h.2.2.2.2.2.2.2.2.1,s,h.2.2.2.2.2.2.2.2.2.2)
theorem L1 (f:I7 h){s:aw Stream}(h1:s.length<=2000)(h2:∀x∈s,x.2.2.1=[]):I7 (TV h s):=by have g:=f.amt;have z:=f.sz.z;refine⟨⟨g.mem,g.maps,g.tx,g.IP,g.lens,g.Qm,g.rx,g.pool,g.vec,g.EK⟩,⟨⟨z.1,z.2.1,z.2.2.1,z.2.2.2.1,z.2.2.2.2.1,z.2.2.2.2.2.1,z.2.2.2.2.2.2.1,z.2.2.2.2.2.2.2.1,z.2.2.2.2.2.2.2.2.1,⟨h1,λx hx=>?_⟩,z.2.2.2.2.2.2.2.2.2.2⟩,f.sz.t⟩,f.maps,f.led,f.is⟩;refine⟨⟨cx,cx,cx,cx,cx⟩,cx,?_,cx⟩;show x.2.2.1.length<=2000;rw[h2 x hx];simp
theorem UK (h:Cu c)(hl:l.length<=20)(ha:∀a∈l,BM a):Ends (vQ c l) λr=>I7 r.1/\Cu r.2:=by unfold vQ;refine(YB h).bind λr1 p1=>?_;refine Ends.wc (λx=>0<=x.2/\(x.1.length:Int)<=x.2/\x.2<=(l.length:Int)) (λx=>((l.length:Int)-x.2).toNat) ⟨by simp,by simp,by simp⟩ (by simp;omega) λx nx hx hn=>?_;unfold uT;refine Ends.cond (λk=>?_) λk=>?_;have k:=bk k;rw[ak (n:=x.2+1)];refine Ends.idx hx.1 k λhi=>?_;have Xc:=ha _ (bm hi);replace Xc:=Xc.2.1;rw[aau _ (by omega),ab];refine Ends.cond (λ_=>Ends.room (by simp;omega) (hn _ ⟨?_,?_,?_⟩ ?_)) λ_=>hn _ ⟨?_,?_,?_⟩ ?_;show 0<=x.2+1;omega;show((x.1++[_]).length:Int)<=x.2+1;simp;omega;show x.2+1<=_;omega;show((l.length:Int)-(x.2+1)).toNat<_;omega;show 0<=x.2+1;omega;show(x.1.length:Int)<=x.2+1;omega;show x.2+1<=_;omega;show((l.length:Int)-(x.2+1)).toNat<_;omega;exact(afy p1.2 (by omega)).bind λr6 p6=>Ends.pure ⟨L1 p1.1 (by omega) p6.1.2,p6.2⟩
theorem Wp {a:cL}(ha:a.length<=1048576):Ends (qs a) λr=>I7 r.1/\r.2.length<=20/\∀x∈r.2,BM x:=by unfold qs;exact(ajs ha).bind λr1 p1=>(aew p1 true).bind λr2 p2=>(UK p2.2 p2.1.1 p2.1.2).bind λr3 p3=>Ends.pure ⟨p3.1,p2.1.1,p2.1.2⟩
structure mw (a b:Host):Prop where
 maps:b.2.1=a.2.1
 mem:b.1.length=a.1.length
theorem mw.refl (a:Host):mw a a:=⟨rfl,rfl⟩
theorem mw.trans {a b c:Host}(h:mw a b)(g:mw b c):mw a c:=⟨g.maps.trans h.maps,g.mem.trans h.mem⟩
theorem mw.of {a b:Host}(h:kg k a b):mw a b:=⟨h.maps,h.mem⟩
theorem afP (l:aw aA)(m:ca)(d:Int)(q:bT)(k s:Bytes):(gX l m d q k s).1.length=m.length:=by
 unfold gX;cases !(cP s).2||(((cP s).1.1 !=3)||decide ((cP s).1.2.2.1<((dy q.2.2.2.1.1).1.length:Int)))with|true=>rfl|false=>?_
 cases (gZ l m d (cP s).1.2.2.2.1 (dy q.2.2.2.1.1).1 true).2 with
 |false=>rfl
 |true=>
  simp only[af,aj];unfold yU;cases !fF q.2.1|| !xP _ with|true=>exact jC ..|false=>?_
  cases (gZ l (gZ l m d (cP s).1.2.2.2.1 (dy q.2.2.2.1.1).1 true).1 d (qK q.2.1) _ true).2 with|false=>exact jC ..|true=>exact(jC ..).trans (jC ..)
theorem Pe (l:aw aA)(m:ca)(d:Int)(q:bT)(k:Bytes):(iB l m d q k).1.length=m.length:=by
 unfold iB;cases !EP q||(!q.2.2.2.2.1||((k.length:Int) !=16))with|true=>rfl|false=>?_
 cases (bl l m d q.1).2.2&&(gX l m d q k (bl l m d q.1).1).2.2 with|true=>exact afP ..|false=>rfl
theorem aaZ (l:aw aA)(m:ca)(d:Int)(q:bT)(k:Bytes)(p:aO)(c:Bool):(kU l m d q k p c).1.length=m.length:=by
 unfold kU;cases !EP q||(!fV p||((k.length:Int) !=16))with|true=>rfl|false=>?_
 cases c&&(q.2.2.2.2.1&&Gw q.2.2.2.1 p)with|true=>rfl|false=>?_
 cases c with|true=>exact Pe ..|false=>exact(Pe ..).trans (Pe ..)
theorem acU (l:aw aA)(m:ca)(d:Int)(t:dG)(p:aO)(c z:Int):(uM l m d t p c z).1.length=m.length:=by
 unfold uM;cases LH t&&(dw p&&(dm z 1 t.2.1.2.1&&dm c 1 128))with|false=>rfl|true=>?_
 cases HA t (xO p z.toNat)with|false=>rfl|true=>?_
 simp only[ah];cases hw:vU l d t.2.1 z.toNat (jV t.2.1 (xO p z.toNat:Int)).2.1 (jR p).1 m []with|none=>rfl|some x=>have hx:=(E6 _ _ _ _ _ _ _ _ hw).1;simp only;unfold Lk tS;cases hp:qq l d ((pt x.1 c t.2.2.2).map wT) x.2 t.1 with|none=>rfl|some y=>exact(HT _ _ _ _ _ hp).trans hx
theorem aaB (h:Host)(p:aO)(c z:Int):mw h (Af h p c z).1:=by unfold Af;cases dW h with|false=>exact mw.refl h|true=>exact⟨rfl,acU ..⟩
theorem Mv (h:Host):mw h (mW h):=by unfold mW;cases dW h with|false=>exact mw.refl h|true=>exact⟨rfl,rfl⟩
theorem Wg (h:Host):mw h (xU h):=by unfold xU;cases dW h with|false=>exact mw.refl h|true=>exact mw.of (qE yL h _)
theorem aaC (h:Host):mw h (Aj h):=by unfold Aj;cases dW h with|false=>exact mw.refl h|true=>exact mw.of (qE Bk h _)
theorem Ql (h:Host)(b:Int):mw h (pK h b).1:=by unfold pK;cases dW h&&dm b 1 1000 with|false=>exact mw.refl h|true=>exact mw.of (Ag b h _)
theorem Qk (h:Host)(x:Bytes):mw h (nT h x):=by
 unfold nT;cases dW h with|false=>exact mw.refl h|true=>?_
 cases (rm x).2 !=0 with|true=>exact⟨rfl,rfl⟩|false=>?_
 cases !xL h.2.2.2.2.2.2.2.1 (rm x).1 with|true=>exact⟨rfl,rfl⟩|false=>?_
 cases ur h.2.2.2.2.2.2.2.2.1 (h.2.2.2.1.length:Int) (rm x).1== -1 with|true=>exact⟨rfl,rfl⟩|false=>?_
 simp only[aj,af];cases hq:h.2.2.2.1[(ur h.2.2.2.2.2.2.2.2.1 (h.2.2.2.1.length:Int) (rm x).1).toNat]? with|none=>exact mw.refl h|some q=>exact mw.trans (b:=zi h _ _ _ _) ⟨rfl,rfl⟩ (mw.of (CP (aaZ ..)))
theorem Ga (h:Host):∀k,mw h (tR h k)
 |0=>mw.refl h
 |k+1=>by
  refine(Ga h k).trans ?_;show mw (tR h k) (yk (tR h k) k 1000).2;generalize tR h k=s;unfold yk;cases s.2.2.2.1[k]? with|none=>exact mw.refl s|some rx=>?_
  cases s.2.2.2.2.1[k]? with|none=>exact mw.refl s|some pl=>?_
  exact⟨rfl,Xs ..⟩
theorem DY (h:Host):∀k,mw h (returned h k)
 |0=>Ga h _
 |k+1=>by refine(DY h k).trans ?_;show mw (returned h k) (P5 h.2.2.1.2.2.1 k (returned h k));unfold P5;cases h.2.2.1.2.2.1[k]? with|none=>exact mw.refl _|some x=>exact⟨rfl,rfl⟩
theorem Wh (h:Host):mw h (zA h):=by unfold zA;cases dW h with|false=>exact mw.refl h|true=>have k:=vC (rG h) h.2.2.2.1.length;have r:=DY h h.2.2.1.2.2.1.length;exact⟨k.maps.trans r.maps,k.mem.trans r.mem⟩
theorem ac4 (h:Host)(a:Act):mw h (zg h a).1:=by
 unfold zg;cases !dW h|| !QI a with|true=>exact mw.refl h|false=>?_
 simp only[af];cases a.1==0 with|true=>exact aaB ..|false=>?_
 cases a.1==1 with|true=>exact Mv h|false=>?_
 cases a.1==2 with|true=>exact Qk ..|false=>?_
 cases a.1==3 with|true=>exact Wg h|false=>?_
 cases a.1==4 with|true=>exact aaC h|false=>?_
 cases a.1==5 with|true=>exact Ql ..|false=>exact Wh h
theorem XA (h:Host)(l m:aw Act):rn h (l++m)=((rn (rn h l).1 m).1,(rn h l).2++(rn (rn h l).1 m).2):=by
 have acc:∀(m:aw Act)(s:Host×cL),m.foldl TE s=((rn s.1 m).1,s.2++(rn s.1 m).2):=by intro m;induction m with|nil=>intro s;show s=(s.1,s.2++[]);rw[bR]|cons a m ih=>intro s;have e:rn s.1 (a::m)=m.foldl TE ((zg s.1 a).1,[(zg s.1 a).2]):=rfl;rw[List.foldl_cons,ih,e,ih];show((rn (zg s.1 a).1 m).1,(s.2++[(zg s.1 a).2])++_)=_;rw[aP];rfl
 show(l++m).foldl TE (h,[])=_;rw[List.foldl_append,acc m];rfl
theorem Kb:∀(l:aw Act){n:Int}{h:Host},n+641*(l.length:Int)<=100000000000->Good n h->Good (n+641*(l.length:Int)) (rn h l).1/\mw h (rn h l).1/\(rn h l).2.length=l.length
 |[],n,h,_,g=>⟨g.mono (by simp),mw.refl h,rfl⟩
 |a::l,n,h,hn,g=>by simp only[bB]at hn;have e:rn h (a::l)=((rn (zg h a).1 l).1,[(zg h a).2]++(rn (zg h a).1 l).2):=XA h [a] l;have i:=Kb l (n:=n+641) (by omega) (abr (by omega) g a);rw[e];refine⟨i.1.mono (by simp only[bB];push_cast;omega),(ac4 h a).trans i.2.1,?_⟩;show([_]++_).length=_;rw[ai,i.2.2,bt,bB];omega
theorem Sr (a b:ca)(h:a.length<=10^9):mn a b=some (xR a b):=by unfold mn;refine vc (λx y=>x==y) (λx y=>aV) a b h (λhl i hi ng nx=>?_) (λnx=>?_);simp only[jP];rw[kK,bn hi,bn ng,ak];rfl;simp only[jP];rw[jj];rfl
theorem YJ (a b:aw Bool)(h:a.length<=10^9):pa a b=some (xR a b):=by unfold pa;refine vc (λx y=>x==y) (λx y=>aV) a b h (λhl i hi ng nx=>?_) (λnx=>?_);simp only[ly];rw[kK,bn hi,bn ng,ak];rfl;simp only[ly];rw[jj];rfl
def ajO (x1 x2:bT):Bool:=(x1.1.1==x2.1.1)&&((x1.1.2.1==x2.1.2.1)&&((x1.1.2.2.1==x2.1.2.2.1)&&((x1.1.2.2.2==x2.1.2.2.2)&&((x1.2.1.1==x2.2.1.1)&&((x1.2.1.2.1==x2.2.1.2.1)&&((x1.2.1.2.2==x2.2.1.2.2)&&((x1.2.2.1.1==x2.2.2.1.1)&&((x1.2.2.1.2.1==x2.2.2.1.2.1)&&((x1.2.2.1.2.2==x2.2.2.1.2.2)&&((x1.2.2.2.1.1.1==x2.2.2.2.1.1.1)&&((x1.2.2.2.1.1.2.1==x2.2.2.2.1.1.2.1)&&((x1.2.2.2.1.1.2.2.1==x2.2.2.2.1.1.2.2.1)&&((x1.2.2.2.1.1.2.2.2.1==x2.2.2.2.1.1.2.2.2.1)&&((x1.2.2.2.1.1.2.2.2.2.1==x2.2.2.2.1.1.2.2.2.2.1)&&((x1.2.2.2.1.1.2.2.2.2.2.1==x2.2.2.2.1.1.2.2.2.2.2.1)&&((x1.2.2.2.1.1.2.2.2.2.2.2.1==x2.2.2.2.1.1.2.2.2.2.2.2.1)&&((x1.2.2.2.1.1.2.2.2.2.2.2.2.1==x2.2.2.2.1.1.2.2.2.2.2.2.2.1)&&((x1.2.2.2.1.1.2.2.2.2.2.2.2.2.1==x2.2.2.2.1.1.2.2.2.2.2.2.2.2.1)&&((x1.2.2.2.1.1.2.2.2.2.2.2.2.2.2.1==x2.2.2.2.1.1.2.2.2.2.2.2.2.2.2.1)&&((x1.2.2.2.1.1.2.2.2.2.2.2.2.2.2.2.1==x2.2.2.2.1.1.2.2.2.2.2.2.2.2.2.2.1)&&((x1.2.2.2.1.1.2.2.2.2.2.2.2.2.2.2.2.1==x2.2.2.2.1.1.2.2.2.2.2.2.2.2.2.2.2.1)&&((x1.2.2.2.1.1.2.2.2.2.2.2.2.2.2.2.2.2.1==x2.2.2.2.1.1.2.2.2.2.2.2.2.2.2.2.2.2.1)&&((x1.2.2.2.1.1.2.2.2.2.2.2.2.2.2.2.2.2.2.1==x2.2.2.2.1.1.2.2.2.2.2.2.2.2.2.2.2.2.2.1)&&((x1.2.2.2.1.1.2.2.2.2.2.2.2.2.2.2.2.2.2.2.1==x2.2.2.2.1.1.2.2.2.2.2.2.2.2.2.2.2.2.2.2.1)&&((x1.2.2.2.1.1.2.2.2.2.2.2.2.2.2.2.2.2.2.2.2==x2.2.2.2.1.1.2.2.2.2.2.2.2.2.2.2.2.2.2.2.2)&&((x1.2.2.2.1.2.1==x2.2.2.2.1.2.1)&&((x1.2.2.2.1.2.2==x2.2.2.2.1.2.2)&&((x1.2.2.2.2.1==x2.2.2.2.2.1)&&((x1.2.2.2.2.2==x2.2.2.2.2.2)&&true)))))))))))))))))))))))))))))
theorem acP (x y:bT):ajO x y=true↔x=y:=by obtain⟨⟨a1,a2,a3,a4⟩,⟨a5,a6,a7⟩,⟨a8,a9,a10⟩,⟨⟨b1,b2,b3,b4,b5,b6,b7,b8,b9,b10,b11,b12,b13,b14,b15,b16⟩,b17,b18⟩,a11,a12⟩:=x;obtain⟨⟨c1,c2,c3,c4⟩,⟨c5,c6,c7⟩,⟨c8,c9,c10⟩,⟨⟨d1,d2,d3,d4,d5,d6,d7,d8,d9,d10,d11,d12,d13,d14,d15,d16⟩,d17,d18⟩,c11,c12⟩:=y;simp only[ajO,dR,ae,aV,Prod.mk.injEq,and_assoc]
theorem ae3 (a b:aw bT)(h:a.length<=10^9):lv a b=some (xR a b):=by unfold lv;refine vc ajO acP a b h (λhl i hi ng nx=>?_) (λnx=>?_);simp only[jq];rw[kK,bn hi,bn ng,ak];rfl;simp only[jq];rw[jj];rfl
def aen (x1 x2:Vector):Bool:=(x1.1==x2.1)&&((x1.2.1==x2.2.1)&&((x1.2.2.1==x2.2.2.1)&&((x1.2.2.2.1==x2.2.2.2.1)&&((x1.2.2.2.2.1==x2.2.2.2.2.1)&&((x1.2.2.2.2.2==x2.2.2.2.2.2)&&true)))))
theorem aaK (x y:Vector):aen x y=true↔x=y:=by obtain⟨a1,a2,a3,a4,a5,a6⟩:=x;obtain⟨c1,c2,c3,c4,c5,c6⟩:=y;simp only[aen,dR,ae,aV,Prod.mk.injEq,and_assoc]
theorem Ss (a b:aw Vector)(h:a.length<=10^9):mj a b=some (xR a b):=by unfold mj;refine vc aen aaK a b h (λhl i hi ng nx=>?_) (λnx=>?_);simp only[jO];rw[kK,bn hi,bn ng,ak];rfl;simp only[jO];rw[jj];rfl
def VY (x1 x2:iH):Bool:=(x1.1==x2.1)&&((x1.2.1==x2.2.1)&&((x1.2.2.1==x2.2.2.1)&&((x1.2.2.2.1==x2.2.2.2.1)&&((x1.2.2.2.2.1==x2.2.2.2.2.1)&&((x1.2.2.2.2.2.1==x2.2.2.2.2.2.1)&&((x1.2.2.2.2.2.2.1==x2.2.2.2.2.2.2.1)&&((x1.2.2.2.2.2.2.2.1==x2.2.2.2.2.2.2.2.1)&&((x1.2.2.2.2.2.2.2.2==x2.2.2.2.2.2.2.2.2)&&true))))))))
theorem VZ (x y:iH):VY x y=true↔x=y:=by obtain⟨a1,a2,a3,a4,a5,a6,a7,a8,a9⟩:=x;obtain⟨c1,c2,c3,c4,c5,c6,c7,c8,c9⟩:=y;simp only[VY,dR,ae,aV,Prod.mk.injEq,and_assoc]
theorem YV (a b:aw iH)(h:a.length<=10^9):oY a b=some (xR a b):=by unfold oY;refine vc VY VZ a b h (λhl i hi ng nx=>?_) (λnx=>?_);simp only[lu];rw[kK,bn hi,bn ng,ak];rfl;simp only[lu];rw[jj];rfl
def V4 (x1 x2:Slot):Bool:=(x1.1==x2.1)&&((x1.2.1.1==x2.2.1.1)&&((x1.2.1.2.1==x2.2.1.2.1)&&((x1.2.1.2.2.1==x2.2.1.2.2.1)&&((x1.2.1.2.2.2.1==x2.2.1.2.2.2.1)&&((x1.2.1.2.2.2.2==x2.2.1.2.2.2.2)&&((x1.2.2==x2.2.2)&&true))))))
theorem V5 (x y:Slot):V4 x y=true↔x=y:=by obtain⟨a1,⟨a2,a3,a4,a5,a6⟩,a7⟩:=x;obtain⟨c1,⟨c2,c3,c4,c5,c6⟩,c7⟩:=y;simp only[V4,dR,ae,aV,Prod.mk.injEq,and_assoc]
theorem Vc (a b:aw Slot)(h:a.length<=10^9):oZ a b=some (xR a b):=by unfold oZ;refine vc V4 V5 a b h (λhl i hi ng nx=>?_) (λnx=>?_);simp only[lx];rw[kK,bn hi,bn ng,ak];rfl;simp only[lx];rw[jj];rfl
def Ly (x1 x2:Stream):Bool:=(x1.1.1==x2.1.1)&&((x1.1.2.1==x2.1.2.1)&&((x1.1.2.2.1==x2.1.2.2.1)&&((x1.1.2.2.2.1==x2.1.2.2.2.1)&&((x1.1.2.2.2.2==x2.1.2.2.2.2)&&((x1.2.1==x2.2.1)&&((x1.2.2.1==x2.2.2.1)&&((x1.2.2.2==x2.2.2.2)&&true)))))))
theorem Qq (x y:Stream):Ly x y=true↔x=y:=by obtain⟨⟨a2,a3,a4,a5,a6⟩,a7,a8,a9⟩:=x;obtain⟨⟨c2,c3,c4,c5,c6⟩,c7,c8,c9⟩:=y;simp only[Ly,dR,ae,aV,Prod.mk.injEq,and_assoc]
theorem Sq (a b:aw Stream)(h:a.length<=10^9):mi a b=some (xR a b):=by unfold mi;refine vc Ly Qq a b h (λhl i hi ng nx=>?_) (λnx=>?_);simp only[jN];rw[kK,bn hi,bn ng,ak];rfl;simp only[jN];rw[jj];rfl
theorem KA (a b:cK)(h:a.2.2.2.length<=10^9):ri a b=some (xR a b):=by simp only[ri,zR _ _ h,ab,bL,cF,jz a b,jz a.2 b.2,jz a.2.2 b.2.2,QR]
theorem Va (a b:kI)(h:a.2.2.length<=10^9):vy a b=some (xR a b):=by simp only[vy,zR _ _ h,ab,bL,cF,jz a b,jz a.2 b.2,QR]
theorem YZ (a b:aw kI)(h:a.length<=10^9)(hx:∀x∈a,x.2.2.length<=10^9):kH a b=some (xR a b):=by unfold kH;refine vc xR (λ_ _=>yK) a b h (λhl i hi ng nx=>?_) (λnx=>?_);simp only[iZ];rw[kK,bn hi,bn ng,ak];simp only[ah,ab,Va _ _ (hx _ (bm hi))];rfl;simp only[iZ];rw[jj];rfl
theorem YT (a b:aw cK)(h:a.length<=10^9)(hx:∀x∈a,x.2.2.2.length<=10^9):kG a b=some (xR a b):=by unfold kG;refine vc xR (λ_ _=>yK) a b h (λhl i hi ng nx=>?_) (λnx=>?_);simp only[iY];rw[kK,bn hi,bn ng,ak];simp only[ah,ab,KA _ _ (hx _ (bm hi))];rfl;simp only[iY];rw[jj];rfl
def ringEq (a b:Ring):Bool:=(a.1==b.1)&&((a.2.1==b.2.1)&&((a.2.2.1==b.2.2.1)&&((a.2.2.2==b.2.2.2)&&true)))
theorem aad (a b:Ring):ringEq a b=xR a b:=by simp only[ringEq,jz a b,jz a.2 b.2,jz a.2.2 b.2.2,QR,dR]
theorem ab5 (a b:dG)(h1:a.2.2.1.length<=10^9)(h2:a.2.1.2.2.2.length<=10^9)(h3:∀x∈a.2.2.1,x.2.2.length<=10^9):yP a b=some (xR a b):=by unfold yP;rw[show((a.1.1==b.1.1)&&((a.1.2.1==b.1.2.1)&&((a.1.2.2.1==b.1.2.2.1)&&((a.1.2.2.2==b.1.2.2.2)&&true))))=xR a.1 b.1 from aad a.1 b.1];simp only[KA _ _ h2,YZ _ _ h1 h3,ab,bL,cF,jz a b,jz a.2 b.2,jz a.2.2 b.2.2,QR];cases xR a.1 b.1<;>cases xR a.2.1 b.2.1<;>cases xR a.2.2.1 b.2.2.1<;>cases xR a.2.2.2 b.2.2.2<;>rfl
theorem Sp (a b:cV)(h1:a.1.length<=10^9)(h2:a.2.1.length<=10^9)(h3:a.2.2.2.length<=10^9):oV a b=some (xR a b):=by simp only[oV,YV _ _ h1,Vc _ _ h2,zR _ _ h3,ab,bL,cF,jz a b,jz a.2 b.2,jz a.2.2 b.2.2,QR]
structure N5 (h:Host):Prop where
 z:I8 h
 t3:∀x∈h.2.2.1.2.2.1,x.2.2.length<=10^9
 r:h.2.2.2.1.length<=10^9
 p:h.2.2.2.2.1.length<=10^9
 v:h.2.2.2.2.2.1.length<=10^9
 b:h.2.2.2.2.2.2.1.length<=10^9
 s:h.2.2.2.2.2.2.2.2.2.1.length<=10^9
 l:h.2.2.2.2.2.2.2.2.2.2.2.1.length<=10^9
 i:h.2.2.2.2.2.2.2.2.2.2.2.2.1.length<=10^9
 j:h.2.2.2.2.2.2.2.2.2.2.2.2.2.1.length<=10^9
theorem U0 (a b:Host)(z:N5 a):rV a b=some (xR a.2.2 b.2.2):=by have ht:=z.z.t2;simp only[rV,ab5 _ _ z.z.t1 (by omega) z.t3,ae3 _ _ z.r,YT _ _ z.p z.z.p1,Ss _ _ z.v,YJ _ _ z.b,PC _ _ z.z.f1,Sp _ _ z.z.s1 z.z.s2 z.z.s3,Sq _ _ z.s,Sr _ _ z.l,zR _ _ z.i,zR _ _ z.j,ab,bL,cF,QR];congr 1;apply O7;simp only[dR,ae,yK,Prod.ext_iff]
def viewAt (a b:Host)(m n:aA):Bool:=(m.1==n.1)&&((m.2.1==n.2.1)&&((m.2.2.2==n.2.2.2)&&(decide (m.2.2.1<(a.1.length:Int))&&(decide (n.2.2.1<(b.1.length:Int))&&(a.1.getD m.2.2.1.toNat []==b.1.getD n.2.2.1.toNat [])))))
def TT (a b:Host):Bool:=a.2.1.all (λm=>b.2.1.any (viewAt a b m))
theorem Xd {xs:aw α}(d:α)(h0:0<=i)(h1:i<(xs.length:Int)):idx xs i=some (xs.getD i.toNat d):=by
 have e:i=((i.toNat:Nat):Int):=by omega
 have hl:i.toNat<xs.length:=by omega
 rw[cI hl];have:=bn hl;rwa[<-e]at this
theorem ach {l:aw aA}(h:dF l=true){m:aA}(hm:m∈l):0<=m.2.2.1:=by unfold dF at h;simp only[ae,aE,bW]at h;obtain⟨i,hi,rfl⟩:=eX hm;have:=h.2 i hi;unfold GU at this;rw[cI hi]at this;simp only[ae]at this;have:=this.1;unfold Es at this;simp only[ae,bh]at this;exact this.2.2.1
theorem Xp {l:aw aA}(h:dF l=true):l.length<=96:=by unfold dF at h;simp only[ae,aB]at h;omega
theorem afk {l:aw aA}(h:dF l=true){i j:Nat}(hi:i<l.length)(hj:j<i):ku l[i].1 l[i].2.1 (l[j]'(by omega))=false:=by unfold dF at h;simp only[ae,aE,bW]at h;have:=h.2 i hi;unfold GU at this;simp only[ae,aE,bW]at this;have:=this.2 j hj;rw[cI hi,cI (show j<l.length by omega)]at this;simpa using this
theorem XZ {b:Host}(hb:dF b.2.1=true)(a:Host)(m:aA):b.2.1.any (viewAt a b m)=(match b.2.1.findIdx? (ku m.1 m.2.1)with|some k=>viewAt a b m (b.2.1.getD k GV)|none=>false):=by
 cases hq:b.2.1.findIdx? (ku m.1 m.2.1)with
 |none=>rw[List.findIdx?_eq_none_iff]at hq;rw[Bool.eq_false_iff,ne_eq,List.any_eq_true];rintro⟨n,hn,hv⟩;have:=hq n hn;unfold viewAt at hv;simp only[ae,aV]at hv;simp[ku,hv.1,hv.2.1]at this
 |some k=>
  rw[List.findIdx?_eq_some_iff_getElem]at hq;obtain⟨hk,hpk,gW⟩:=hq;simp only[cI hk];rw[cB,List.any_eq_true];constructor;rintro⟨n,hn,hv⟩;obtain⟨j,hj,rfl⟩:=eX hn;have Pw:=hv;unfold viewAt at Pw;simp only[ae,aV]at Pw;have hat:ku m.1 m.2.1 b.2.1[j]=true:=by simp[ku,Pw.1,Pw.2.1]
  rcases Nat.lt_trichotomy j k with hjk|hjk|hjk;have:=gW j hjk;rw[hat]at this;simp at this;subst hjk;exact hv;have:=afk hb hj hjk;rw[<-Pw.1,<-Pw.2.1,hpk]at this;cases this;intro hv;exact⟨_,bm hk,hv⟩
theorem abW (a b:Host)(ha:dF a.2.1=true)(hb:dF b.2.1=true)(v4:Bool)(k0:Int->ax R)(k1:Bool->Int->ax R)(fin hit:ax R)(h0:∀x,k0 x=fin)(h1:∀x,k1 false x=hit): bc (mD k0 k1 v4 a.2.1 (a.2.1.length:Int) a b) fuel 0=cond (TT a b) fin hit:=by
 have la:=Xp ha;have lb:=Xp hb;refine oq (λm=>b.2.1.any (viewAt a b m)) a.2.1 (by omega) (λi hi nx=>?_) (λnx=>?_);simp only[mD];rw[kK,ak (n:=(i:Int)+1),bn hi,XZ hb];simp only[ah,ab,Ky _ _ _ (show b.2.1.length<=10^9 by omega),NA];have m0:=ach ha (bm hi);cases hq:b.2.1.findIdx? (ku a.2.1[i].1 a.2.1[i].2.1)with
 |none=>exact h1 _
 |some k=>
  rw[List.findIdx?_eq_some_iff_getElem]at hq;obtain⟨hk,hpk,gW⟩:=hq;simp only[cI hk];have n0:=ach hb (bm hk);rw[ar (show¬(k:Int)<0 by omega),bn hk];generalize b.2.1[k]=n at*;generalize a.2.1[i]=m at*;simp only[ku,ae,aV]at hpk;unfold viewAt;rw[show(m.1==n.1)=true by simp[hpk.1],show(m.2.1==n.2.1)=true by simp[hpk.2],show(m.2.2.2==n.2.2.2)=(n.2.2.2==m.2.2.2) from Bool.beq_comm];simp only[af,ab];cases n.2.2.2==m.2.2.2 with
  |false=>exact h1 _
  |true=>
   have g1:decide (m.2.2.1>=(a.1.length:Int))= !decide (m.2.2.1<(a.1.length:Int)):=by rw[cB];simp
   have g2:decide (n.2.2.1>=(b.1.length:Int))= !decide (n.2.2.1<(b.1.length:Int)):=by rw[cB];simp
   simp only[af,aj,bC];rw[g1,g2];by_cases c1:m.2.2.1<(a.1.length:Int);by_cases c2:n.2.2.1<(b.1.length:Int);rw[au c1,au c2,Xd [] m0 c1,Xd [] n0 c2,h1];simp only[aj,af,ab,bC];rfl;rw[au c1,ar c2,h1];rfl;rw[ar c1,h1];rfl
 simp only[mD];rw[jj,h0];rfl
def FY (a b:Host):Bool:=dW a&&(dW b&&(xR a.2.2 b.2.2&&(xR (a.2.1.length:Int) (b.2.1.length:Int)&&TT a b)))
theorem M6 (k:dW h=true):dF h.2.1=true:=by unfold dW at k;simp only[ae]at k;exact k.2.1
theorem ab6 (a b:Host)(za:N5 a)(zb:N5 b):vr a b=some (FY a b):=by
 unfold vr FY;simp only[pz _ za.z,pz _ zb.z,U0 a b za,ab];cases ha:dW a with|false=>rfl|true=>?_
 cases hb:dW b with|false=>rfl|true=>?_
 rw[abW a b (M6 ha) (M6 hb) _ _ _ (some true) (some false) (λ_=>rfl) (λ_=>rfl)];simp only[ab,bL,cT,cN,cF,aj,af,bC,bne,QR];cases xR a.2.2 b.2.2<;>cases xR (a.2.1.length:Int) (b.2.1.length:Int)<;>cases TT a b<;>rfl
def mapsIn (h:Host):Prop:=∀m∈h.2.1,m.2.2.1<(h.1.length:Int)
theorem Rq (a:α):xR a a=true:=by unfold xR;simp
theorem aah (g:Good n h)(hn:n<=1000000000000)(hm:mapsIn h):FY h h=true:=by
 unfold FY;rw[g.ok hn,Rq,Rq];have:TT h h=true:=by unfold TT;rw[aE];intro m hh;rw[List.any_eq_true];refine⟨m,hh,?_⟩;unfold viewAt;have:=hm m hh;simp only[beq_self_eq_true,bC,au this]
 rw[this];rfl
theorem afW {n:Nat}(z:yy n h)(hn:n<=10^9):N5 h:=by have y:cY 1000000000 dJ h:=z.z.mono hn;exact⟨z.sz hn,λx hx=>(y.2.2.1.2.2.1.2 x hx).2.2.1,y.2.2.2.1.1,y.2.2.2.2.1.1,y.2.2.2.2.2.1.1,y.2.2.2.2.2.2.1.1,y.2.2.2.2.2.2.2.2.2.1.1,y.2.2.2.2.2.2.2.2.2.2.2.1.1,y.2.2.2.2.2.2.2.2.2.2.2.2.1.1,y.2.2.2.2.2.2.2.2.2.2.2.2.2.1.1⟩
theorem Zu {a b:Host}(h:mapsIn a)(s:mw a b):mapsIn b:=by intro m hm;rw[s.maps]at hm;rw[s.mem];exact h m hm
theorem I0 (g:Good n h)(hn:n<=1000000:=by omega)(hl:l.length<=40:=by omega):tW h l=rn h l:=by unfold tW;rw[g.ok (by omega),jj];rfl
theorem ajT {l:aw α}{k:Int}(h0:0<=k)(h1:k<=(l.length:Int)):sub l 0 k=some (l.take k.toNat)/\sub l k (l.length:Int)=some (l.drop k.toNat):=by unfold sub;rw[aF ⟨dC _,h0,h1⟩,aF ⟨h0,h1,dC _⟩];simp
theorem Ey (a:cL)(ha:XW (.sl (.int .u8)) a):pG a=some true:=by
 refine Ends.true ?_;unfold pG;refine ahh rfl λhl=>?_;rw[af];refine(Wp hl).bind λr2 p2=>(ak2 ha hl (i:=0) (by omega) (by omega)).bind λr3 p3=>?_;obtain⟨h,l⟩:=r2;simp only at p2⊢;obtain⟨f,hn,arv⟩:=p2;have hlen:((l.length:Int))+1≠0:=by omega
 rw[ak (n:=(l.length:Int)+1)];have k0:=Int.tmod_nonneg ((l.length:Int)+1) p3.1;have k1:=Int.tmod_lt_of_pos r3 (b:=(l.length:Int)+1) (by omega);generalize Int.tmod r3 ((l.length:Int)+1)=k at k0 k1⊢;have sb:=ajT (l:=l) k0 (by omega);have hx:∀x∈l,x.2.2.2.2.1.length<=10^9:=λx hx=>by have:=(arv x hx).2.1;omega
 have z:=f.sz;refine Ends.ifn hlen ?_;have g:=f.amt;have h1:(l.take k.toNat).length<=20:=by rw[aZ];omega
 have h2:(l.drop k.toNat).length<=20:=by rw[aL];omega
 have r1:=Kb (l.take k.toNat) (by omega) g;have ra:=Kb l (by omega) g;have s1:=HZ (n:=2000) (by omega) z (l.take k.toNat);have sa:=HZ (n:=2000) (by omega) z l;rw[I0 g]at s1 sa;rw[Cm h l (z.mono) hx,ab,sb.1,ab,Cm h _ (z.mono) (λx hh=>hx x (List.mem_of_mem_take hh)),ab,sb.2,ab];rw[I0 g,I0 g];rw[Cm (rn h (l.take k.toNat)).1 _ (s1.1.mono) (λx hh=>hx x (List.mem_of_mem_drop hh)),ab,I0 r1.1];have e:=XA h (l.take k.toNat) (l.drop k.toNat);rw[cb]at e;have m0:mapsIn h:=f.maps;have vz:=afW sa.1 (by omega);have R1:=ra.2.2;have Kh:=r1.2.2;have abK:=aah ra.1 (by omega) (Zu m0 ra.2.1);rw[e]at abK vz R1⊢;have R1:((rn h (l.take k.toNat)).2++(rn (rn h (l.take k.toNat)).1 (l.drop k.toNat)).2).length=l.length:=R1;rw[ai]at R1;rw[ab6 _ _ vz vz,ab];simp only at abK⊢;rw[abK,ah,aS (by simp;omega),aS (by simp;omega),cu,Mq _ (by simp;omega),ab,ah,ai,R1,beq_self_eq_true];exact Ends.pure rfl
end
end Go.Pu
