import Derived.Test.YtinkcmefgciifaaGreatPuX3
namespace Go.Pu
open Go.Dn
set_option linter.unusedSimpArgs false
set_option linter.unusedVariables false
noncomputable section
variable {f:Filter} {qf:Fl->Nat} {h h0:Host} {n:Int} {c k r:Nat} {Q:Nat->az Fw->bt->Vector->Bool->Prop} {p:aM} {s:dj} {α:Type} {v:Vector} {a:dA} {m:cg}
/- laws.hostAct, laws.fullActs: closed forms. -/
def zy (h:Host)(a:Act):Host×Int:=
 bif a.1==0 then((AE h a.2.1 a.2.2.1 a.2.2.2.1).1,amI (AE h a.2.1 a.2.2.1 a.2.2.2.1).2) else
 bif a.1==1 then(dv h,0) else
 bif a.1==2 then(gV h a.2.2.2.2.1,0) else
 bif a.1==3 then(ko h,0) else
 bif a.1==4 then(sv h,0) else
 iy h a.2.2.2.2.2
theorem ajg (b:Bool):G3 b=some (amI b):=by unfold G3 amI;cases b<;>rfl
theorem aju (h:Host)(a:Act)(k:CZ 90000000 h)(hx:a.2.2.2.2.1.length<=10^9)(h0:0<=a.1)(h5:a.1<=5):qq h a=some (true,zy h a):=by
 have z:dC 1000000000 eG h:=k.z.mono;unfold qq zy;simp only[ab,Si h _ _ _ (k.mono),Jv h (k.mono),Jq h _ (k.mono) hx,O9 h (k.mono),WX h (k.sz (by omega)) z,Mc h _ (k.mono),ajg];cases e0:a.1==0;case true=>rfl
 cases e1:a.1==1;case true=>rfl
 cases e2:a.1==2;case true=>rfl
 cases e3:a.1==3;case true=>rfl
 cases e4:a.1==4;case true=>rfl
 have e5:(a.1==5)=true:=by simp only[cq,ne_eq]at e0 e1 e2 e3 e4;simp only[bn];omega
 rw[e5];rfl
def rN (s:Host×Int)(a:Act):Host×Int:=
 bif a.1==6 then(rG s.1,s.2) else((zy s.1 a).1,bif a.1==0 then ar (s.2+(zy s.1 a).2) else s.2)
def agP (h:Host)(l:az Act):Host×Int:=l.foldl rN (h,0)
theorem OK (hn:n<=700000000000)(g:Good n h)(a:Act)(s:Int):Good (n+641) (rN (h,s) a).1:=by
 unfold rN;cases a.1==6 with
 |true=>exact(OP hn g).mono
 |false=>
  show Good _ (zy h a).1;unfold zy;cases a.1==0;case true=>exact(adr g _ _ _).mono
  cases a.1==1;case true=>exact(yB g).mono
  cases a.1==2;case true=>exact I7 hn g _
  cases a.1==3;case true=>exact(H6 hn g).mono
  cases a.1==4;case true=>exact(DC g).mono
  exact(I8 g _).mono
theorem ZZ (h:Host)(a:Act)(s:Int):oO h (rN (h,s) a).1:=by
 unfold rN;cases a.1==6 with
 |true=>exact abq h
 |false=>
  show oO h (zy h a).1;unfold zy;cases a.1==0;case true=>exact afi ..
  cases a.1==1;case true=>exact Rp h
  cases a.1==2;case true=>exact U8 ..
  cases a.1==3;case true=>exact abp h
  cases a.1==4;case true=>exact afj h
  exact U9 ..
theorem agQ {n:Nat}(hn:1000<=n)(a:Act)(s:Int)(k:CZ n h)(f:Few h):CZ (n+645000) (rN (h,s) a).1:=by
 unfold rN;cases a.1==6 with
 |true=>exact(SV hn k f).1
 |false=>
  show CZ _ (zy h a).1;unfold zy;cases a.1==0;case true=>exact(aie hn _ _ _ k).mono
  cases a.1==1;case true=>exact(E1 (by omega) k).mono
  cases a.1==2;case true=>exact(Mr hn _ k).1.mono
  cases a.1==3;case true=>exact(KI hn k).mono
  cases a.1==4;case true=>exact(Qw hn k).mono
  exact(Mw hn _ k).mono
structure LJ (n:Nat) (h0:Host) (k:Nat) (h:Host):Prop where
 OO:Good ((n:Int)+641*(k:Int)) h
 sz:CZ (n+645000*k) h
 stay:oO h0 h
theorem KL {n:Nat}(hn:1000<=n/\n<=20000000)(hk:k<=1000)(f:LJ n h0 k h)(a:Act)(s:Int):LJ n h0 (k+1) (rN (h,s) a).1:=by refine⟨(OK (by omega) f.OO a s).mono (by push_cast;omega),(agQ (by omega) a s f.sz (agL (f.OO.ok (by omega)))).mono,f.stay.trans (ZZ h a s)⟩
theorem ab8 {n:Nat}(hn:1000<=n/\n<=20000000):∀(l:az Act){k:Nat}{h:Host}(s:Int),k+l.length<=1000->LJ n h0 k h->LJ n h0 (k+l.length) (l.foldl rN (h,s)).1
 |[],k,h,s,_,f=>f
 |a::l,k,h,s,hk,f=>by simp only[aV]at hk;have i:=ab8 hn l (k:=k+1) (h:=(rN (h,s) a).1) (rN (h,s) a).2 (by omega) (KL hn (by omega) f a s);rw[List.foldl_cons,aV,show k+(l.length+1)=k+1+l.length by omega];exact i
theorem PF (x:α):SC (some (true,x))=some (true,x):=rfl
theorem I4 {n:Nat}(hn:1000<=n/\n<=20000000)(hk:k<=100)(f:LJ n h0 k h)(a:Act)(ha:MU a)(h6:(a.1==6)=false):qq h a=some (true,zy h a):=by refine aju h a (f.sz.mono) (by have:=ha.2.1;omega) ha.2.2.1 ?_;have:=ha.2.2.2;simp only[cq,ne_eq]at h6;omega
theorem R4 {n:Nat}(hn:1000<=n/\n<=20000000){R:Type}(k0:Int->Int->Host->aC R)(l:az Act)(b:Host){h0:Host}(hl:l.length<=100)(ha:∀a∈l,MU a):∀(m i:Nat)(s:Int)(h:Host)(f:Nat),i+m=l.length->m<f->LJ n h0 i h->
 bp (jy k0 l b) f (s,(i:Int),h)=k0 ((l.drop i).foldl rN (h,s)).2 (l.length:Int) ((l.drop i).foldl rN (h,s)).1
 |0,i,s,h,f+1,e,_,_=>by rw[bp];unfold jy;simp only;rw[dw,af,cx (by omega)];show k0 s (i:Int) h=k0 s _ h;rw[show i=l.length by omega]
 |m+1,i,s,h,f+1,e,hf,q=>by
  have hi:i<l.length:=by omega
  have hx:=ha _ (bF hi);have st:=KL hn (by omega) q l[i] s;have go:=λs' h'=>R4 (h0:=h0) hn k0 l b hl ha m (i+1) s' h' f (by omega) (by omega);have ei:ar ((i:Int)+1)=((i+1:Nat):Int):=by rw[al];rfl
  have hd:l.drop i=l[i]::l.drop (i+1):=(bV hi)
  rw[bp];generalize bp (jy k0 l b) f=T at go⊢;unfold jy;simp only[ei];rw[lH,ah,bK hi,ab,hd,List.foldl_cons];have fs:rN (h,s) l[i]=bif l[i].1==6 then(rG h,s) else((zy h l[i]).1,bif l[i].1==0 then ar (s+(zy h l[i]).2) else s):=rfl
  rw[fs]at st⊢;cases h6:l[i].1==6 with|true=>rw[h6]at st;rw[ah,Da h (q.sz.sz (by omega)) (q.sz.z.mono),ab];exact go s _ st|false=>rw[h6]at st;simp only[ab,ah,af,I4 hn (by omega) q l[i] hx h6,PF]at st⊢;cases h00:l[i].1==0 with|true=>exact go _ _ st|false=>exact go _ _ st
theorem ajr {n:Nat}(hn:1000<=n/\n<=20000000)(h:Host)(l:az Act)(hl:l.length<=100)(ha:∀a∈l,MU a)(g:Good (n:Int) h)(z:CZ n h):yQ h l=some (!l.isEmpty,agP h l):=by
 have q:LJ n h 0 h:=⟨by simpa using g,by simpa using z,oO.refl h⟩
 unfold yQ;cases l with
 |nil=>rfl
 |cons a t=>
  have hx:=ha a (List.mem_cons_self ..);have st:=KL hn (by omega) q a 0;have go:=λ{R:Type} (k0:Int->Int->Host->aC R) (b:Host) s' h'=>R4 (R:=R) (h0:=h) hn k0 (a::t) b hl ha t.length 1 s' h' fuel (by simp;omega) (by have:=eR;simp at hl;omega);have ei:ar ((0:Int)+1)=((1:Nat):Int):=by decide
  have hd:(a::t).drop 1=t:=rfl;have e0:idx (a::t) 0=some a:=rfl;have fs:rN (h,0) a=bif a.1==6 then(rG h,0) else((zy h a).1,bif a.1==0 then ar (0+(zy h a).2) else 0):=rfl
  rw[aw (by simp),ah,e0,ei];simp only[ab];have fa:agP h (a::t)=t.foldl rN (rN (h,0) a):=rfl;rw[fa,fs];rw[fs]at st;cases h6:a.1==6 with|true=>rw[h6]at st;rw[ah,Da h (z.sz (by omega)) (z.z.mono),ab];simp only[ah]at st⊢;rw[go _ _ _ _ st];rfl|false=>rw[h6]at st;simp only[ab,ah,af,I4 hn (by omega) q a hx h6,PF]at st⊢;cases h00:a.1==0 with|true=>simp only[ah];rw[go _ _ _ _ st];rfl|false=>simp only[af];rw[go _ _ _ _ st];rfl
abbrev Xt:Nat->az Fw->bt->Vector->Bool->Prop:=λ_ C q _ b=>C=[]/\b=false/\q.2.2.2.2.1=false/\bN q.1=4
theorem acw (hm:fJ m)(hk:k<=1)(u:nr×Bool×Int)(hu:u.2.1=false)(h1:v.2.1<=3)(h2:v.2.2.2.2.1=false):QI (Xt k) (mh (bI 38) m k).1 k ((mh (bI 38) m k).2.1,(hY k+64,4,0),(hY k+64,4,0),u) (mh (bI 38) m k).2.2.1 v false:=by
 obtain⟨_,⟨P,s⟩,_⟩:=Ld hm hk u;have hl:P.length=4:=by have:=s.perm.length_eq;simpa[Dt]using this
 have hr:=s.ring;simp only at hr;exact⟨0,0,P,[],[],s,h1,h2,λ_ e=>absurd rfl e,rfl,rfl,hu,by show bN (mh (bI 38) m k).2.1=4;rw[hr,(qP (Or.inl rfl) (by unfold iq;omega)).2,hl];rfl⟩
structure Cq (k:Nat) (h:Host):Prop where
 maps:h.2.1=bI 38
 mem:fJ h.1
 tx:∃hd L,TxS h.1 h.2.2.1 hd L
 lens:h.2.2.2.1.length<=2/\h.2.2.2.2.1.length=h.2.2.2.1.length/\h.2.2.2.2.2.1.length=h.2.2.2.1.length/\h.2.2.2.2.2.2.1.length=h.2.2.2.1.length
 vec:∀v∈h.2.2.2.2.2.1,v.2.1<=3
 rx:∀j,j<k->afC (Xt j) h j
theorem aa8 (r:Cq k h)(hk:k<h.2.2.2.1.length):Cq (k+1) (vI k h):=by
 have hn:iq k=1280+1792*k:=rfl;obtain⟨l1,l2,l3,l4⟩:=r.lens;have hv:k<h.2.2.2.2.2.1.length:=by omega
 have hp:k<h.2.2.2.2.1.length:=by omega
 have hb:k<h.2.2.2.2.2.2.1.length:=by omega
 have hk1:k<=1:=by omega
 unfold vI;simp only[aq hk,aq hv];unfold Gd;rw[r.maps];obtain⟨o1,⟨P,o2⟩,o3⟩:=Ld r.mem hk1 ((Fo k).2.2.2.1,(Fo k).2.2.2.2.1,Fb h.2.2.2.1[k]);have hv3:=r.vec _ (bF hv);have q:=acw r.mem hk1 ((Fo k).2.2.2.1,(Fo k).2.2.2.2.1,Fb h.2.2.2.1[k]) rfl (v:=(h.2.2.2.2.2.1[k].1,h.2.2.2.2.2.1[k].2.1,0,0,false,false)) hv3 rfl;generalize mh (bI 38) h.1 k=O at o1 o2 o3 q;obtain⟨hd,L,s⟩:=r.tx;refine⟨rfl,o1,⟨hd,L,s.frame λi hi=>o3 i (by omega) (by omega)⟩,⟨by show(List.set _ _ _).length<=2;rw[aD];exact l1,by show(List.set _ _ _).length=(List.set _ _ _).length;rw[aD,aD];exact l2,by show(List.set _ _ _).length=(List.set _ _ _).length;rw[aD,aD];exact l3,by show(List.set _ _ _).length=(List.set _ _ _).length;rw[aD,aD];exact l4⟩,λv KR=>?_,λj hj=>?_⟩;rcases fI KR with e|e;exact r.vec v e;rw[e];exact hv3;by_cases M3:j=k;subst M3;exact⟨_,_,_,_,bq hk,bq hp,bq hv,bq hb,q⟩;have hj2:iq j=1280+1792*j:=rfl;obtain⟨q',p',v',b',g1,g2,g3,g4,g5⟩:=r.rx j (by omega);refine⟨q',p',v',b',?_,?_,?_,?_,g5.frame λi h1 h2=>o3 i (by omega) (by omega)⟩;show(List.set _ _ _)[j]?=_;rw[aF (cd M3)];exact g1;show(List.set _ _ _)[j]?=_;rw[aF (cd M3)];exact g2;show(List.set _ _ _)[j]?=_;rw[aF (cd M3)];exact g3;show(List.set _ _ _)[j]?=_;rw[aF (cd M3)];exact g4
theorem SW (r:Cq 0 h):∀k,k<=h.2.2.2.1.length->Cq k (iY h k)
 |0,_=>r
 |k+1,hk=>aa8 (SW r k (by omega)) (by have e:=(ru h k).rx;show k<(iY h k).2.2.2.1.length;omega)
theorem Cq.new (r:Cq h.2.2.2.1.length h):Live Xt h:=⟨r.maps,r.mem,r.tx,λk hk=>r.rx k hk⟩
theorem Cq.live (r:Cq h.2.2.2.1.length h):Live zw h:=r.new.xU λ_ _ _ _ _ _ _=>trivial
theorem Mn (h:Host):∀k,Cp h (lZ h k)/\(lZ h k).1.length=h.1.length
 |0=>⟨Cp.refl h,rfl⟩
 |k+1=>by have i:=Mn h k;refine⟨i.1.trans (Mo ..),Eq.trans ?_ i.2⟩;show(vH (lZ h k) k 1000).2.1.length=_;unfold vH;rcases(lZ h k).2.2.2.1[k]? with _|rx;rfl;rcases(lZ h k).2.2.2.2.1[k]? with _|pl;rfl;exact UL ..
theorem HI (h:Host):∀k,akA (ku h) (returned h k)
 |0=>⟨rfl⟩
 |k+1=>by have i:=HI h k;have e:returned h (k+1)=Lr h.2.2.1.2.2.1 k (returned h k):=rfl;rw[e];unfold Lr;cases h.2.2.1.2.2.1[k]? with|none=>exact i|some x=>refine⟨?_⟩;show SY _ _=_;have e:=i.e;generalize returned h k=r at e⊢;rw[e];rfl
theorem SX (hn:n<=1000000000000)(g:Good n h)(f:Live Q h):Live Xt (rG h):=by
 have hl:=nM g.lens;have hv:∀v∈h.2.2.2.2.2.1,v.2.1<=3:=by intro v hv;obtain⟨k,hk⟩:=List.getElem?_of_mem hv;obtain⟨iz,_⟩:=aB.1 hk;obtain⟨q,p,v',b,g1,g2,g3,g4,hd,x,P,C,F,s,w1,w2,w3,w4⟩:=f.rx k (by omega);rw[hk]at g3;rw[bQ g3];exact w1
 have gp:=En g h.2.2.2.1.length;obtain⟨kp,km⟩:=Mn h h.2.2.2.1.length;have e0:ku h=lZ h h.2.2.2.1.length:=rfl;have er:=(HI h h.2.2.1.2.2.1.length).e;rw[<-e0]at gp kp km;have ee:jD h=NI (returned h h.2.2.1.2.2.1.length):=rfl;generalize returned h h.2.2.1.2.2.1.length=R at er ee;have x1:(jD h).1=(ku h).1:=by rw[ee,er];rfl
 have x2:(jD h).2.1=(ku h).2.1:=by rw[ee,er];rfl
 have x3:(jD h).2.2.2.1=(ku h).2.2.2.1:=by rw[ee,er];rfl
 have x4:(jD h).2.2.2.2.1=(ku h).2.2.2.2.1:=by rw[ee,er];rfl
 have x5:(jD h).2.2.2.2.2.1=(ku h).2.2.2.2.2.1:=by rw[ee,er];rfl
 have x6:(jD h).2.2.2.2.2.2.1=(ku h).2.2.2.2.2.2.1:=by rw[ee,er];rfl
 have xt:∃y,(jD h).2.2.1=(tc.1,tc.2.1,tc.2.2.1,y):=⟨_,by rw[ee];rfl⟩
 obtain⟨y,xt⟩:=xt;have np:=(DW (a:=256) (b:=128) (n:=8)).1;have r0:Cq 0 (jD h):=by refine⟨by rw[x2,kp.maps];exact f.maps,by rw[x1];exact fJ.of gp.mem (by rw[km];exact f.mem.ln),⟨0,[],?_⟩,?_,λv KR=>?_,λj hj=>by omega⟩;rw[xt];refine⟨rfl,⟨by simp,λj hj=>by simp at hj⟩,rfl,(λc hc=>by cases hc),?_⟩;show(gP 256 128 8).1.1=256/\(gP 256 128 8).1.2.1=128/\(gP 256 128 8).1.2.2.1=8;rw[np];exact⟨rfl,rfl,rfl⟩;rw[x3,x4,x5,x6,kp.rx,kp.pl,kp.vec,kp.YJ];exact hl;rw[x5,kp.vec]at KR;exact hv v KR
 unfold rG;rw[g.ok hn,ah];have e3:h.2.2.2.1.length=(jD h).2.2.2.1.length:=by rw[x3,kp.rx]
 have ra:=SW r0 h.2.2.2.1.length (by omega);refine Cq.new ?_;rw[(ru (jD h) h.2.2.2.1.length).rx,<-e3];exact ra
theorem aaD (hn:n<=1000000000000)(g:Good n h)(f:Live Q h):Live zw (rG h):=(SX hn g f).xU λ_ _ _ _ _ _ _=>trivial
theorem HC (hn:n<=1000000000000)(g:Good n h)(f:Live Q h)(b:Int):Live zw (iy h b).1:=by
 cases hb:dD b 1 1000 with
 |true=>have hb:=aS.1 hb;obtain⟨c,rfl⟩:=aA (show 0<=b by omega);exact JI hn g f (c:=c) ⟨by omega,by omega⟩ λk C q v b q' v' b' _ _ _ _ _ _=>⟨λ_ _ _=>trivial,λ_ _ _=>trivial,λ_ _ _=>trivial⟩
 |false=>unfold iy;rw[hb,eH];exact f.xU λ_ _ _ _ _ _ _=>trivial
theorem ad9 (hn:n<=400000000000)(g:Good n h)(f:Live zw h)(a:Act)(s:Int):Live zw (rN (h,s) a).1:=by
 unfold rN;cases a.1==6 with
 |true=>exact aaD (by omega) g f
 |false=>
  show Live zw (zy h a).1;unfold zy;cases a.1==0;case true=>exact aec g f _ _ _
  cases a.1==1;case true=>exact(yR (by omega) g f).1
  cases a.1==2;case true=>exact JH hn g f _
  cases a.1==3 with|true=>exact(Ig hn g f).xU λ_ _ _ _ _ _ _=>trivial|false=>?_
  cases a.1==4 with|true=>exact K2 (by omega) g f λ_ _ _ _ _ _ _ _ _ _=>trivial|false=>?_
  exact HC (by omega) g f _
theorem Pr {n:Int}:∀(l:az Act){h:Host}(k:Nat)(s:Int),n+641*((k+l.length:Nat):Int)<=300000000000->Good (n+641*(k:Int)) h->Live zw h->Live zw (l.foldl rN (h,s)).1
 |[],h,k,s,_,_,f=>f
 |a::l,h,k,s,hk,g,f=>by simp only[aV]at hk;have g':=OK (by omega) g a s;have f':=ad9 (by omega) g f a s;have i:=Pr (n:=n) l (h:=(rN (h,s) a).1) (k+1) (rN (h,s) a).2 (by omega) (g'.mono (by push_cast;omega)) f';rw[List.foldl_cons];exact i
abbrev SS (r:Nat):Nat->az Fw->bt->Vector->Bool->Prop:=λ_ C q v b=>q.2.2.2.2.1=false/\(C≠[]->C.length+(bif b then 0 else(v.2.1-v.2.2.2.1).toNat)<=r)
abbrev aoB (r:Nat):Nat->az Fw->bt->Vector->Bool->Prop:=λ_ C q v b=>q.2.2.2.2.1=false/\(C≠[]->C.length<=r/\(b=false->v.2.2.2.2.2=false->C.length+(v.2.1-v.2.2.2.1).toNat+1<=r))
theorem aeb (g:Good n h)(f:Live ak1 h):Live (SS 7) h:=by refine⟨f.maps,f.mem,f.tx,λk hk=>?_⟩;obtain⟨q,p,v,b,g1,g2,g3,g4,hd,x,P,C,F,s,w1,w2,w3,w4⟩:=f.rx k hk;have hv:=(uc v).1 (g.vec v (aQ g3));have hc:=s.com.len;refine⟨q,p,v,b,g1,g2,g3,g4,hd,x,P,C,F,s,w1,w2,w3,w4,λ_=>?_⟩;cases b with|true=>show C.length+0<=7;omega|false=>show C.length+(v.2.1-v.2.2.2.1).toNat<=7;omega
theorem aaE (hn:n<=1000000000000)(g:Good n h)(hc:1<=c/\c<=1000)(f:Live (SS r) h):Live (SS (r-1)) (iy (sv h) (c:Int)).1:=by
 have t:Live (aoB r) (sv h):=by
  refine K2 hn g f λk C q v b hv w1 w2 w3 hA=>⟨hA.1,λhC=>?_⟩
  have ts:=MO hv;have hr:=hA.2 hC;cases b with|true=>have hr:C.length+0<=r:=hr;exact⟨by omega,λe=>by cases e⟩|false=>have hr:C.length+(v.2.1-v.2.2.2.1).toNat<=r:=hr;refine⟨by omega,λ_ e=>?_⟩;rcases ts.2.2.2.2 (w3 rfl hC) w2 with g1|g1;rw[e]at g1;cases g1;rw[ts.2.1];omega
 refine JI hn (DC g) t hc λk C q v b q' v' b' hv w1 w2 w3 hq hA=>⟨λhb iB KR=>⟨hq.trans hA.1,λhC=>?_⟩,λ_ _ _=>⟨hq.trans hA.1,λe=>absurd rfl e⟩,λ_ hl iB=>⟨hq.trans hA.1,λhC=>?_⟩⟩
 have:=(hA.2 hC).2 hb.1 hb.2;subst iB KR;show C.length+(v'.2.1-v'.2.2.2.1).toNat<=r-1;omega;subst iB;have hC':C≠[]:=λe=>hC (by rw[e];simp);have:=(hA.2 hC').1;have:0<C.length:=List.length_pos_iff.2 hC';show(C.drop c).length+0<=r-1;rw[aP];omega
theorem CE (b:Int)(g:Good n h):∀k,Good n (ui b k h)
 |0=>g
 |k+1=>I8 (DC (CE b g k)) b
theorem Me (hn:n<=1000000000000)(g:Good n h)(hc:1<=c/\c<=1000)(f:Live (SS r) h):∀k,Live (SS (r-k)) (ui (c:Int) k h)
 |0=>f
 |k+1=>by have i:=Me hn g hc f k;have:=aaE hn (CE (c:Int) g k) hc i;rw[show r-(k+1)=r-k-1 by omega];exact this
theorem aks (h:Host):(sv h).2.2.1=h.2.2.1:=by unfold sv;cases fb h with|false=>rfl|true=>exact(pP yw h _).tx
theorem abd (h:Host)(b:Int):(iy h b).1.2.2.1=h.2.2.1:=by unfold iy;cases fb h&&dD b 1 1000 with|false=>rfl|true=>exact(BL b h _).tx
theorem Wc (h:Host):(ko h).2.2.1=h.2.2.1:=by unfold ko;cases fb h with|false=>rfl|true=>exact(pP pX h _).tx
theorem Lt (h:Host)(b:Int):∀k,(ui b k h).2.2.1=h.2.2.1
 |0=>rfl
 |k+1=>(abd _ b).trans ((aks _).trans (Lt h b k))
theorem LU (hn:n<=300000000000)(g:Good n h)(f:Live Q h)(hc:1<=c/\c<=1000)(hr:7<=r/\r<=200):Good (n+640) (nf h (c:Int) (r:Int))/\Live (SS 0) (nf h (c:Int) (r:Int))/\P0 (nf h (c:Int) (r:Int))=true:=by
 have gt:=yB g;obtain⟨ft,wt⟩:=yR (by omega) g f;have gf:=H6 (by omega) gt;have ff:=Ig (by omega) gt ft;have e:nf h (c:Int) (r:Int)=ui (c:Int) r (ko (dv h)):=by unfold nf;rw[g.ok (by omega),aS.2 ⟨by omega,by omega⟩,aS.2 ⟨by omega,by omega⟩];rfl
 have gd:=CE (c:Int) gf r;have fd:=Me (by omega) gf hc (aeb gf ff) r;have tx:=(Lt (ko (dv h)) (c:Int) r).trans (Wc _);rw[show 7-r=0 by omega]at fd;rw[e];refine⟨gd,fd,?_⟩;unfold P0;rw[gd.ok (by omega),tx,wt];simp only[dg,bC];rw[dw,cl,bC,aL];intro q hq;obtain⟨k,hk⟩:=List.getElem?_of_mem hq;obtain⟨iz,_⟩:=aB.1 hk;have h2:=qC gd;obtain⟨q',p,v,b,g1,g2,g3,g4,hd,x,P,C,F,s,w1,w2,w3,w4,w5⟩:=fd.rx k iz;rw[hk]at g1;have g1:=bQ g1;subst g1;have hC:C=[]:=by cases C with|nil=>rfl|cons y C=>have:=w5 (by simp);simp at this
 subst hC;have nx:=Lb fd.mem (b:=iq k+64) (by unfold iq;omega) s.com;have Vq:AJ (ui (c:Int) r (ko (dv h))).2.1 (ui (c:Int) r (ko (dv h))).1 0 q=false:=by unfold AJ;rw[fd.maps,s.RS,nx,eH]
 rw[Vq,w4];rfl
theorem mZ.same {B:Nat->Int}{Z:Fl->aC Stream}{h':Host}(f:mZ B qf Z h)(h2:h.2.2.2.1.length<=2)(e3:h'.2.2.2.1=h.2.2.2.1)(e4:h'.2.2.2.2.1=h.2.2.2.2.1)(es:Dh h'=Dh h)(out:∀i,i<4864->1280<=i->mB h'.1 i=mB h.1 i):mZ B qf Z h':=Con.same f h2 e3 e4 out λj D q hQ=>by rw[es];exact hQ
theorem QV (hn:n<=1000000000000)(g:Good n h){B:Nat->Int}{Z:Fl->aC Stream}(f:mZ B qf Z h):mZ B qf Z (dv h):=by unfold dv;rw[g.ok hn,ah];exact mZ.same (h':=(h.1,h.2.1,_,h.2.2.2.1,h.2.2.2.2.1,h.2.2.2.2.2.1,h.2.2.2.2.2.2.1,h.2.2.2.2.2.2.2.1,h.2.2.2.2.2.2.2.2.1,h.2.2.2.2.2.2.2.2.2.1,_)) f (qC g) rfl rfl rfl λ_ _ _=>rfl
theorem adl (hn:n<=1000000000000)(g:Good n h){B:Nat->Int}{Z:Fl->aC Stream}(f:mZ B qf Z h):mZ B qf Z (sv h):=by
 have key:∀k,(eQ jg k h).1=h.1/\(eQ jg k h).2.2.2.1=h.2.2.2.1/\(eQ jg k h).2.2.2.2.1=h.2.2.2.2.1/\Dh (eQ jg k h)=Dh h:=by intro k;induction k with|zero=>exact⟨rfl,rfl,rfl,rfl⟩|succ k ih=>refine(?_:(jg k (eQ jg k h)).1=h.1/\(jg k (eQ jg k h)).2.2.2.1=h.2.2.2.1/\(jg k (eQ jg k h)).2.2.2.2.1=h.2.2.2.2.1/\Dh (jg k (eQ jg k h))=Dh h);generalize eQ jg k h=r at ih⊢;unfold jg;cases r.2.2.2.2.2.1[k]?<;>exact ih
 unfold sv;rw[g.ok hn,ah];obtain⟨a,b,c,d⟩:=key h.2.2.2.2.2.1.length;exact f.same (qC g) b c d λi _ _=>by rw[a]
theorem V9 (hn:n<=1000000000000)(t:Int)(g:Good n h)(l:Live Q h){B:Nat->Int}{Z:Fl->aC Stream}(f:mZ B qf Z h)(hk:k<h.2.2.2.1.length)(hc:1<=c/\c<=1000):mZ B qf Z (vJ (c:Int) k (t,h)).2:=by
 have Eb:iq k=1280+1792*k:=rfl;have h2:=qC g;obtain⟨q,p,v,b,g1,g2,g3,g4,hd,x,P,C,F,s,w1,w2,w3,w4⟩:=l.rx k hk;have rq:=(g.rx q (aQ g1)).rx hn;obtain⟨q',p',D,d1,d2,d3,d4⟩:=f k hk;rw[g1]at d1;have d1:=bQ d1;subst d1;rw[g2]at d2;have d2:=bQ d2;subst d2;obtain⟨m1,_,_,_,m5⟩:=Ll l.mem (by omega) s rq h.2.2.2.2.2.2.2.2.2.1 (b:=c);obtain⟨r1,r2,r3⟩:=ahY l.mem (by omega) d3 rq h.2.2.2.2.2.2.2.2.2.1 (b:=c) (by omega);obtain⟨hql,_⟩:=aB.1 g1;obtain⟨Er,_⟩:=aB.1 g2;unfold vJ;simp only[g1,g2,g3,g4,l.maps];generalize hR:gU (bI 38) h.1 0 q p h.2.2.2.2.2.2.2.2.2.1 (c:Int)=R at m1 m5 r1 r2 r3;cases b||(re v).2 with
 |false=>exact mZ.same (h':=(h.1,bI 38,h.2.2.1,h.2.2.2.1,h.2.2.2.2.1,_,_,h.2.2.2.2.2.2.2)) f h2 rfl rfl rfl λ_ _ _=>rfl
 |true=>
  simp only[ah];have an6:∀w∈(D.take c).map (·.2),cH w=true/\qf (dP w)=k:=λw hw=>by obtain⟨y,hy,rfl⟩:=dx.1 hw;exact d4.1 _ (aU _ (dx.2 ⟨y,List.mem_of_mem_take hy,rfl⟩))
  have lk:∀fl,jF R.2.2.2.1 fl=Ba fl (jF (Dh h) fl) ((D.take c).map (·.2)):=λfl=>by rw[r2,Sv _ _ _ λw hw=>(an6 w hw).1];rfl
  have hl:vP R.2.1=vP q:=by unfold vP;rw[r3]
  refine Con.step (Q:=PQ B qf (jF (Dh h)) Z) f h2 hk (aD ..) (λj hj=>⟨aF (cd hj),aF (cd hj)⟩) (λi hi ho=>m5 i hi (by omega)) (λj hj D' q' hQ=>⟨hQ.1,hQ.2.1,?_⟩) ⟨R.2.1,R.2.2.1,D.drop c,bq hql,bq Er,r1,λw hw=>?_,by rw[r3];exact d4.2.1,?_⟩;rcases hQ.2.2 with hz|hz;exact Or.inl hz;refine Or.inr λfl hf=>?_;show Ba fl (jF R.2.2.2.1 fl) (uf D' q')=Z fl;have e9:Ba fl (jF (Dh h) fl) ((D.take c).map (·.2))=jF (Dh h) fl:=UW _ _ λw hw e0=>hj (by rw[<-hf,<-e0];exact(an6 w hw).2);rw[lk,e9];exact hz fl hf;unfold uf at hw;rw[hl]at hw;refine d4.1 w ?_;rcases ay.1 hw with u|u;obtain⟨y,hy,rfl⟩:=dx.1 u;exact aU _ (dx.2 ⟨y,List.mem_of_mem_drop hy,rfl⟩);exact bm _ u;rcases d4.2.2 with hz|hz;exact Or.inl (by rw[r3];exact hz);refine Or.inr λfl hf=>?_;show Ba fl (jF R.2.2.2.1 fl) (uf (D.drop c) R.2.1)=Z fl;unfold uf;rw[lk,hl,<-Ce,<-aE,<-cu,cC];exact hz fl hf
theorem Ub (hn:n<=1000000000000)(g:Good n h)(l:Live Q h){B:Nat->Int}{Z:Fl->aC Stream}(f:mZ B qf Z h)(b:Int):mZ B qf Z (iy h b).1:=by
 cases hb:dD b 1 1000 with
 |false=>unfold iy;rw[hb,eH];exact f
 |true=>
  have hb:=aS.1 hb;obtain⟨c,rfl⟩:=aA (show 0<=b by omega);have hc:1<=c/\c<=1000:=by omega
  have key:∀k:Nat,k<=h.2.2.2.1.length->Good n (jO (c:Int) k h).2/\(jO (c:Int) k h).2.2.2.2.1.length=h.2.2.2.1.length/\Live zw (jO (c:Int) k h).2/\mZ B qf Z (jO (c:Int) k h).2:=by intro k;induction k with|zero=>intro _;exact⟨g,rfl,l.xU λ_ _ _ _ _ _ _=>trivial,f⟩|succ k ih=>intro hk;obtain⟨i1,i2,i3,i4⟩:=ih (by omega);have st:=Mf (B:=zw) hn (jO (c:Int) k h).1 i1 i3 (k:=k) (by omega) hc (λC q v b q' v' b' _ _ _ _ _ _=>⟨λ_ _ _=>trivial,λ_ _ _=>trivial,λ_ _ _=>trivial⟩);exact⟨FR (c:Int) k i1,((Gn (c:Int) k _).rx).trans i2,st.xU λ_ _ _ _ _ _ _=>trivial,V9 hn (jO (c:Int) k h).1 i1 i3 i4 (by omega) hc⟩
  unfold iy;rw[g.ok hn,aS.2 ⟨by omega,by omega⟩];exact(key h.2.2.2.1.length (aX _)).2.2.2
theorem LX (hn:n<=1000000000000)(g:Good n h)(l:Live zw h){B:Nat->Int}{Z:Fl->aC Stream}(f:mZ B qf Z h)(b:Int):∀k,Live zw (ui b k h)/\mZ B qf Z (ui b k h)
 |0=>⟨l,f⟩
 |k+1=>by obtain⟨i1,i2⟩:=LX hn g l f b k;have gd:=CE b g k;have lt:=K2 hn gd i1 (B:=zw) λ_ _ _ _ _ _ _ _ _ _=>trivial;exact⟨HC hn (DC gd) lt b,Ub hn (DC gd) lt (adl hn gd i2) b⟩
theorem aeT (h:Host):(ko h).2.2.2.1.length=h.2.2.2.1.length:=by unfold ko;cases fb h with|false=>rfl|true=>exact(pP pX h _).rx
theorem aia (h:Host):(sv h).2.2.2.1.length=h.2.2.2.1.length:=by unfold sv;cases fb h with|false=>rfl|true=>exact(pP yw h _).rx
theorem XV (h:Host)(b:Int):(iy h b).1.2.2.2.1.length=h.2.2.2.1.length:=by unfold iy;cases fb h&&dD b 1 1000 with|false=>rfl|true=>exact(BL b h _).rx
theorem P8 (h:Host)(b:Int):∀k,(ui b k h).2.2.2.1.length=h.2.2.2.1.length
 |0=>rfl
 |k+1=>(XV _ b).trans ((aia _).trans (P8 h b k))
theorem UX (h:Host):(dv h).2.2.2.1.length=h.2.2.2.1.length:=by unfold dv;cases fb h<;>rfl
theorem V6 (hn:n<=300000000000)(g:Good n h)(l:Live zw h){B:Nat->Int}{Z:Fl->aC Stream}(f:mZ B qf Z h)(hc:1<=c/\c<=1000)(hr:7<=r/\r<=200)(hq:∀fl,qf fl<h.2.2.2.1.length):(∃k q,(nf h (c:Int) (r:Int)).2.2.2.1[k]?=some q/\B k<q.2.2.2.2.2)\/∀fl,jF (Dh (nf h (c:Int) (r:Int))) fl=Z fl:=by
 obtain⟨gd,ld,qd⟩:=LU hn g l hc hr;have gt:=yB g;obtain⟨lt,_⟩:=yR (by omega) g l;have ft:=QV (by omega) g f;have gf:=H6 (by omega) gt;have lf:=Ig (by omega) gt lt;have ff:=ZU (by omega) gt lt ft;have e:nf h (c:Int) (r:Int)=ui (c:Int) r (ko (dv h)):=by unfold nf;rw[g.ok (by omega),aS.2 ⟨by omega,by omega⟩,aS.2 ⟨by omega,by omega⟩];rfl
 obtain⟨_,fd⟩:=LX (by omega) gf (lf.xU λ_ _ _ _ _ _ _=>trivial) ff (c:Int) r;rw[<-e]at fd;have el:(nf h (c:Int) (r:Int)).2.2.2.1.length=h.2.2.2.1.length:=by rw[e,P8,aeT,UX]
 generalize nf h (c:Int) (r:Int)=y at gd ld qd fd el⊢;by_cases h0:∃k q,y.2.2.2.1[k]?=some q/\B k<q.2.2.2.2.2;exact Or.inl h0;refine Or.inr λfl=>?_;have hk:qf fl<y.2.2.2.1.length:=by rw[el];exact hq fl
 obtain⟨q,p,D,d1,d2,⟨⟨hd,x,P,F,s⟩,ct⟩,d4⟩:=fd (qf fl) hk;have h2:=qC gd;unfold P0 at qd;simp only[ae,aN,aL]at qd;have q1:=qd.2.2 q (aQ d1);rw[cn]at q1;have hh:=q1.1;have hD:D=[]:=by cases D with|nil=>rfl|cons z D=>have nx:=La ld.mem (b:=iq (qf fl)+64) (by unfold iq;omega) s.com;have e1:=q1.2;unfold AJ at e1;rw[ld.maps,s.RS,nx.1,(gd.rx q (aQ d1)).rx (by omega)]at e1;cases e1
 have hdr:¬B (qf fl)<q.2.2.2.2.2:=λhp=>h0 ⟨_,q,d1,hp⟩;rcases d4.2.2 with hz|hz;exact absurd hz hdr;have:=hz fl rfl;unfold uf vP at this;rw[hD,hh]at this;exact this
theorem amu:gy (bI 38)=true:=by decide+kernel
def Az (f:Filter)(s:dj)(c:Bool):az Vector->Host
 |[]=>Wz f s c 38
 |v::vs=>Mi ((Az f s c vs).1,(Az f s c vs).2.1,(Az f s c vs).2.2.1,(Az f s c vs).2.2.2.1++[((0,0,0,0),(0,0,0),(0,0,0),((0,0,0,0,0,0,0,0,0,0,0,0,0,0,0,([]:Bytes)),0,0),false,0)],(Az f s c vs).2.2.2.2.1++[(0,0,0,([]:dA))],(Az f s c vs).2.2.2.2.2.1++[v],(Az f s c vs).2.2.2.2.2.2.1++[false],(Az f s c vs).2.2.2.2.2.2.2) vs.length
def RK (h:Host):=(h.1,h.2.1,h.2.2.1,h.2.2.2.1,h.2.2.2.2.1,h.2.2.2.2.2.1,h.2.2.2.2.2.2.1)
structure Made (f:Filter) (s:dj) (c:Bool) (k:Nat) (h:Host):Prop where
 mem:cY h.1=true
 ml:h.1.length=38
 maps:h.2.1=bI 38
 tx:h.2.2.1=tc
 rx:h.2.2.2.1.length=k
 rxs:∀r∈h.2.2.2.1,xQ 0 r/\r.2.2.2.2.1=false
 pl:h.2.2.2.2.1.length=k
 pls:∀p∈h.2.2.2.2.1,du p=true/\p.2.2.2.length<=1000
 vec:h.2.2.2.2.2.1.length=k
 Yu:∀v∈h.2.2.2.2.2.1,dW v=true
 YJ:h.2.2.2.2.2.2.1.length=k
 rest:h.2.2.2.2.2.2.2=(f,s,([]:List Stream),c,([]:List Bytes),([]:List Int),([]:List Int),0,0,0,0,0)
 is:∃vs,vs.length=k/\h=Az f s c vs/\∀v∈vs,v.2.1<=3/\v.2.2.2.2.1=false
theorem XZ (l:az α)(x y:α):(l++[x]).set l.length y=l++[y]:=by simp
theorem ajZ {n:Nat}(h:n<=64):cY (Na n)=true:=pz.2 ⟨λx hx=>by rw[(List.mem_replicate.1 hx).2];exact wi 128,by simp[Na];exact h⟩
theorem aee {c:Bool}(m:Made f s c k h)(hk:k<=8)(hv:dW v=true)(h3:v.2.1<=3/\v.2.2.2.2.1=false):Ends (xL (h.1,h.2.1,h.2.2.1,h.2.2.2.1++[((0,0,0,0),(0,0,0),(0,0,0),((0,0,0,0,0,0,0,0,0,0,0,0,0,0,0,([]:Bytes)),0,0),false,0)],h.2.2.2.2.1++[(0,0,0,([]:dA))],h.2.2.2.2.2.1++[v],h.2.2.2.2.2.2.1++[false],h.2.2.2.2.2.2.2) (k:Int)) λr=>Made f s c (k+1) r.2:=by
 refine Ends.of (air _ k hk (by simp[m.rx]) (by simp[m.pl]) (by show h.2.1.length<=_;rw[m.maps,K5];omega) (by show h.1.length<=_;rw[m.ml];omega)) ?_;have o:=SF m.mem h.2.1 hk;have e1:(h.2.2.2.1++[(((0,0,0,0),(0,0,0),(0,0,0),((0,0,0,0,0,0,0,0,0,0,0,0,0,0,0,([]:Bytes)),0,0),false,0):bt)])[k]?=some ((0,0,0,0),(0,0,0),(0,0,0),((0,0,0,0,0,0,0,0,0,0,0,0,0,0,0,([]:Bytes)),0,0),false,0):=by rw[<-m.rx];simp
 have e2:∀y:bt,(h.2.2.2.1++[(((0,0,0,0),(0,0,0),(0,0,0),((0,0,0,0,0,0,0,0,0,0,0,0,0,0,0,([]:Bytes)),0,0),false,0):bt)]).set k y=h.2.2.2.1++[y]:=λy=>by rw[<-m.rx];exact XZ _ _ _
 have e3:∀y:dy,(h.2.2.2.2.1++[(((0,0,0,([]:dA))):dy)]).set k y=h.2.2.2.2.1++[y]:=λy=>by rw[<-m.pl];exact XZ _ _ _
 obtain⟨vs,vl,ve,vb⟩:=m.is;have is0:Mi (h.1,h.2.1,h.2.2.1,h.2.2.2.1++[((0,0,0,0),(0,0,0),(0,0,0),((0,0,0,0,0,0,0,0,0,0,0,0,0,0,0,([]:Bytes)),0,0),false,0)],h.2.2.2.2.1++[(0,0,0,([]:dA))],h.2.2.2.2.2.1++[v],h.2.2.2.2.2.2.1++[false],h.2.2.2.2.2.2.2) k=Az f s c (v::vs):=by rw[Az,<-ve,vl]
 unfold Mi at is0⊢;simp only[e1,e2,e3]at is0⊢;have hp:(mh h.2.1 h.1 k).2.2.1.2.2.2.length<=1000:=by unfold mh;exact bH (H2 ..) (qt _ _ _)
 refine⟨o.1,?_,m.maps,m.tx,by show(_++[_]).length=_;rw[aj,m.rx];rfl,?_,by show(_++[_]).length=_;rw[aj,m.pl];rfl,?_,by show(_++[_]).length=_;rw[aj,m.vec];rfl,?_,by show(_++[_]).length=_;rw[aj,m.YJ];rfl,m.rest,⟨v::vs,by simp[vl],is0,λw hw=>?_⟩⟩;show(mh h.2.1 h.1 k).1.length=38;rw[SE,m.ml];intro r hr;rcases ay.1 hr with hr|hr;exact m.rxs r hr;rw[bA.1 hr];exact⟨XU hk o.2.1 ⟨eV _,eV _⟩,rfl⟩;intro p hp';rcases ay.1 hp' with hp'|hp';exact m.pls p hp';rw[bA.1 hp'];exact⟨o.2.2,hp⟩;intro w hw;rcases ay.1 hw with hw|hw;exact m.Yu w hw;rw[bA.1 hw];exact hv;rcases cD.1 hw with e|e;rw[e];exact h3;exact vb w e
def abr (h:Host):dj:=h.2.2.2.2.2.2.2.2.1
structure Hp (h:Host):Prop where
 OO:Good 0 h
 sz:CZ 2000 h
 maps:∀m∈h.2.1,m.2.2.1<(h.1.length:Int)
 Ie:h.2.2.1.2.2.1=[]/\h.2.2.2.2.2.2.2.2.2.2.2.1=[]/\h.2.2.2.2.2.2.2.2.2.2.2.2.1=[]/\h.2.2.2.2.2.2.2.2.2.2.2.2.2.1=[]
 is:∃f s c vs,vs.length<=2/\RK h=RK (Az f s c vs)/\∀v∈vs,v.2.1<=3/\v.2.2.2.2.1=false
theorem aaH {c:Bool}(m:Made f s c k h)(hk:1<=k/\k<=2)(hf:nB f=true)(DH:f.2.2.length<=1000)(hs:fu s (k:Int)=true)(hz:yy s):Hp h:=by have h4:=qt 256 128 8;obtain⟨vs,vl,ve,vb⟩:=m.is;obtain⟨m1,m2,m3,m4,m5,m6,m7,m8,m9,m10,m11,m12,_⟩:=m;obtain⟨mem,maps,tx,rx,pl,vec,YJ,rest⟩:=h;simp only at m1 m2 m3 m4 m5 m6 m7 m8 m9 m10 m11 m12;subst m12 m3 m4;refine⟨⟨m1,amu,aiX 0 (by omega),hf,?_,by show fu s (rx.length:Int)=true;rw[m5];exact hs,λr hr=>(m6 r hr).1,λp hp=>(m8 p hp).1,m10,?_⟩,⟨?_,?_⟩,?_,⟨rfl,rfl,rfl,rfl⟩,⟨f,s,c,vs,by omega,congrArg RK ve,vb⟩⟩;unfold po;simp only[ae,aS,bn];omega;intro x hx;simp only[iD,cD,List.not_mem_nil,or_false,or_self]at hx;omega;have hm:=(pz.1 m1).1;refine⟨⟨by show mem.length<=2000;omega,λx hx=>by show x.length<=2000;rw[hm x hx];omega⟩,⟨by show(bI 38).length<=2000;rw[K5];omega,λ_ _=>⟨cM,cM,cM,cM⟩⟩,?_,?_,?_,?_,?_,⟨cM,cM,by show f.2.2.length<=2000;omega,λ_ _=>trivial⟩,?_,⟨bM _,λx hx=>by cases hx⟩,cM,⟨bM _,λx hx=>by cases hx⟩,⟨bM _,λx hx=>by cases hx⟩,⟨bM _,λx hx=>by cases hx⟩,cM,cM,cM,cM,cM⟩;exact⟨⟨cM,cM,cM,cM⟩,⟨cM,cM,cM,by show List.length (gP 256 128 8).1.2.2.2<=2000;omega,λ_ _=>trivial⟩,⟨bM _,λx hx=>by cases hx⟩,cM⟩;refine⟨by show rx.length<=2000;omega,λx hx=>?_⟩;have e:=(m6 x hx).1.free (m6 x hx).2;refine⟨⟨cM,cM,cM,cM⟩,⟨cM,cM,cM⟩,⟨cM,cM,cM⟩,?_,cM,cM⟩;rw[e];exact⟨⟨cM,cM,cM,cM,cM,cM,cM,cM,cM,cM,cM,cM,cM,cM,cM,bM _⟩,cM,cM⟩;exact⟨by show pl.length<=2000;omega,λx hx=>⟨cM,cM,cM,by have:=(m8 x hx).2;show x.2.2.2.length<=2000;omega,λ_ _=>trivial⟩⟩;exact⟨by show vec.length<=2000;omega,λx hx=>⟨cM,cM,cM,cM,cM,cM⟩⟩;exact⟨by show YJ.length<=2000;omega,λx hx=>trivial⟩;exact⟨⟨by have:=hz.r;show s.1.length<=2000;omega,λ_ _=>⟨cM,cM,cM,cM,cM,cM,cM,cM,cM⟩⟩,⟨by have:=hz.t;show s.2.1.length<=2000;omega,λ_ _=>⟨cM,⟨cM,cM,cM,cM,cM⟩,cM⟩⟩,by have:=hz.k;show s.2.2.1.length<=2000;omega,by have:=hz.p;show s.2.2.2.length<=2000;omega,λ_ _=>trivial⟩;show List.length (gP 256 128 8).1.2.2.2+0<=2000;omega;intro m hm;have hm:m∈bI 38:=hm;simp only[bI,dx,cB]at hm;obtain⟨i,hi,rfl⟩:=hm;show 37-(i:Int)<(mem.length:Int);omega
theorem aew {a b:Int}(h:(Ai a b).2=true):dW (Ai a b).1=true:=by unfold Ai at h⊢;cases hv:dW (a,b,0,0,false,false)with|false=>rw[hv]at h;cases h|true=>exact hv
theorem ahI {a b:Int}(h:(Ai a b).2=true)(hb:b<=3):(Ai a b).1.2.1<=3/\(Ai a b).1.2.2.2.2.1=false:=by unfold Ai at h⊢;cases hv:dW (a,b,0,0,false,false)with|false=>rw[hv]at h;cases h|true=>exact⟨hb,rfl⟩
theorem PB (q:Int)(f:Filter)(s:dj)(c:Bool)(a b:Int)(hf:f.2.2.length<=1000)(hs:yy s)(hb3:b<=3):Ends (xx q f s c a b) λr=>(r.2=true->Hp r.1/\abr r.1=s)/\((1<=q/\q<=2)->nB f=true->fu s q=true->(Ai a b).2=true->r.2=true):=by
 have z1:=hs.r;have z2:=hs.t;have z3:=hs.p;unfold xx;rw[abk,ab,dR,ab];refine Ends.bind (P:=λx=>(x=false->(1<=q/\q<=2)/\nB f=true/\fu s q=true/\(Ai a b).2=true)/\(x=true->(1<=q/\q<=2)->nB f=true->fu s q=true->(Ai a b).2=true->False)) ?_ λx hx=>Ends.cond (λhx2=>Ends.pure ⟨(λh=>by cases h),λg1 g2 g3 g4=>(hx.2 hx2 g1 g2 g3 g4).elim⟩) λh=>?_;refine Ends.cond (λk=>Ends.pure ⟨(λh=>by cases h),λ_ g1 _ _ _=>by rw[aS.2 g1]at k;cases k⟩) λh1=>?_;rw[EP f (by omega),ab];refine Ends.cond (λk=>Ends.pure ⟨(λh=>by cases h),λ_ _ g2 _ _=>by rw[g2]at k;cases k⟩) λh2=>?_;rw[Bb s q (by omega) (by omega) (by omega),ab];refine Ends.cond (λk=>Ends.pure ⟨(λh=>by cases h),λ_ _ _ g3 _=>by rw[g3]at k;cases k⟩) λh3=>Ends.pure ⟨λh4=>?_,λk _ _ _ g4=>by rw[g4]at k;cases k⟩;exact⟨aS.1 (by simpa using h1),by simpa using h2,by simpa using h3,by simpa using h4⟩;obtain⟨hq,h1,h2,h3⟩:=hx.1 h;have hm:sW 38=some (Na 38):=abj 38 (by omega);rw[hm,ab,afe,ab,Cg f (by omega),ab,Dg s (by omega) (by omega) (by omega),ab];have hv:=aew h3;refine Ends.AA (λx=>0<=x.1/\x.1<=38/\x.2=Wz f s c x.1.toNat) (λx=>(38-x.1).toNat) ⟨by simp,by simp,rfl⟩ (by simp) λx nx hx hn=>?_;obtain⟨i,y⟩:=x;obtain⟨x1,x2,x3⟩:=hx;simp only at x1 x2 x3;unfold Al;refine Ends.cond (λk=>?_) λk=>?_;have k:=bz k;have hl:=K5 i.toNat;simp only at k;rw[dR,ab];simp only;rw[al (n:=i+1),al (n:=37-i)];subst x3;refine Ends.room (by show(bI i.toNat).length+1<=_;omega) (hn _ ⟨by show 0<=i+1;omega,by show i+1<=38;omega,?_⟩ (by show(38-(i+1)).toNat<(38-i).toNat;omega));have e:(i+1).toNat=i.toNat+1:=by omega
 show(Na 38,bI i.toNat++_,_)=Wz f s c (i+1).toNat;rw[e];unfold Wz;rw[aaI,show((i.toNat:Nat):Int)=i by omega];have k:=fZ k;simp only at k;have e:i.toNat=38:=by omega
 rw[e]at x3;have hm0:Made f s c 0 y:=by rw[x3];exact⟨ajZ (by omega),by show(Na 38).length=38;simp[Na],rfl,rfl,rfl,(λ_ hr=>by cases hr),rfl,(λ_ hr=>by cases hr),rfl,(λ_ hr=>by cases hr),rfl,rfl,⟨[],rfl,rfl,λ_ hv=>by cases hv⟩⟩
 simp only;refine Ends.AA (λx=>0<=x.1/\x.1<=q/\Made f s c x.1.toNat x.2) (λx=>(q-x.1).toNat) ⟨by simp,by show(0:Int)<=q;omega,hm0⟩ (by simp;omega) λx nx hx hn=>?_;obtain⟨i,y⟩:=x;obtain⟨x1,x2,m⟩:=hx;simp only at x1 x2 m;unfold yn;refine Ends.cond (λk=>?_) λk=>Ends.pure ⟨λ_=>?_,λ_ _ _ _=>rfl⟩;have k:=bz k;simp only at k;have l1:=m.rx;have l2:=m.pl;have l3:=m.vec;have l4:=m.YJ;refine Ends.room (by simp;omega) (Ends.room (by simp;omega) (Ends.room (by simp;omega) (Ends.room (by simp;omega) ?_)));have ho:=aee m (by omega) hv (ahI h3 hb3);rw[show((i.toNat:Nat):Int)=i by omega]at ho;refine ho.bind λr hr=>?_;simp only;rw[al (n:=i+1)];refine hn _ ⟨by show 0<=i+1;omega,by show i+1<=q;omega,?_⟩ (by show(q-(i+1)).toNat<(q-i).toNat;omega);show Made f s c (i+1).toNat r.2;rw[show(i+1).toNat=i.toNat+1 by omega];exact hr;have k:=fZ k;simp only at k;have hi:i=q:=by omega
 subst hi;exact⟨aaH m (by omega) h1 hf (by rw[show((i.toNat:Nat):Int)=i by omega];exact h2) hs,congrArg (λx=>x.2.1) m.rest⟩
theorem ajX (n x:Int)(h0:0<=n)(h1:n<=1000000):Ends (jP n x) λr=>(r.length:Int)=n:=by unfold jP;rw[aJ ⟨h0,eV _⟩];refine Ends.room (by omega) (Ends.AA (λy=>(y.1.length:Int)=n/\0<=y.2/\y.2<=n) (λy=>(n-y.2).toNat) ⟨by simp;omega,by simp,h0⟩ (by simp;omega) λy nx hy hn=>?_);unfold qT;refine Ends.cond (λk=>?_) λk=>Ends.pure (by simp[aR];exact hy.1);have k:=bz k;rw[al (n:=y.2+1)];refine Ends.idx hy.2.1 (by omega) λ_=>Ends.idx hy.2.1 (by omega) λ_=>hn _ ⟨?_,?_,?_⟩ ?_;show((List.set _ _ _).length:Int)=n;rw[aD];exact hy.1;show 0<=y.2+1;omega;show y.2+1<=n;omega;show(n-(y.2+1)).toNat<(n-y.2).toNat;omega
theorem Xu:og=some (List.replicate 8 (0,(0,0,0,0,0),0)):=by unfold og;rw[aJ (by decide),bf (by decide)];rfl
theorem aax {k:Bytes}(hk:k.length=16):fu (([]:az kc),List.replicate 8 (0,(0,0,0,0,0),0),k,[0]) 1=true:=by
 have ht:om (List.replicate 8 (0,(0,0,0,0,0),0))=true:=by decide+kernel
 have hs:qB (k,[0]) 1=true:=by unfold qB;simp only[hk];decide+kernel
 unfold fu;rw[show yh ([]:az kc)=true from rfl,ht,hs];rfl
def Vl (l:az kc):Prop:=∀r∈l,r.2.2.2.2.2.2.1= -2
theorem adx {c:RD}(h:Cu c):Ends (Bo c) λr=>(Hp r.1/\Vl (abr r.1).1)/\Cu r.2:=by
 unfold Bo;refine Ends.AA (λx=>0<=x.1/\x.1<=4/\Cu x.2) (λx=>(4-x.1).toNat) ⟨by simp,by simp,h⟩ (by simp) λx nx hx hn=>?_;unfold Ar;refine Ends.cond (λk=>?_) λk=>?_;have k:=bz k;refine(aiv hx.2.2).bind λr1 p1=>?_;refine Ends.AA (λy=>(0<=y.1/\∀(j:Nat) r,(j:Int)<y.1->y.2.1[j]?=some r->r.2.2.2.2.2.2.1= -2)/\yy y.2) (λy=>((y.2.1.length:Int)-y.1).toNat) ⟨⟨by simp,λj r hj=>by simp at hj;omega⟩,p1.1.1⟩ (by have:=p1.1.1.r;simp;omega) λy ny hy hm=>?_;unfold As;refine Ends.cond (λk2=>?_) λk2=>?_;have k2:=bz k2;have hr:=hy.2.r;rw[al (n:=y.1+1)];refine Ends.idx hy.1.1 k2 λ_=>Ends.idx hy.1.1 k2 λ_=>hm _ ⟨⟨?_,λj r hj hr'=>?_⟩,⟨?_,hy.2.t,hy.2.k,hy.2.p⟩⟩ ?_;show 0<=y.1+1;have:=hy.1.1;omega;have hj:(j:Int)<y.1+1:=hj;have h0:=hy.1.1;by_cases hjy:j=y.1.toNat;subst hjy;rw[bq (by omega)]at hr';rw[<-bQ hr'];rw[aF (λe=>hjy e.symm)]at hr';exact hy.1.2 j r (by omega) hr';show(List.set _ _ _).length<=100;rw[aD];exact hr;show(((List.set _ _ _).length:Int)-(y.1+1)).toNat<_;rw[aD];omega;refine(V0 p1.2).bind λr6 p6=>(iV p6.2 (by decide)).bind λr7 p7=>(iV p7.2 (by decide)).bind λr8 p8=>(iV p8.2 (by decide)).bind λr9 p9=>?_;have hf:r6.1.2.2.length<=1000:=by rcases p6.1.2 with e|e<;>rw[e]<;>simp
 have vl:Vl y.2.1:=λr hr=>by obtain⟨j,hj⟩:=List.getElem?_of_mem hr;obtain⟨iz,_⟩:=aB.1 hj;exact hy.1.2 j r (by have:=fZ k2;omega) hj
 refine(PB _ _ _ _ _ _ hf hy.2 (by have:=p9.1;omega)).bind λsB p10=>Ends.cond (λk3=>Ends.pure ⟨⟨(p10.1 k3).1,by rw[(p10.1 k3).2];exact vl⟩,p9.2⟩) λ_=>?_;rw[al (n:=x.1+1) (by omega) (by have:=hx.2.1;omega)];refine hn _ ⟨by show 0<=x.1+1;have:=hx.1;omega,by show x.1+1<=4;omega,p9.2⟩ (by show(4-(x.1+1)).toNat<(4-x.1).toNat;omega);simp only[Xu,ab];refine(ajX 16 5 (by omega) (by omega)).bind λYK p14=>?_;refine(PB 1 (2,false,([]:dA)) (([]:az kc),List.replicate 8 (0,(0,0,0,0,0),0),YK,[0]) true 1 0 (by simp) ⟨by simp,by simp,by show YK.length=16;omega,by simp⟩ (by omega)).bind λDY p15=>?_;have f15:=p15.1 (p15.2 (by omega) (by decide+kernel) (aax (by omega)) (by decide+kernel));exact Ends.pure ⟨⟨f15.1,by rw[f15.2];exact λr hr=>by cases hr⟩,hx.2.2⟩
def Yx (h:Host)(s:az Stream):Host:=(h.1,h.2.1,h.2.2.1,h.2.2.2.1,h.2.2.2.2.1,h.2.2.2.2.2.1,h.2.2.2.2.2.2.1,h.2.2.2.2.2.2.2.1,h.2.2.2.2.2.2.2.2.1,s,h.2.2.2.2.2.2.2.2.2.2)
theorem QW (f:Hp h){s:az Stream}(h1:s.length<=2000)(h2:∀x∈s,x.2.2.1=[]):Hp (Yx h s):=by have g:=f.OO;have z:=f.sz.z;refine⟨⟨g.mem,g.maps,g.tx,g.Hk,g.lens,g.Ke,g.rx,g.pool,g.vec,g.BA⟩,⟨⟨z.1,z.2.1,z.2.2.1,z.2.2.2.1,z.2.2.2.2.1,z.2.2.2.2.2.1,z.2.2.2.2.2.2.1,z.2.2.2.2.2.2.2.1,z.2.2.2.2.2.2.2.2.1,⟨h1,λx hx=>?_⟩,z.2.2.2.2.2.2.2.2.2.2⟩,f.sz.t⟩,f.maps,f.Ie,f.is⟩;refine⟨⟨cM,cM,cM,cM,cM⟩,cM,?_,cM⟩;show x.2.2.1.length<=2000;rw[h2 x hx];simp
theorem ZW {c:RD}(h:Cu c){l:az Act}(hl:l.length<=20)(ha:∀a∈l,MU a):Ends (zu c l) λr=>(Hp r.1/\Vl (abr r.1).1)/\Cu r.2:=by unfold zu;refine(adx h).bind λr1 p1=>?_;refine Ends.AA (λx=>0<=x.2/\(x.1.length:Int)<=x.2/\x.2<=(l.length:Int)) (λx=>((l.length:Int)-x.2).toNat) ⟨by simp,by simp,by simp⟩ (by simp;omega) λx nx hx hn=>?_;unfold yq;refine Ends.cond (λk=>?_) λk=>?_;have k:=bz k;rw[al (n:=x.2+1)];refine Ends.idx hx.1 k λhi=>?_;have hx2:=ha _ (bF hi);replace hx2:=hx2.2.1;rw[Tb _ (by omega),ab];refine Ends.cond (λ_=>Ends.room (by simp;omega) (hn _ ⟨?_,?_,?_⟩ ?_)) λ_=>hn _ ⟨?_,?_,?_⟩ ?_;show 0<=x.2+1;omega;show((x.1++[_]).length:Int)<=x.2+1;simp;omega;show x.2+1<=_;omega;show((l.length:Int)-(x.2+1)).toNat<_;omega;show 0<=x.2+1;omega;show(x.1.length:Int)<=x.2+1;omega;show x.2+1<=_;omega;show((l.length:Int)-(x.2+1)).toNat<_;omega;exact(aj3 p1.2 (by omega)).bind λr6 p6=>Ends.pure ⟨⟨QW p1.1.1 (by omega) p6.1.2,p1.1.2⟩,p6.2⟩
theorem akc (g:Good n h)(hn:n<=1000000000000):Gs h=(h.2.2.2.2.2.2.2.1,h.2.2.2.2.2.2.2.2.1,(h.2.2.2.1.length:Int),h.2.2.2.2.2.2.2.2.2.1,([]:cg))/\S8 (Gs h)=true:=by
 have e:Gs h=(h.2.2.2.2.2.2.2.1,h.2.2.2.2.2.2.2.2.1,(h.2.2.2.1.length:Int),h.2.2.2.2.2.2.2.2.2.1,([]:cg)):=by unfold Gs;rw[g.ok hn];rfl
 refine⟨e,?_⟩;rw[e];unfold S8;rw[ae];exact⟨g.Hk,g.Ke⟩
theorem Vn (ha:a.length<=1048576):Ends (pF a) λr=>(Hp r.1/\Vl (abr r.1).1)/\r.2.length<=20/\∀x∈r.2,MU x:=by unfold pF;exact(ahJ ha).bind λr1 p1=>(ajb p1 true).bind λr2 p2=>(ZW p2.2 p2.1.1 λx hx=>(p2.1.2 x hx).1).bind λr3 p3=>Ends.pure ⟨p3.1,p2.1.1,λx hx=>(p2.1.2 x hx).1⟩
theorem abA (ha:a.length<=1048576):Ends (pF a) λr=>Hp r.1/\r.2.length<=20/\∀x∈r.2,MU x:=(Vn ha).mono λr hr=>⟨hr.1.1,hr.2⟩
theorem akt:TxS m tc 0 []:=by have np:=(DW (a:=256) (b:=128) (n:=8)).1;refine⟨rfl,⟨by simp,λj hj=>by simp at hj⟩,rfl,(λc hc=>by cases hc),?_⟩;show(gP 256 128 8).1.1=256/\(gP 256 128 8).1.2.1=128/\(gP 256 128 8).1.2.2.1=8;rw[np];exact⟨rfl,rfl,rfl⟩
theorem aea (f:Filter)(s:dj)(c:Bool):Cq 0 (Wz f s c 38):=by refine⟨rfl,⟨λx hx=>?_,?_⟩,⟨0,[],akt⟩,⟨bM _,rfl,rfl,rfl⟩,(λv hv=>by cases hv),λj hj=>by omega⟩;have hx:x∈List.replicate 38 (ug 128):=hx;rw[(List.mem_replicate.1 hx).2];exact wi 128;show(List.replicate 38 (ug 128)).length=38;simp
theorem ab9 {l:az α}{j:Nat}(hl:l.length=k)(hj:j<k)(x y:α):((l++[x]).set k y)[j]?=l[j]?:=by rw[aF (by omega),bu (by omega)]
theorem Wh {l:az α}(hl:l.length=k)(x y:α):((l++[x]).set k y)[k]?=some y:=bq (by simp;omega)
theorem aca {l:az α}{j:Nat}(hl:l.length=k)(hj:j<k)(x:α):(l++[x])[j]?=l[j]?:=bu (by omega)
theorem Ud {l:az α}(hl:l.length=k)(x:α):(l++[x])[k]?=some x:=by rw[<-hl];simp
theorem aez (r:Cq h.2.2.2.1.length h)(hk:h.2.2.2.1.length<=1)(h3:v.2.1<=3/\v.2.2.2.2.1=false):Cq (h.2.2.2.1.length+1) (Mi (h.1,h.2.1,h.2.2.1,h.2.2.2.1++[((0,0,0,0),(0,0,0),(0,0,0),((0,0,0,0,0,0,0,0,0,0,0,0,0,0,0,([]:Bytes)),0,0),false,0)],h.2.2.2.2.1++[(0,0,0,([]:dA))],h.2.2.2.2.2.1++[v],h.2.2.2.2.2.2.1++[false],h.2.2.2.2.2.2.2) h.2.2.2.1.length)/\(Mi (h.1,h.2.1,h.2.2.1,h.2.2.2.1++[((0,0,0,0),(0,0,0),(0,0,0),((0,0,0,0,0,0,0,0,0,0,0,0,0,0,0,([]:Bytes)),0,0),false,0)],h.2.2.2.2.1++[(0,0,0,([]:dA))],h.2.2.2.2.2.1++[v],h.2.2.2.2.2.2.1++[false],h.2.2.2.2.2.2.2) h.2.2.2.1.length).2.2.2.1.length=h.2.2.2.1.length+1:=by obtain⟨l0,l2,l3,l4⟩:=r.lens;generalize Q2:h.2.2.2.1.length=k at*;have l1:=Q2;have hn:iq k=1280+1792*k:=rfl;unfold Mi;simp only[Ud l1,r.maps];obtain⟨o1,⟨P,o2⟩,o3⟩:=Ld r.mem hk (((0,0,0,0,0,0,0,0,0,0,0,0,0,0,0,([]:Bytes)),0,0),false,0);have q:=acw r.mem hk (((0,0,0,0,0,0,0,0,0,0,0,0,0,0,0,([]:Bytes)),0,0),false,0) rfl (v:=v) h3.1 h3.2;generalize mh (bI 38) h.1 k=O at o1 o2 o3 q;obtain⟨hd,L,st⟩:=r.tx;refine⟨⟨rfl,o1,⟨hd,L,st.frame λi hi=>o3 i (by omega) (by omega)⟩,?_,λw hw=>?_,λj hj=>?_⟩,?_⟩;show(List.set _ _ _).length<=2/\(List.set _ _ _).length=(List.set _ _ _).length/\(_++[_]).length=(List.set _ _ _).length/\(_++[_]).length=(List.set _ _ _).length;simp only[aD,aj,bD];omega;rcases ay.1 hw with e|e;exact r.vec w e;rw[bA.1 e];exact h3.1;by_cases M3:j=k;subst M3;exact⟨_,_,v,false,Wh l1 _ _,Wh l2 _ _,Ud l3 v,Ud l4 false,q⟩;have hj2:iq j=1280+1792*j:=rfl;obtain⟨q',p',v',b',g1,g2,g3,g4,g5⟩:=r.rx j (by omega);exact⟨q',p',v',b',(ab9 l1 (by omega) _ _).trans g1,(ab9 l2 (by omega) _ _).trans g2,(aca l3 (by omega) v).trans g3,(aca l4 (by omega) false).trans g4,g5.frame λi h1 h2=>o3 i (by omega) (by omega)⟩;show(List.set _ _ _).length=_;simp only[aD,aj,bD];omega
theorem OZ (f:Filter)(s:dj)(c:Bool):∀vs:az Vector,vs.length<=2->(∀v∈vs,v.2.1<=3/\v.2.2.2.2.1=false)->Cq (Az f s c vs).2.2.2.1.length (Az f s c vs)/\(Az f s c vs).2.2.2.1.length=vs.length
 |[],_,_=>⟨aea f s c,rfl⟩
 |v::vs,hl,hv=>by simp only[aV]at hl;have i:=OZ f s c vs (by omega) λw hw=>hv w (by simp[hw]);have o:=aez (v:=v) i.1 (by omega) (hv v (by simp));rw[Az];rw[i.2]at o;refine⟨?_,by rw[o.2];rfl⟩;rw[o.2];exact o.1
theorem ac5 {k:Host}(e:RK h=RK k)(f:Live Q k):Live Q h:=by obtain⟨a1,a2,a3,a4,a5,a6,a7,a8⟩:=h;obtain⟨b1,b2,b3,b4,b5,b6,b7,b8⟩:=k;unfold RK at e;simp only[Prod.mk.injEq]at e;obtain⟨rfl,rfl,rfl,rfl,rfl,rfl,rfl⟩:=e;exact⟨f.maps,f.mem,f.tx,f.rx⟩
theorem ado (f:Hp h):Live Xt h:=by obtain⟨fl,s,c,vs,hl,e,hv⟩:=f.is;exact ac5 e (OZ fl s c vs hl hv).1.new
theorem ZY (f:Hp h):Live zw h:=(ado f).xU λ_ _ _ _ _ _ _=>trivial
structure Dr (a b:Host):Prop where
 Hk:b.2.2.2.2.2.2.2.1=a.2.2.2.2.2.2.2.1
 Ke:abr b=abr a
 len:b.2.2.2.1.length=a.2.2.2.1.length
theorem Dr.refl (a:Host):Dr a a:=⟨rfl,rfl,rfl⟩
theorem Dr.trans {a b c:Host}(h:Dr a b)(g:Dr b c):Dr a c:=⟨g.Hk.trans h.Hk,g.Ke.trans h.Ke,g.len.trans h.len⟩
theorem Dr.of {a b:Host}(h:mG k a b):Dr a b:=⟨h.Hk,h.Ke,h.rx⟩
theorem Rb (h:Host)(x:Bytes):Dr h (gV h x):=by
 have c:∀a b c d,Dr h (oR h a b c d):=λ_ _ _ _=>⟨rfl,rfl,rfl⟩
 unfold gV;cases !fb h;case true=>exact Dr.refl h
 cases (eO x).2 !=0;case true=>exact c _ _ _ _
 cases !kK h.2.2.2.2.2.2.2.1 (eO x).1;case true=>exact c _ _ _ _
 cases iS h.2.2.2.2.2.2.2.2.1 (h.2.2.2.1.length:Int) (eO x).1== -1;case true=>exact c _ _ _ _
 simp only[af];cases h.2.2.2.1[(iS h.2.2.2.2.2.2.2.2.1 (h.2.2.2.1.length:Int) (eO x).1).toNat]? with|none=>exact Dr.refl h|some q=>exact(c _ _ _ _).trans (.of (CX (VE ..)))
structure Run (n:Int) (qf:Fl->Nat) (fl:Filter) (st:dj) (c:Nat) (Z:Fl->Option Stream) (h:Host):Prop where
 OO:Good n h
 live:Live zw h
 flow:mZ (λ_=>0) qf Z h
 Hk:h.2.2.2.2.2.2.2.1=fl
 Ke:abr h=st
 len:h.2.2.2.1.length=c
theorem Run.jn {n':Int}{fl:Filter}{st:dj}{Z Z':Fl->aC Stream}{h':Host}(r:Run n qf fl st c Z h)(g:Good n' h')(l:Live zw h')(f:mZ (λ_=>0) qf Z' h')(k:Dr h h'):Run n' qf fl st c Z' h':=⟨g,l,f,k.Hk.trans r.Hk,k.Ke.trans r.Ke,k.len.trans r.len⟩
theorem agM (l:Live Xt h)(qf:Fl->Nat){B:Nat->Int}(hB:∀k q,h.2.2.2.1[k]?=some q->B k<=q.2.2.2.2.2):mZ B qf (jF (Dh h)) h:=by
 refine λk hk=>?_;obtain⟨q,p,v,b,g1,g2,g3,g4,hd,x,P,C,F,s,w1,w2,w3,rfl,_,w6,_⟩:=l.rx k hk;have e:uf [] q=[]:=by unfold uf vP;rw[w6];rfl
 refine⟨q,p,[],g1,g2,⟨⟨hd,x,P,F,s⟩,λc hc=>by cases hc⟩,λw hw=>?_,hB k q g1,Or.inr λf _=>?_⟩;rw[e]at hw;cases hw;rw[e];rfl
def iG (h:Host):dA:=h.2.2.2.1.map λq=>q.2.2.2.2.2
theorem Hr (h:Host):vQ h=(iG h).foldl (λn x=>ar (n+x)) 0:=by unfold vQ iG;rw[List.foldl_map]
theorem EF {β:Type}(f:α->β){l:az α}{a b:α}(h:l[k]?=some a)(e:f b=f a):(l.set k b).map f=l.map f:=by obtain⟨iz,ea⟩:=aB.1 h;refine de λi=>?_;rw[fA,fA];by_cases hi:i=k;subst hi;rw[bq iz,h];simp[e];rw[aF (cd hi)]
theorem PR (l:az aH)(m:cg)(d:Int):∀n (s:az Stream×bt×dy),(jf l m d n s).2.2.1.2.2.2=s.2.1.2.2.2
 |0,_=>rfl
 |n+1,s=>by rw[jf];cases !(lM l m d s.2.1.2.2.1).2.2 with|true=>rfl|false=>exact PR l m d n (vX l m d s)
theorem aa1 (l:az aH)(m:cg)(d:Int)(q:bt)(p:dy)(st:az Stream)(n:Int):(gU l m d q p st n).2.1.2.2.2=q.2.2.2:=by unfold gU;cases !BK q||(!du p|| !dD n 0 1000)with|true=>rfl|false=>exact PR l m d n.toNat (st,q,p)
theorem QS (h:Host)(b:Int):iG (iy h b).1=iG h:=by
 have key:∀k,iG (jO b k h).2=iG h:=by intro k;induction k with|zero=>rfl|succ k ih=>refine Eq.trans ?_ ih;show iG (vJ b k (jO b k h)).2=_;generalize jO b k h=r;obtain⟨t,h⟩:=r;unfold vJ;simp only;rcases h.2.2.2.2.2.1[k]? with _|v;rfl;rcases h.2.2.2.2.2.2.1[k]? with _|p;rfl;rcases hx:h.2.2.2.1[k]? with _|x;rfl;rcases h.2.2.2.2.1[k]? with _|pl;rfl;simp only;cases p||(re v).2 with|false=>rfl|true=>exact EF (λq:bt=>q.2.2.2.2.2) hx (congrArg (λu:nr×Bool×Int=>u.2.2) (aa1 ..))
 unfold iy;cases fb h&&dD b 1 1000 with|false=>rfl|true=>exact key _
theorem ZL (h:Host):iG (sv h)=iG h:=by
 have key:∀k,(eQ jg k h).2.2.2.1=h.2.2.2.1:=by intro k;induction k with|zero=>rfl|succ k ih=>refine Eq.trans ?_ ih;show(jg k (eQ jg k h)).2.2.2.1=_;generalize eQ jg k h=r;unfold jg;cases r.2.2.2.2.2.1[k]?<;>rfl
 unfold sv iG;cases fb h with|false=>rfl|true=>rw[ah,key]
theorem I0 (h:Host)(b:Int):∀k,iG (ui b k h)=iG h
 |0=>rfl
 |k+1=>(QS _ b).trans ((ZL _).trans (I0 h b k))
theorem Mv (h:Host):(dv h).2.2.2.1=h.2.2.2.1:=by unfold dv;cases fb h<;>rfl
def MV (q:bt):Prop:=q.2.2.2.2.1=true->0<bN q.1
theorem OI (l:az aH)(m:cg)(d:Int)(q:bt)(k:Bytes)(h:q.2.2.2.2.1=false):fX l m d q k=(m,q):=by unfold fX;rw[h];cases BK q<;>rfl
theorem OJ (hm:fJ m)(hk:k<=1){q:bt}{p:dy}{hd x:Nat}{P:gk}{C:az Fw}{F:gk}(s:Fx m k q p hd x P C F)(hq:BK q=true)(key:Bytes)(AK:key.length=16)(hp:MV q):(fX (bI 38) m 0 q key).2.2.2.2.2.2=q.2.2.2.2.2:=by
 have hn:iq k=1280+1792*k:=rfl;cases hh:q.2.2.2.2.1 with
 |false=>rw[OI _ _ _ _ _ hh]
 |true=>
  have h4:=s.len;have hu:=hp hh;rw[s.ring,(qP (Or.inl rfl)).2]at hu;unfold fX;rw[hq,AK,hh];simp only[ak,cj,show(((16:Nat):Int) !=16)=false from rfl,af];cases P with
  |nil=>simp at hu
  |cons c P=>
   have t:=D7 hm (b:=iq k) (S:=4) (Or.inl rfl) (by omega) (show rL m (iq k) 4 hd (iJ (ti k c)::P.map λc=>iJ (ti k c)) from s.row);have e:br (bI 38) m 0 q.1=(iJ (ti k c),fK (iq k) 4 (hd+1) P.length,true):=by rw[s.ring];have:=t.1;rw[cz]at this;exact this
   obtain⟨y,y1,y0,y2,_⟩:=Tf hm hk s hq hh key AK;rw[e,y2];rfl
theorem VW (hn:n<=400000000000)(g:Good n h)(l:Live zw h)(hp:∀q∈h.2.2.2.1,MV q):iG (ko h)=iG h:=by
 have h2:=qC g;have key:∀k:Nat,k<=h.2.2.2.1.length->Good (n+320*(k:Int)) (eQ fC k h)/\(eQ fC k h).2.2.2.1.length=h.2.2.2.1.length/\Live zw (eQ fC k h)/\(∀j,k<=j->(eQ fC k h).2.2.2.1[j]?=h.2.2.2.1[j]?)/\iG (eQ fC k h)=iG h:=by
  intro k;induction k with
  |zero=>intro _;exact⟨g.mono,rfl,l,λ_ _=>rfl,rfl⟩
  |succ k ih=>
   intro hk;obtain⟨i1,i2,i3,i4,i5⟩:=ih (by omega);have st:=F9 (by omega) i1 i3 (k:=k);have gl:=CD (by omega) i1 k;have e2:(fC k (eQ fC k h)).2.2.2.1.length=(eQ fC k h).2.2.2.1.length:=(pX k _).rx;have h3:=i4 k (aX _);refine⟨gl.mono (by push_cast;omega),e2.trans i2,st.xU λ_ _ _ _ _ _ _=>trivial,?_⟩;show(∀j,k+1<=j->(fC k (eQ fC k h)).2.2.2.1[j]?=h.2.2.2.1[j]?)/\iG (fC k (eQ fC k h))=iG h;generalize eQ fC k h=r at i1 i2 i3 i4 i5 h3⊢;obtain⟨q,p,v,b,g1,g2,g3,g4,hd,x,P,C,F,s,w1,w2,w3,_⟩:=i3.rx k (by omega);have rx:=(i1.rx q (aQ g1)).rx (by omega);have KR:(DX r k (fX (bI 38) r.1 0 q r.2.2.2.2.2.2.2.2.1.2.2.1)).2.2.2.2.2.1[k]?=some v:=g3;have ew:(fC k r).2.2.2.1=r.2.2.2.1.set k (fX (bI 38) r.1 0 q r.2.2.2.2.2.2.2.2.1.2.2.1).2:=by unfold fC;simp only[g1,i3.maps];unfold uq;rw[Oo KR];rfl
   refine⟨λj hj=>?_,?_⟩;rw[ew,aF (by omega)];exact i4 j (by omega);rw[<-i5];unfold iG;rw[ew];refine EF (λq:bt=>q.2.2.2.2.2) g1 (OJ i3.mem (by omega) s rx _ (AX i1) (hp q ?_));rw[g1]at h3;exact aQ h3.symm
 unfold ko;rw[g.ok (by omega),ah];exact(key h.2.2.2.1.length (aX _)).2.2.2.2
theorem VV (hn:n<=300000000000)(g:Good n h)(l:Live zw h)(hp:∀q∈h.2.2.2.1,MV q)(hc:1<=c/\c<=1000)(hr:7<=r/\r<=200):iG (nf h (c:Int) (r:Int))=iG h:=by
 have gt:=yB g;obtain⟨lt,_⟩:=yR (by omega) g l;have e:nf h (c:Int) (r:Int)=ui (c:Int) r (ko (dv h)):=by unfold nf;rw[g.ok (by omega),aS.2 ⟨by omega,by omega⟩,aS.2 ⟨by omega,by omega⟩];rfl
 rw[e,I0,VW (by omega) gt (lt.xU λ_ _ _ _ _ _ _=>trivial) (by rw[Mv];exact hp)];unfold iG;rw[Mv]
theorem Xv (hn:n<=400000000000)(g:Good n h)(l:Live Xt h)(y:Bytes):iG (gV h y)=iG h/\∀q∈(gV h y).2.2.2.1,MV q:=by
 have h2:=qC g;have PE:∀q∈h.2.2.2.1,MV q:=λq hq=>by obtain⟨k,hk⟩:=List.getElem?_of_mem hq;obtain⟨iz,_⟩:=aB.1 hk;obtain⟨q',p,v,b,g1,g2,g3,g4,hd,x,P,C,F,s,w1,w2,w3,w4,w5,w6,w7⟩:=l.rx k iz;rw[hk]at g1;rw[bQ g1];intro hh;rw[w6]at hh;cases hh
 have c0:∀a b c d,iG (oR h a b c d)=iG h/\∀q∈(oR h a b c d).2.2.2.1,MV q:=λa b c d=>⟨rfl,PE⟩
 unfold gV;rw[g.ok (by omega)];simp only[ak,af];cases (eO y).2 !=0;case true=>exact c0 _ _ _ _
 cases !kK h.2.2.2.2.2.2.2.1 (eO y).1;case true=>exact c0 _ _ _ _
 cases iS h.2.2.2.2.2.2.2.2.1 (h.2.2.2.1.length:Int) (eO y).1== -1;case true=>exact c0 _ _ _ _
 simp only[af];generalize (iS h.2.2.2.2.2.2.2.2.1 (h.2.2.2.1.length:Int) (eO y).1).toNat=k;cases hq:h.2.2.2.1[k]? with
 |none=>exact⟨rfl,PE⟩
 |some q=>
  obtain⟨iz,_⟩:=aB.1 hq;obtain⟨q',p,v,b,g1,g2,g3,g4,hd,x,P,C,F,s,w1,w2,w3,rfl,w5,w6,w7⟩:=l.rx k iz;rw[hq]at g1;have g1:=bQ g1;subst g1;have rq:=g.rx q (aQ hq);simp only[l.maps];have key:(je (bI 38) h.1 0 q h.2.2.2.2.2.2.2.2.1.2.2.1 (eO y).1 h.2.2.2.2.2.2.2.2.2.2.1).2.2.2.2.2.2=q.2.2.2.2.2/\MV (je (bI 38) h.1 0 q h.2.2.2.2.2.2.2.2.1.2.2.1 (eO y).1 h.2.2.2.2.2.2.2.2.2.2.1).2:=by
   have pq:MV q:=λhh=>by rw[w6]at hh;cases hh
   unfold je;rw[OI _ _ _ _ _ w6,w6];cases hb: !BK q||(!gb (eO y).1||((h.2.2.2.2.2.2.2.2.1.2.2.1.length:Int) !=16));case true=>exact⟨rfl,pq⟩
   simp only[af,eY,eH];simp only[cn,dM]at hb;have ph:MV (DG q (jc (eO y).1)):=λ_=>by show 0<bN q.1;omega
   cases h.2.2.2.2.2.2.2.2.2.2.1 with|true=>exact⟨rfl,ph⟩|false=>have so:=D5 hb.2.1;have k2:=Nv rq so.1 so.2.1 so.2.2;refine⟨OJ l.mem (by omega) (s.held _) (k2.rx (by omega)) _ (AX g) ph,λhh=>?_⟩;have:=OH (bI 38) h.1 (DG q (jc (eO y).1)) h.2.2.2.2.2.2.2.2.1.2.2.1 (k2.rx (by omega)) (AX g);simp only[af]at hh;rw[this]at hh;cases hh
  have KR:∀a b c d f,(DX (oR h a b c d) k f).2.2.2.2.2.1[k]?=some v:=λ_ _ _ _ _=>g3;unfold uq;rw[Oo (KR _ _ _ _ _)];refine⟨EF (λq:bt=>q.2.2.2.2.2) hq key.1,λu hu=>?_⟩;rcases fI hu with e|e;exact PE u e;rw[e];exact key.2
theorem Ow {p:dy}(hp:p.1=256/\p.2.1=128/\p.2.2.1=8)(hb:du p=true){z:Nat}(hz:z<=128):∀(q:dA)(s:Bytes)(m:cg)(a:az ij),(∀b∈q,b∈p.2.2.2)->fJ m->∃x,ud (bI 38) 0 p z q s m a=some x
 |[],s,m,a,_,_=>⟨_,rfl⟩
 |b::q,s,m,a,hq,hm=>by
  obtain⟨A,e,a1,a2⟩:=Nm hp hb (hq b (by simp));have hl:(s.take z).length<=128:=by rw[aY];omega
  have pf:=Cb hm (a:=A) (s:=s.take z) (w:=false) (by omega) (by omega) (by simp);rw[ud,e,pf.1];exact Ow hp hb hz q _ _ _ (λy hy=>hq y (by simp[hy])) pf.2.1
theorem aih (hm:fJ m){t:dN}{hd:Nat}(s:TxS m t hd [])(ht:Fy t)(h8:t.2.1.2.2.2.length=8)(hp:cH p=true):(pC (bI 38) m 0 t p 20 100).2.2=true/\(pC (bI 38) m 0 t p 20 100).2.1.2.2.1.length=1:=by
 have hb:=ht.free;have tl:=Iv hp;have c1:1<=wj p 100/\wj p 100<=4:=by unfold wj;omega
 have v:=qP (b:=0) (S:=16) (hd:=hd) (n:=0) (Or.inr rfl);have er:t.1=fK 0 16 hd 0:=s.ring;have w0:t.2.2.1=[]:=List.length_eq_zero_iff.1 s.BA.symm;have efr:mJ t.1=16:=by unfold mJ;rw[er,v.1,v.2];rfl
 unfold pC;rw[abB.2 ht,hp,s.pool.2.1,show dD (100:Int) 1 128=true from rfl,show dD (20:Int) 1 128=true from rfl,show(100:Int).toNat=100 from rfl];simp only[cK,ah];generalize hk:wj p 100=k at c1;have hti:dD (k:Int) 0 (t.2.1.2.2.2.length:Int)=true:=aS.2 ⟨by omega,by omega⟩;have et:kb t.2.1 (k:Int)=((t.2.1.1,t.2.1.2.1,t.2.1.2.2.1,t.2.1.2.2.2.drop k),t.2.1.2.2.2.take k,true):=by unfold kb;rw[hb,hti];rfl
 have hf:Ff t k=true:=by unfold Ff;rw[et,efr,w0,er];simp only[bC,ae,aN,cG];refine⟨by omega,by omega,?_⟩;show¬(0:Int)+(k:Int)+1>(16:Int);omega
 rw[hf,et];simp only[ah];obtain⟨x,hx⟩:=Ow s.pool hb (z:=100) (by omega) (t.2.1.2.2.2.take k) (kV p).1 m [] (λb iB=>List.mem_of_mem_take iB) hm;rw[hx];simp only;have hlen:(t.2.1.2.2.2.take k).length=k:=by rw[aY];omega
 have fw:=H3 s.pool hb (by omega) _ _ _ _ (λb iB=>List.mem_of_mem_take iB) hm hx;have fo:=Dx (bI 38) 0 t.2.1 100 _ _ _ _ hx;have xl:x.1.length=k:=by rw[fo.2.1,hlen];simp
 have da:=Og (ps:=x.1) (z:=20) (c:=t.2.2.2) (by omega) (by omega) (λy hy=>by rcases fo.2.2 y hy with g|⟨⟨b,iB,e⟩,g2,g3⟩;cases g;·obtain⟨A,eA,a1,a2⟩:=Nm s.pool hb (List.mem_of_mem_take iB);rw[e,eA];omega) rfl (aS.2 ht.next);have dc:=Oh da;have r2:rL x.2 0 16 hd []:=s.row.frame (m':=x.2) (Or.inr rfl) λi _ h2=>fw.2 i (by omega) (by omega);obtain⟨m',g1,g2,g3,g4⟩:=Gg ((jW x.1 20 t.2.2.2).map iJ) x.2 hd [] fw.1 r2 dc.2 (by rw[cz,da];simp;omega);have ep:(qu (bI 38) x.2 0 t.1 ((jW x.1 20 t.2.2.2).map iJ)).2.2=true:=by have g1:oK (bI 38) 0 ((jW x.1 20 t.2.2.2).map iJ) x.2 (fK 0 16 hd 0)=_:=g1;unfold qu;rw[er,g1];rfl
 unfold J1;rw[ep,w0];exact⟨rfl,rfl⟩
theorem Xh (l:az Stream)(f:zW)(h:l.length<=10^9):idx l (wC f l 0)=jF l f:=by have e:wC f l 0=Kf l f:=bQ ((adK l f (by omega)).symm.trans (WW l f h));rw[e];unfold Kf jF;rw[List.find?_eq_bind_findIdx?_getElem?];cases l.findIdx? (YB f)with|none=>rfl|some i=>exact Ny l i
theorem acX {a b:az Stream}(ha:a.length<=10^9)(hb:b.length<=10^9)(h:∀f,jF a f=jF b f):(a.all (λs=>wv a b s.1)&&b.all (λs=>wv a b s.1))=true:=by
 have key:∀(l:az Stream),(∀f,jF a f=jF l f)->∀s∈l,wv a b s.1=true:=λl hl s hs=>by unfold wv;rw[Xh a _ ha,Xh b _ hb,<-h];cases hx:jF a s.1 with|none=>rw[hl]at hx;have:=List.find?_eq_none.1 hx s hs;unfold YB at this;simp at this|some x=>simp
 rw[aL.2 (key a λ_=>rfl),aL.2 (key b h)];rfl
def Ie (h:Host):dN×cg×dA×dA:=(h.2.2.1,h.2.2.2.2.2.2.2.2.2.2.2.1,h.2.2.2.2.2.2.2.2.2.2.2.2.1,h.2.2.2.2.2.2.2.2.2.2.2.2.2.1)
theorem aaA (h:Host)(i:Nat)(c:Int):Ie (vH h i c).2=Ie h:=by unfold vH;rcases h.2.2.2.1[i]? with _|rx;rfl;cases h.2.2.2.2.1[i]? with|none=>rfl|some pl=>rfl
theorem Md (h:Host):∀k,Ie (lZ h k)=Ie h
 |0=>rfl
 |k+1=>(aaA _ k 1000).trans (Md h k)
theorem aaB (k:Nat)(h:Host):Ie (vI k h)=Ie h:=by unfold vI;rcases h.2.2.2.1[k]? with _|x;rfl;cases h.2.2.2.2.2.1[k]? with|none=>rfl|some v=>rfl
theorem JF (h:Host):∀k,Ie (iY h k)=Ie h
 |0=>rfl
 |k+1=>(aaB k _).trans (JF h k)
theorem JG (h:Host):∀k,k<=h.2.2.1.2.2.1.length->Ie (returned h k)=(h.2.2.1,(Ie h).2.1,(Ie h).2.2.1,(Ie h).2.2.2++(h.2.2.1.2.2.1.take k).map (·.1))
 |0,_=>by show Ie (lZ h _)=_;rw[Md,List.take_zero,List.map_nil,bB];rfl
 |k+1,hk=>by have i:=JG h k (by omega);have e:returned h (k+1)=Lr h.2.2.1.2.2.1 k (returned h k):=rfl;rw[e];unfold Lr;rw[aq (by omega)];have j:Ie (SY (returned h k) [h.2.2.1.2.2.1[k].1])=((Ie (returned h k)).1,(Ie (returned h k)).2.1,(Ie (returned h k)).2.2.1,(Ie (returned h k)).2.2.2++[h.2.2.1.2.2.1[k].1]):=rfl;show Ie (SY (returned h k) [h.2.2.1.2.2.1[k].1])=_;rw[j,i,bZ (by omega),cu,List.map_singleton,<-aE]
theorem ad6 (hb:fb h=true):Ie (rG h)=((tc.1,tc.2.1,tc.2.2.1,h.2.2.1.2.2.2),(Ie h).2.1,(Ie h).2.2.1,(Ie h).2.2.2++h.2.2.1.2.2.1.map (·.1)):=by unfold rG;rw[hb,ah,JF];have i:=JG h h.2.2.1.2.2.1.length (aX _);rw[fg]at i;unfold jD;have e:Ie (NI (returned h h.2.2.1.2.2.1.length))=((tc.1,tc.2.1,tc.2.2.1,(Ie (returned h h.2.2.1.2.2.1.length)).1.2.2.2),(Ie (returned h h.2.2.1.2.2.1.length)).2):=rfl;rw[e,i]
def acc (h:Host):dA:=(Ie h).2.2.1++(Ie h).2.2.2++(Ie h).1.2.2.1.map (·.1)
theorem alx {k:Bool->aC Bool}(ht:k true=some true)(hk:a.length<=1048576->Ends (k false) (λb=>b=true)):Ends (aa (JE a) k) (λb=>b=true):=by unfold JE;rw[ab];by_cases h:((a.length:Int))>1048576;rw[aw h,ht];exact Ends.pure rfl;rw[au h];exact hk (by omega)
theorem Ends.true {o:aC Bool}(h:Ends o (λb=>b=true)):o=some true:=by obtain⟨x,h1,rfl⟩:=h;exact h1
theorem QR (ha:a.length<=1048576):Ends (qQ a) λp=>cH p=true:=by unfold qQ;exact(ahJ ha).bind λr1 p1=>(Lh p1 (m:=60)).bind λr2 p2=>Ends.pure p2.1.1
theorem aby (h:cH p=true):cH (281474976710655,p.2.1, -1,p.2.2.2)=true:=by unfold cH ov at h⊢;simp only[ae]at h⊢;exact⟨⟨rfl,h.1.2.1,rfl,h.1.2.2.2⟩,h.2⟩
theorem aft (hn:n<=200000000000){y:Host}(g:Good n y)(l:Live Xt y){s:Nat}(hs:1000<=s/\s<=40000000)(zz:CZ s y)(hw:y.2.2.1.2.2.1=[])(h8:y.2.2.1.2.1.2.2.2.length=8){f:Bytes}(hf:f.length<=1000)(hp:cH p=true): ∃x z w c,kq y f=some x/\oU x 2 12=some z/\nW z p 20 100=some (w,true)/\wb y=some c/\mD c f=some (xn c f)/\oh (Dh z) (xn c f).2.2.2.1=some true/\iL z=some (vQ y)/\iL y=some (vQ y)/\w.2.2.1.2.2.1.length=1/\tu z=some true:=by
 have h2:=qC g;have h1:1<=y.2.2.2.1.length:=by have:=g.lens;unfold po at this;simp only[ae,aS,bn]at this;omega
 have aom:Live zw y:=l.xU λ_ _ _ _ _ _ _=>trivial;have gx:=I7 (by omega) g f;have lx:=JH (by omega) g aom f;obtain⟨zx,tx,_⟩:=Mr (by omega) f zz;obtain⟨d1,d2⟩:=Xv (by omega) g l f;have hB:∀k q,y.2.2.2.1[k]?=some q->(iG y).getD k 0<=q.2.2.2.2.2:=λk q hq=>by unfold iG;rw[bc,fA,hq];exact eV _
 have fy:=agM (B:=λk=>(iG y).getD k 0) l (λ_=>(iS y.2.2.2.2.2.2.2.2.1 (y.2.2.2.1.length:Int) (eO f).1).toNat) hB;have fx:=Ua (by omega) g aom fy f λ_ _=>rfl;have kx:=Rb y f;have qlt:(iS y.2.2.2.2.2.2.2.2.1 (y.2.2.2.1.length:Int) (eO f).1).toNat<y.2.2.2.1.length:=by rcases LF (s:=y.2.2.2.2.2.2.2.2.1) (q:=(y.2.2.2.1.length:Int)) (p:=(eO f).1)with e|⟨k,e,hk⟩;rw[e];omega;rw[e];omega
 refine⟨gV y f,nf (gV y f) ((2:Nat):Int) ((12:Nat):Int),?_⟩;obtain⟨gz,lz,qz⟩:=LU (by omega) gx lx (c:=2) (r:=12) (by omega) (by omega);have fz:=V6 (by omega) gx lx fx (c:=2) (r:=12) (by omega) (by omega) λ_=>by rw[kx.len];exact qlt
 have dz:=VV (by omega) gx lx d2 (c:=2) (r:=12) (by omega) (by omega);have zd:=ada (by omega) ((2:Nat):Int) ((12:Nat):Int) zx;have hdr:=adE (gV y f) ((2:Nat):Int) ((12:Nat):Int) (zx.mono);obtain⟨hd,L,tl⟩:=lx.tx;obtain⟨GU,et⟩:=MP gx (by omega) lx.maps lx.mem tl;have etz:(nf (gV y f) ((2:Nat):Int) ((12:Nat):Int)).2.2.1=(dv (gV y f)).2.2.1:=by unfold nf;rw[gx.ok (by omega),aS.2 ⟨by omega,by omega⟩,aS.2 ⟨by omega,by omega⟩];simp only[cK,ah,Lt,Wc]
 rw[et,tx,hw]at etz;have hrc:=Jq y f (zz.mono) (by omega);generalize nf (gV y f) ((2:Nat):Int) ((12:Nat):Int)=z at gz lz qz fz dz zd hdr etz⊢;have gz2:=gz;obtain⟨hd3,L3,t3⟩:=lz.tx;have w0:z.2.2.1.2.2.1=[]:=by rw[etz]
 have hL:L3=[]:=List.length_eq_zero_iff.1 (t3.BA.trans (by rw[w0];rfl));subst hL;have sn:=aih lz.mem t3 gz.tx (by rw[etz];exact h8) hp;have hsend:=Si z p 20 100 (zd.mono);have akO:AE z p 20 100=((AE z p 20 100).1,true)/\(AE z p 20 100).1.2.2.1.2.2.1.length=1:=by unfold AE;rw[gz.ok (by omega),lz.maps];simp only[ah];refine⟨?_,sn.2⟩;rw[sn.1]
 rw[akO.1]at hsend;obtain⟨so1,so2⟩:=akc g (by omega);have hso:=abl y (zz.z.mono) (zz.sz (by omega));have hsr:=X9 (Gs y) f (ae4 y (zz.z.mono)) (by omega);have ls:(Dh y).length<=40000000:=bH zz.z.2.2.2.2.2.2.2.2.2.1.1 (by omega);refine⟨_,_,hrc,hdr,hsend,hso,hsr,?_,?_,?_,akO.2,?_⟩;have fz:=fz.resolve_left λ⟨k,q,hk,iz⟩=>by
  have e:(iG z).getD k 0=q.2.2.2.2.2:=by unfold iG;rw[bc,fA,hk];rfl
  rw[dz,d1]at e;omega
 have ex:∀fl,jF (xn (Gs y) f).2.2.2.1 fl=jF (Dh z) fl:=λfl=>by
  rw[fz];unfold xn Vk aii;rw[so2,so1];simp only[bC];cases hc:(eO f).2==0;rfl;have pk:=XO hc;have sup:cH (eO f).1=true:=by simp only[gb,ae]at pk;exact pk.1
  cases kK y.2.2.2.2.2.2.2.1 (eO f).1&&(iS y.2.2.2.2.2.2.2.2.1 (y.2.2.2.1.length:Int) (eO f).1 != -1)with|false=>rfl|true=>exact Sw sup (Dh y) fl
 have l1:(Dh z).length<=10^9:=bH zd.z.2.2.2.2.2.2.2.2.2.1.1 (by omega);have l2:(xn (Gs y) f).2.2.2.1.length<=10^9:=by unfold xn;rw[so1];cases Vk _ f with|false=>exact bH ls (by omega)|true=>have:=(IY (p:=(eO f).1) zz.z.2.2.2.2.2.2.2.2.2.1).1;show(jx (Dh y) (eO f).1).length<=_;exact bH this (by omega)
 rw[ait _ _ (by omega) (by omega),acX l1 l2 λfl=>(ex fl).symm];have z2:=qC gz;rw[Fk z,Hr,Hr,dz,d1];exact Fk y;have hq:=adN z (zd.sz (by omega)) (zd.z.mono);rw[qz]at hq;exact hq
theorem Nf (a:dA)(ha:afB (.sl (.int .u8)) a):xe a=some true:=by
 refine Ends.true ?_;unfold xe;refine alx rfl λhl=>?_;rw[af];refine(abA hl).bind λr2 p2=>?_;obtain⟨h,l⟩:=r2;simp only at p2⊢;obtain⟨f,hn,asc⟩:=p2;have q0:LJ 2000 h 0 h:=⟨f.OO.mono,by simpa using f.sz,oO.refl h⟩
 rw[ajr (n:=2000) (by omega) h l (by omega) asc (f.OO.mono) f.sz,ab];have r0:=ab8 (by omega) l 0 (by omega) q0;have lv:=Pr (n:=2000) l 0 0 (by push_cast;omega) (f.OO.mono) (ZY f);have hb:=r0.OO.ok (by omega);have gr:=OP (by omega) r0.OO;have zr:=(SV (by omega) r0.sz (agL hb)).1;have lr:=congrArg (·.1) (ad6 hb);have ln:=SX (by omega) r0.OO lv;have hr:=Da (l.foldl rN (h,0)).1 (r0.sz.sz (by omega)) (r0.sz.z.mono);unfold agP;simp only[Bool.cond_self];generalize (l.foldl rN (h,0)).1=x at r0 hb gr zr ln lr hr⊢;rw[hr,ab];refine(QR hl).bind λr5 p5=>?_;rw[S9,ab];have lr:(rG x).2.2.1=(tc.1,tc.2.1,tc.2.2.1,x.2.2.1.2.2.2):=lr;obtain⟨w1,w2,w3,w4,e1,e2,e3,e4,e5,e6,e7,e8,e9,e10⟩:=aft (by omega) gr ln (by omega) zr (by rw[lr];rfl) (by rw[lr];show(gP 256 128 8).1.2.2.2.length=8;rw[(DW (a:=256) (b:=128) (n:=8)).1];rfl) (bH (KK (281474976710655,r5.2.1, -1,r5.2.2.2)) (by omega)) (aby p5);rw[e1,ab,e2,ab,e3,ab,e4,ab,e5,ab];simp only[ah];have e6:oh w2.2.2.2.2.2.2.2.2.2.1 (xn w4 (Ac (281474976710655,r5.2.1, -1,r5.2.2.2)).1).2.2.2.1=some true:=e6;rw[e6,e7,e8,e9,e10];simp only[ab,ah,fN];exact Ends.pure rfl
end
end Go.Pu
