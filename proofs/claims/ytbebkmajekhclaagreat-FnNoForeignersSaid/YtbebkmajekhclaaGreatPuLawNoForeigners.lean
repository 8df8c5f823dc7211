import Derived.Test.YtbebkmajekhclaaGreatPuX3
namespace Go.Pu
open Go.Dn
set_option linter.unusedSimpArgs false
set_option linter.unusedVariables false
noncomputable section
variable {s t:Bytes} {c:cP} {a:dP} {f:Host->Host} {n:Int} {N d j k v:Nat} {p:aK} {α:Type} {x:UInt8} {ps:ax Port}
/- What an act does to a card (the program's DoCard). -/
def mL (a b:cP):Prop:=∀(i:Nat)(h:Host),b.1[i]?=some h->∃h0,a.1[i]?=some h0/\mc h0 h
theorem mL.refl (a:cP):mL a a:=λi h e=>⟨h,e,mc.refl h⟩
theorem mL.trans {a b:cP}(h:mL a b)(g:mL b c):mL a c:=by intro i x e;obtain⟨y,e1,s1⟩:=g i x e;obtain⟨w,e2,s2⟩:=h i y e1;exact⟨w,e2,s2.trans s1⟩
theorem HJ {h0 h:Host}(hk:c.1[k]?=some h0)(s:mc h0 h):mL c (QS c k h):=by intro i x e;have e:(c.1.set k h)[i]?=some x:=e;by_cases hik:i=k;subst hik;obtain⟨gH,_⟩:=aA.1 hk;rw[cW gH]at e;rw[<-bN e];exact⟨h0,hk,s⟩;rw[aP (cZ hik)]at e;exact⟨x,e,mc.refl x⟩
theorem ZO (hf:∀h,mc h (f h)){X:ax aX×ax bE×bP×kY×bW×bP}:mL c (c.1.map f,X):=by intro i x e;have e:(c.1.map f)[i]?=some x:=e;rw[eU]at e;cases hc:c.1[i]? with|none=>rw[hc]at e;cases e|some h0=>rw[hc]at e;rw[<-bN e];exact⟨h0,rfl,hf h0⟩
theorem ac5 (ps:ax Port)(v:Int)(p:aK)(c:cP)(j:Nat):mL c (cX ps v p c j):=by unfold cX;cases j==0 with|true=>exact λi h e=>⟨h,e,mc.refl h⟩|false=>simp only[af];cases hc:c.1[j-1]? with|none=>exact mL.refl c|some h=>exact HJ hc (K2 ..)
theorem TW (ps:ax Port)(v:Int)(p:aK):∀(l:fK)(c:cP),mL c (Ml ps v p c l)
 |[],c=>mL.refl c
 |j::l,c=>(ac5 ps v p c j).trans (TW ps v p l _)
theorem Iv (c:cP)(e:Int)(p:aK):mL c (nJ c e p):=by unfold nJ;cases decide (mN (cV c.2.2.1).1 e p<0)with|true=>exact mL.refl c|false=>exact TW _ _ _ _ _
theorem Wd (c:cP)(e:Int)(p:aK):mL c (qt c e p):=by unfold qt;cases lK c&&dq p with|true=>exact Iv _ _ _|false=>exact mL.refl c
theorem ac4 (ps:ax Port)(k:Int)(c:cP)(x:Bytes):mL c (AM ps k c x):=by
 unfold AM;have e:mL c (c.1,(sU c.2.1 ps k (fy x).1).1,c.2.2):=λi h e=>⟨h,e,mc.refl h⟩
 cases (sU c.2.1 ps k (fy x).1).2.2 with|true=>exact e.trans (Wd _ _ _)|false=>exact e
theorem Q6 (ps:ax Port)(k:Int):∀(l:bP)(c:cP),mL c (Ev ps k c l)
 |[],c=>mL.refl c
 |x::l,c=>(ac4 ps k c x).trans (Q6 ps k l _)
theorem amC (c:cP)(k:Int):mL c (rC c k):=by unfold rC;cases lK c&&(!decide (k<0)&& !decide (k>=(c.1.length:Int)));exact mL.refl c;simp only[ah];cases hc:c.1[k.toNat]? with|none=>exact mL.refl c|some h=>exact(HJ hc (Iw h)).trans (Q6 _ _ _ _)
theorem Sj (c:cP)(x:Bytes):mL c (sS c x):=by
 unfold sS;cases !lK c;case true=>exact mL.refl c
 cases (fy x).2==0 with|true=>exact(show mL c (Fe c) from λi h e=>⟨h,e,mc.refl h⟩).trans (Iv _ _ _)|false=>exact λi h e=>⟨h,e,mc.refl h⟩
theorem OL {k:kY}(h:so k=true):Ends (rE k 1) λr=>so r=true/\k.1<=r.1:=by
 have hi:=h;unfold so at hi;simp only[ae,aS]at hi;unfold rE;rw[LF,ab,h,cm];simp only[aj,af,ab];have same:so k=true/\k.1<=k.1:=⟨h,cR _⟩
 refine Ends.cond (λ_=>Ends.pure same) λ_=>Ends.ifn (by decide) ?_;unfold LO;rw[ab];refine Ends.ifn (by decide) ?_;rw[LF,ab];refine Ends.cond (λ_=>Ends.pure same) λk2=>Ends.pure ⟨by simpa using k2,?_⟩;rw[ak (n:=k.2.2.1*1),ak (n:=k.2.1+k.2.2.1*1)];have q0:0<=Int.tdiv (k.2.1+k.2.2.1*1) 1048576:=Int.tdiv_nonneg (by omega) (by omega);have q1:Int.tdiv (k.2.1+k.2.2.1*1) 1048576<=k.2.1+k.2.2.1*1:=by rw[Int.tdiv_eq_ediv_of_nonneg (by omega)];omega
 rw[ak (n:=Int.tdiv (k.2.1+k.2.2.1*1) 1048576)];generalize Int.tdiv (k.2.1+k.2.2.1*1) 1048576=q at q0 q1;show k.1<=au (k.1+au (q-if k.2.2.2<q then k.2.2.2 else q));split;rw[ak (n:=q-k.2.2.2),ak];omega;rw[ak (n:=q-q),ak];omega
theorem abw (g:gv n c):gv n (c.1,c.2.1.map (Rj 1),c.2.2):=by refine XD g (cR n) (bH ..) (λi hi=>?_) λf hf=>?_;have q:=((JN.1 g.fns).2 i hi).1;rw[cu hi]at q⊢;rw[cu (by rw[bH];exact hi),List.getElem_map];have w:=B9.1 q;exact⟨rfl,rfl,B9.2 ⟨w.1,w.2.1,RK w.2.2.1 1,w.2.2.2.1,w.2.2.2.2⟩⟩;obtain⟨x,hx,rfl⟩:=eG.1 hf;exact g.fnn x hx
theorem acP {R:Type}(K:Int->cP->az R)(b:cP)(hs:ax Host)(X:ax aX×ax bE×bP×kY×bW×bP)(hl:hs.length<=1000)(z:∀h∈hs,BW 90000000 h):bl (qE K (hs.length:Int) b) fuel (0,hs,X)=K (hs.length:Int) (hs.map rp,X):=by refine dE (λi=>((i:Int),GB rp hs i,X)) hs.length (by omega) (λi nx hi=>?_) (λnx=>?_);simp only[qE];have zh:=z _ (aM hi);rw[jI,LW _ hi,ak];simp only[ah,ab,Ic _ (zh.sz) (zh.z.mono),aw];rw[<-LX _ hi];rfl;simp only[qE];rw[cC,af,LV]
theorem T6 {R:Type}(K:Int->cP->az R)(b:cP)(hs:ax Host)(X:ax aX×ax bE×bP×kY×bW×bP)(hl:hs.length<=1000)(z:∀h∈hs,BW 90000000 h):bl (kR K (hs.length:Int) b) fuel (0,hs,X)=K (hs.length:Int) (hs.map uq,X):=by refine dE (λi=>((i:Int),GB uq hs i,X)) hs.length (by omega) (λi nx hi=>?_) (λnx=>?_);simp only[kR];have zh:=z _ (aM hi);rw[jI,LW _ hi,ak];simp only[ah,ab,Yg _ (zh.sz) (zh.z.mono),aw];rw[<-LX _ hi];rfl;simp only[kR];rw[cC,af,LV]
structure ahB (n:Int) (N:Nat) (c:cP) (a:dP) (r:cP×Int):Prop where
 PA:gv (n+14000000) r.1
 sz:CI (N+645000) r.1
 len:r.1.1.length=c.1.length
 upd:a.1=2->r.2=Jy r.1.2.2.2.1/\Jy c.2.2.2.1<=Jy r.1.2.2.2.1
 flash:a.1≠2->r.1.2.2.2.1=c.2.2.2.1
 stamps:r.1.2.2.2.2.2.1=c.2.2.2.2.2.1++(if a.1=0/\a.2.2.1.1=2 then [c.2.2.2.2.1.1] else [])
 clock:c.2.2.2.2.1.1<=r.1.2.2.2.2.1.1
 stay:mL c r.1
 alone:(a.1=1\/a.1=0/\(a.2.2.1.1=0\/a.2.2.1.1=3\/a.2.2.1.1=5\/a.2.2.1.1=6))->∀i:Nat,(i:Int)≠a.2.1->r.1.1[i]?=c.1[i]?
theorem adv {M:Nat}(hN:N<=M)(z:CI N c)(hf:∀h∈c.1,BW M (f h)):CI M (c.1.map f,c.2):=by have z':=z.mono hN;refine⟨⟨⟨by show(c.1.map f).length<=M;rw[bH];exact z'.z.1.1,λx hx=>?_⟩,z'.z.2⟩,λx hx=>?_⟩;obtain⟨h,hh,rfl⟩:=eG.1 hx;exact(hf h hh).z;obtain⟨h,hh,rfl⟩:=eG.1 hx;exact hf h hh
theorem afa (hn:n<=10000000000)(hN:1000<=N/\N<=50000000)(g:gv n c)(z:CI N c)(ha:oD (c.1.length:Int) a):Ends (pN c a) (ahB n N c a):=by
 have p:=jO g.um;have hlen:=g.len;have z9:dj 1000000000 wj c:=z.z.mono;have gh:∀h∈c.1,Good n h:=by intro h hh;obtain⟨i,hi⟩:=gx hh;exact g.at hi
 have zh:∀h∈c.1,BW 90000000 h:=λh hh=>(z.h h hh).mono;unfold pN;rw[pT c z9,ab,Ch c (z.sz),g.ok (by omega),ab];have ok:oT a (c.2.1.length:Int)=some true:=by unfold oT;simp only[Vt,cm,ab,ha.ok,ah];rw[ak (n:=(c.2.1.length:Int)-1),aS.2 ⟨ha.fn.1,by have:=ha.fn.2;omega⟩,ah,aS.2 ha.kind,ah,aS.2 ha.part];rfl
 simp only[aj,af,ok,ab];obtain⟨k,hk⟩:∃k:Nat,a.2.1=k:=⟨a.2.1.toNat,by have:=ha.fn.1;omega⟩
 have Rv:=ha.fn;rw[hk]at Rv;have Ry:k<c.1.length:=by omega
 have Rx:k<c.2.2.1.length:=by omega
 have base:c.2.2.2.2.2.1=c.2.2.2.2.2.1++[]:=(bD _).symm;refine Ends.cond (λk1=>?_) λk1=>?_;have k1:a.1=1:=by simpa using k1
 rw[NZ c _ _ (z.z.mono) (z.sz),ab,hk];have hb:=al Rx;have nst:¬(a.1=0/\a.2.2.1.1=2):=by omega
 by_cases e1:a.2.2.2.1.1=c.2.2.1[k].2.1+1;obtain⟨h,b',eh,e2,_,_,e5,e6⟩:=WV g (by omega) hb (m:=a.2.2.2.1) e1;have pb:=jO e5;have hml:b'.1.2.2.length<=8:=Co (pb.2.2.2.1 b' (aY (cW Rx)));rw[e2];refine Ends.pure ⟨e6.mono,(apA (by omega) z eh hml).mono,aC ..,λe=>by omega,λ_=>rfl,by rw[aG nst];exact base,cR _,?_,λ_ i hi=>?_⟩;exact HJ eh ⟨rfl,rfl⟩;show(c.1.set k _)[i]?=c.1[i]?;rw[aP (by rw[hk]at hi;omega)];have e2:∃x,pS c.2.2.1 k a.2.2.2.1=(c.2.2.1,x):=by by_cases e3:a.2.2.2.1.1=c.2.2.1[k].2.1;exact⟨_,aar g.um hb e3⟩;exact⟨_,WN g.um hb e3 e1⟩
 obtain⟨x,e2⟩:=e2;rw[WW g (by omega) hb e2];exact Ends.pure ⟨g.mono,z.mono,rfl,λe=>by omega,λ_=>rfl,by rw[aG nst];exact base,cR _,mL.refl c,λ_ i hi=>rfl⟩;have k1:a.1≠1:=by simpa using k1
 refine Ends.cond (λk2=>?_) λk2=>?_;have k2:a.1=2:=by simpa using k2
 have hf:=OT g.NR;have nst:¬(a.1=0/\a.2.2.1.1=2):=by omega
 refine(akG (f:=c.2.2.2.1) (s:=a.2.2.2.2.1) (by have:=ha.img;omega)).bind λr6 p6=>(ahs hf p6.1 p6.2 a.2.2.2.2.2 (by have:=ha.part;omega)).bind λf' p7=>?_;have b:=ab1 g.NR p7;rw[acP _ _ c.1 _ (by omega) zh,afD (show lv f'=true from p7.1),ab];have gm:=SW g (show n<=n+640 by omega) (f:=rp) (λh q=>PC (by omega) q) SR;have zm:=adv (M:=N+645000) (by omega) z (f:=rp) λh hh=>(Mi (by omega) (z.h h hh) (abh ((gh h hh).ok (by omega)))).1;obtain⟨fe,f0,f1⟩:=yw p7.1;have fz:dj (N+645000) (.sl .str) f':=by rw[fe];refine⟨by show 2<=N+645000;omega,λx hx=>?_⟩;rcases bS.1 hx with e|hx;rw[e];show(f'.getD 0 []).length<=_;omega;rw[bz.1 hx];show(f'.getD 1 []).length<=_;omega
 refine Ends.pure ⟨?_,⟨⟨zm.z.1,zm.z.2.1,zm.z.2.2.1,fz,zm.z.2.2.2.2⟩,zm.h⟩,bH ..,λ_=>⟨rfl,b.2.1⟩,λe=>absurd k2 e,by rw[aG nst];exact base,cR _,ZO Q5,λe=>by omega⟩;have q:=gm.mono (show n+640<=n+14000000 by omega);exact⟨q.um,q.len,q.fns,b.1,q.clock,q.host,q.place,q.RJ,q.fnn⟩;have k2:a.1≠2:=by simpa using k2
 have k0:a.1=0:=by have:=ha.kind;omega
 have ac:=ha.act;have bound:=ac.2.1;refine Ends.cond (λk3=>?_) λk3=>?_;have k3:a.2.2.1.1=1:=by simpa using k3
 have nst:¬(a.1=0/\a.2.2.1.1=2):=by omega
 rw[P0 c _ (z.mono),ab];have kt:=ad0 c a.2.1;have zt:=(aax hN.1 a.2.1 z).1;exact Ends.pure ⟨adO (by omega) g _,zt.mono,kt.len,λe=>absurd e k2,λ_=>kt.flash,by rw[aG nst,bD];exact kt.stamps,by rw[kt.clock];exact cR _,amC _ _,λe=>by omega⟩;have k3:a.2.2.1.1≠1:=by simpa using k3
 refine Ends.cond (λk4=>?_) λk4=>?_;have k4:a.2.2.1.1=2:=by simpa using k4
 have yst:a.1=0/\a.2.2.1.1=2:=⟨k0,k4⟩
 rw[N0 c _ (z.mono) (by omega),ab];have zr:=Zo hN.1 a.2.2.1.2.2.2.2.1 z;have kr:rA (Fe c) (sS c a.2.2.1.2.2.2.2.1):=by unfold sS;rw[g.ok (by omega)];simp only[aj,af];cases (fy a.2.2.1.2.2.2.2.1).2==0 with|true=>exact Ih ..|false=>exact rA.refl _
 exact Ends.pure ⟨(RO (by omega) g _).mono,zr.1.mono,zr.2,λe=>absurd e k2,λ_=>kr.flash,by rw[aI yst];exact kr.stamps,by rw[kr.clock];exact cR _,Sj _ _,λe=>by omega⟩;have k4:a.2.2.1.1≠2:=by simpa using k4
 have nst:¬(a.1=0/\a.2.2.1.1=2):=by omega
 refine Ends.cond (λk5=>?_) λk5=>?_;have k5:a.2.2.1.1=4:=by simpa using k5
 show Ends (bl (kR _ (c.1.length:Int) _) fuel (0,c.1,c.2)) _;rw[T6 _ _ c.1 _ (by omega) zh];rw[M3 c.2.1 1,ab];refine(OL g.clock).bind λr24 p24=>Ends.pure ?_;have gm:=SW (abw g) (show n<=n by omega) (f:=uq) (λh q=>SY q) Xp;have zm:=adv (M:=N+645000) (by omega) z (f:=uq) λh hh=>(ZY hN.1 (z.h h hh)).mono;have q:=gm.mono (show n<=n+14000000 by omega);refine⟨⟨q.um,q.len,q.fns,q.NR,p24.1,q.host,q.place,q.RJ,q.fnn⟩,⟨⟨zm.z.1,⟨?_,λ_ _=>⟨cB,cB,⟨cB,cB,cB⟩,cB,cB,cB⟩⟩,zm.z.2.2.1,zm.z.2.2.2.1,⟨cB,cB,cB,cB⟩,zm.z.2.2.2.2.2⟩,zm.h⟩,bH ..,λe=>absurd e k2,λ_=>rfl,by rw[aG nst];exact base,p24.2,ZO TX,λe=>by omega⟩;show(c.2.1.map (Rj 1)).length<=_;rw[bH];exact zm.z.2.1.1;rw[hk,br Ry,ab];have zk:=z.h _ (aM Ry);rw[S6 _ _ (zk.mono),ab,ab,ab];have hg:=al Ry;have vZ:=(ahK hN.1 a.2.2.1 zk (abh ((g.at hg).ok (by omega)))).1;refine Ends.pure ⟨(Hp g (show n<=n+641 by omega) hg (aiX (by omega) (g.at hg) a.2.2.1) (alL ..)).mono,KR (z.mono) vZ,aC ..,λe=>absurd e k2,λ_=>rfl,by rw[aG nst];exact base,cR _,HJ hg (akD ..),λ_ i hi=>?_⟩;show(c.1.set ((k:Int).toNat) _)[i]?=c.1[i]?;rw[aw,aP (by rw[hk]at hi;omega)]
theorem an1 {a:bW}{k:Bool->az Bool}(ht:k true=some true)(hk:a.length<=1048576->Ends (k false) (λb=>b=true)):Ends (aa (Ks a) k) (λb=>b=true):=by unfold Ks;rw[ab];by_cases h:((a.length:Int))>1048576;rw[ar h,ht];exact Ends.pure rfl;rw[aq h];exact hk (by omega)
theorem Ends.true {o:az Bool}(h:Ends o (λb=>b=true)):o=some true:=by obtain⟨x,h1,rfl⟩:=h;exact h1
structure RF (c0:cP) (k:Nat) (c:cP):Prop where
 PA:gv (4+14000000*(k:Int)) c
 sz:CI (2000+645000*k) c
 len:c.1.length=c0.1.length
 stay:mL c0 c
theorem RF.start (d:HV c):RF c 0 c:=⟨d.PA.mono,(ahY d).mono,rfl,mL.refl c⟩
theorem RF.step {c0:cP}(q:RF c0 k c)(hk:k<=40)(ha:oD (c0.1.length:Int) a):Ends (pN c a) λr=>ahB (4+14000000*(k:Int)) (2000+645000*k) c a r/\RF c0 (k+1) r.1:=by refine(afa (by omega) ⟨by omega,by omega⟩ q.PA q.sz (by rw[q.len];exact ha)).mono λr h=>⟨h,⟨h.PA.mono (by push_cast;omega),h.sz.mono,h.len.trans q.len,q.stay.trans h.stay⟩⟩
theorem Ends.self {o:az α}{P:α->Prop}(h:Ends o P):Ends o λx=>P x/\o=some x:=by obtain⟨x,e,p⟩:=h;exact⟨x,e,p,e⟩
theorem acR {c0:cP}(d:HV c0){l:ax dP}(hl:l.length<=40)(ha:∀a∈l,oD (c0.1.length:Int) a)(P:Nat->cP->Prop)(h0:P 0 c0)(hs:∀i c r (hi:i<l.length),P i c->RF c0 i c->ahB (4+14000000*(i:Int)) (2000+645000*i) c l[i] r->pN c l[i]=some r->P (i+1) r.1):Ends (Bg c0 l) λr=>RF c0 l.length r.1/\P l.length r.1/\r.2.length=l.length:=by
 have st:=RF.start d;unfold Bg;rw[pT c0 (st.sz.z.mono),ab,Ch c0 (st.sz.sz),st.PA.ok (by omega),ab];simp only[aj,af,ab];rw[cC,af];refine Ends.wC (λx=>0<=x.2.1/\x.2.1<=(l.length:Int)/\(x.1.length:Int)=x.2.1/\RF c0 x.2.1.toNat x.2.2/\P x.2.1.toNat x.2.2) (λx=>((l.length:Int)-x.2.1).toNat) ⟨by simp,by simp,by simp,st,h0⟩ (by simp;omega) λx nx hx hn=>?_;obtain⟨q,i,c⟩:=x;obtain⟨x1,x2,x3,x4,x5⟩:=hx;simp only at x1 x2 x3 x4 x5;obtain⟨i,rfl⟩:∃k:Nat,i=k:=⟨i.toNat,by omega⟩
 rw[aw]at x4 x5;unfold Az;refine Ends.cond (λk=>?_) λk=>?_;have k:=bu k;simp only at k⊢;have hi:i<l.length:=by omega
 rw[br hi,ab];refine(x4.step (by omega) (ha _ (aM hi))).self.bind λr p'=>Ends.room (by simp;omega) ?_;obtain⟨p,pe⟩:=p';rw[ak (n:=(i:Int)+1)];have e:((i:Int)+1).toNat=i+1:=by omega
 refine hn _ ⟨by show 0<=(i:Int)+1;omega,by show(i:Int)+1<=_;omega,by show((q++[_]).length:Int)=(i:Int)+1;simp;omega,by show RF c0 ((i:Int)+1).toNat r.1;rw[e];exact p.2,by show P ((i:Int)+1).toNat r.1;rw[e];exact hs i c r hi x5 x4 p.1 pe⟩ (by show((l.length:Int)-((i:Int)+1)).toNat<((l.length:Int)-(i:Int)).toNat;omega);have k:=dN k;simp only at k⊢;have e:i=l.length:=by omega
 subst e;exact Ends.pure ⟨x4,x5,by show q.length=l.length;omega⟩
def xE (h:Host):eD×bP×bW×bW:=(h.2.2.1,h.2.2.2.2.2.2.2.2.2.2.2.1,h.2.2.2.2.2.2.2.2.2.2.2.2.1,h.2.2.2.2.2.2.2.2.2.2.2.2.2.1)
theorem amj (k:Nat)(h:Host):xE (evS k h)=xE h:=by unfold evS;cases h.2.2.2.2.2.1[k]?<;>rfl
theorem ad1 (k:Nat)(h:Host):∀i,xE (evH k i h)=xE h
 |0=>rfl
 |i+1=>(amj k _).trans (ad1 k h i)
theorem Qh (h:Host)(k:Nat)(b:Int)(f:bP×cA):xE (G3 h k b f)=xE h:=(ad1 k _ _).trans rfl
theorem ab9 (k:Nat)(h:Host):xE (oH k h)=xE h:=by unfold oH;cases h.2.2.2.1[k]? with|none=>rfl|some x=>exact Qh ..
theorem af8 (k:Nat)(h:Host):xE (yg k h)=xE h:=by unfold yg;cases h.2.2.2.2.2.1[k]?<;>rfl
theorem I4 {g:Nat->Host->Host}(hg:∀k h,xE (g k h)=xE h)(h:Host):∀k,xE (mB g k h)=xE h
 |0=>rfl
 |k+1=>(hg k _).trans (I4 hg h k)
theorem af6 (h:Host):xE (vW h)=xE h:=by unfold vW;cases dZ h with|false=>rfl|true=>exact I4 ab9 h _
theorem YC (h:Host):xE (uq h)=xE h:=by unfold uq;cases dZ h with|false=>rfl|true=>exact I4 af8 h _
theorem acd (b:Int)(k:Nat)(s:Int×Host):xE (Cy b k s).2=xE s.2:=by unfold Cy;rcases s.2.2.2.2.2.2.1[k]? with _|v;rfl;rcases s.2.2.2.2.2.2.2.1[k]? with _|p;rfl;rcases s.2.2.2.2.1[k]? with _|x;rfl;rcases s.2.2.2.2.2.1[k]? with _|pl;rfl;simp only;cases p||(Ez v).2<;>rfl
theorem Qg (b:Int)(h:Host):∀k,xE (sV b k h).2=xE h
 |0=>rfl
 |k+1=>(acd b k _).trans (Qg b h k)
theorem YB (h:Host)(b:Int):xE (mz h b).1=xE h:=by unfold mz;cases dZ h&&db b 1 1000 with|false=>rfl|true=>exact Qg b h _
theorem M6 (h:Host)(x:Bytes):xE (jH h x)=xE h:=by
 unfold jH;cases dZ h;rfl;cases (fy x).2 !=0;case true=>rfl
 cases !wP h.2.2.2.2.2.2.2.1 (fy x).1;case true=>rfl
 cases rr h.2.2.2.2.2.2.2.2.1 (h.2.2.2.1.length:Int) (fy x).1== -1;case true=>rfl
 simp only[aj,af];cases h.2.2.2.1[(rr h.2.2.2.2.2.2.2.2.1 (h.2.2.2.1.length:Int) (fy x).1).toNat]? with|none=>rfl|some q=>exact Qh ..
theorem aca (h:Host)(i:Nat)(c:Int):xE (we h i c).2=xE h:=by unfold we;rcases h.2.2.2.1[i]? with _|rx;rfl;cases h.2.2.2.2.1[i]? with|none=>rfl|some pl=>rfl
theorem M5 (h:Host):∀k,xE (rY h k)=xE h
 |0=>rfl
 |k+1=>(aca _ k 1000).trans (M5 h k)
theorem acb (k:Nat)(h:Host):xE (wg k h)=xE h:=by unfold wg;rcases h.2.2.2.1[k]? with _|x;rfl;cases h.2.2.2.2.2.1[k]? with|none=>rfl|some v=>rfl
theorem Ku (h:Host):∀k,xE (iL h k)=xE h
 |0=>rfl
 |k+1=>(acb k _).trans (Ku h k)
theorem Kv (h:Host):∀k,k<=h.2.2.1.2.2.1.length->xE (returned h k)=(h.2.2.1,(xE h).2.1,(xE h).2.2.1,(xE h).2.2.2++(h.2.2.1.2.2.1.take k).map (·.1))
 |0,_=>by show xE (rY h _)=_;rw[M5,List.take_zero,List.map_nil,bD];rfl
 |k+1,hk=>by have i:=Kv h k (by omega);have e:returned h (k+1)=Mj h.2.2.1.2.2.1 k (returned h k):=rfl;rw[e];unfold Mj;rw[al (by omega)];have j:xE (TI (returned h k) [h.2.2.1.2.2.1[k].1])=((xE (returned h k)).1,(xE (returned h k)).2.1,(xE (returned h k)).2.2.1,(xE (returned h k)).2.2.2++[h.2.2.1.2.2.1[k].1]):=rfl;show xE (TI (returned h k) [h.2.2.1.2.2.1[k].1])=_;rw[j,i,bc (by omega),dF,List.map_singleton,<-aL]
theorem af7 {h:Host}(hb:dZ h=true):xE (rp h)=((yq.1,yq.2.1,yq.2.2.1,h.2.2.1.2.2.2),(xE h).2.1,(xE h).2.2.1,(xE h).2.2.2++h.2.2.1.2.2.1.map (·.1)):=by unfold rp;rw[hb,ah,Ku];have i:=Kv h h.2.2.1.2.2.1.length (bj _);rw[cE]at i;unfold rD;have e:xE (Wp (returned h h.2.2.1.2.2.1.length))=((yq.1,yq.2.1,yq.2.2.1,(xE (returned h h.2.2.1.2.2.1.length)).1.2.2.2),(xE (returned h h.2.2.1.2.2.1.length)).2):=rfl;rw[e,i]
def acc (h:Host):bW:=(xE h).2.2.1++(xE h).2.2.2++(xE h).1.2.2.1.map (·.1)
theorem Fo (x:Int):gF x=x%256:=by simp only[au,gF,IntKind.wrap,IntKind.bits,IntKind.signed];simp
theorem La {n:Nat}(h:k=n%256:=by omega):(UInt8.ofNat n).toNat=k:=by rw[h];simp
theorem ahw (h:v<=65535):∃a b:UInt8,aW (v:Int)=[a,b]/\a.toNat=v/256/\b.toNat=v%256:=by
 have e:aW (v:Int)=aO [gF (Int.fdiv (v:Int) (2^(nZ 8))),gF (v:Int)]:=by unfold aW dA;rw[dQ,aS.2 ⟨by omega,by omega⟩];rfl
 have e8:((2:Int)^(nZ 8))=256:=by decide
 rw[e8,Int.fdiv_eq_ediv_of_nonneg _ (by omega),Fo,Fo]at e;exact⟨_,_,e,La,La⟩
theorem ahx (h:v<=4294967295):∃a b c d:UInt8,dh (v:Int)=[a,b,c,d]/\a.toNat=v/16777216/\b.toNat=v/65536%256/\c.toNat=v/256%256/\d.toNat=v%256:=by
 have e:dh (v:Int)=aO [gF (Int.fdiv (v:Int) (2^(nZ 24))),gF (Int.fdiv (v:Int) (2^(nZ 16))),gF (Int.fdiv (v:Int) (2^(nZ 8))),gF (v:Int)]:=by unfold dh fP;rw[dQ,aS.2 ⟨by omega,by omega⟩];rfl
 have e8:((2:Int)^(nZ 8))=256:=by decide
 have e16:((2:Int)^(nZ 16))=65536:=by decide
 have e24:((2:Int)^(nZ 24))=16777216:=by decide
 rw[e8,e16,e24,Int.fdiv_eq_ediv_of_nonneg _ (by omega),Int.fdiv_eq_ediv_of_nonneg _ (by omega),Int.fdiv_eq_ediv_of_nonneg _ (by omega),Fo,Fo,Fo,Fo]at e;exact⟨_,_,_,_,e,La,La,La,La⟩
theorem gk {A B:Bytes}{n:Nat}(h:s.drop k=A++B)(hA:A.length=n):s.drop (k+n)=B:=by rw[<-eK,h,<-hA,List.drop_left]
theorem qZ (h:s.drop k=x::t):bO s k=x.toNat:=by
 have e:s[k]?=some x:=by have:=congrArg (λl=>l[0]?) h;simpa[bQ]using this
 unfold bO;rw[bG,e];rfl
theorem kE (h:s.drop k=x::t):s.drop (k+1)=t:=gk (A:=[x]) h rfl
theorem kP (hv:v<=65535)(h:s.drop k=aW (v:Int)++t):cp s (k:Int)=(v:Int):=by
 obtain⟨a,b,e,ea,eb⟩:=ahw hv;rw[e]at h;have h1:s.drop k=a::b::t:=h;have hl:k+2<=s.length:=by have:=congrArg List.length h1;simp only[aJ,aU]at this;omega
 unfold cp fi;rw[ar (show 0<=(k:Int)/\(k:Int)+2<=(s.length:Int) by omega),ah,aw,qZ h1,qZ (kE h1),ea,eb];omega
theorem Cb (hv:v<=4294967295)(h:s.drop k=dh (v:Int)++t):dU s (k:Int)=(v:Int):=by
 obtain⟨a,b,c,d,e,ea,eb,ec,ed⟩:=ahx hv;rw[e]at h;have h1:s.drop k=a::b::c::d::t:=h;have hl:k+4<=s.length:=by have:=congrArg List.length h1;simp only[aJ,aU]at this;omega
 have g2:bO s (k+2)=c.toNat:=qZ (kE (kE h1));have g3:bO s (k+3)=d.toNat:=qZ (kE (kE (kE h1)));unfold dU fi;rw[ar (show 0<=(k:Int)/\(k:Int)+4<=(s.length:Int) by omega),ah,aw,qZ h1,qZ (kE h1),g2,g3,ea,eb,ec,ed];omega
theorem oC (h:v<=65535:=by omega):(aW (v:Int)).length=2:=by rw[Fm,aS.2 ⟨by omega,by omega⟩];rfl
theorem Lf (h:v<=4294967295:=by omega):(dh (v:Int)).length=4:=by rw[Jm,aS.2 ⟨by omega,by omega⟩];rfl
theorem ad6 (h:v<=281474976710655):Ii (v:Int)=aW ((v/4294967296:Nat):Int)++dh ((v%4294967296:Nat):Int):=by have e32:(2:Int)^(nZ 32)=4294967296:=rfl;have ea:BitVec.toNat (ir (v:Int)&&&ir 4294967295)=v%4294967296:=(ahN v 4294967295).trans (Nat.and_two_pow_sub_one_eq_mod v 32);have h1:=bT ((v/4294967296:Nat):Int);have h2:=dS ((v%4294967296:Nat):Int);unfold Ii iT;rw[nU];simp only[nQ,mA,ab];rw[e32,Int.fdiv_eq_ediv_of_nonneg _ (by omega),ea,iV (n:=v%4294967296),show(v:Int)/4294967296=((v/4294967296:Nat):Int) by omega,aR];rfl
theorem ad5 (h:v<=281474976710655):(Ii (v:Int)).length=6:=by rw[ad6 h,ai,oC,Lf]
theorem Ky (hv:v<=281474976710655)(h:s.drop k=Ii (v:Int)++t):AK s (k:Int)=(v:Int):=by rw[ad6 hv,aL]at h;have h1:=kP (v:=v/4294967296) (by omega) h;have h3:=Cb (v:=v%4294967296) (by omega) (gk h (oC));unfold AK;rw[h1,show(k:Int)+2=((k+2:Nat):Int) by omega,h3];omega
theorem aiK {e:OF}(h:qz e=true):fY (FA e)=(e,true):=by
 have hb:=h;unfold qz at hb;simp only[ae,aS,bne_iff_ne,ne_eq]at hb;obtain⟨d,s,v,t,b⟩:=e;simp only at hb;obtain⟨h1,h2,h3,h4,h5,h6⟩:=hb;obtain⟨d,rfl⟩:=aD h1.1;obtain⟨s,rfl⟩:=aD h2.1;obtain⟨t,rfl⟩:=aD (show 0<=t by omega);have b1:d<=281474976710655:=by omega
 have b2:s<=281474976710655:=by omega
 have b4:t<=65535:=by omega
 have l1:=ad5 b1;have l2:=ad5 b2;have l3:=oC b4;by_cases hv:v<0;obtain rfl:v= -1:=by omega
 have e:FA ((d:Int),(s:Int), -1,(t:Int),b)=Ii (d:Int)++(Ii (s:Int)++(aW (t:Int)++b)):=by show(bif decide ((-1:Int)>=0) then _ else Ii (d:Int)++Ii (s:Int))++aW (t:Int)++b=_;rw[show decide ((-1:Int)>=0)=false from rfl,af];simp only[aL]
 generalize FA ((d:Int),(s:Int), -1,(t:Int),b)=x at e;have hl:x.length=14+b.length:=by rw[e];simp only[ai];omega
 have k0:x.drop 0=Ii (d:Int)++(Ii (s:Int)++(aW (t:Int)++b)):=e;have k1:x.drop 6=Ii (s:Int)++(aW (t:Int)++b):=gk k0 l1;have k2:x.drop 12=aW (t:Int)++b:=gk k1 l2;have k3:x.drop 14=b:=gk k2 l3;have f0:AK x 0=(d:Int):=Ky b1 k0;have f1:AK x 6=(s:Int):=Ky b2 k1;have f2:cp x 12=(t:Int):=kP b4 k2;have eb:wT x=((d:Int),(s:Int), -1,(t:Int),b):=by unfold wT;rw[f0,f1,f2,k3]
 unfold fY;rw[cC,af,f2,show((t:Int)==33024)=false from by simpa using h5,af,eb,h];rfl;obtain⟨v,rfl⟩:=aD (show 0<=v by omega);have b3:v<=65535:=by omega
 have l5:=oC (v:=33024);have l6:=oC b3;have e:FA ((d:Int),(s:Int),(v:Int),(t:Int),b)=Ii (d:Int)++(Ii (s:Int)++(aW ((33024:Nat):Int)++(aW (v:Int)++(aW (t:Int)++b)))):=by show(bif decide ((v:Int)>=0) then(((Ii (d:Int)++Ii (s:Int))++aW 33024)++aW (v:Int)) else _)++aW (t:Int)++b=_;rw[jI,ah];simp only[aL];rfl
 generalize FA ((d:Int),(s:Int),(v:Int),(t:Int),b)=x at e;have hl:x.length=18+b.length:=by rw[e];simp only[ai];omega
 have k0:x.drop 0=Ii (d:Int)++(Ii (s:Int)++(aW ((33024:Nat):Int)++(aW (v:Int)++(aW (t:Int)++b)))):=e;have k1:x.drop 6=Ii (s:Int)++(aW ((33024:Nat):Int)++(aW (v:Int)++(aW (t:Int)++b))):=gk k0 l1;have k2:x.drop 12=aW ((33024:Nat):Int)++(aW (v:Int)++(aW (t:Int)++b)):=gk k1 l2;have k3:x.drop 14=aW (v:Int)++(aW (t:Int)++b):=gk k2 l5;have k4:x.drop 16=aW (t:Int)++b:=gk k3 l6;have k5:x.drop 18=b:=gk k4 l3;have f0:AK x 0=(d:Int):=Ky b1 k0;have f1:AK x 6=(s:Int):=Ky b2 k1;have f2:cp x 12=33024:=kP (v:=33024) (by omega) k2;have f3:cp x 14=(v:Int):=kP b3 k3;have f4:cp x 16=(t:Int):=kP b4 k4;have eb:F7 x=((d:Int),(s:Int),(v:Int),(t:Int),b):=by unfold F7;rw[f0,f1,f3,f4,k5]
 unfold fY;rw[cC,af,f2,show((33024:Int)==33024)=true from rfl,ah,eb,h];rfl
theorem VV {A X Y B:Bytes}(hA:A.length=k)(hX:X.length=Y.length:=by omega):xK (A++(X++B)) (k:Int) Y=A++(Y++B):=by subst hA;unfold xK fi;rw[ar (by simp only[ai];omega),ah,aw,List.take_left,<-eK,List.drop_left,<-hX,List.drop_left,aL]
theorem adr {x:Int}{y:Nat}(h:y<=255:=by omega):∃a b:UInt8,bs2 x (gF (y:Int))=[a,b]/\b.toNat=y:=by refine⟨_,_,rfl,?_⟩;rw[Fo];exact La
theorem alB {x y:Nat}(h:x<=255)(k:y<=255):∃a b:UInt8,bs2 (gF (x:Int)) (gF (y:Int))=[a,b]/\a.toNat=x/\b.toNat=y:=by refine⟨_,_,rfl,?_,?_⟩;rw[Fo];exact La;rw[Fo];exact La
theorem adu (s:Bytes):∃c:Nat,c<=65535/\NT s=(c:Int):=by have:=aeA s ((s.length+1)/2);exact⟨(NT s).toNat,by unfold NT;omega,by unfold NT;omega⟩
theorem al7 {d:Ip}(h:VG d=true)(z:Bytes):kJ (AA d++d.2.2.2.2.2.2++z)=(d,true):=by
 have hb:=h;have hr:R2 d=(AA d++d.2.2.2.2.2.2,true):=by unfold R2;rw[h];rfl
 unfold VG at hb;simp only[ae,aS,aE]at hb;obtain⟨o,i,t,p,a,b,q⟩:=d;simp only at hb hr⊢;obtain⟨h1,h2,h3,h4,h5,h6,h7⟩:=hb;obtain⟨o,rfl⟩:=aD h1.1;obtain⟨i,rfl⟩:=aD h4.1;obtain⟨t,rfl⟩:=aD h2.1;obtain⟨p,rfl⟩:=aD h3.1;obtain⟨a,rfl⟩:=aD h5.1;obtain⟨b,rfl⟩:=aD h6.1;obtain⟨x0,x1,e0,e1⟩:=adr (x:=69) (y:=o);obtain⟨x8,x9,e8,e8',e9⟩:=alB (x:=t) (y:=p) (by omega) (by omega);obtain⟨c,hc,ec⟩:=adu (Ko ((o:Int),(i:Int),(t:Int),(p:Int),(a:Int),(b:Int),q));have l2:=oC (v:=20+q.length);have l4:=oC (v:=i);have l6:=oC (v:=16384);have l0:=oC (v:=0);have lc:=oC hc;have la:=Lf (v:=a);have lb:=Lf (v:=b);have avj:Ko ((o:Int),(i:Int),(t:Int),(p:Int),(a:Int),(b:Int),q)=([x0,x1]++(aW ((20+q.length:Nat):Int)++(aW (i:Int)++(aW ((16384:Nat):Int)++[x8,x9]))))++(aW ((0:Nat):Int)++(dh (a:Int)++dh (b:Int))):=by show((((((bs2 69 (gF (o:Int))++aW (20+(q.length:Int)))++aW (i:Int))++aW 16384)++bs2 (gF (t:Int)) (gF (p:Int)))++aW 0)++dh (a:Int))++dh (b:Int)=_;rw[e0,e8,show(20:Int)+(q.length:Int)=((20+q.length:Nat):Int) by omega];simp only[aL];rfl
 have eh:AA ((o:Int),(i:Int),(t:Int),(p:Int),(a:Int),(b:Int),q)=([x0,x1]++(aW ((20+q.length:Nat):Int)++(aW (i:Int)++(aW ((16384:Nat):Int)++[x8,x9]))))++(aW (c:Int)++(dh (a:Int)++dh (b:Int))):=by unfold AA;rw[ec,avj];exact VV (k:=10) (by simp only[ai,aU,dg];omega)
 generalize hH:AA ((o:Int),(i:Int),(t:Int),(p:Int),(a:Int),(b:Int),q)=H at eh hr;have hHl:H.length=20:=by rw[eh];simp only[ai,aU,dg];omega
 have e:H++q++z=[x0,x1]++(aW ((20+q.length:Nat):Int)++(aW (i:Int)++(aW ((16384:Nat):Int)++([x8,x9]++(aW (c:Int)++(dh (a:Int)++(dh (b:Int)++(q++z)))))))):=by rw[eh];simp only[aL]
 have et:(H++q++z).take (20+q.length)=H++q:=List.take_left' (by rw[ai,hHl]);have hl:(H++q++z).length=20+q.length+z.length:=by simp only[ai,hHl]
 generalize H++q++z=s at e et hl;have k0:s.drop 0=[x0,x1]++(aW ((20+q.length:Nat):Int)++(aW (i:Int)++(aW ((16384:Nat):Int)++([x8,x9]++(aW (c:Int)++(dh (a:Int)++(dh (b:Int)++(q++z)))))))):=e;have k1:s.drop 1=x1::(aW ((20+q.length:Nat):Int)++(aW (i:Int)++(aW ((16384:Nat):Int)++([x8,x9]++(aW (c:Int)++(dh (a:Int)++(dh (b:Int)++(q++z)))))))):=kE k0;have k2:=gk k0 (n:=2) rfl;have k4:=gk k2 l2;have k6:=gk k4 l4;have k8:s.drop 8=x8::x9::(aW (c:Int)++(dh (a:Int)++(dh (b:Int)++(q++z)))):=gk k6 l6;have k10:s.drop 10=aW (c:Int)++(dh (a:Int)++(dh (b:Int)++(q++z))):=kE (kE k8);have k12:s.drop 12=dh (a:Int)++(dh (b:Int)++(q++z)):=gk k10 lc;have k16:s.drop 16=dh (b:Int)++(q++z):=gk k12 la;have k20:s.drop 20=q++z:=gk k16 lb;have f1:bO s 1=o:=(qZ k1).trans e1;have f2:cp s 2=((20+q.length:Nat):Int):=kP (k:=2) (by omega) k2;have f4:cp s 4=(i:Int):=kP (k:=4) (by omega) k4;have f8:bO s 8=t:=(qZ k8).trans e8';have f9:bO s 9=p:=(qZ (kE k8)).trans e9;have f12:dU s 12=(a:Int):=Cb (k:=12) (by omega) k12;have f16:dU s 16=(b:Int):=Cb (k:=16) (by omega) k16;have fq:(s.take (20+q.length)).drop 20=q:=by rw[et];exact(congrArg (λn=>List.drop n (H++q)) hHl.symm).trans List.drop_left
 have ea:DJ s=((o:Int),(i:Int),(t:Int),(p:Int),(a:Int),(b:Int),q):=by unfold DJ;rw[f1,f2,f4,f8,f9,f12,f16,aw,fq]
 unfold kJ;rw[ea,hr,f2,aw,et,cC,cC,cC];simp only[cl,af,fS,bR,ah]
theorem sum_nat (a b:Int)(g:eX):∃c:Nat,c<=65535/\T4 a b g=(c:Int):=by unfold T4;cases (NT (xI a b g.1 ((bare g).length:Int)++bare g)==0)&&(g.1==17)with|true=>exact⟨65535,by omega,rfl⟩|false=>exact adu _
theorem akm {a b:Int}{g:eX}(h:Fa a b g=true):nB a b g.1 (Dj a b g)=(g,true):=by
 have hr:AE a b g=(Dj a b g,true):=by unfold AE;rw[h];rfl
 have hs:sT g=true:=by unfold Fa at h;simp only[ae]at h;exact h.1
 obtain⟨c,hc,ec⟩:=sum_nat a b g;have lc:=oC hc;have l0:=oC (v:=0);unfold sT at hs;simp only[ae,aS,aN,cL]at hs;obtain⟨k,s,d,n,m,f,w,q⟩:=g;simp only at hs hr ec⊢;obtain⟨h1,h2,h3,h4⟩:=hs;obtain⟨s,rfl⟩:=aD h1.1;obtain⟨d,rfl⟩:=aD h2.1;have ls:=oC (v:=s);have ld:=oC (v:=d);cases h17:k==17 with
 |true=>
  have hk:k=17:=by simpa using h17
  rw[h17]at h4;simp only[ah,ae,bg]at h4;obtain⟨rfl,rfl,rfl,rfl⟩:=h4;subst hk;have ln:=oC (v:=8+q.length);have e:Dj a b (17,(s:Int),(d:Int),0,0,0,0,q)=(aW (s:Int)++(aW (d:Int)++aW ((8+q.length:Nat):Int)))++(aW (c:Int)++q):=by
   have eb:bare (17,(s:Int),(d:Int),0,0,0,0,q)=(aW (s:Int)++(aW (d:Int)++aW ((8+q.length:Nat):Int)))++(aW ((0:Nat):Int)++q):=by show(((aW (s:Int)++aW (d:Int))++aW (8+(q.length:Int)))++aW 0)++q=_;rw[show(8:Int)+(q.length:Int)=((8+q.length:Nat):Int) by omega];simp only[aL];rfl
   unfold Dj;rw[ec,eb];exact VV (k:=6) (by simp only[ai];omega)
  generalize Dj a b (17,(s:Int),(d:Int),0,0,0,0,q)=x at e hr;have hl:x.length=8+q.length:=by rw[e];simp only[ai];omega
  have k0:x.drop 0=aW (s:Int)++(aW (d:Int)++(aW ((8+q.length:Nat):Int)++(aW (c:Int)++q))):=by rw[eL,e];simp only[aL]
  have k2:x.drop 2=aW (d:Int)++(aW ((8+q.length:Nat):Int)++(aW (c:Int)++q)):=gk k0 ls;have k4:x.drop 4=aW ((8+q.length:Nat):Int)++(aW (c:Int)++q):=gk k2 ld;have k6:x.drop 6=aW (c:Int)++q:=gk k4 ln;have k8:x.drop 8=q:=gk k6 lc;have f0:cp x 0=(s:Int):=kP (k:=0) (by omega) k0;have f2:cp x 2=(d:Int):=kP (k:=2) (by omega) k2;have eu:QO 17 x=(17,(s:Int),(d:Int),0,0,0,0,q):=by unfold QO;rw[f0,f2,k8]
  unfold nB;rw[eu,hr,show((17:Int)==6)=false from rfl,show((17:Int)==17)=true from rfl,ar (show(x.length:Int)>=8 by omega)];simp only[dJ,af,bR,ah,fS]
 |false=>
  rw[h17]at h4;simp only[af,ae,bg,aS]at h4;obtain⟨rfl,h5,h6,h7,h8⟩:=h4;obtain⟨n,rfl⟩:=aD h5.1;obtain⟨m,rfl⟩:=aD h6.1;obtain⟨f,rfl⟩:=aD h7.1;obtain⟨w,rfl⟩:=aD h8.1;obtain⟨y,y',ey,ey'⟩:=adr (x:=80) (y:=f);have ln:=Lf (v:=n);have lm:=Lf (v:=m);have lw:=oC (v:=w);have e:Dj a b (6,(s:Int),(d:Int),(n:Int),(m:Int),(f:Int),(w:Int),q)=(aW (s:Int)++(aW (d:Int)++(dh (n:Int)++(dh (m:Int)++([y,y']++aW (w:Int))))))++(aW (c:Int)++(aW ((0:Nat):Int)++q)):=by
   have eb:bare (6,(s:Int),(d:Int),(n:Int),(m:Int),(f:Int),(w:Int),q)=(aW (s:Int)++(aW (d:Int)++(dh (n:Int)++(dh (m:Int)++([y,y']++aW (w:Int))))))++(aW ((0:Nat):Int)++(aW ((0:Nat):Int)++q)):=by show(((((aW (s:Int)++aW (d:Int))++dh (n:Int))++dh (m:Int))++bs2 80 (gF (f:Int)))++aW (w:Int))++dh 0++q=_;rw[ey,<-Ue];simp only[aL];rfl
   unfold Dj;rw[ec,eb];exact VV (k:=16) (by simp only[ai,aU,dg];omega)
  generalize Dj a b (6,(s:Int),(d:Int),(n:Int),(m:Int),(f:Int),(w:Int),q)=x at e hr;have hl:x.length=20+q.length:=by rw[e];simp only[ai,aU,dg];omega
  have k0:x.drop 0=aW (s:Int)++(aW (d:Int)++(dh (n:Int)++(dh (m:Int)++([y,y']++(aW (w:Int)++(aW (c:Int)++(aW ((0:Nat):Int)++q))))))):=by rw[eL,e];simp only[aL]
  have k2:=gk k0 ls;have k4:=gk k2 ld;have k8:=gk k4 ln;have k12:x.drop 12=y::y'::(aW (w:Int)++(aW (c:Int)++(aW ((0:Nat):Int)++q))):=gk k8 lm;have k14:x.drop 14=aW (w:Int)++(aW (c:Int)++(aW ((0:Nat):Int)++q)):=kE (kE k12);have k16:x.drop 16=aW (c:Int)++(aW ((0:Nat):Int)++q):=gk k14 lw;have k18:x.drop 18=aW ((0:Nat):Int)++q:=gk k16 lc;have k20:x.drop 20=q:=gk k18 l0;have f0:cp x 0=(s:Int):=kP (k:=0) (by omega) k0;have f2:cp x 2=(d:Int):=kP (k:=2) (by omega) k2;have f4:dU x 4=(n:Int):=Cb (k:=4) (by omega) k4;have f8:dU x 8=(m:Int):=Cb (k:=8) (by omega) k8;have f13:bO x 13=f:=(qZ (kE k12)).trans ey';have f14:cp x 14=(w:Int):=kP (k:=14) (by omega) k14;have eu:Mp 6 x=(6,(s:Int),(d:Int),(n:Int),(m:Int),(f:Int),(w:Int),q):=by unfold Mp;rw[f0,f2,f4,f8,f13,f14,k20]
  unfold nB;rw[eu,hr,show((6:Int)==6)=true from rfl,ar (show(x.length:Int)>=20 by omega)];simp only[bR,ah,fS]
theorem aj5 (s:Bytes):∃z,pad s=s++z:=by unfold pad;split;exact⟨_,rfl⟩;exact⟨[],(bD s).symm⟩
theorem abD (h:dv p=true):jo (dC p).1=(p,0):=by
 have hh:oI p=true:=by simp only[dv,ae]at h;exact h.1
 have hg:=zY hh;have hb:=hh;unfold oI at hb;simp only[ae]at hb;obtain⟨h1,h2,h3,h4,h5,h6,h7,h8,_⟩:=hb;have hlen:=Eu hg;have hbl:=Oc p.2.2.2.2.2.2.2.2;have hk:db p.2.2.2.2.2.2.2.2.1 0 255=true:=by unfold sT at hg;simp only[ae]at hg;have g4:=hg.2.2.2;cases h17:p.2.2.2.2.2.2.2.2.1==17 with|true=>rw[show p.2.2.2.2.2.2.2.2.1=17 from by simpa using h17];rfl|false=>rw[h17]at g4;simp only[af,ae,bg]at g4;rw[g4.1];rfl
 have hs:Fa p.2.2.2.2.2.2.1 p.2.2.2.2.2.2.2.1 p.2.2.2.2.2.2.2.2=true:=by unfold Fa zx;rw[hg,h7,h8,hk,aS.2 ⟨by omega,by omega⟩];rfl
 have es:N7 p=(Dj p.2.2.2.2.2.2.1 p.2.2.2.2.2.2.2.1 p.2.2.2.2.2.2.2.2,true):=by unfold N7 AE;rw[hs];rfl
 have hsl:=aem p.2.2.2.2.2.2.1 p.2.2.2.2.2.2.2.1 p.2.2.2.2.2.2.2.2;rw[show AE p.2.2.2.2.2.2.1 p.2.2.2.2.2.2.2.1 p.2.2.2.2.2.2.2.2=N7 p from rfl,es]at hsl;have hi:VG (p.2.2.2.1,p.2.2.2.2.1,p.2.2.2.2.2.1,p.2.2.2.2.2.2.2.2.1,p.2.2.2.2.2.2.1,p.2.2.2.2.2.2.2.1,(N7 p).1)=true:=by unfold VG;simp only[h4,h5,h6,h7,h8,hk,bn,aE];rw[es];show((Dj _ _ _).length:Int)<=380;simp only at hsl;omega
 have ei:Ti p=(AA (p.2.2.2.1,p.2.2.2.2.1,p.2.2.2.2.2.1,p.2.2.2.2.2.2.2.2.1,p.2.2.2.2.2.2.1,p.2.2.2.2.2.2.2.1,(N7 p).1)++(N7 p).1,true):=by unfold Ti R2;rw[hi];rfl
 have hl:=Qa p;have hp:=Ou (Ti p).1;have he:qz (p.1,p.2.1,p.2.2.1,2048,pad (Ti p).1)=true:=by simp only[qz,ae];refine⟨h1,h2,h3,by decide,by decide,aS.2 ?_⟩;omega
 have em:(dC p).1=FA (p.1,p.2.1,p.2.2.1,2048,pad (Ti p).1):=by unfold dC aiJ U2;rw[h,he];rfl
 have eb:=aiK he;obtain⟨z,ez⟩:=aj5 (Ti p).1;have ib:=al7 hi z;have sb:=akm hs;have e1:(Ti p).1=AA (p.2.2.2.1,p.2.2.2.2.1,p.2.2.2.2.2.1,p.2.2.2.2.2.2.2.2.1,p.2.2.2.2.2.2.1,p.2.2.2.2.2.2.2.1,(N7 p).1)++(N7 p).1:=by rw[ei]
 rw[<-e1,<-ez]at ib;rw[em];unfold jo;simp only[eb,ib,es,sb,aj,cJ,af,show((2048:Int) !=2048)=false from rfl,h]
theorem aiN (x:Bytes):sn (sf x)=(x,true):=by
 have hl:(sf x).length=x.length+4:=by unfold sf;rw[ai,adJ]
 have et:(sf x).take (((sf x).length:Int)-4).toNat=x:=List.take_left' (by omega);unfold sn;rw[et,cC,af,fS,ah]
theorem Pw (h:dq p=true):fy (ly p).1=(p,0):=by
 have hs:dv p=true:=by simp only[dq,ae]at h;exact h.1
 have e:(ly p).1=sf (dC p).1:=by unfold ly;rw[h];rfl
 rw[e];unfold fy;simp only[aiN,abD hs,aj,af,h,show((0:Int) !=0)=false from rfl]
def yl (x:Bytes):Prop:=((fy x).2==0)=true
theorem FU {P:α->Prop}{c:Bool}{a b:α}(ha:P a)(hb:P b):P (cond c a b):=by cases c<;>assumption
theorem abr (h:(ly p).2=true):yl (ly p).1:=by
 have hp:dq p=true:=by unfold ly at h;cases hq:dq p with|true=>rfl|false=>rw[hq]at h;cases h
 unfold yl;rw[Pw hp];rfl
theorem MM:∀(l:ax aK)(acc:bP),(∀x∈acc,yl x)->∀x∈l.foldl OJ acc,yl x
 |[],acc,h=>h
 |p::l,acc,h=>by rw[du];refine MM l _ λx hx=>?_;unfold OJ at hx;cases hf:(ly p).2 with|false=>rw[hf]at hx;exact h x hx|true=>rw[hf]at hx;simp only[ah,ay,bz]at hx;rcases hx with hx|hx;exact h x hx;rw[hx];exact abr hf
theorem agw (l:ax aH)(m:bP)(d:Int)(r:kY):∀x∈(iX l m d r).2.1,yl x:=by unfold iX;refine FU (P:=λq:kY×bP×Int=>∀x∈q.2.1,yl x) (λx hx=>by cases hx) ?_;refine FU (P:=λq:kY×bP×Int=>∀x∈q.2.1,yl x) (λx hx=>by cases hx) ?_;refine FU (P:=λq:kY×bP×Int=>∀x∈q.2.1,yl x) (λx hx=>by cases hx) ?_;exact MM _ [] (λx hx=>by cases hx)
theorem OM (l:ax aH)(m:bP)(d:Int):∀(n:Nat)(fr:bP)(dn bd:Nat)(r:kY),(∀x∈fr,yl x)->∀x∈(nS l m d n fr dn bd r).2.1,yl x
 |0,fr,dn,bd,r,h=>h
 |n+1,fr,dn,bd,r,h=>by
  rw[nS];have h2:∀y∈fr++(iX l m d r).2.1,yl y:=λy hy=>by rcases ay.1 hy with g|g;exact h y g;exact agw l m d r y g
  refine FU (P:=λq:kY×bP×Int×Int=>∀x∈q.2.1,yl x) h ?_;exact FU (P:=λq:kY×bP×Int×Int=>∀x∈q.2.1,yl x) (OM l m d n _ _ _ _ h2) (OM l m d n _ _ _ _ h2)
theorem acv (h:Host):∀x∈Em h,yl x:=by have e:=OM h.2.1 h.1 0 17 [] 0 0 h.2.2.1.1 (λx hx=>by cases hx);rw[show nS h.2.1 h.1 0 17 [] 0 0 h.2.2.1.1=kX h.2.1 h.1 0 h.2.2.1.1 from rfl]at e;unfold Em fF;cases dZ h with|false=>show∀x∈(jq h).drop (jq h).length,yl x;rw[gO];intro x hx;cases hx|true=>simp only[ah];generalize kX h.2.1 h.1 0 h.2.2.1.1=x at e⊢;generalize (if(h.2.2.1.2.2.1.length:Int)<au (x.2.2.1+x.2.2.2) then(h.2.2.1.2.2.1.length:Int) else au (x.2.2.1+x.2.2.2))=q;show∀y∈(jq h++x.2.1).drop (jq h).length,yl y;rw[List.drop_left];exact e
theorem amN (h:Host):(jq (fF h)).length=(jq h).length+(Em h).length:=by have:=(My h).1;unfold Em;rw[aJ];omega
theorem ED {a b:Host}(h:xE a=xE b):jq a=jq b:=congrArg (·.2.1) h
theorem alk (h:Host)(a:Act)(ha:a.1≠1):jq (HO h a).1=jq h:=by
 unfold HO;cases hq: !dZ h|| !FN a;case true=>rfl
 simp only[cn,dM]at hq;simp only[af];cases a.1==0 with|true=>show jq (Am h _ _ _).1=jq h;unfold Am;rw[hq.1];rfl|false=> ?_
 rw[show(a.1==1)=false from by simpa using ha];simp only[af];cases a.1==2;case true=>exact ED (M6 ..)
 cases a.1==3;case true=>exact ED (af6 h)
 cases a.1==4;case true=>exact ED (YC h)
 cases a.1==5 with|true=>exact ED (YB ..)|false=>exact congrArg (·.2.1) (af7 hq.1)
theorem amK (hp:hY ps=true)(hj:j<ps.length){v:Int}(hv:hasB (ps.getD j jA).2.1 v=true):0<=v/\v<=4095:=by unfold hY at hp;simp only[ae,aF,bB]at hp;have h1:=hp.2 j hj;unfold Im KH fj at h1;simp only[ae,aF,bB]at h1;obtain⟨i,hi⟩:=gx (PJ.1 hv);obtain⟨gH,e⟩:=aA.1 hi;have h2:=h1.1.1.1 i gH;unfold NO at h2;simp only[ae]at h2;have h3:db ((ps.getD j jA).2.1.getD i 0) 0 4095=true:=h2.1;rw[cu gH,e]at h3;exact aS.1 h3
theorem Nc (h:dq p=true){w:Int}(hw: -1<=w/\w<=4095:=by omega):dq (p.1,p.2.1,w,p.2.2.2)=true:=by unfold dq dv oI at h⊢;simp only[ae]at h⊢;exact⟨⟨⟨h.1.1.1,h.1.1.2.1,aS.2 hw,h.1.1.2.2.2⟩,h.1.2⟩,h.2⟩
theorem ajG {v:Int}(hp:hY ps=true)(hj:j<ps.length)(hv:hasB (ps.getD j jA).2.1 v=true)(k:dq p=true):dq (sN ps (j:Int) v p)=true/\(sN ps (j:Int) v p).2.1=p.2.1:=by
 have b:=amK hp hj hv;have ks:dv p=true:=by unfold dq at k;simp only[ae]at k;exact k.1
 unfold sN;rw[hp,aS.2 (show(0:Int)<=(j:Int)/\(j:Int)<=(ps.length:Int)-1 by omega),aw,hv,ks];simp only[bR,ah];cases v==(ps.getD j jA).2.2.1 with|true=>exact⟨Nc k,rfl⟩|false=>exact⟨Nc k,rfl⟩
theorem afb {e:Nat}(he:e≠0)(hs:(ps.getD e jA).2.2.2=true)(h:¬mN ps (e:Int) p<0):hY ps=true/\(ps.getD e jA).1=p.2.1:=by
 unfold mN at h;cases hg:Xz ps (e:Int) p with
 |false=>rw[hg]at h;simp only[bt,ah]at h;exact absurd (show(-1:Int)<0 by decide) h
 |true=>
  rw[hg]at h;simp only[aj,af,aw]at h;have hp:hY ps=true:=by unfold Xz at hg;simp only[ae]at hg;exact hg.1
  refine⟨hp,?_⟩;cases hm:(ps.getD e jA).1 !=p.2.1 with|false=>simpa using hm|true=>rw[hs,hm,show((e:Int) !=0)=true from bne_iff_ne.2 (by omega)]at h;simp only[bR,hZ,ah]at h;exact absurd (show(-1:Int)<0 by decide) h
theorem T0:∀(ms:ax bE)(s:bW×ax Port),(ms.foldl Ey s).2=s.2++ms.map Jb
 |[],s=>(bD _).symm
 |m::ms,s=>by rw[du,T0 ms];show(s.2++[Jb m])++_=_;rw[aL];rfl
theorem aka {ms:ax bE}(h:(cV ms).2=true){b:bE}(hb:ms[k]?=some b):(cV ms).1.getD (k+1) jA=Jb b:=by rw[(jO h).1];unfold lC;rw[T0,cd,bG,eT,eU,hb];rfl
def aeP (c:cP)(i:Nat):Int:=(c.2.1.getD i HR).2.2.2.2.1+(c.2.1.getD i HR).2.2.2.2.2
structure NQ (bs:List bE) (k d:Nat) (c:cP):Prop where
 acc:∀(i:Nat)(h:Host),c.1[i]?=some h->aeP c i+(if i=k then(d:Int) else 0)=((jq h).length:Int)
 up:∀x∈c.2.2.2.2.2.2,∃p,fy x=(p,0)/\∃b∈bs,b.1.1=p.2.1
theorem NQ.at {bs:ax bE}{m:Nat}(n:NQ bs k 0 c):NQ bs m 0 c:=⟨λi h hi=>by
 have q:=n.acc i h hi;have e:∀P:Prop,∀[Decidable P],(if P then((0:Nat):Int) else 0)=0:=λP _=>by split<;>rfl
 rw[e]at q⊢;exact q,n.up⟩
theorem ajY {bs:ax bE}{v:Int}(n:NQ bs k d c)(g:dq (sN ps (j:Int) v p)=true/\(sN ps (j:Int) v p).2.1=p.2.1)(hs:∃b∈bs,b.1.1=p.2.1):NQ bs k d (cX ps v p c j):=by
 unfold cX;cases j==0 with
 |true=>show NQ bs k d (aeM c (ly (sN ps (j:Int) v p)).1);refine⟨n.acc,λx hx=>?_⟩;have hx:x∈c.2.2.2.2.2.2++[(ly (sN ps (j:Int) v p)).1]:=hx;rcases ay.1 hx with h|h;exact n.up x h;rw[bz.1 h];exact⟨_,Pw g.1,by rw[g.2];exact hs⟩
 |false=>simp only[af];cases hx:c.1[j-1]? with|none=>exact n|some h0=>refine⟨λi h hi=>?_,n.up⟩;have hi:(c.1.set (j-1) (jH h0 (ly (sN ps (j:Int) v p)).1))[i]?=some h:=hi;by_cases e:i=j-1;obtain⟨gH,_⟩:=aA.1 hx;rw[e,cW gH]at hi;rw[<-bN hi,ED (M6 ..)];exact n.acc _ _ (by rw[e];exact hx);rw[aP (by omega)]at hi;exact n.acc i h hi
theorem aec {bs:ax bE}{v:Int}(hs:∃b∈bs,b.1.1=p.2.1):∀(l:fK)(c:cP),NQ bs k d c->(∀j∈l,dq (sN ps (j:Int) v p)=true/\(sN ps (j:Int) v p).2.1=p.2.1)->NQ bs k d (Ml ps v p c l)
 |[],c,n,_=>n
 |j::l,c,n,h=>aec hs l _ (ajY n (h j List.mem_cons_self) hs) λi hi=>h i (dY _ hi)
theorem acw (g:gv n c){bs:ax bE}(hb:bs=c.2.2.1)(hk:k<c.1.length)(h:NQ bs k d c):NQ bs k d (qt c ((k+1:Nat):Int) p):=by unfold qt;cases hq:lK c&&dq p;exact h;simp only[ae]at hq;show NQ bs k d (nJ c ((k+1:Nat):Int) p);unfold nJ;by_cases hv:mN (cV c.2.2.1).1 ((k+1:Nat):Int) p<0;rw[ar hv];exact h;rw[aq hv,af];have hlen:=g.len;have hbk:c.2.2.1[k]?=some (c.2.2.1[k]'(by omega)):=al (by omega);have hat:=aka g.um hbk;have es:=afb (Nat.succ_ne_zero k) (by rw[hat];rfl) hv;refine aec ⟨_,by rw[hb];exact aY hbk,(congrArg (·.1) hat).symm.trans es.2⟩ _ c h λj hj=>?_;have hr:=List.mem_filter.1 hj;have hk2:=hr.2;simp only[ae]at hk2;have Rx:=hk2.1;unfold M4 at Rx;simp only[ae]at Rx;exact ajG es.1 (bB.1 hr.1) Rx.2 hq.2
theorem agx (hn:n<=400000000000)(g:gv n c){bs:ax bE}(hb:bs=c.2.2.1)(hk:k<c.1.length){x:Bytes}(fx:yl x)(h:NQ bs k (d+1) c):NQ bs k d (AM (cV c.2.2.1).1 (k:Int) c x):=by
 have hp:=KM fx;have hlen:=g.len;have h3:=jO g.um;have hkf:k<c.2.1.length:=by omega
 have gs:=PG (by omega) g (k:Int) (fy x).1;unfold AM;have e:NQ bs k d (c.1,(sU c.2.1 (cV c.2.2.1).1 (k:Int) (fy x).1).1,c.2.2):=by
  have hF:=B9.1 ((JN.1 g.fns).2 k hkf).1;rw[cu hkf]at hF;unfold sU;rw[g.fns,hp,aq (show¬(k:Int)<0 by omega),aq (show¬(k:Int)>=(c.2.1.length:Int) by omega)];simp only[bt,bR,ah,aw,al hkf];have go:∀f':aX,f'.2.2.2.2.1+f'.2.2.2.2.2=c.2.1[k].2.2.2.2.1+c.2.1[k].2.2.2.2.2+1->NQ bs k d (c.1,c.2.1.set k f',c.2.2):=by intro f' ef;refine⟨λi y hi=>?_,h.up⟩;have q:=h.acc i y hi;unfold aeP at q⊢;show((c.2.1.set k f').getD i HR).2.2.2.2.1+((c.2.1.set k f').getD i HR).2.2.2.2.2+_=_;rw[Xw hkf];by_cases e:i=k;rw[e,cu hkf,aI rfl]at q;rw[aI e,aI e];push_cast at q;omega;rw[aG e]at q;rw[aG e,aG e];exact q
  cases ajO (cV c.2.2.1).1 c.2.1[k] (fy x).1 with|true=>refine go _ ?_;show au (c.2.1[k].2.2.2.2.1+1)+c.2.1[k].2.2.2.2.2=_;rw[ak];omega|false=>refine go _ ?_;show c.2.1[k].2.2.2.2.1+au (c.2.1[k].2.2.2.2.2+1)=_;rw[ak];omega
 cases (sU c.2.1 (cV c.2.2.1).1 (k:Int) (fy x).1).2.2 with|false=>exact e|true=>rw[ak (n:=(k:Int)+1)];exact acw gs hb hk e
theorem Tv (k:Nat)(bs:ax bE)(ps:ax Port):∀(l:bP){n:Int}{c:cP},n+2565*(l.length:Int)<=400000000000->ps=(cV c.2.2.1).1->bs=c.2.2.1->k<c.1.length->gv n c->(∀x∈l,yl x)->NQ bs k l.length c->NQ bs k 0 (Ev ps (k:Int) c l)
 |[],n,c,_,_,_,_,_,_,h=>h
 |x::l,n,c,hn,hp,hb,hk,g,hf,h=>by simp only[aU]at hn;have h1:=agx (d:=l.length) (by omega) g hb hk (hf x List.mem_cons_self) h;have gs:=PE (by omega) g (k:Int) x;rw[<-hp]at h1 gs;have ks:=I2 ps (k:Int) c x;exact Tv k bs ps l (n:=n+2565) (by push_cast at hn;omega) (by rw[ks.boxes];exact hp) (by rw[ks.boxes];exact hb) (by rw[ks.len];exact hk) gs (λy hy=>hf y (dY _ hy)) h1
theorem aed {bs:ax bE}{h0 y:Host}(hk:c.1[k]?=some h0)(n:NQ bs k 0 c)(e:(jq y).length=(jq h0).length+d):NQ bs k d (QS c k y):=by refine⟨λi h hi=>?_,n.up⟩;have hi:(c.1.set k y)[i]?=some h:=hi;by_cases ik:i=k;obtain⟨gH,_⟩:=aA.1 hk;rw[ik,cW gH]at hi;have q:=n.acc k h0 hk;rw[aI rfl]at q;rw[<-bN hi,aI ik,e,ik];show aeP c k+_=_;push_cast;push_cast at q;omega;rw[aP (by omega)]at hi;have q:=n.acc i h hi;rw[aG ik]at q;rw[aG ik];exact q
theorem apq (hn:n<=300000000000)(g:gv n c)(hk:k<c.1.length)(h:NQ c.2.2.1 0 0 c):NQ c.2.2.1 0 0 (rC c (k:Int)):=by have hc:=al hk;unfold rC;rw[g.ok (by omega),aq (show¬(k:Int)<0 by omega),aq (show¬(k:Int)>=(c.1.length:Int) by omega)];simp only[bt,bR,ah,aw,hc];have q:=Hp g (cR n) hc (Dz (g.at hc)) (EN c.1[k]);have hl:=HC c.1[k];exact(Tv k c.2.2.1 (cV c.2.2.1).1 (Em c.1[k]) (n:=n) (c:=QS c k (fF c.1[k])) (by omega) rfl rfl (by show k<(c.1.set k _).length;rw[aC];exact hk) q (acv _) (aed hc h.at (amN _))).at
theorem abc (hn:n<=10000000000)(hN:1000<=N/\N<=50000000)(g:gv n c)(z:CI N c)(ha:oD (c.1.length:Int) a)(k0:a.1=0)(k4:a.2.2.1.1≠2)(h:NQ c.2.2.1 0 0 c):Ends (pN c a) λr=>NQ c.2.2.1 0 0 r.1/\r.1.2.2.1=c.2.2.1/\r.1.2.1.length=c.2.1.length:=by
 have p:=jO g.um;have hlen:=g.len;have z9:dj 1000000000 wj c:=z.z.mono;have zh:∀h∈c.1,BW 90000000 h:=λh hh=>(z.h h hh).mono;unfold pN;rw[pT c z9,ab,Ch c (z.sz),g.ok (by omega),ab];have ok:oT a (c.2.1.length:Int)=some true:=by unfold oT;simp only[Vt,cm,ab,ha.ok,ah];rw[ak (n:=(c.2.1.length:Int)-1),aS.2 ⟨ha.fn.1,by have:=ha.fn.2;omega⟩,ah,aS.2 ha.kind,ah,aS.2 ha.part];rfl
 simp only[aj,af,ok,ab];obtain⟨k,hk⟩:∃k:Nat,a.2.1=k:=⟨a.2.1.toNat,by have:=ha.fn.1;omega⟩
 have Rv:=ha.fn;rw[hk]at Rv;have Ry:k<c.1.length:=by omega
 have bound:=ha.act.2.1;rw[show(a.1==1)=false from by rw[k0];rfl,show(a.1==2)=false from by rw[k0];rfl,af,af];refine Ends.cond (λk3=>?_) λk3=>?_;rw[P0 c _ (z.mono),ab];have kt:=ad0 c a.2.1;have gt:=adO (by omega) g a.2.1;rw[hk]at kt gt⊢;exact Ends.pure ⟨apq (by omega) g Ry h,kt.boxes,by have e1:=gt.len;rw[kt.boxes,kt.len]at e1;show(rC c (k:Int)).2.1.length=_;omega⟩;have k3:a.2.2.1.1≠1:=by simpa using k3
 rw[show(a.2.2.1.1==2)=false from by simpa using k4,af];refine Ends.cond (λk5=>?_) λk5=>?_;show Ends (bl (kR _ (c.1.length:Int) _) fuel (0,c.1,c.2)) _;rw[T6 _ _ c.1 _ (by omega) zh];rw[M3 c.2.1 1,ab];refine(OL g.clock).bind λr24 p24=>Ends.pure ⟨⟨λi y hi=>?_,h.up⟩,rfl,bH ..⟩;have hi:(c.1.map uq)[i]?=some y:=hi;rw[eU]at hi;obtain⟨y0,e1,e2⟩:=Option.map_eq_some_iff.1 hi;have q:=h.acc i y0 e1;rw[<-e2,ED (YC y0),<-q];have hif:i<c.2.1.length:=by obtain⟨gH,_⟩:=aA.1 e1;omega
 unfold aeP;show((c.2.1.map (Rj 1)).getD i HR).2.2.2.2.1+((c.2.1.map (Rj 1)).getD i HR).2.2.2.2.2+_=_;rw[cu (show i<(c.2.1.map (Rj 1)).length by rw[bH];exact hif),List.getElem_map,cu hif];rfl;rw[hk,br Ry,ab];have zk:=z.h _ (aM Ry);rw[S6 _ _ (zk.mono),ab,ab,ab];have hg:=al Ry;refine Ends.pure ⟨?_,rfl,rfl⟩;rw[aw];exact(aed hg h.at (by rw[alk _ _ k3];rfl)).at
theorem alO {l:bW}{x:Int}(hx:x∈l)(hl:l.length<=1000000):Kt l x=some true:=by
 unfold Kt;rw[FP (hit:=some true) (fin:=some false) (λy=>y==x) l (by omega) (λi hi nx=>?hs) (λnx=>?hf)]
 case hs=>
  simp only[Db]
  rw[jI,br hi,ak]
  simp only[ah,ab]
  rfl
 case hf=>
  simp only[Db]
  rw[cC];rfl
 rw[show(l.any λy=>y==x)=true from List.any_eq_true.2 ⟨x,hx,by simp⟩];rfl
theorem KC (a:bW)(ha:ahE (.sl (.int .u8)) a):ux a=some true:=by
 refine Ends.true ?_;unfold ux;refine an1 rfl λhl=>?_;rw[af];refine(ae4 hl).bind λr2 p2=>?_;obtain⟨c0,l⟩:=r2;simp only at p2⊢;obtain⟨d,hn,avk⟩:=p2;have h3:=(jO d.um).2.2.2.2.2;have RT:=d.len;refine Ends.wC (λx=>0<=x.2/\x.2<=(l.length:Int)/\(x.1.length:Int)<=x.2/\∀y∈x.1,oD (c0.1.length:Int) y/\y.1=0/\y.2.2.1.1≠2) (λx=>((l.length:Int)-x.2).toNat) ⟨by simp,by simp,by simp,by simp⟩ (by simp;omega) λx nx hx BL=>?_;obtain⟨q,i⟩:=x;obtain⟨x1,x2,x3,x4⟩:=hx;simp only at x1 x2 x3 x4;obtain⟨i,rfl⟩:∃k:Nat,i=k:=⟨i.toNat,by omega⟩
 unfold qi;refine Ends.cond (λk=>?_) λk=>?_;have k:=bu k;simp only at k⊢;have hi:i<l.length:=by omega
 have e:au ((i:Int)+1)=(i:Int)+1:=ak;rw[br hi,e];simp only[ab];have dec:((l.length:Int)-((i:Int)+1)).toNat<((l.length:Int)-(i:Int)).toNat:=by omega
 refine Ends.bind (P:=λb=>b=true->l[i].1=0/\l[i].2.2.1.1≠2) ?_ λown iz=>?_;exact Ends.cond (λk1=>Ends.pure λk2=>⟨by simpa using k1,by simpa using k2⟩) λ_=>Ends.pure (by simp);refine Ends.cond (λk1=>?_) λ_=>?_;refine Ends.room (by simp;omega) (BL _ ⟨by show 0<=(i:Int)+1;omega,by show(i:Int)+1<=_;omega,by show((q++[_]).length:Int)<=(i:Int)+1;simp;omega,?_⟩ dec);intro y hy;have hy:y∈q++[l[i]]:=hy;rcases ay.1 hy with h|h;exact x4 y h;rw[bz.1 h];exact⟨avk _ (aM hi),iz k1⟩;exact BL _ ⟨by show 0<=(i:Int)+1;omega,by show(i:Int)+1<=_;omega,by show(q.length:Int)<=(i:Int)+1;omega,x4⟩ dec;clear BL;have fresh:NQ c0.2.2.1 0 0 c0:=by obtain⟨bk,_,hf⟩:=d.fns;refine⟨λj h hj=>?_,λx hx=>?_⟩;obtain⟨gH,_⟩:=aA.1 hj;have fr:=(d.host j h _ hj (al (by omega))).1;have ew:jq h=[]:=fr.xE.2.1;unfold aeP;rw[hf,E2 bk,ew];simp;rw[show c0.2.2.2.2.2.2=[] from congrArg (·.2) d.rest]at hx;cases hx
 refine(acR d (l:=q) (by omega) (λy hy=>(x4 y hy).1) (λ_ c=>NQ c0.2.2.1 0 0 c/\c.2.2.1=c0.2.2.1/\c.2.1.length=c0.2.1.length) ⟨fresh,rfl,rfl⟩ λi c r hi p rd dn e=>?_).bind λr9 p9=>?_;obtain⟨n0,e1,e2⟩:=p;have h4:=x4 _ (aM hi);obtain⟨z,ez,pz⟩:=abc (n:=4+14000000*(i:Int)) (N:=2000+645000*i) (by omega) ⟨by omega,by omega⟩ rd.PA rd.sz (by rw[rd.len];exact h4.1) h4.2.1 h4.2.2 (by rw[e1];exact n0);have ezr:z=r:=bN (ez.symm.trans e);subst ezr;exact⟨by rw[<-e1];exact pz.1,pz.2.1.trans e1,pz.2.2.trans e2⟩;obtain⟨run,⟨nf,eb,ef⟩,_⟩:=p9;obtain⟨c,ns⟩:=r9;simp only at run nf eb ef⊢;have hcl:=run.len;have hgl:=run.PA.len;have zu:=run.sz.z.2.2.2.2.2.2;refine Ends.wC (λx=>0<=x.2/\x.2<=(c0.2.2.1.length:Int)/\x.1=(c0.2.2.1.take x.2.toNat).map (·.1.1)) (λx=>((c0.2.2.1.length:Int)-x.2).toNat) ⟨by simp,by simp,by simp⟩ (by simp;omega) λx nx hx BL=>?_;obtain⟨v,i⟩:=x;obtain⟨x1,x2,x3⟩:=hx;simp only at x1 x2 x3;obtain⟨i,rfl⟩:∃k:Nat,i=k:=⟨i.toNat,by omega⟩
 rw[aw]at x3;unfold oY;refine Ends.cond (λk=>?_) λk=>?_;have k:=bu k;simp only at k⊢;have hi:i<c0.2.2.1.length:=by omega
 rw[br hi,ab,ak (n:=(i:Int)+1)];have hv:v.length<=i:=by rw[x3,bH,aV];omega
 refine Ends.room (by simp;omega) (BL _ ⟨by show 0<=(i:Int)+1;omega,by show(i:Int)+1<=_;omega,?_⟩ (by show((c0.2.2.1.length:Int)-((i:Int)+1)).toNat<((c0.2.2.1.length:Int)-(i:Int)).toNat;omega));show v++[_]=(c0.2.2.1.take ((i:Int)+1).toNat).map (·.1.1);rw[show((i:Int)+1).toNat=i+1 by omega,bc hi,dF,x3];rfl;have k:=dN k;simp only at k⊢;have ei:i=c0.2.2.1.length:=by omega
 rw[ei,cE]at x3;clear BL;refine Ends.wC (λy=>0<=y/\y<=(c.2.2.2.2.2.2.length:Int)) (λy=>((c.2.2.2.2.2.2.length:Int)-y).toNat) ⟨by simp,by simp⟩ (by have:=zu.1;simp;omega) λy ny hy hm=>?_;unfold oZ;refine Ends.cond (λk1=>?_) λ_=>?_;have k1:=bu k1;obtain⟨j,rfl⟩:∃k:Nat,y=k:=⟨y.toNat,by omega⟩
 have hj:j<c.2.2.2.2.2.2.length:=by omega
 have hjm:=aM hj;have hzl:=zu.1;obtain⟨p,ep,b,hb,eb2⟩:=nf.up _ hjm;rw[br hj,ab,ahd _ (bp (zu.2 _ hjm) (by omega)),ep,ab,ak (n:=(j:Int)+1)];simp only[show((0:Int) !=0)=false from rfl,af];rw[alO (show p.2.1∈v by rw[x3];exact eG.2 ⟨b,hb,eb2⟩) (by rw[x3,bH];omega)];simp only[ab,aj,af];exact hm _ ⟨by omega,by omega⟩ (by omega);have lim:∀(j:Nat)(h:Host),c.1[j]?=some h->(jq h).length<=50000000:=λj h hj=>bp (run.sz.h h (aY hj)).z.2.2.2.2.2.2.2.2.2.2.2.1.1 (by omega);refine Ends.wC (λy=>0<=y.2.2/\y.2.2<=(c.1.length:Int)/\y.1=y.2.1/\0<=y.1/\y.1<=50000000*y.2.2) (λy=>((c.1.length:Int)-y.2.2).toNat) ⟨by simp,by simp,rfl,by simp,by simp⟩ (by simp;omega) λy ny hy hm=>?_;obtain⟨s,w,j⟩:=y;obtain⟨y1,y2,y3,y4,y5⟩:=hy;simp only at y1 y2 y3 y4 y5;subst y3;obtain⟨j,rfl⟩:∃k:Nat,j=k:=⟨j.toNat,by omega⟩
 unfold pa;have el:c.2.1.length=c.1.length:=by omega
 simp only[el];by_cases hj:j<c.1.length;rw[ar (show(j:Int)<(c.1.length:Int) by omega)];simp only[ah,ab];have hj2:j<c.2.1.length:=by omega
 have q1:=nf.acc j _ (al hj);have q2:=lim j _ (al hj);have q3:=B9.1 ((JN.1 run.PA.fns).2 j hj2).1;have e0:∀P:Prop,∀[Decidable P],(if P then((0:Nat):Int) else 0)=0:=λP _=>by split<;>rfl
 rw[e0]at q1;unfold aeP at q1;rw[cu hj2]at q1 q3;rw[br hj2,br hj];simp only[ab];have w1:au (au (s+c.2.1[j].2.2.2.2.1)+c.2.1[j].2.2.2.2.2)=s+((jq c.1[j]).length:Int):=by rw[ak (n:=s+c.2.1[j].2.2.2.2.1),ak];omega
 have w2:au (s+((c.1[j].2.2.2.2.2.2.2.2.2.2.2.1).length:Int))=s+((jq c.1[j]).length:Int):=ak (by show _<=s+((jq c.1[j]).length:Int);omega) (by show s+((jq c.1[j]).length:Int)<=_;omega);rw[w1,w2,ak (n:=(j:Int)+1)];exact hm _ ⟨by show 0<=(j:Int)+1;omega,by show(j:Int)+1<=_;omega,rfl,by show 0<=s+_;omega,by show s+_<=50000000*((j:Int)+1);omega⟩ (by show((c.1.length:Int)-((j:Int)+1)).toNat<((c.1.length:Int)-(j:Int)).toNat;omega);rw[aq (show¬(j:Int)<(c.1.length:Int) by omega)];simp only[af,ab,fS,ah,hcl,ef];exact Ends.pure (bg.2 (by omega))
end
end Go.Pu
