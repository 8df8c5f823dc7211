import Derived.Test.YtbebkmajekhclaaGreatPuX3
namespace Go.Pu
open Go.Dn
set_option linter.unusedSimpArgs false
set_option linter.unusedVariables false
noncomputable section
variable {c:de} {a:dZ} {h:Host} {f:Host->Host} {n:Int} {R α:Type} {l:aw aE}
/- What an act does to a card (the program's DoCard). -/
def mf (a b:de):Prop:=∀(i:Nat)(h:Host),b.1[i]?=some h->∃h0,a.1[i]?=some h0/\lj h0 h
theorem mf.refl (a:de):mf a a:=λi h e=>⟨h,e,lj.refl h⟩
theorem mf.trans {a b:de}(h:mf a b)(g:mf b c):mf a c:=by intro i x e;obtain⟨y,e1,s1⟩:=g i x e;obtain⟨w,e2,s2⟩:=h i y e1;exact⟨w,e2,s2.trans s1⟩
theorem Hh {k:Nat}{h0:Host}(hk:c.1[k]?=some h0)(s:lj h0 h):mf c (Vl c k h):=by intro i x e;have e:(c.1.set k h)[i]?=some x:=e;by_cases hik:i=k;subst hik;obtain⟨gF,_⟩:=aC.1 hk;rw[dA gF]at e;rw[<-cc e];exact⟨h0,hk,s⟩;rw[aP (cR hik)]at e;exact⟨x,e,lj.refl x⟩
theorem Ze (hf:∀h,lj h (f h)){X:aw aR×aw bJ×bN×lB×bP×bN}:mf c (c.1.map f,X):=by intro i x e;have e:(c.1.map f)[i]?=some x:=e;rw[List.getElem?_map]at e;cases hc:c.1[i]? with|none=>rw[hc]at e;cases e|some h0=>rw[hc]at e;rw[<-cc e];exact⟨h0,rfl,hf h0⟩
theorem acJ (ps:aw Port)(v:Int)(p:aJ)(c:de)(j:Nat):mf c (cW ps v p c j):=by unfold cW;cases j==0 with|true=>exact λi h e=>⟨h,e,lj.refl h⟩|false=>simp only[af];cases hc:c.1[j-1]? with|none=>exact mf.refl c|some h=>exact Hh hc (Kv ..)
theorem Td (ps:aw Port)(v:Int)(p:aJ):∀(l:fE)(c:de),mf c (Nr ps v p c l)
 |[],c=>mf.refl c
 |j::l,c=>(acJ ps v p c j).trans (Td ps v p l _)
theorem HV (c:de)(e:Int)(p:aJ):mf c (qy c e p):=by unfold qy;cases decide (po (du c.2.2.1).1 e p<0)with|true=>exact mf.refl c|false=>exact Td _ _ _ _ _
theorem Vt (c:de)(e:Int)(p:aJ):mf c (tC c e p):=by unfold tC;cases lE c&&eJ p with|true=>exact HV _ _ _|false=>exact mf.refl c
theorem acI (ps:aw Port)(k:Int)(c:de)(x:Bytes):mf c (CY ps k c x):=by
 unfold CY;have e:mf c (c.1,(vV c.2.1 ps k (gv x).1).1,c.2.2):=λi h e=>⟨h,e,lj.refl h⟩
 cases (vV c.2.1 ps k (gv x).1).2.2 with|true=>exact e.trans (Vt _ _ _)|false=>exact e
theorem Ql (ps:aw Port)(k:Int):∀(l:bN)(c:de),mf c (Fe ps k c l)
 |[],c=>mf.refl c
 |x::l,c=>(acI ps k c x).trans (Ql ps k l _)
theorem al8 (c:de)(k:Int):mf c (we c k):=by unfold we;cases lE c&&(!decide (k<0)&& !decide (k>=(c.1.length:Int)));exact mf.refl c;simp only[ah];cases hc:c.1[k.toNat]? with|none=>exact mf.refl c|some h=>exact(Hh hc (HW h)).trans (Ql _ _ _ _)
theorem Ro (c:de)(x:Bytes):mf c (sk c x):=by
 unfold sk;cases !lE c;case true=>exact mf.refl c
 cases (gv x).2==0 with|true=>exact(show mf c (EK c) from λi h e=>⟨h,e,lj.refl h⟩).trans (HV _ _ _)|false=>exact λi h e=>⟨h,e,lj.refl h⟩
theorem ZO {k:lB}(h:rH k=true):Ends (qX k 1) λr=>rH r=true/\k.1<=r.1:=by
 have hi:=h;unfold rH at hi;simp only[ae,aX]at hi;unfold qX;rw[K7,ab,h,cl];simp only[aj,af,ab];have same:rH k=true/\k.1<=k.1:=⟨h,cX _⟩
 refine Ends.cond (λ_=>Ends.pure same) λ_=>Ends.ifn (by decide) ?_;unfold Lg;rw[ab];refine Ends.ifn (by decide) ?_;rw[K7,ab];refine Ends.cond (λ_=>Ends.pure same) λk2=>Ends.pure ⟨by simpa using k2,?_⟩;rw[al (n:=k.2.2.1*1),al (n:=k.2.1+k.2.2.1*1)];have q0:0<=Int.tdiv (k.2.1+k.2.2.1*1) 1048576:=Int.tdiv_nonneg (by omega) (by omega);have q1:Int.tdiv (k.2.1+k.2.2.1*1) 1048576<=k.2.1+k.2.2.1*1:=by rw[Int.tdiv_eq_ediv_of_nonneg (by omega)];omega
 rw[al (n:=Int.tdiv (k.2.1+k.2.2.1*1) 1048576)];generalize Int.tdiv (k.2.1+k.2.2.1*1) 1048576=q at q0 q1;show k.1<=ar (k.1+ar (q-if k.2.2.2<q then k.2.2.2 else q));split;rw[al (n:=q-k.2.2.2),al];omega;rw[al (n:=q-q),al];omega
theorem abb (g:gD n c):gD n (c.1,c.2.1.map (aeh 1),c.2.2):=by refine WZ g (cX n) (bL ..) (λi hi=>?_) λf hf=>?_;have q:=((Un.1 g.fns).2 i hi).1;rw[cH hi]at q⊢;rw[cH (by rw[bL];exact hi),List.getElem_map];have w:=FJ.1 q;exact⟨rfl,rfl,FJ.2 ⟨w.1,w.2.1,QS w.2.2.1 1,w.2.2.2.1,w.2.2.2.2⟩⟩;obtain⟨x,hx,rfl⟩:=eF.1 hf;exact g.fnn x hx
theorem acn (K:Int->de->ay R)(b:de)(hs:aw Host)(X:aw aR×aw bJ×bN×lB×bP×bN)(hl:hs.length<=1000)(z:∀h∈hs,BB 90000000 h):bc (qd K (hs.length:Int) b) fuel (0,hs,X)=K (hs.length:Int) (hs.map tQ,X):=by refine dC (λi=>((i:Int),F8 tQ hs i,X)) hs.length (by omega) (λi nx hi=>?_) (λnx=>?_);simp only[qd];have zh:=z _ (aI hi);rw[iU,Ln _ hi,al];simp only[ah,ab,HG _ (zh.sz) (zh.z.mono),ax];rw[<-Lo _ hi];rfl;simp only[qd];rw[cz,af,Lm]
theorem agT (K:Int->de->ay R)(b:de)(hs:aw Host)(X:aw aR×aw bJ×bN×lB×bP×bN)(hl:hs.length<=1000)(z:∀h∈hs,BB 90000000 h):bc (mz K (hs.length:Int) b) fuel (0,hs,X)=K (hs.length:Int) (hs.map xB,X):=by refine dC (λi=>((i:Int),F8 xB hs i,X)) hs.length (by omega) (λi nx hi=>?_) (λnx=>?_);simp only[mz];have zh:=z _ (aI hi);rw[iU,Ln _ hi,al];simp only[ah,ab,XF _ (zh.sz) (zh.z.mono),ax];rw[<-Lo _ hi];rfl;simp only[mz];rw[cz,af,Lm]
structure amm (n:Int) (N:Nat) (c:de) (a:dZ) (r:de×Int):Prop where
 K0:gD (n+14000000) r.1
 sz:Cr (N+645000) r.1
 len:r.1.1.length=c.1.length
 upd:a.1=2->r.2=I6 r.1.2.2.2.1/\I6 c.2.2.2.1<=I6 r.1.2.2.2.1
 flash:a.1≠2->r.1.2.2.2.1=c.2.2.2.1
 stamps:r.1.2.2.2.2.2.1=c.2.2.2.2.2.1++(if a.1=0/\a.2.2.1.1=2 then [c.2.2.2.2.1.1] else [])
 clock:c.2.2.2.2.1.1<=r.1.2.2.2.2.1.1
 stay:mf c r.1
 alone:(a.1=1\/a.1=0/\(a.2.2.1.1=0\/a.2.2.1.1=3\/a.2.2.1.1=5\/a.2.2.1.1=6))->∀i:Nat,(i:Int)≠a.2.1->r.1.1[i]?=c.1[i]?
theorem ac4 {N M:Nat}(hN:N<=M)(z:Cr N c)(hf:∀h∈c.1,BB M (f h)):Cr M (c.1.map f,c.2):=by have z':=z.mono hN;refine⟨⟨⟨by show(c.1.map f).length<=M;rw[bL];exact z'.z.1.1,λx hx=>?_⟩,z'.z.2⟩,λx hx=>?_⟩;obtain⟨h,hh,rfl⟩:=eF.1 hx;exact(hf h hh).z;obtain⟨h,hh,rfl⟩:=eF.1 hx;exact hf h hh
theorem aeH {N:Nat}(hn:n<=10000000000)(hN:1000<=N/\N<=50000000)(g:gD n c)(z:Cr N c)(ha:qU (c.1.length:Int) a):Ends (zC c a) (amm n N c a):=by
 have p:=lx g.vS;have hlen:=g.len;have z9:dh 1000000000 xG c:=z.z.mono;have gh:∀h∈c.1,Good n h:=by intro h hh;obtain⟨i,hi⟩:=gb hh;exact g.at hi
 have zh:∀h∈c.1,BB 90000000 h:=λh hh=>(z.h h hh).mono;unfold zC;rw[wu c z9,ab,DL c (z.sz),g.ok (by omega),ab];have ok:wT a (c.2.1.length:Int)=some true:=by unfold wT;simp only[ads,cl,ab,ha.ok,ah];rw[al (n:=(c.2.1.length:Int)-1),aX.2 ⟨ha.fn.1,by have:=ha.fn.2;omega⟩,ah,aX.2 ha.kind,ah,aX.2 ha.part];rfl
 simp only[aj,af,ok,ab];obtain⟨k,hk⟩:∃k:Nat,a.2.1=k:=⟨a.2.1.toNat,by have:=ha.fn.1;omega⟩
 have R9:=ha.fn;rw[hk]at R9;have Xa:k<c.1.length:=by omega
 have VM:k<c.2.2.1.length:=by omega
 have base:c.2.2.2.2.2.1=c.2.2.2.2.2.1++[]:=(bI _).symm;refine Ends.cond (λk1=>?_) λk1=>?_;have k1:a.1=1:=by simpa using k1
 rw[Nj c _ _ (z.z.mono) (z.sz),ab,hk];have hb:=ak VM;have nst:¬(a.1=0/\a.2.2.1.1=2):=by omega
 by_cases e1:a.2.2.2.1.1=c.2.2.1[k].2.1+1;obtain⟨h,b',eh,e2,_,_,e5,e6⟩:=Wb g (by omega) hb (m:=a.2.2.2.1) e1;have pb:=lx e5;have hml:b'.1.2.2.length<=8:=BX (pb.2.2.2.1 b' (aW (dA VM)));rw[e2];refine Ends.pure ⟨e6.mono,(apk (by omega) z eh hml).mono,aB ..,λe=>by omega,λ_=>rfl,by rw[aG nst];exact base,cX _,?_,λ_ i hi=>?_⟩;exact Hh eh ⟨rfl,rfl⟩;show(c.1.set k _)[i]?=c.1[i]?;rw[aP (by rw[hk]at hi;omega)];have e2:∃x,pn c.2.2.1 k a.2.2.2.1=(c.2.2.1,x):=by by_cases e3:a.2.2.2.1.1=c.2.2.1[k].2.1;exact⟨_,Z4 g.vS hb e3⟩;exact⟨_,V4 g.vS hb e3 e1⟩
 obtain⟨x,e2⟩:=e2;rw[Wc g (by omega) hb e2];exact Ends.pure ⟨g.mono,z.mono,rfl,λe=>by omega,λ_=>rfl,by rw[aG nst];exact base,cX _,mf.refl c,λ_ i hi=>rfl⟩;have k1:a.1≠1:=by simpa using k1
 refine Ends.cond (λk2=>?_) λk2=>?_;have k2:a.1=2:=by simpa using k2
 have hf:=N7 g.Nb;have nst:¬(a.1=0/\a.2.2.1.1=2):=by omega
 refine(aj5 (f:=c.2.2.2.1) (s:=a.2.2.2.2.1) (by have:=ha.img;omega)).bind λr6 p6=>(agU hf p6.1 p6.2 a.2.2.2.2.2 (by have:=ha.part;omega)).bind λf' p7=>?_;have b:=abH g.Nb p7;rw[acn _ _ c.1 _ (by omega) zh,ae8 (show kJ f'=true from p7.1),ab];have gm:=R5 g (show n<=n+640 by omega) (f:=tQ) (λh q=>OQ (by omega) q) R0;have zm:=ac4 (M:=N+645000) (by omega) z (f:=tQ) λh hh=>(LM (by omega) (z.h h hh) (aaW ((gh h hh).ok (by omega)))).1;obtain⟨fe,f0,f1⟩:=xO p7.1;have fz:dh (N+645000) (.sl .str) f':=by rw[fe];refine⟨by show 2<=N+645000;omega,λx hx=>?_⟩;rcases bM.1 hx with e|hx;rw[e];show(f'.getD 0 []).length<=_;omega;rw[bF.1 hx];show(f'.getD 1 []).length<=_;omega
 refine Ends.pure ⟨?_,⟨⟨zm.z.1,zm.z.2.1,zm.z.2.2.1,fz,zm.z.2.2.2.2⟩,zm.h⟩,bL ..,λ_=>⟨rfl,b.2.1⟩,λe=>absurd k2 e,by rw[aG nst];exact base,cX _,Ze Qk,λe=>by omega⟩;have q:=gm.mono (show n+640<=n+14000000 by omega);exact⟨q.vS,q.len,q.fns,b.1,q.clock,q.host,q.place,q.QR,q.fnn⟩;have k2:a.1≠2:=by simpa using k2
 have k0:a.1=0:=by have:=ha.kind;omega
 have ac:=ha.act;have bound:=ac.2.1;refine Ends.cond (λk3=>?_) λk3=>?_;have k3:a.2.2.1.1=1:=by simpa using k3
 have nst:¬(a.1=0/\a.2.2.1.1=2):=by omega
 rw[abk c _ (z.mono),ab];have kt:=alK c a.2.1;have zt:=(aaa hN.1 a.2.1 z).1;exact Ends.pure ⟨alf (by omega) g _,zt.mono,kt.len,λe=>absurd e k2,λ_=>kt.flash,by rw[aG nst,bI];exact kt.stamps,by rw[kt.clock];exact cX _,al8 _ _,λe=>by omega⟩;have k3:a.2.2.1.1≠1:=by simpa using k3
 refine Ends.cond (λk4=>?_) λk4=>?_;have k4:a.2.2.1.1=2:=by simpa using k4
 have yst:a.1=0/\a.2.2.1.1=2:=⟨k0,k4⟩
 rw[Nk c _ (z.mono) (by omega),ab];have zr:=YD hN.1 a.2.2.1.2.2.2.2.1 z;have kr:qV (EK c) (sk c a.2.2.1.2.2.2.2.1):=by unfold sk;rw[g.ok (by omega)];simp only[aj,af];cases (gv a.2.2.1.2.2.2.2.1).2==0 with|true=>exact HJ ..|false=>exact qV.refl _
 exact Ends.pure ⟨(QW (by omega) g _).mono,zr.1.mono,zr.2,λe=>absurd e k2,λ_=>kr.flash,by rw[aH yst];exact kr.stamps,by rw[kr.clock];exact cX _,Ro _ _,λe=>by omega⟩;have k4:a.2.2.1.1≠2:=by simpa using k4
 have nst:¬(a.1=0/\a.2.2.1.1=2):=by omega
 refine Ends.cond (λk5=>?_) λk5=>?_;have k5:a.2.2.1.1=4:=by simpa using k5
 show Ends (bc (mz _ (c.1.length:Int) _) fuel (0,c.1,c.2)) _;rw[agT _ _ c.1 _ (by omega) zh];rw[XG c.2.1 1 (by omega),ab];refine(ZO g.clock).bind λr24 p24=>Ends.pure ?_;have gm:=R5 (abb g) (show n<=n by omega) (f:=xB) (λh q=>R7 q) WM;have zm:=ac4 (M:=N+645000) (by omega) z (f:=xB) λh hh=>(Zp hN.1 (z.h h hh)).mono;have q:=gm.mono (show n<=n+14000000 by omega);refine⟨⟨q.vS,q.len,q.fns,q.Nb,p24.1,q.host,q.place,q.QR,q.fnn⟩,⟨⟨zm.z.1,⟨?_,λ_ _=>⟨cy,cy,⟨cy,cy,cy⟩,cy,cy,cy⟩⟩,zm.z.2.2.1,zm.z.2.2.2.1,⟨cy,cy,cy,cy⟩,zm.z.2.2.2.2.2⟩,zm.h⟩,bL ..,λe=>absurd e k2,λ_=>rfl,by rw[aG nst];exact base,p24.2,Ze Te,λe=>by omega⟩;show(c.2.1.map (aeh 1)).length<=_;rw[bL];exact zm.z.2.1.1;rw[hk,bj Xa,ab];have zk:=z.h _ (aI Xa);rw[afa _ _ (zk.mono) (by omega),ab,ab,ab];have hg:=ak Xa;have vB:=(ahe hN.1 a.2.2.1 zk (aaW ((g.at hg).ok (by omega)))).1;refine Ends.pure ⟨(K1 g (show n<=n+641 by omega) hg (aio (by omega) (g.at hg) a.2.2.1) (alc ..)).mono,Kk (z.mono) vB,aB ..,λe=>absurd e k2,λ_=>rfl,by rw[aG nst];exact base,cX _,Hh hg (aj2 ..),λ_ i hi=>?_⟩;show(c.1.set ((k:Int).toNat) _)[i]?=c.1[i]?;rw[ax,aP (by rw[hk]at hi;omega)]
theorem anI {a:bP}{k:Bool->ay Bool}(ht:k true=some true)(hk:a.length<=1048576->Ends (k false) (λb=>b=true)):Ends (aa (JZ a) k) (λb=>b=true):=by unfold JZ;rw[ab];by_cases h:((a.length:Int))>1048576;rw[au h,ht];exact Ends.pure rfl;rw[aq h];exact hk (by omega)
theorem Ends.true {o:ay Bool}(h:Ends o (λb=>b=true)):o=some true:=by obtain⟨x,h1,rfl⟩:=h;exact h1
structure VS (c0:de) (k:Nat) (c:de):Prop where
 K0:gD (4+14000000*(k:Int)) c
 sz:Cr (2000+645000*k) c
 len:c.1.length=c0.1.length
 stay:mf c0 c
theorem VS.start (d:IZ c):VS c 0 c:=⟨d.K0.mono,(ahr d).mono,rfl,mf.refl c⟩
theorem VS.step {c0:de}{k:Nat}(q:VS c0 k c)(hk:k<=40)(ha:qU (c0.1.length:Int) a):Ends (zC c a) λr=>amm (4+14000000*(k:Int)) (2000+645000*k) c a r/\VS c0 (k+1) r.1:=by refine(aeH (by omega) ⟨by omega,by omega⟩ q.K0 q.sz (by rw[q.len];exact ha)).mono λr h=>⟨h,⟨h.K0.mono (by push_cast;omega),h.sz.mono,h.len.trans q.len,q.stay.trans h.stay⟩⟩
def apc (x1 x2:cp):Bool:=(x1.1.1==x2.1.1)&&((x1.1.2.1==x2.1.2.1)&&((x1.1.2.2.1==x2.1.2.2.1)&&((x1.1.2.2.2==x2.1.2.2.2)&&((x1.2.1.1==x2.2.1.1)&&((x1.2.1.2.1==x2.2.1.2.1)&&((x1.2.1.2.2==x2.2.1.2.2)&&((x1.2.2.1.1==x2.2.2.1.1)&&((x1.2.2.1.2.1==x2.2.2.1.2.1)&&((x1.2.2.1.2.2==x2.2.2.1.2.2)&&((x1.2.2.2.1.1.1==x2.2.2.2.1.1.1)&&((x1.2.2.2.1.1.2.1==x2.2.2.2.1.1.2.1)&&((x1.2.2.2.1.1.2.2.1==x2.2.2.2.1.1.2.2.1)&&((x1.2.2.2.1.1.2.2.2.1==x2.2.2.2.1.1.2.2.2.1)&&((x1.2.2.2.1.1.2.2.2.2.1==x2.2.2.2.1.1.2.2.2.2.1)&&((x1.2.2.2.1.1.2.2.2.2.2.1==x2.2.2.2.1.1.2.2.2.2.2.1)&&((x1.2.2.2.1.1.2.2.2.2.2.2.1==x2.2.2.2.1.1.2.2.2.2.2.2.1)&&((x1.2.2.2.1.1.2.2.2.2.2.2.2.1==x2.2.2.2.1.1.2.2.2.2.2.2.2.1)&&((x1.2.2.2.1.1.2.2.2.2.2.2.2.2.1==x2.2.2.2.1.1.2.2.2.2.2.2.2.2.1)&&((x1.2.2.2.1.1.2.2.2.2.2.2.2.2.2.1==x2.2.2.2.1.1.2.2.2.2.2.2.2.2.2.1)&&((x1.2.2.2.1.1.2.2.2.2.2.2.2.2.2.2.1==x2.2.2.2.1.1.2.2.2.2.2.2.2.2.2.2.1)&&((x1.2.2.2.1.1.2.2.2.2.2.2.2.2.2.2.2.1==x2.2.2.2.1.1.2.2.2.2.2.2.2.2.2.2.2.1)&&((x1.2.2.2.1.1.2.2.2.2.2.2.2.2.2.2.2.2.1==x2.2.2.2.1.1.2.2.2.2.2.2.2.2.2.2.2.2.1)&&((x1.2.2.2.1.1.2.2.2.2.2.2.2.2.2.2.2.2.2.1==x2.2.2.2.1.1.2.2.2.2.2.2.2.2.2.2.2.2.2.1)&&((x1.2.2.2.1.1.2.2.2.2.2.2.2.2.2.2.2.2.2.2.1==x2.2.2.2.1.1.2.2.2.2.2.2.2.2.2.2.2.2.2.2.1)&&((x1.2.2.2.1.1.2.2.2.2.2.2.2.2.2.2.2.2.2.2.2==x2.2.2.2.1.1.2.2.2.2.2.2.2.2.2.2.2.2.2.2.2)&&((x1.2.2.2.1.2.1==x2.2.2.2.1.2.1)&&((x1.2.2.2.1.2.2==x2.2.2.2.1.2.2)&&((x1.2.2.2.2.1==x2.2.2.2.2.1)&&((x1.2.2.2.2.2==x2.2.2.2.2.2)&&true)))))))))))))))))))))))))))))
theorem ajH (x y:cp):apc x y=true↔x=y:=by obtain⟨⟨a1,a2,a3,a4⟩,⟨a5,a6,a7⟩,⟨a8,a9,a10⟩,⟨⟨b1,b2,b3,b4,b5,b6,b7,b8,b9,b10,Bn,b12,b13,b14,b15,b16⟩,b17,b18⟩,a11,a12⟩:=x;obtain⟨⟨c1,c2,c3,c4⟩,⟨c5,c6,c7⟩,⟨c8,c9,c10⟩,⟨⟨d1,d2,d3,d4,d5,d6,d7,d8,d9,d10,d11,d12,d13,d14,d15,d16⟩,d17,d18⟩,c11,c12⟩:=y;simp only[apc,dy,ae,aZ,Prod.mk.injEq,and_assoc]
def akI (x1 x2:Vector):Bool:=(x1.1==x2.1)&&((x1.2.1==x2.2.1)&&((x1.2.2.1==x2.2.2.1)&&((x1.2.2.2.1==x2.2.2.2.1)&&((x1.2.2.2.2.1==x2.2.2.2.2.1)&&((x1.2.2.2.2.2==x2.2.2.2.2.2)&&true)))))
theorem agV (x y:Vector):akI x y=true↔x=y:=by obtain⟨a1,a2,a3,a4,a5,a6⟩:=x;obtain⟨c1,c2,c3,c4,c5,c6⟩:=y;simp only[akI,dy,ae,aZ,Prod.mk.injEq,and_assoc]
def acp (x1 x2:mi):Bool:=(x1.1==x2.1)&&((x1.2.1==x2.2.1)&&((x1.2.2.1==x2.2.2.1)&&((x1.2.2.2.1==x2.2.2.2.1)&&((x1.2.2.2.2.1==x2.2.2.2.2.1)&&((x1.2.2.2.2.2.1==x2.2.2.2.2.2.1)&&((x1.2.2.2.2.2.2.1==x2.2.2.2.2.2.2.1)&&((x1.2.2.2.2.2.2.2.1==x2.2.2.2.2.2.2.2.1)&&((x1.2.2.2.2.2.2.2.2==x2.2.2.2.2.2.2.2.2)&&true))))))))
theorem acq (x y:mi):acp x y=true↔x=y:=by obtain⟨a1,a2,a3,a4,a5,a6,a7,a8,a9⟩:=x;obtain⟨c1,c2,c3,c4,c5,c6,c7,c8,c9⟩:=y;simp only[acp,dy,ae,aZ,Prod.mk.injEq,and_assoc]
def acy (x1 x2:Slot):Bool:=(x1.1==x2.1)&&((x1.2.1.1==x2.2.1.1)&&((x1.2.1.2.1==x2.2.1.2.1)&&((x1.2.1.2.2.1==x2.2.1.2.2.1)&&((x1.2.1.2.2.2.1==x2.2.1.2.2.2.1)&&((x1.2.1.2.2.2.2==x2.2.1.2.2.2.2)&&((x1.2.2==x2.2.2)&&true))))))
theorem acz (x y:Slot):acy x y=true↔x=y:=by obtain⟨a1,⟨a2,a3,a4,a5,a6⟩,a7⟩:=x;obtain⟨c1,⟨c2,c3,c4,c5,c6⟩,c7⟩:=y;simp only[acy,dy,ae,aZ,Prod.mk.injEq,and_assoc]
def Qs (x1 x2:Stream):Bool:=(x1.1.1==x2.1.1)&&((x1.1.2.1==x2.1.2.1)&&((x1.1.2.2.1==x2.1.2.2.1)&&((x1.1.2.2.2.1==x2.1.2.2.2.1)&&((x1.1.2.2.2.2==x2.1.2.2.2.2)&&((x1.2.1==x2.2.1)&&((x1.2.2.1==x2.2.2.1)&&((x1.2.2.2==x2.2.2.2)&&true)))))))
theorem Vy (x y:Stream):Qs x y=true↔x=y:=by obtain⟨⟨a2,a3,a4,a5,a6⟩,a7,a8,a9⟩:=x;obtain⟨⟨c2,c3,c4,c5,c6⟩,c7,c8,c9⟩:=y;simp only[Qs,dy,ae,aZ,Prod.mk.injEq,and_assoc]
theorem Qf (a b:dj)(h:a.2.2.2.length<=10^9):xx a b=some (mL a b):=by simp only[xx,D3 _ _ h,ab,br,cF,eS a b,eS a.2 b.2,eS a.2.2 b.2.2,TD]
def ringEq (a b:Ring):Bool:=(a.1==b.1)&&((a.2.1==b.2.1)&&((a.2.2.1==b.2.2.1)&&((a.2.2.2==b.2.2.2)&&true)))
theorem agl (a b:Ring):ringEq a b=mL a b:=by simp only[ringEq,eS a b,eS a.2 b.2,eS a.2.2 b.2.2,TD,dy]
structure NY (h:Host):Prop where
 z:H2 h
 t3:∀x∈h.2.2.1.2.2.1,x.2.2.length<=10^9
 r:h.2.2.2.1.length<=10^9
 p:h.2.2.2.2.1.length<=10^9
 v:h.2.2.2.2.2.1.length<=10^9
 b:h.2.2.2.2.2.2.1.length<=10^9
 s:h.2.2.2.2.2.2.2.2.2.1.length<=10^9
 l:h.2.2.2.2.2.2.2.2.2.2.2.1.length<=10^9
 i:h.2.2.2.2.2.2.2.2.2.2.2.2.1.length<=10^9
 j:h.2.2.2.2.2.2.2.2.2.2.2.2.2.1.length<=10^9
theorem Vq (a b:Host)(z:NY a)(la:nB a=true)(lb:nB b=true): xy a b=some (mL a.2.2.1 b.2.2.1&&(mL a.2.2.2.1 b.2.2.2.1&&(mL a.2.2.2.2.1 b.2.2.2.2.1&&(mL a.2.2.2.2.2.1 b.2.2.2.2.2.1&&mL a.2.2.2.2.2.2.1 b.2.2.2.2.2.2.1)))):=by
 have ht:=z.z.t2;have ht1:=z.z.t1;have la:=nQ la;have lb:=nQ lb;unfold xy;rw[show((a.2.2.1.1.1==b.2.2.1.1.1)&&((a.2.2.1.1.2.1==b.2.2.1.1.2.1)&&((a.2.2.1.1.2.2.1==b.2.2.1.1.2.2.1)&&((a.2.2.1.1.2.2.2==b.2.2.1.1.2.2.2)&&true))))=mL a.2.2.1.1 b.2.2.1.1 from agl a.2.2.1.1 b.2.2.1.1];simp only[Qf _ _ (show a.2.2.1.2.1.2.2.2.length<=10^9 by omega),ab,br,cT,bne,TD];by_cases h1:¬a.2.2.2.1.length=b.2.2.2.1.length;rw[ln (a:=(a.2.2.2.1.length:Int)),ln (a:=a.2.2.2.1) (λe=>h1 (by rw[e]))];simp;replace h1:=Decidable.of_not_not h1;by_cases h2:¬a.2.2.1.2.2.1.length=b.2.2.1.2.2.1.length;rw[ln (a:=(a.2.2.1.2.2.1.length:Int)),ln (a:=a.2.2.1) (λe=>h2 (by rw[e]))];simp;replace h2:=Decidable.of_not_not h2;rw[wi (a:=(a.2.2.2.1.length:Int)),wi (a:=(a.2.2.1.2.2.1.length:Int))];rw[DC (hit:=some false) (fin:=some (mL a.2.2.2.1 b.2.2.2.1&&(mL a.2.2.2.2.1 b.2.2.2.2.1&&(mL a.2.2.2.2.2.1 b.2.2.2.2.2.1&&mL a.2.2.2.2.2.2.1 b.2.2.2.2.2.2.1)))) mL (λ_ _=>yt) a.2.2.1.2.2.1 b.2.2.1.2.2.1 h2 ht1 (λi hi nx=>?hs) (λnx=>?hf)]
 case hs=>
  simp only[rC]
  rw[iU,bj hi,bj (h2▸hi),al (n:=(i:Int)+1)]
  simp only[ah,ab,D3 _ _ (z.t3 _ (aI hi)),br,cT,bne,TD,eS a.2.2.1.2.2.1[i],eS a.2.2.1.2.2.1[i].2,jf];rfl
 case hf=>
  simp only[rC]
  rw[cz]
  simp only[af]
  rw[iK (hit:=some false) (fin:=some true) (λi=>mL a.2.2.2.1[i]? b.2.2.2.1[i]?&&(mL a.2.2.2.2.2.1[i]? b.2.2.2.2.2.1[i]?&&(mL a.2.2.2.2.2.2.1[i]? b.2.2.2.2.2.2.1[i]?&&mL a.2.2.2.2.1[i]? b.2.2.2.2.1[i]?))) a.2.2.2.1.length (by omega) (λi nx hi=>?Xi) (λnx=>?Ax)]
  case Xi=>
   simp only[pT]
   have q1:i<b.2.2.2.1.length:=by omega
   have q2:i<a.2.2.2.2.2.1.length:=by omega
   have q3:i<b.2.2.2.2.2.1.length:=by omega
   have q4:i<a.2.2.2.2.2.2.1.length:=by omega
   have q5:i<b.2.2.2.2.2.2.1.length:=by omega
   have q6:i<a.2.2.2.2.1.length:=by omega
   have q7:i<b.2.2.2.2.1.length:=by omega
   have some_inj:∀{α:Type}(x y:α),mL (some x) (some y)=mL x y:=λx y=>by rw[cq,yt,yt,bp]
   rw[ak hi,ak q1,ak q2,ak q3,ak q4,ak q5,ak q6,ak q7,some_inj,some_inj,some_inj,some_inj]
   rw[iU,bj hi,bj q1,bj q2,bj q3,bj q4,bj q5,bj q6,bj q7,al (n:=(i:Int)+1)]
   simp only[ah,ab,Qf _ _ (z.z.p1 _ (aI q6))]
   have e1:=Ic (ajH a.2.2.2.1[i] b.2.2.2.1[i])
   have e2:=Ic (agV a.2.2.2.2.2.1[i] b.2.2.2.2.2.1[i])
   have e3:=TD a.2.2.2.2.2.2.1[i] b.2.2.2.2.2.2.1[i]
   unfold apc at e1
   unfold akI at e2
   rw[e1,e2,e3]
   simp only[br,cT,ab,jf];rfl
  case Ax=>
   simp only[pT]
   rw[cz];rfl
  have key:∀{α:Type}(x y:aw α)(n:Nat),x.length=n->y.length=n->(List.range n).all (λi=>mL x[i]? y[i]?)=mL x y:=by intro α x y n hx hy;apply Ic;rw[aD];constructor;intro k;apply cI;intro i;by_cases hi:i<n;exact yt.1 (k i (bD.2 hi));rw[bC (by omega),bC (by omega)];rintro rfl i _;exact wi rfl
  rw[I3,I3,I3,key _ _ _ rfl (by omega),key _ _ _ (by omega) (by omega),key _ _ _ (by omega) (by omega),key _ _ _ (by omega) (by omega)]
  cases mL a.2.2.2.1 b.2.2.2.1<;>cases mL a.2.2.2.2.1 b.2.2.2.2.1<;>cases mL a.2.2.2.2.2.1 b.2.2.2.2.2.1<;>cases mL a.2.2.2.2.2.2.1 b.2.2.2.2.2.2.1<;>rfl
 rw[eS a.2.2.1 b.2.2.1,eS a.2.2.1.2 b.2.2.1.2,eS a.2.2.1.2.2 b.2.2.1.2.2];generalize (mL a.2.2.2.1 b.2.2.2.1&&(mL a.2.2.2.2.1 b.2.2.2.2.1&&(mL a.2.2.2.2.2.1 b.2.2.2.2.2.1&&mL a.2.2.2.2.2.2.1 b.2.2.2.2.2.2.1)))=X;cases mL a.2.2.1.1 b.2.2.1.1<;>cases mL a.2.2.1.2.1 b.2.2.1.2.1<;>cases mL a.2.2.1.2.2.1 b.2.2.1.2.2.1<;>cases mL a.2.2.1.2.2.2 b.2.2.1.2.2.2<;>cases X<;>rfl
theorem Zb (a b:df)(h1:a.1.length<=10^9)(h2:a.2.1.length<=10^9)(h3:a.2.2.2.length<=10^9):tw a b=some (mL a b):=by
 unfold tw;simp only[D3 _ _ h3,ab,br,cT,bne,TD];by_cases l1:¬a.1.length=b.1.length;rw[ln (a:=(a.1.length:Int)),ln (a:=a) (λe=>l1 (by rw[e]))];simp;replace l1:=Decidable.of_not_not l1;by_cases l2:¬a.2.1.length=b.2.1.length;rw[ln (a:=(a.2.1.length:Int)),ln (a:=a) (λe=>l2 (by rw[e]))];simp;replace l2:=Decidable.of_not_not l2;rw[wi (a:=(a.1.length:Int)),wi (a:=(a.2.1.length:Int))];rw[DC (hit:=some false) (fin:=some (mL a.2.1 b.2.1)) acp acq a.1 b.1 l1 h1 (λi hi nx=>?hs) (λnx=>?hf)]
 case hs=>
  simp only[nV]
  rw[iU,bj hi,bj (l1▸hi),al (n:=(i:Int)+1)];rfl
 case hf=>
  simp only[nV]
  rw[cz]
  simp only[af]
  rw[DC (hit:=some false) (fin:=some true) acy acz a.2.1 b.2.1 l2 h2 (λi hi nx=>?Xi) (λnx=>?Ax)]
  case Xi=>
   simp only[nW]
   rw[iU,bj hi,bj (l2▸hi),al (n:=(i:Int)+1)];rfl
  case Ax=>
   simp only[nW]
   rw[cz];rfl
  cases mL a.2.1 b.2.1<;>rfl
 rw[eS a b,eS a.2 b.2,eS a.2.2 b.2.2];cases mL a.1 b.1<;>cases mL a.2.1 b.2.1<;>cases mL a.2.2.1 b.2.2.1<;>cases mL a.2.2.2 b.2.2.2<;>rfl
theorem acC (a b:Host)(z:NY a):Bh a b=some (mL a.2.2.2.2.2.2.2.1 b.2.2.2.2.2.2.2.1&&mL a.2.2.2.2.2.2.2.2.2 b.2.2.2.2.2.2.2.2.2):=by
 unfold Bh;simp only[D3 _ _ z.i,D3 _ _ z.j,D3 _ _ z.z.f1,ab,br,cT,cF,bne,TD];by_cases l1:¬a.2.2.2.2.2.2.2.2.2.1.length=b.2.2.2.2.2.2.2.2.2.1.length;rw[ln (a:=(a.2.2.2.2.2.2.2.2.2.1.length:Int)),ln (a:=a.2.2.2.2.2.2.2.2.2) (λe=>l1 (by rw[e]))];simp;replace l1:=Decidable.of_not_not l1;by_cases l2:¬a.2.2.2.2.2.2.2.2.2.2.2.1.length=b.2.2.2.2.2.2.2.2.2.2.2.1.length;rw[ln (a:=(a.2.2.2.2.2.2.2.2.2.2.2.1.length:Int)),ln (a:=a.2.2.2.2.2.2.2.2.2) (λe=>l2 (by rw[e]))];simp;replace l2:=Decidable.of_not_not l2;rw[wi (a:=(a.2.2.2.2.2.2.2.2.2.1.length:Int)),wi (a:=(a.2.2.2.2.2.2.2.2.2.2.2.1.length:Int))];have hs1:=z.s;have Xi:=z.l
 have lst:∀X:Bool,X=(mL a.2.2.2.2.2.2.2.2.2.2.1 b.2.2.2.2.2.2.2.2.2.2.1&&(mL a.2.2.2.2.2.2.2.2.2.2.2.2.2.2 b.2.2.2.2.2.2.2.2.2.2.2.2.2.2&&mL a.2.2.2.2.2.2.2.1 b.2.2.2.2.2.2.2.1))->
  (bif !mL a.2.2.2.2.2.2.2.2.2.2.2.2.1 b.2.2.2.2.2.2.2.2.2.2.2.2.1|| !mL a.2.2.2.2.2.2.2.2.2.2.2.2.2.1 b.2.2.2.2.2.2.2.2.2.2.2.2.2.1 then some false else(bif mL a.2.2.2.2.2.2.2.2.2.1 b.2.2.2.2.2.2.2.2.2.1 then(bif mL a.2.2.2.2.2.2.2.2.2.2.2.1 b.2.2.2.2.2.2.2.2.2.2.2.1 then some X else some false) else some false))
   =some (mL a.2.2.2.2.2.2.2.1 b.2.2.2.2.2.2.2.1&&mL a.2.2.2.2.2.2.2.2.2 b.2.2.2.2.2.2.2.2.2):=by
  rintro X rfl
  rw[eS a.2.2.2.2.2.2.2.2.2 b.2.2.2.2.2.2.2.2.2,eS a.2.2.2.2.2.2.2.2.2.2 b.2.2.2.2.2.2.2.2.2.2,eS a.2.2.2.2.2.2.2.2.2.2.2 b.2.2.2.2.2.2.2.2.2.2.2,eS a.2.2.2.2.2.2.2.2.2.2.2.2 b.2.2.2.2.2.2.2.2.2.2.2.2,eS a.2.2.2.2.2.2.2.2.2.2.2.2.2 b.2.2.2.2.2.2.2.2.2.2.2.2.2]
  generalize mL a.2.2.2.2.2.2.2.2.2.1 b.2.2.2.2.2.2.2.2.2.1=x1
  generalize mL a.2.2.2.2.2.2.2.2.2.2.1 b.2.2.2.2.2.2.2.2.2.2.1=x2
  generalize mL a.2.2.2.2.2.2.2.2.2.2.2.1 b.2.2.2.2.2.2.2.2.2.2.2.1=x3
  generalize mL a.2.2.2.2.2.2.2.2.2.2.2.2.1 b.2.2.2.2.2.2.2.2.2.2.2.2.1=x4
  generalize mL a.2.2.2.2.2.2.2.2.2.2.2.2.2.1 b.2.2.2.2.2.2.2.2.2.2.2.2.2.1=x5
  generalize mL a.2.2.2.2.2.2.2.2.2.2.2.2.2.2 b.2.2.2.2.2.2.2.2.2.2.2.2.2.2=x6
  generalize mL a.2.2.2.2.2.2.2.1 b.2.2.2.2.2.2.2.1=x7
  cases x1<;>cases x2<;>cases x3<;>cases x4<;>cases x5<;>cases x6<;>cases x7<;>rfl
 rw[DC (hit:=some false) (fin:=bif mL a.2.2.2.2.2.2.2.2.2.2.2.1 b.2.2.2.2.2.2.2.2.2.2.2.1 then some (mL a.2.2.2.2.2.2.2.2.2.2.1 b.2.2.2.2.2.2.2.2.2.2.1&&(mL a.2.2.2.2.2.2.2.2.2.2.2.2.2.2 b.2.2.2.2.2.2.2.2.2.2.2.2.2.2&&mL a.2.2.2.2.2.2.2.1 b.2.2.2.2.2.2.2.1)) else some false) Qs Vy a.2.2.2.2.2.2.2.2.2.1 b.2.2.2.2.2.2.2.2.2.1 l1 hs1 (λi hi nx=>?hs) (λnx=>?hf)]
 case hs=>
  simp only[vt]
  rw[iU,bj hi,bj (l1▸hi),al (n:=(i:Int)+1)];rfl
 case hf=>
  simp only[vt]
  rw[cz]
  simp only[af]
  refine DC (hit:=some false) (λx y=>x==y) (λx y=>aZ) a.2.2.2.2.2.2.2.2.2.2.2.1 b.2.2.2.2.2.2.2.2.2.2.2.1 l2 Xi (λi hi nx=>?_) (λnx=>?_)
  ·simp only[vu]
   rw[iU,bj hi,bj (l2▸hi),al (n:=(i:Int)+1)];rfl
  ·simp only[vu]
   rw[cz]
   simp only[af,dy]
   congr 1
   rw[eS a.2.2.2.2.2.2.2.1,eS a.2.2.2.2.2.2.2.1.2,eS a.2.2.2.2.2.2.2.2.2.2.2.2.2.2,eS a.2.2.2.2.2.2.2.2.2.2.2.2.2.2.2,eS a.2.2.2.2.2.2.2.2.2.2.2.2.2.2.2.2,eS a.2.2.2.2.2.2.2.2.2.2.2.2.2.2.2.2.2]
 simp only[aj,cA];exact lst _ rfl
def viewAt (a b:Host)(m n:aE):Bool:=(m.1==n.1)&&((m.2.1==n.2.1)&&((m.2.2.2==n.2.2.2)&&(decide (m.2.2.1<(a.1.length:Int))&&(decide (n.2.2.1<(b.1.length:Int))&&(a.1.getD m.2.2.1.toNat []==b.1.getD n.2.2.1.toNat [])))))
def Zx (a b:Host):Bool:=a.2.1.all (λm=>b.2.1.any (viewAt a b m))
theorem adr {xs:aw α}{i:Int}(d:α)(h0:0<=i)(h1:i<(xs.length:Int)):idx xs i=some (xs.getD i.toNat d):=by
 have e:i=((i.toNat:Nat):Int):=by omega
 have hl:i.toNat<xs.length:=by omega
 rw[cH hl];have:=bj hl;rwa[<-e]at this
theorem ajc (h:eE l=true){m:aE}(hm:m∈l):0<=m.2.2.1:=by unfold eE at h;simp only[ae,aD,bD]at h;obtain⟨i,hi,rfl⟩:=List.getElem_of_mem hm;have:=h.2 i hi;unfold Nn at this;rw[cH hi]at this;simp only[ae]at this;have:=this.1;unfold Iw at this;simp only[ae,aX]at this;exact this.2.2.1
theorem adF (h:eE l=true):l.length<=96:=by unfold eE at h;simp only[ae,aF]at h;omega
theorem R1 (p:α->Bool):∀(l:aw α)(s:Bool),l.foldl (λs x=>s||p x) s=(s||l.any p)
 |[],s=>by simp
 |x::l,s=>by rw[dp,R1 p l,List.any_cons,Bool.or_assoc]
theorem ajZ (a b:Host)(ha:eE a.2.1=true)(hb:eE b.2.1=true)(v4:Bool)(k0:Int->ay R)(k1:Bool->Int->ay R)(fin hit:ay R)(h0:∀x,k0 x=fin)(h1:∀x,k1 false x=hit): bc (oO k0 k1 v4 a b) fuel 0=cond (Zx a b) fin hit:=by
 have la:=adF ha;have lb:=adF hb;refine qC (λm=>b.2.1.any (viewAt a b m)) a.2.1 (by omega) (λi hi nx=>?_) (λnx=>?_)
 ·simp only[oO];rw[iU,al (n:=(i:Int)+1)];simp only[ah];have:=fold_iter (T:=oP (λ(zW:Bool) (_:Int)=>cond (!zW) (k1 false (i:Int)) (nx ((i:Int)+1))) v4 (i:Int) a b) b.2.1 (λ(s:Bool) i=>(s,(i:Int))) (λs n=>s||viewAt a b a.2.1[i] n) (λs=>cond (!s) hit (nx ((i:Int)+1))) (by omega) (λj hj s nx'=>?hs) (λs nx'=>?hf) false
  case hs=>
   simp only[oP]
   rw[iU,bj hi,bj hj,al (n:=(j:Int)+1)]
   simp only[ah,ab]
   have m0:=ajc ha (aI hi)
   have n0:=ajc hb (aI hj)
   generalize b.2.1[j]=n at*
   generalize a.2.1[i]=m at*
   unfold viewAt
   cases s with
   |true=>rfl
   |false=>
    simp only[af,cA]
    cases m.1==n.1;rfl
    cases m.2.1==n.2.1;rfl
    cases m.2.2.2==n.2.2.2;rfl
    by_cases c1:m.2.2.1<(a.1.length:Int)
    ·by_cases c2:n.2.2.1<(b.1.length:Int)
     ·rw[au c1,au c2,adr [] m0 c1,adr [] n0 c2];rfl
     ·rw[au c1,aq c2];rfl
    ·rw[aq c1];rfl
  case hf=>
   simp only[oP]
   rw[cz,h1];rfl
  rw[R1,cA]at this;exact this
 simp only[oO];rw[cz,h0];rfl
def Kh (a b:Host):Bool:=dN a&&(dN b&&(mL a.2.2 b.2.2&&(mL (a.2.1.length:Int) (b.2.1.length:Int)&&Zx a b)))
theorem Se (k:dN h=true):eE h.2.1=true:=by unfold dN at k;simp only[ae]at k;exact k.2.1
theorem Sd (k:dN h=true):nB h=true:=by unfold dN at k;simp only[ae]at k;exact k.2.2.2.2.1
theorem aj1 (a b:Host)(za:NY a)(zb:NY b):yW a b=some (Kh a b):=by unfold yW Kh;simp only[YT _ za.z,YT _ zb.z,ab];cases ha:dN a;rfl;cases hb:dN b;rfl;rw[Vq a b za (Sd ha) (Sd hb),Zb _ _ za.z.s1 za.z.s2 za.z.s3,acC a b za,ajZ a b (Se ha) (Se hb) _ _ _ (some true) (some false) (λ_=>rfl) (λ_=>rfl)];simp only[ab,br,cT,cN,cF,aj,af,bl,bne,TD];congr 1;rw[eS a.2.2 b.2.2,eS a.2.2.2 b.2.2.2,eS a.2.2.2.2 b.2.2.2.2,eS a.2.2.2.2.2 b.2.2.2.2.2,eS a.2.2.2.2.2.2 b.2.2.2.2.2.2,eS a.2.2.2.2.2.2.2 b.2.2.2.2.2.2.2,eS a.2.2.2.2.2.2.2.2 b.2.2.2.2.2.2.2.2];simp only[Bool.not_or,fu];rw[cq];simp only[ae];constructor;rintro⟨⟨⟨k1,k2,k3,k4,k5⟩,k6,⟨k7,k8⟩,k9⟩,k10⟩;refine⟨⟨k1,k2,k3,k4,k5,k7,k6,k8⟩,k9,?_⟩;revert k10;cases Zx a b<;>simp;rintro⟨⟨k1,k2,k3,k4,k5,k7,k6,k8⟩,k9,k10⟩;refine⟨⟨⟨k1,k2,k3,k4,k5⟩,k6,⟨k7,k8⟩,k9⟩,?_⟩;rw[k10];simp
def mapsIn (h:Host):Prop:=∀m∈h.2.1,m.2.2.1<(h.1.length:Int)
theorem Wt (a:α):mL a a=true:=by unfold mL;simp
theorem agp (g:Good n h)(hn:n<=1000000000000)(hm:mapsIn h):Kh h h=true:=by
 unfold Kh;rw[g.ok hn,Wt,Wt];have:Zx h h=true:=by unfold Zx;rw[aD];intro m hh;rw[List.any_eq_true];refine⟨m,hh,?_⟩;unfold viewAt;have:=hm m hh;simp only[beq_self_eq_true,bl,au this]
 rw[this];rfl
theorem amg {n:Nat}(z:BB n h)(hn:n<=10^9):NY h:=by have y:dh 1000000000 dk h:=z.z.mono hn;exact⟨z.sz hn,λx hx=>(y.2.2.1.2.2.1.2 x hx).2.2.1,y.2.2.2.1.1,y.2.2.2.2.1.1,y.2.2.2.2.2.1.1,y.2.2.2.2.2.2.1.1,y.2.2.2.2.2.2.2.2.2.1.1,y.2.2.2.2.2.2.2.2.2.2.2.1.1,y.2.2.2.2.2.2.2.2.2.2.2.2.1.1,y.2.2.2.2.2.2.2.2.2.2.2.2.2.1.1⟩
theorem afG {a b:Host}(h:mapsIn a)(s:lj a b):mapsIn b:=by intro m hm;rw[s.maps]at hm;rw[s.mem];exact h m hm
theorem ZQ (a:bP)(ha:ag8 (.sl (.int .u8)) a):Ew a=some true:=by
 refine Ends.true ?_;unfold Ew;refine anI rfl λhl=>?_;rw[af];refine(aeB hl).bind λr2 p2=>?_;obtain⟨c0,l⟩:=r2;simp only at p2⊢;obtain⟨d,hn,avb⟩:=p2;have m0:∀h∈c0.1,mapsIn h:=by intro h hh;obtain⟨i,hi⟩:=gb hh;obtain⟨gF,_⟩:=aC.1 hi;exact(d.host i h _ hi (ak (by rw[<-d.len];exact gF))).1.maps
 refine Ends.zI (λx=>0<=x.1/\x.1<=(l.length:Int)/\VS c0 x.1.toNat x.2) (λx=>((l.length:Int)-x.1).toNat) ⟨by simp,by simp,VS.start d⟩ (by simp;omega) λx nx hx Dh=>?_;obtain⟨i,c⟩:=x;obtain⟨x1,x2,x3⟩:=hx;simp only at x1 x2 x3;obtain⟨i,rfl⟩:∃k:Nat,i=k:=⟨i.toNat,by omega⟩
 rw[ax]at x3;unfold Af;refine Ends.cond (λk=>?_) λk=>?_;have k:=bt k;simp only at k⊢;have hi:i<l.length:=by omega
 rw[bj hi,ab];refine(x3.step (by omega) (avb _ (aI hi))).bind λr p=>?_;obtain⟨dn,rn⟩:=p;have e:ar ((i:Int)+1)=(i:Int)+1:=al;rw[dn.len,bne_self_eq_false,af,e];have go:Ends (nx ((i:Int)+1,r.1)) (λb=>b=true):=Dh _ ⟨by show 0<=(i:Int)+1;omega,by show(i:Int)+1<=_;omega,by show VS c0 ((i:Int)+1).toNat r.1;rw[show((i:Int)+1).toNat=i+1 by omega];exact rn⟩ (by show((l.length:Int)-((i:Int)+1)).toNat<((l.length:Int)-(i:Int)).toNat;omega);refine Ends.bind (P:=λb=>b=true->l[i].1=1\/l[i].1=0/\(l[i].2.2.1.1=0\/l[i].2.2.1.1=3\/l[i].2.2.1.1=5\/l[i].2.2.1.1=6)) ?_ λown ik=>?_;refine Ends.cond (λk1=>Ends.pure λ_=>Or.inl (by simpa using k1)) λ_=>Ends.cond (λk2=>?_) λ_=>Ends.pure (by simp);have k2:l[i].1=0:=by simpa using k2
 refine Ends.cond (λk3=>Ends.pure λ_=>Or.inr ⟨k2,Or.inl (by simpa using k3)⟩) λ_=>Ends.cond (λk3=>Ends.pure λ_=>Or.inr ⟨k2,Or.inr (Or.inl (by simpa using k3))⟩) λ_=>Ends.cond (λk3=>Ends.pure λ_=>Or.inr ⟨k2,Or.inr (Or.inr (Or.inl (by simpa using k3)))⟩) λ_=>Ends.pure λk3=>Or.inr ⟨k2,Or.inr (Or.inr (Or.inr (by simpa using k3)))⟩;refine Ends.zI (λy=>0<=y/\y<=(c.1.length:Int)) (λy=>((c.1.length:Int)-y).toNat) ⟨by simp,by simp⟩ (by have:=c.1.length;have h3:=(lx x3.K0.vS).2.2.2.2.2;have h4:=x3.K0.len.1;simp;omega) λy ny hy hm=>?_;unfold xW;refine Ends.cond (λk1=>?_) λ_=>go;have k1:=bt k1;have e1:ar (y+1)=y+1:=al (by have:=hy.1;omega) (by have h3:=(lx x3.K0.vS).2.2.2.2.2;have h4:=x3.K0.len.1;omega);rw[e1];have nxt:=hm (y+1) ⟨by have:=hy.1;omega,by omega⟩ (by omega);refine Ends.bind (P:=λb=>b=false) ?_ λb hb=>by rw[hb,af];exact nxt
 refine Ends.cond (λk2=>Ends.cond (λk3=>?_) λ_=>Ends.pure rfl) λ_=>Ends.pure rfl;have k3:y≠l[i].2.1:=by simpa using k3
 obtain⟨j,rfl⟩:∃k:Nat,y=k:=⟨y.toNat,by have:=hy.1;omega⟩
 have hj:j<c.1.length:=by omega
 have e2:=dn.alone (ik k2) j k3;have e3:r.1.1[j]?=some c.1[j]:=by rw[e2];exact ak hj
 rw[Ej,ak hj,ab,Ej,e3,ab];have gj:=x3.K0.at (ak hj)
 have mj:mapsIn c.1[j]:=by obtain⟨h0,e4,s⟩:=x3.stay j _ (ak hj);exact afG (m0 h0 (aW e4)) s
 have vz:=amg (x3.sz.h _ (aI hj)) (by omega);rw[aj1 _ _ vz vz,ab,agp gj (by omega) mj];exact Ends.pure rfl;have k:=dX k;simp only at k⊢;rw[DL c (x3.sz.sz),x3.K0.ok (by omega),ab];exact Ends.pure rfl
end
end Go.Pu
