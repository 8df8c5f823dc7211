import Derived.Test.YtbebkmajekhclaaGreatPuX3
namespace Go.Pu
open Go.Dn
set_option linter.unusedSimpArgs false
set_option linter.unusedVariables false
noncomputable section
variable {s:Bytes} {c:cE} {h:Host} {n:Int} {b:bF} {N i k:Nat} {R α:Type} {ms:aw bF} {ps:aw Port} {l:aw aE} {f:bV} {m:uK}
/- A command keeps a card valid. -/
theorem Ze (g:Good n h){f:Filter}(hf:dG f=true):Good n (wP h f):=⟨g.mem,g.maps,g.tx,hf,g.lens,g.SW,g.rx,g.pool,g.vec,g.Kb⟩
def atu (s:bQ×aw Port)(f:Filter):bQ×aw Port:=(f.2.2.foldl yO s.1,s.2++[(f.1,f.2.2.foldl yO [0],0,true)])
theorem Ss (ms:aw bF)(s:bQ×aw Port):ms.foldl G4 s=(ms.map (·.1)).foldl atu s:=by rw[List.foldl_map];rfl
theorem aaJ {ns:aw bF}(h:ms.map (·.1)=ns.map (·.1)):jR ms=jR ns:=by unfold jR;rw[Ss,Ss,h]
theorem aou {b':bF}(hk:ms[k]?=some b)(h:b'.1=b.1):(ms.set k b').map (·.1)=ms.map (·.1):=by obtain⟨gr,e⟩:=aC.1 hk;rw[List.map_set,h,<-e,<-List.getElem_map (f:=λx:bF=>x.1) (h:=by rw[bw];exact gr),List.set_getElem_self]
theorem ad8 (h:(bU ms).2=true){b':bF}(hk:ms[k]?=some b)(hf:b'.1=b.1)(hm:iT b'=true):(bU (ms.set k b')).2=true:=by
 have p:=lE h;unfold bU;rw[aaJ (aou hk hf),ay,p.2.2.1,aX.2 ⟨by omega,by omega⟩];have:(ms.set k b').all iT=true:=by rw[aF];intro x hx;rcases cd hx with g|g;exact p.2.2.2.1 x g;rw[g];exact hm
 rw[this];rfl
theorem P8 (h:(bU ms).2=true)(hk:ms[k]?=some b)(hm:m.1=b.2.1+1)(hn:b.2.1<=n/\b.2.2.2<=n)(Fc:n<=100000000000):∃b',jw ms k m=(ms.set k b',b'.2.2.1)/\b'.2.1=m.1/\b'.2.2.2=b.2.2.2+1/\(bU (ms.set k b')).2=true:=by
 have p:=lE h;have hb:iT b=true:=p.2.2.2.1 b (aU hk);have hi:=Rv hb;have hh:jN b m=(((kO b.1 m).1,m.1,(kO b.1 m).2,b.2.2.2+1),(kO b.1 m).2):=by unfold jN;rw[hb,ah,show(m.1==b.2.1)=false from by rw[cg];omega,ae,show(m.1==b.2.1+1)=true from by rw[ba];exact hm,ah]
 unfold jw;rw[hk];simp only[hh];cases hp:(bU (ms.set k ((kO b.1 m).1,m.1,(kO b.1 m).2,b.2.2.2+1))).2 with|true=>exact⟨((kO b.1 m).1,m.1,(kO b.1 m).2,b.2.2.2+1),rfl,rfl,rfl,hp⟩|false=>refine⟨(b.1,m.1,0,b.2.2.2+1),?_,rfl,rfl,?_⟩;rw[ae,aj];refine ad8 h hk rfl ?_;unfold iT at hb⊢;simp only[af,aX]at hb⊢;refine⟨hb.1,⟨?_,?_⟩,?_,?_⟩;show 0<=m.1;omega;show m.1<=_;omega;show 0<=b.2.2.2+1;omega;show b.2.2.2+1<=_;omega
theorem P9 (h:(bU ms).2=true)(hk:ms[k]?=some b)(hm:m.1=b.2.1):jw ms k m=(ms,b.2.2.1):=by
 have p:=lE h;have hb:iT b=true:=p.2.2.2.1 b (aU hk);have hh:jN b m=(b,b.2.2.1):=by unfold jN;rw[hb,ah,show(m.1==b.2.1)=true from by rw[ba];exact hm,ah]
 have hs:ms.set k b=ms:=by obtain⟨gr,e⟩:=aC.1 hk;rw[<-e,List.set_getElem_self]
 unfold jw;rw[hk];simp only[hh];rw[hs,h,ah]
theorem NI (h:(bU ms).2=true)(hk:ms[k]?=some b)(h1:m.1≠b.2.1)(h2:m.1≠b.2.1+1):jw ms k m=(ms, -1):=by
 have p:=lE h;have hb:iT b=true:=p.2.2.2.1 b (aU hk);have hh:jN b m=(b, -1):=by unfold jN;rw[hb,ah,show(m.1==b.2.1)=false from by rw[cg];exact h1,ae,show(m.1==b.2.1+1)=false from by rw[cg];exact h2,ae]
 have hs:ms.set k b=ms:=by obtain⟨gr,e⟩:=aC.1 hk;rw[<-e,List.set_getElem_self]
 unfold jw;rw[hk];simp only[hh];rw[hs,h,ah]
def PN (c:cE)(k:Nat)(h:Host)(b:bF):cE:=(c.1.set k (wP h b.1),c.2.1,c.2.2.1.set k b,c.2.2.2)
theorem akI {m:Int}(g:gD n c)(hm:n<=m)(hh:c.1[k]?=some h)(hp:(bU (c.2.2.1.set k b)).2=true)(h1:b.2.1<=m/\b.2.2.2<=m):gD m (PN c k h b):=by
 have p:=lE hp;have q:=lE g.mq;obtain⟨gr,_⟩:=aC.1 hh;have hk:k<c.2.2.1.length:=by have:=g.len.1;omega
 have hb:iT b=true:=p.2.2.2.1 b (aU (cw hk));have hf:dG b.1=true:=by unfold iT at hb;simp only[af]at hb;exact hb.1
 have gh:∀h0,c.1[k]?=some h0->Good n h0:=λh0 e=>(g.host k h0 _ e (ak hk)).1;refine⟨hp,⟨?_,?_⟩,?_,g.MI,g.clock,λi h' b' e1 e2=>?_,λi hi=>g.place i ?_,λx hx=>?_,λf hf=>⟨by have:=(g.QP f hf).1;omega,by have:=(g.QP f hf).2;omega⟩⟩;show(c.1.set k _).length=(c.2.2.1.set k b).length;rw[ay,ay];exact g.len.1;show c.2.1.length=(c.2.2.1.set k b).length;rw[ay];exact g.len.2;have e:=g.fns;unfold ew at e⊢;rw[q.1,q.2.2.1,q.2.1,aZ]at e;show(gv (bU (c.2.2.1.set k b)).1&&(List.range c.2.1.length).all (fnB c.2.1 ((bU (c.2.2.1.set k b)).1.length:Int)))=true;rw[p.1,p.2.2.1,aZ,p.2.1,ay];exact e;have e1:(c.1.set k (wP h b.1))[i]?=some h':=e1;have e2:(c.2.2.1.set k b)[i]?=some b':=e2;by_cases hi:i=k;subst hi;rw[cw gr]at e1;rw[cw hk]at e2;rw[<-bM e1,<-bM e2];exact⟨Ze ((gh h hh).mono hm) hf,rfl⟩;rw[aR (df hi)]at e1 e2;exact⟨(g.host i h' b' e1 e2).1.mono hm,(g.host i h' b' e1 e2).2⟩;have hi:i<(c.1.set k (wP h b.1)).length:=hi;rw[ay]at hi;exact hi;rcases cd hx with e|e;have:=g.FJ x e;omega;rw[e];exact h1
theorem arE {n:Nat}(hn:8<=n)(z:CK n c)(hh:c.1[k]?=some h)(hb:b.1.2.2.length<=8):CK n (PN c k h b):=by
 have zh:=z.h h (aU hh);have zl:cB n jn b.1:=⟨cq,cq,bp hb hn,λ_ _=>trivial⟩
 have y:=zh.z;have zf:Dz n (wP h b.1):=⟨⟨y.1,y.2.1,y.2.2.1,y.2.2.2.1,y.2.2.2.2.1,y.2.2.2.2.2.1,y.2.2.2.2.2.2.1,zl,y.2.2.2.2.2.2.2.2⟩,zh.t⟩
 have s:=L1 (k:=k) z zf;exact⟨⟨s.z.1,z.z.2.1,mP z.z.2.2.1 ⟨zl,cq,cq,cq⟩,z.z.2.2.2⟩,s.h⟩
theorem Ym (g:gD n c)(hn:n<=100000000000)(hk:c.2.2.1[k]?=some b)(hm:m.1=b.2.1+1):∃h b',c.1[k]?=some h/\tu c (k:Int) m=(PN c k h b',b'.2.2.1)/\b'.2.1=m.1/\b'.2.2.2=b.2.2.2+1/\(bU (c.2.2.1.set k b')).2=true/\gD (n+1) (PN c k h b'):=by
 obtain⟨gr,_⟩:=aC.1 hk;have hx:k<c.1.length:=by have:=g.len.1;omega
 have hbn:=g.FJ b (aU hk);obtain⟨b',e1,e2,e3,e4⟩:=P8 g.mq hk hm hbn hn;refine⟨c.1[k],b',ak hx,?_,e2,e3,e4,akI g (by omega) (ak hx) e4 ⟨by omega,by omega⟩⟩;unfold tu;rw[g.ok (by omega),aX.2 ⟨by omega,by omega⟩];simp only[bW,ah,ax,e1];rw[ak hx,cw gr];rfl
theorem Yn (g:gD n c)(hn:n<=100000000000)(hk:c.2.2.1[k]?=some b){a:Int}(he:jw c.2.2.1 k m=(c.2.2.1,a)):tu c (k:Int) m=(c,a):=by
 obtain⟨gr,eb⟩:=aC.1 hk;have hx:k<c.1.length:=by have:=g.len.1;omega
 have hf:=(g.host k _ b (ak hx) hk).2;unfold tu;rw[g.ok (by omega),aX.2 ⟨by omega,by omega⟩];simp only[bW,ah,ax,he];rw[ak hx,hk];simp only;have e:wP c.1[k] b.1=c.1[k]:=by rw[<-hf];rfl
 rw[e,List.set_getElem_self]
def Ik (h:Host):bV:=h.2.2.2.2.2.2.2.2.2.2.2.1
theorem VJ (h:Host):(Ik h).length<=(Ik (gy h)).length/\(Ik (gy h)).length<=(Ik h).length+5440:=by have hA:=FE h.2.1 h.1 0 17 [] 0 0 h.2.2.1.1 (λx hx=>by cases hx);unfold gy;cases eL h;exact⟨bt _,Nat.le_add_right _ _⟩;rw[show rn h.2.1 h.1 0 17 [] 0 0 h.2.2.1.1=lY h.2.1 h.1 0 h.2.2.1.1 from rfl]at hA;generalize lY h.2.1 h.1 0 h.2.2.1.1=x at hA⊢;simp only[da]at hA;generalize (if(h.2.2.1.2.2.1.length:Int)<ar (x.2.2.1+x.2.2.2) then(h.2.2.1.2.2.1.length:Int) else ar (x.2.2.1+x.2.2.2))=q;show _<=(Ik h++x.2.1).length/\(Ik h++x.2.1).length<=_;rw[ai];have:=hA.1;omega
def N7 (h:Host):bV:=(Ik (gy h)).drop (Ik h).length
theorem M9 (h:Host):(N7 h).length<=5440:=by have:=VJ h;unfold N7;rw[aS];omega
def JK (ps:aw Port)(k:Int)(c:cE)(x:Bytes):cE:=
 bif (nE c.2.1 ps k (eM x).1).2.2 then AD (c.1,(nE c.2.1 ps k (eM x).1).1,c.2.2) (ar (k+1)) (eM x).1 else(c.1,(nE c.2.1 ps k (eM x).1).1,c.2.2)
theorem afV {n:Nat}(h:l.length=c.2.1.length)(z:CK n c):CK n (c.1,l,c.2.2):=by refine⟨⟨z.z.1,⟨?_,λ_ _=>⟨cq,cq,⟨cq,cq,cq⟩,cq,cq,cq⟩⟩,z.z.2.2⟩,z.h⟩;have:=z.z.2.1.1;show l.length<=n;rw[h];exact this
theorem al5 {n:Nat}(hn:1000<=n){k:Int}{x:Bytes}(z:CK n c):CK (n+8) (JK ps k c x)/\(JK ps k c x).1.length=c.1.length:=by have zs:=afV (l:=(nE c.2.1 ps k (eM x).1).1) (IX ..) z;unfold JK;cases (nE c.2.1 ps k (eM x).1).2.2 with|false=>exact⟨zs.mono,rfl⟩|true=>exact aeO hn _ _ zs
def H2 (ps:aw Port)(k:Int)(c:cE)(l:bV):cE:=l.foldl (JK ps k) c
theorem Sb {ps:aw Port}{k:Int}:∀(l:bV){c:cE}{n:Nat},1000<=n->CK n c->CK (n+8*l.length) (H2 ps k c l)/\(H2 ps k c l).1.length=c.1.length
 |[],c,n,_,z=>⟨z,rfl⟩
 |x::l,c,n,hn,z=>by have h1:=al5 hn (ps:=ps) (k:=k) (x:=x) z;have:=Sb (ps:=ps) (k:=k) l (show 1000<=n+8 by omega) h1.1;exact⟨this.1.mono (by simp only[bg];omega),this.2.trans h1.2⟩
theorem ael (ps:aw Port)(k:Int)(c:cE)(l:bV)(i:Nat)(hi:i<l.length):H2 ps k c (l.take (i+1))=JK ps k (H2 ps k c (l.take i)) l[i]:=by rw[aV hi,H2,List.foldl_append];rfl
theorem abd (K:Int->cE->az R)(ps:aw Port)(k:Int)(l:bV)(c B:cE)(hl:l.length<=5440)(hx:∀x∈l,x.length<=10^9)(z:CK 700000000 c)(zp:rr ps): bh (ko K k l ps B) fuel (0,c)=K (l.length:Int) (H2 ps k c l):=by have GS:=fb;refine cK (λi=>((i:Int),H2 ps k c (l.take i))) l.length (by omega) (λi nx hi=>?_) (λnx=>?_);have hz:=(Sb (ps:=ps) (k:=k) (l.take i) (by omega) z).1.mono (show 700000000+8*(l.take i).length<=800000000 by rw[aP];omega);rw[ael ps k c l i hi];generalize H2 ps k c (l.take i)=W at hz⊢;have zs:=afV (l:=(nE W.2.1 ps k (eM l[i]).1).1) (IX ..) hz;simp only[ko];rw[iH,ah,bc hi,ab,I1 _ (hx _ (aB hi)),ab,aj (n:=(i:Int)+1),aiG _ _ _ _ (bp hz.z.2.1.1 (by omega)) zp,ab,Sg _ _ _ zs,ab,JK];cases (nE W.2.1 ps k (eM l[i]).1).2.2<;>rfl;simp only[ko];rw[cD,ae,cf]
def BK (c:cE)(k:Int):cE:=
 bif jI c&&(!decide (k<0)&& !decide (k>=(c.1.length:Int))) then
  match c.1[k.toNat]? with
  |some h=>H2 (bU c.2.2.1).1 k (aa6 c k.toNat (gy h)) (N7 h)
  |none=>c
 else c
theorem aer (c:cE)(k:Int)(z:CK 600000000 c):rR c k=some (BK c k):=by
 have z9:cB 1000000000 sq c:=z.z.mono;unfold rR BK;rw[tV c z9,ab,FA c (z.sz),ab];cases hb:jI c;rfl;by_cases h0:k<0;rw[au h0];rfl;by_cases h1:k>=(c.1.length:Int)
 rw[aq h0,au h1];rfl;obtain⟨k,rfl⟩:=aO (by omega:0<=k);have hk:k<c.1.length:=by omega
 rw[aq h0,aq h1];have hz:=z.h _ (aB hk);have zt:=GH (by omega) hz;have zc:CK 700000000 (aa6 c k (gy c.1[k])):=(L1 (z.mono (show 600000000<=600005440 by omega)) zt).mono;have hg:=VJ c.1[k];have hw:∀x∈N7 c.1[k],x.length<=10^9:=λx hx=>bp (zt.z.2.2.2.2.2.2.2.2.2.2.2.1.2 x (List.mem_of_mem_drop hx)) (by omega);have hn:=M9 c.1[k];have zp:=PF c.2.2.1;simp only[ax,ak hk,bc hk,Lw hk,ab,al,bH,ae,ah,bW,Bb _ (λm hm=>(z9.2.2.1.2 m hm).1.2.2.1),Mi _ (hz.mono)];rw[show sub (gy c.1[k]).2.2.2.2.2.2.2.2.2.2.2.1 ((c.1[k].2.2.2.2.2.2.2.2.2.2.2.1).length:Int) (((gy c.1[k]).2.2.2.2.2.2.2.2.2.2.2.1).length:Int)=some (N7 c.1[k]) from Mo _ _ hg.1];rw[ab,aL (by simp only[da];omega),bz];exact abd (λ_ y=>some y) (bU c.2.2.1).1 (k:Int) (N7 c.1[k]) (aa6 c k (gy c.1[k])) _ hn hw zc zp
theorem ab1 {n:Nat}(hn:1000<=n)(k:Int)(z:CK n c):CK (n+48960) (BK c k)/\(BK c k).1.length=c.1.length:=by unfold BK;cases jI c&&(!decide (k<0)&& !decide (k>=(c.1.length:Int)));exact⟨z.mono,rfl⟩;simp only[ah];cases hx:c.1[k.toNat]? with|none=>exact⟨z.mono,rfl⟩|some h=>have zt:=GH (by omega) (z.h h (aU hx));have zc:=L1 (k:=k.toNat) (z.mono (show n<=n+5440 by omega)) zt;have:=Sb (ps:=(bU c.2.2.1).1) (k:=k) (N7 h) (by omega) zc;have hl:=M9 h;refine⟨this.1.mono,this.2.trans ?_⟩;show(c.1.set _ _).length=_;rw[ay]
structure S0 (a b:Host):Prop where
 maps:b.2.1=a.2.1
 mem:b.1.length=a.1.length
theorem S0.refl (a:Host):S0 a a:=⟨rfl,rfl⟩
theorem S0.trans {a b c:Host}(h:S0 a b)(g:S0 b c):S0 a c:=⟨g.maps.trans h.maps,g.mem.trans h.mem⟩
theorem S0.of {a b:Host}(h:lI k a b):S0 a b:=⟨h.maps,h.mem⟩
def sF (h:Host):Filter:=h.2.2.2.2.2.2.2.1
theorem anA (k:Nat)(h:Host):sF (evS k h)=sF h:=by unfold evS;cases h.2.2.2.2.2.1[k]?<;>rfl
theorem afo (k:Nat)(h:Host):∀i,sF (evH k i h)=sF h
 |0=>rfl
 |i+1=>(anA k _).trans (afo k h i)
theorem ac0 (h:Host)(k:Nat)(b:Int)(f:bV×cU):sF (KJ h k b f)=sF h:=(afo k _ _).trans rfl
theorem NU (h:Host)(x:Bytes):sF (oK h x)=sF h:=by
 unfold oK;cases eL h;rfl;cases (eM x).2 !=0;case true=>rfl
 cases !su h.2.2.2.2.2.2.2.1 (eM x).1;case true=>rfl
 cases rk h.2.2.2.2.2.2.2.2.1 (h.2.2.2.1.length:Int) (eM x).1== -1;case true=>rfl
 simp only[al,ae];cases h.2.2.2.1[(rk h.2.2.2.2.2.2.2.2.1 (h.2.2.2.1.length:Int) (eM x).1).toNat]? with|none=>rfl|some q=>exact ac0 ..
theorem agU (h:Host):sF (CQ h)=sF h:=by unfold CQ;cases eL h with|false=>rfl|true=>exact(uC D4 h _).sF
theorem YP (h:Host):sF (Bi h)=sF h:=by unfold Bi;cases eL h with|false=>rfl|true=>exact(uC GG h _).sF
theorem YO (h:Host)(b:Int):sF (sW h b).1=sF h:=by unfold sW;cases eL h&&cY b 1 1000 with|false=>rfl|true=>exact(CF b h _).sF
theorem Lg (h:Host):sF (gy h)=sF h:=by unfold gy;cases eL h<;>rfl
theorem akD (h:Host)(p:aD)(c z:Int):sF (Fz h p c z).1=sF h:=by unfold Fz;cases eL h<;>rfl
theorem acY (h:Host)(i:Nat)(c:Int):sF (Dc h i c).2=sF h:=by unfold Dc;rcases h.2.2.2.1[i]? with _|rx;rfl;cases h.2.2.2.2.1[i]? with|none=>rfl|some pl=>rfl
theorem NT (h:Host):∀k,sF (rP h k)=sF h
 |0=>rfl
 |k+1=>(acY _ k 1000).trans (NT h k)
theorem FU (h:Host):∀k,sF (returned h k)=sF h
 |0=>NT h _
 |k+1=>by have e:returned h (k+1)=Xs h.2.2.1.2.2.1 k (returned h k):=rfl;rw[e];unfold Xs;cases h.2.2.1.2.2.1[k]? with|none=>exact FU h k|some x=>exact(show sF (afR (returned h k) [x.1])=sF (returned h k) from rfl).trans (FU h k)
theorem acZ (k:Nat)(h:Host):sF (yZ k h)=sF h:=by unfold yZ;rcases h.2.2.2.1[k]? with _|x;rfl;cases h.2.2.2.2.2.1[k]? with|none=>rfl|some v=>rfl
theorem Lf (h:Host):∀k,sF (im h k)=sF h
 |0=>rfl
 |k+1=>(acZ k _).trans (Lf h k)
theorem Ui (h:Host):sF (xV h)=sF h:=by unfold xV;cases eL h with|false=>rfl|true=>exact(Lf _ _).trans ((show sF (ry h)=sF (returned h h.2.2.1.2.2.1.length) from rfl).trans (FU h _))
theorem anz (h:Host)(a:Act):sF (O1 h a).1=sF h:=by
 unfold O1;cases !eL h|| !G8 a;case true=>rfl
 simp only[ae];cases a.1==0;case true=>exact akD ..
 cases a.1==1;case true=>exact Lg h
 cases a.1==2;case true=>exact NU ..
 cases a.1==3;case true=>exact agU h
 cases a.1==4;case true=>exact YP h
 cases a.1==5 with|true=>exact YO ..|false=>exact Ui h
theorem gD.at (g:gD n c)(hi:c.1[i]?=some h):Good n h:=by obtain⟨gr,_⟩:=aC.1 hi;exact(g.host i h _ hi (ak (by have:=g.len.1;omega))).1
theorem QR {m:Int}(g:gD n c)(hm:n<=m){hs:aw Host}(hl:hs.length=c.1.length)(h:∀(i:Nat)(h':Host),hs[i]?=some h'->∃h0,c.1[i]?=some h0/\Good m h'/\sF h'=sF h0):gD m (hs,c.2):=by have q:=g.mono hm;refine⟨q.mq,⟨hl.trans q.len.1,q.len.2⟩,q.fns,q.MI,q.clock,λi h' b e1 e2=>?_,λi hi=>q.place i (by rw[<-hl];exact hi),q.FJ,q.QP⟩;obtain⟨h0,a,b',e⟩:=h i h' e1;exact⟨b',e.trans (q.host i h0 b a e2).2⟩
theorem MR {m:Int}(g:gD n c)(hm:n<=m){h0:Host}(hk:c.1[k]?=some h0)(gh:Good m h)(e:sF h=sF h0):gD m (aa6 c k h):=by refine QR g hm (ay ..) λi h' hi=>?_;by_cases WL:i=k;subst WL;obtain⟨gr,_⟩:=aC.1 hk;rw[cw gr]at hi;rw[<-bM hi];exact⟨h0,hk,gh,e⟩;rw[aR (df WL)]at hi;exact⟨h',hi,(g.at hi).mono hm,rfl⟩
theorem Uq {m:Int}(g:gD n c)(hm:n<=m){f:Host->Host}(hf:∀h,Good n h->Good m (f h))(he:∀h,sF (f h)=sF h):gD m (c.1.map f,c.2):=by refine QR g hm (bw ..) λi h' hi=>?_;rw[List.getElem?_map]at hi;cases hc:c.1[i]? with|none=>rw[hc]at hi;cases hi|some h0=>rw[hc]at hi;rw[<-bM hi];exact⟨h0,rfl,hf h0 (g.at hc),he h0⟩
theorem adg (g:gD n c)(f:Bytes):gD n (am4 c f):=⟨g.mq,g.len,g.fns,g.MI,g.clock,g.host,g.place,g.FJ,g.QP⟩
theorem NY (g:gD n c):gD n (KE c):=⟨g.mq,g.len,g.fns,g.MI,g.clock,g.host,g.place,g.FJ,g.QP⟩
theorem ac9 (hn:n<=600000000000)(g:gD n c)(ps:aw Port)(v:Int)(p:aD)(j:Nat):gD (n+641) (dp ps v p c j):=by unfold dp;cases j==0 with|true=>exact(adg g _).mono|false=>simp only[ae];cases hc:c.1[j-1]? with|none=>exact g.mono|some h=>exact MR g (by omega) hc (Ll (by omega) (g.at hc) _) (NU ..)
theorem Ur (ps:aw Port)(v:Int)(p:aD):∀(l:fA){n:Int}{c:cE},n+641*(l.length:Int)<=600000000000->gD n c->gD (n+641*(l.length:Int)) (R0 ps v p c l)
 |[],n,c,_,g=>g.mono (by simp)
 |j::l,n,c,hn,g=>by simp only[bg]at hn;have i:=Ur ps v p l (n:=n+641) (by omega) (ac9 (by omega) g ps v p j);exact i.mono (by simp only[bg];push_cast;omega)
theorem Jo (hn:n<=500000000000)(g:gD n c)(e:Int)(p:aD):gD (n+2564) (tq c e p):=by unfold tq;cases decide (iq (bU c.2.2.1).1 e p<0)with|true=>exact g.mono|false=>have h1:=Bg (bU c.2.2.1).1 e p;have h2:=(aib c.2.2.1).1;exact(Ur _ _ _ _ (by omega) g).mono
theorem WB (hn:n<=500000000000)(g:gD n c)(e:Int)(p:aD):gD (n+2564) (AD c e p):=by unfold AD;cases jI c&&eQ p with|true=>exact Jo hn g e p|false=>exact g.mono
theorem Ta (hn:n<=500000000000)(g:gD n c)(x:Bytes):gD (n+2564) (Dd c x):=by
 unfold Dd;cases !jI c;case true=>exact g.mono
 cases (eM x).2==0 with|true=>exact Jo hn (NY g) 0 _|false=>exact(NY g).mono
theorem YZ {f:aE}(hk:k<l.length):(l.set k f).getD i ID=if i=k then f else l.getD i ID:=by rw[bu,bu];by_cases h:i=k;subst h;rw[aI rfl,cw hk];rfl;rw[aK h,aR (df h)]
theorem Lh:ew l ps=true↔gv ps=true/\∀i,i<l.length->yI (ps.length:Int) (l.getD i ID)=true/\∀j,j<i->YS (l.getD i ID) (l.getD j ID)=false:=by unfold ew fnB;simp only[af,aF,bE,aM]
theorem YT {l':aw aE}(h:ew l ps=true)(hl:l'.length=l.length)(hx:∀i,i<l.length->(l'.getD i ID).1=(l.getD i ID).1/\(l'.getD i ID).2.1=(l.getD i ID).2.1/\yI (ps.length:Int) (l'.getD i ID)=true):ew l' ps=true:=by rw[Lh]at h⊢;refine⟨h.1,λi hi=>⟨(hx i (by omega)).2.2,λj hj=>?_⟩⟩;have q:=(h.2 i (by omega)).2 j hj;have a:=hx i (by omega);have b:=hx j (by omega);unfold YS at q⊢;rw[a.1,a.2.1,b.1,b.2.1];exact q
theorem RP {l':aw aE}(h:pN l i=true)(hx:(l'.getD i ID).1=(l.getD i ID).1/\(l'.getD i ID).2.1=(l.getD i ID).2.1):pN l' i=true:=by unfold pN at h⊢;rw[hx.1,hx.2];exact h
theorem Zg {m:Int}(g:gD n c)(hm:n<=m)(hl:l.length=c.2.1.length)(hx:∀i,i<c.2.1.length->(l.getD i ID).1=(c.2.1.getD i ID).1/\(l.getD i ID).2.1=(c.2.1.getD i ID).2.1/\yI ((bU c.2.2.1).1.length:Int) (l.getD i ID)=true)(hc:∀f∈l,f.2.2.2.2.1<=m/\f.2.2.2.2.2<=m):gD m (c.1,l,c.2.2):=by
 have q:=g.mono hm;refine⟨q.mq,⟨q.len.1,hl.trans q.len.2⟩,YT q.fns hl hx,q.MI,q.clock,q.host,λi hi=>?_,q.FJ,hc⟩;have hi:i<c.1.length:=hi;have gr:i<c.2.1.length:=by have:=q.len;omega
 exact RP (q.place i hi) ⟨(hx i gr).1,(hx i gr).2.1⟩
theorem uZ {f:aE}:yI n f=true↔(0<=f.1/\f.1<=7)/\(1<=f.2.1/\f.2.1<=ar (n-1))/\gU f.2.2.1=true/\(0<=f.2.2.2.2.1/\f.2.2.2.2.1<=1000000000000)/\0<=f.2.2.2.2.2/\f.2.2.2.2.2<=1000000000000:=by unfold yI;simp only[af,aX]
theorem K0 {b:uK}(h:gU b=true)(n:Int):gU (EN b n).1=true:=by unfold EN;cases hq:gU b&&cY n 0 b.2.2 with|false=>exact h|true=>simp only[af,aX]at hq;unfold gU at h⊢;simp only[af,aX,ah]at h⊢;rw[aj];exact⟨h.1,h.2.1,by omega,by omega⟩
theorem ac7 (hn:n<=500000000000)(g:gD n c)(k:Int)(p:aD):gD (n+1) (c.1,(nE c.2.1 (bU c.2.2.1).1 k p).1,c.2.2):=by
 have same:gD (n+1) (c.1,c.2.1,c.2.2):=g.mono;unfold nE;cases hq:ew c.2.1 (bU c.2.2.1).1&&(eQ p&&(!decide (k<0)&& !decide (k>=(c.2.1.length:Int))));exact same;simp only[ah];rcases hf:c.2.1[k.toNat]? with _|f;exact same;simp only;obtain⟨gr,ef⟩:=aC.1 hf;have hF:=(Lh.1 g.fns).2;have Td:=g.QP f (aU hf);have fin:yI ((bU c.2.2.1).1.length:Int) f=true:=by have:=(hF k.toNat gr).1;rw[bN gr,ef]at this;exact this
 have hi:=uZ.1 fin;have go:∀f':aE,f'.1=f.1->f'.2.1=f.2.1->yI ((bU c.2.2.1).1.length:Int) f'=true->(f'.2.2.2.2.1<=n+1/\f'.2.2.2.2.2<=n+1)->gD (n+1) (c.1,c.2.1.set k.toNat f',c.2.2):=by intro f' e1 e2 e3 e4;refine Zg g (by omega) (ay ..) (λi hi=>?_) λx hx=>?_;rw[YZ gr];by_cases WL:i=k.toNat;rw[aI WL,WL,bN gr,ef];exact⟨e1,e2,e3⟩;rw[aK WL];exact⟨rfl,rfl,(hF i hi).1⟩;rcases cd hx with e|e;have:=g.QP x e;omega;rw[e];exact e4
 cases ahF (bU c.2.2.1).1 f p with|true=>refine go _ rfl rfl (uZ.2 ⟨hi.1,hi.2.1,K0 hi.2.2.1 _,?_,hi.2.2.2.2⟩) ?_;show 0<=ar (f.2.2.2.2.1+1)/\_;show 0<=ar (f.2.2.2.2.1+1)/\ar (f.2.2.2.2.1+1)<=1000000000000;rw[aj];omega;show ar (f.2.2.2.2.1+1)<=n+1/\f.2.2.2.2.2<=n+1;rw[aj];omega|false=>refine go _ rfl rfl (uZ.2 ⟨hi.1,hi.2.1,hi.2.2.1,hi.2.2.2.1,?_⟩) ?_;show 0<=ar (f.2.2.2.2.2+1)/\ar (f.2.2.2.2.2+1)<=1000000000000;rw[aj];omega;show f.2.2.2.2.1<=n+1/\ar (f.2.2.2.2.2+1)<=n+1;rw[aj];omega
structure uE (a b:cE):Prop where
 boxes:b.2.2.1=a.2.2.1
 flash:b.2.2.2.1=a.2.2.2.1
 clock:b.2.2.2.2.1=a.2.2.2.2.1
 stamps:b.2.2.2.2.2.1=a.2.2.2.2.2.1
 len:b.1.length=a.1.length
 up:∃w,b.2.2.2.2.2.2=a.2.2.2.2.2.2++w
theorem uE.refl (a:cE):uE a a:=⟨rfl,rfl,rfl,rfl,rfl,⟨[],(bR _).symm⟩⟩
theorem uE.trans {a b:cE}(h:uE a b)(g:uE b c):uE a c:=by obtain⟨w,hw⟩:=h.up;obtain⟨u,hu⟩:=g.up;exact⟨g.boxes.trans h.boxes,g.flash.trans h.flash,g.clock.trans h.clock,g.stamps.trans h.stamps,g.len.trans h.len,⟨w++u,by rw[hu,hw,bj]⟩⟩
theorem adE (ps:aw Port)(v:Int)(p:aD)(c:cE)(j:Nat):uE c (dp ps v p c j):=by unfold dp;cases j==0 with|true=>exact⟨rfl,rfl,rfl,rfl,rfl,⟨_,rfl⟩⟩|false=>simp only[ae];cases hc:c.1[j-1]? with|none=>exact uE.refl c|some h=>exact⟨rfl,rfl,rfl,rfl,ay ..,⟨[],(bR _).symm⟩⟩
theorem UN (ps:aw Port)(v:Int)(p:aD):∀(l:fA)(c:cE),uE c (R0 ps v p c l)
 |[],c=>uE.refl c
 |j::l,c=>(adE ps v p c j).trans (UN ps v p l _)
theorem Tm (c:cE)(e:Int)(p:aD):uE c (tq c e p):=by unfold tq;cases decide (iq (bU c.2.2.1).1 e p<0)with|true=>exact uE.refl c|false=>exact UN ..
theorem W6 (c:cE)(e:Int)(p:aD):uE c (AD c e p):=by unfold AD;cases jI c&&eQ p with|true=>exact Tm ..|false=>exact uE.refl c
theorem Ro (ps:aw Port)(k:Int)(c:cE)(x:Bytes):uE c (JK ps k c x):=by
 unfold JK;have e:uE c (c.1,(nE c.2.1 ps k (eM x).1).1,c.2.2):=⟨rfl,rfl,rfl,rfl,rfl,⟨[],(bR _).symm⟩⟩
 cases (nE c.2.1 ps k (eM x).1).2.2 with|true=>exact e.trans (W6 ..)|false=>exact e
theorem Rp (ps:aw Port)(k:Int):∀(l:bV)(c:cE),uE c (H2 ps k c l)
 |[],c=>uE.refl c
 |x::l,c=>(Ro ps k c x).trans (Rp ps k l _)
theorem aoc (c:cE)(k:Int):uE c (BK c k):=by unfold BK;cases jI c&&(!decide (k<0)&& !decide (k>=(c.1.length:Int)));exact uE.refl c;simp only[ah];cases c.1[k.toNat]? with|none=>exact uE.refl c|some h=>exact(show uE c (aa6 c k.toNat (gy h)) from⟨rfl,rfl,rfl,rfl,ay ..,⟨[],(bR _).symm⟩⟩).trans (Rp ..)
theorem ac6 (hn:n<=400000000000)(g:gD n c)(k:Int)(x:Bytes):gD (n+2565) (JK (bU c.2.2.1).1 k c x):=by have q:=ac7 (by omega) g k (eM x).1;unfold JK;cases (nE c.2.1 (bU c.2.2.1).1 k (eM x).1).2.2 with|true=>exact(WB (by omega) q _ _).mono|false=>exact q.mono
theorem QT (k:Int)(ps:aw Port):∀(l:bV){n:Int}{c:cE},n+2565*(l.length:Int)<=400000000000->ps=(bU c.2.2.1).1->gD n c->gD (n+2565*(l.length:Int)) (H2 ps k c l)
 |[],n,c,_,_,g=>g.mono (by simp)
 |x::l,n,c,hn,hp,g=>by simp only[bg]at hn;have s:=ac6 (by omega) g k x;rw[<-hp]at s;have i:=QT k ps l (n:=n+2565) (by omega) (by rw[(Ro ps k c x).boxes];exact hp) s;exact i.mono (by simp only[bg];push_cast;omega)
theorem anD (hn:n<=300000000000)(g:gD n c)(k:Int):gD (n+14000000) (BK c k):=by unfold BK;cases jI c&&(!decide (k<0)&& !decide (k>=(c.1.length:Int)));exact g.mono;simp only[ah];cases hc:c.1[k.toNat]? with|none=>exact g.mono|some h=>have q:=MR g (dB n) hc (Jp (g.at hc)) (Lg h);have hl:=M9 h;exact(QT k (bU c.2.2.1).1 (N7 h) (c:=aa6 c k.toNat (gy h)) (by omega) rfl q).mono
theorem Qc (d:EZ c):CK 2000 c:=by
 have p:=lE d.mq;obtain⟨bk,_,hf⟩:=d.fns;have hh:∀h∈c.1,Jh h:=by intro h hh;obtain⟨i,hi⟩:=List.getElem?_of_mem hh;obtain⟨gr,_⟩:=aC.1 hi;exact(d.host i h _ hi (ak (by rw[<-d.len];exact gr))).1
 refine⟨⟨⟨by have:=d.len;omega,λh hx=>(hh h hx).sz.z⟩,⟨by rw[hf,C7];omega,λ_ _=>⟨cq,cq,⟨cq,cq,cq⟩,cq,cq,cq⟩⟩,⟨by omega,λb hb=>?_⟩,⟨by have:=d.flash.1;omega,λx hx=>by show x.length<=2000;rw[d.flash.2 x hx];omega⟩,⟨cq,cq,cq,cq⟩,?_,?_⟩,λh hx=>(hh h hx).sz⟩;obtain⟨i,hi⟩:=List.getElem?_of_mem hb;have q:=(d.box i b hi).vl;refine⟨⟨cq,cq,?_,λ_ _=>trivial⟩,cq,cq,cq⟩;show b.1.2.2.length<=2000;rcases q with e|e<;>rw[e]<;>simp;rw[show c.2.2.2.2.2.1=[] from congrArg (·.1) d.rest];exact⟨bC _,λ_ _=>trivial⟩;rw[show c.2.2.2.2.2.2=[] from congrArg (·.2) d.rest];exact⟨bC _,λx hx=>by cases hx⟩
structure ij (n:Int) (w:cm):Prop where
 mq:(bU w.2.2.2.1).2=true
 len:w.1.length=w.2.2.2.1.length/\w.2.1.length=w.2.2.2.1.length/\w.2.2.1.length=w.2.2.2.1.length
 fns:ew w.2.2.1 (bU w.2.2.2.1).1=true
 soft:∀(i:Nat)(s:yN)(b:bF),w.1[i]?=some s->w.2.2.2.1[i]?=some b->Di s=true/\s.1=b.1
 place:∀i,i<w.1.length->pN w.2.2.1 i=true
 FJ:∀b∈w.2.2.2.1,b.2.1<=n/\b.2.2.2<=n
 QP:∀f∈w.2.2.1,f.2.2.2.2.1<=n/\f.2.2.2.2.2<=n
theorem ij.mono {m:Int}{w:cm}(g:ij n w)(h:n<=m:=by omega):ij m w:=⟨g.mq,g.len,g.fns,g.soft,g.place,λb hb=>⟨by have:=(g.FJ b hb).1;omega,by have:=(g.FJ b hb).2;omega⟩,λf hf=>⟨by have:=(g.QP f hf).1;omega,by have:=(g.QP f hf).2;omega⟩⟩
theorem ij.ok {w:cm}(g:ij n w):sL w=true:=by
 unfold sL;rw[g.mq,g.fns,aZ,aZ,af,af,aF,aF];refine⟨?_,?_,?_⟩;unfold N5;rw[g.len.1,g.len.2.1,g.len.2.2];simp;intro i hi;have hi:=bE.1 hi;have hj:i<w.2.2.2.1.length:=by have:=g.len.1;omega
 rw[UB i hi hj];have q:=g.soft i _ _ (ak hi) (ak hj);rw[q.1,Qz q.2];rfl;intro i hi;exact g.place i (bE.1 hi)
theorem ij.at {w:cm}(g:ij n w){s:yN}(hi:w.1[i]?=some s):Di s=true:=by obtain⟨gr,_⟩:=aC.1 hi;exact(g.soft i s _ hi (ak (by have:=g.len.1;omega))).1
theorem QV {w:cm}(g:ij n w){ss:aw yN}(hl:ss.length=w.1.length)(h:∀(i:Nat)(s:yN),ss[i]?=some s->∃s0,w.1[i]?=some s0/\Di s=true/\s.1=s0.1){u:bV}:ij n (ss,w.2.1,w.2.2.1,w.2.2.2.1,u):=by refine⟨g.mq,⟨hl.trans g.len.1,g.len.2⟩,g.fns,λi s b e1 e2=>?_,λi hi=>g.place i (by rw[<-hl];exact hi),g.FJ,g.QP⟩;obtain⟨s0,a,b',e⟩:=h i s e1;exact⟨b',e.trans (g.soft i s0 b a e2).2⟩
theorem D5 {w:cm}(g:ij n w){q:aw bV}(hl:q.length=w.2.1.length):ij n (w.1,q,w.2.2):=⟨g.mq,⟨g.len.1,hl.trans g.len.2.1,g.len.2.2⟩,g.fns,g.soft,g.place,g.FJ,g.QP⟩
theorem aaT (s:yN)(x:Bytes):(AY s x).1=s.1/\Di (AY s x)=Di s:=by unfold AY;cases XU s x<;>exact⟨rfl,rfl⟩
theorem adb {w:cm}(g:ij n w)(ps:aw Port)(v:Int)(p:aD){j:Nat}(hj:j<=w.1.length):ij n (BJ ps v p w j):=by
 unfold BJ;cases hj0:j==0 with
 |true=>exact QV g rfl λi s e=>⟨s,e,g.at e,rfl⟩
 |false=>
  have:j≠0:=by simpa using hj0
  have hl:j-1<w.1.length:=by omega
  refine QV (u:=w.2.2.2.2) g (ay ..) λi s e=>?_;by_cases WL:i=j-1;subst WL;rw[cw hl,bN hl]at e;have r:=aaT w.1[j-1] (rf (xM ps (j:Int) v p)).1;have q:=g.at (ak hl)
  rw[<-bM e];exact⟨_,ak hl,r.2.trans q,r.1⟩;rw[aR (df WL)]at e;exact⟨s,e,g.at e,rfl⟩
theorem Uu (ps:aw Port)(v:Int)(p:aD):∀(l:fA){n:Int}{w:cm},(∀j∈l,j<=w.1.length)->ij n w->ij n (Fy ps v p w l)
 |[],n,w,_,g=>g
 |j::l,n,w,hj,g=>Uu ps v p l (w:=BJ ps v p w j) (λk hk=>by rw[XL];exact hj k (by simp[hk])) (adb g ps v p (hj j (by simp)))
theorem Lm {w:cm}(g:ij n w)(e:Int)(p:aD):ij n (jP w e p):=by have pn:=(Xk g.ok).1;unfold jP;cases sL w&&eQ p;exact g;cases hd:decide (iq (bU w.2.2.2.1).1 e p<0)with|true=>exact g|false=>exact Uu _ _ _ _ (λj hj=>by have:=Eo j hj;omega) g
theorem Up {m:Int}{w:cm}(g:ij n w)(hm:n<=m)(hl:l.length=w.2.2.1.length)(hx:∀i,i<w.2.2.1.length->(l.getD i ID).1=(w.2.2.1.getD i ID).1/\(l.getD i ID).2.1=(w.2.2.1.getD i ID).2.1/\yI ((bU w.2.2.2.1).1.length:Int) (l.getD i ID)=true)(hc:∀f∈l,f.2.2.2.2.1<=m/\f.2.2.2.2.2<=m):ij m (w.1,w.2.1,l,w.2.2.2):=by
 have q:=g.mono hm;refine⟨q.mq,⟨q.len.1,q.len.2.1,hl.trans q.len.2.2⟩,YT q.fns hl hx,q.soft,λi hi=>?_,q.FJ,hc⟩;have hi:i<w.1.length:=hi;have gr:i<w.2.2.1.length:=by have:=q.len;omega
 exact RP (q.place i hi) ⟨(hx i gr).1,(hx i gr).2.1⟩
theorem ac8 (hn:n<=500000000000){w:cm}(g:ij n w)(k:Int)(p:aD):ij (n+1) (w.1,w.2.1,(nE w.2.2.1 (bU w.2.2.2.1).1 k p).1,w.2.2.2):=by
 have same:ij (n+1) (w.1,w.2.1,w.2.2.1,w.2.2.2):=g.mono;unfold nE;cases hq:ew w.2.2.1 (bU w.2.2.2.1).1&&(eQ p&&(!decide (k<0)&& !decide (k>=(w.2.2.1.length:Int))));exact same;simp only[ah];rcases hf:w.2.2.1[k.toNat]? with _|f;exact same;simp only;obtain⟨gr,ef⟩:=aC.1 hf;have hF:=(Lh.1 g.fns).2;have Td:=g.QP f (aU hf);have fin:yI ((bU w.2.2.2.1).1.length:Int) f=true:=by have:=(hF k.toNat gr).1;rw[bN gr,ef]at this;exact this
 have hi:=uZ.1 fin;have go:∀f':aE,f'.1=f.1->f'.2.1=f.2.1->yI ((bU w.2.2.2.1).1.length:Int) f'=true->(f'.2.2.2.2.1<=n+1/\f'.2.2.2.2.2<=n+1)->ij (n+1) (w.1,w.2.1,w.2.2.1.set k.toNat f',w.2.2.2):=by intro f' e1 e2 e3 e4;refine Up g (by omega) (ay ..) (λi hi=>?_) λx hx=>?_;rw[YZ gr];by_cases WL:i=k.toNat;rw[aI WL,WL,bN gr,ef];exact⟨e1,e2,e3⟩;rw[aK WL];exact⟨rfl,rfl,(hF i hi).1⟩;rcases cd hx with e|e;have:=g.QP x e;omega;rw[e];exact e4
 cases ahF (bU w.2.2.2.1).1 f p with|true=>refine go _ rfl rfl (uZ.2 ⟨hi.1,hi.2.1,K0 hi.2.2.1 _,?_,hi.2.2.2.2⟩) ?_;show 0<=ar (f.2.2.2.2.1+1)/\ar (f.2.2.2.2.1+1)<=1000000000000;rw[aj];omega;show ar (f.2.2.2.2.1+1)<=n+1/\f.2.2.2.2.2<=n+1;rw[aj];omega|false=>refine go _ rfl rfl (uZ.2 ⟨hi.1,hi.2.1,hi.2.2.1,hi.2.2.2.1,?_⟩) ?_;show 0<=ar (f.2.2.2.2.2+1)/\ar (f.2.2.2.2.2+1)<=1000000000000;rw[aj];omega;show f.2.2.2.2.1<=n+1/\ar (f.2.2.2.2.2+1)<=n+1;rw[aj];omega
theorem adf {w:cm}(g:ij n w):ij n (w.1,w.2.1,w.2.2.1.map (OV 1),w.2.2.2):=by refine Up g (dB n) (bw ..) (λi hi=>?_) λf hf=>?_;have q:=((Lh.1 g.fns).2 i hi).1;rw[bN hi]at q⊢;rw[bN (by rw[bw];exact hi),List.getElem_map];have w':=uZ.1 q;exact⟨rfl,rfl,uZ.2 ⟨w'.1,w'.2.1,Ji w'.2.2.1 1,w'.2.2.2.1,w'.2.2.2.2⟩⟩;obtain⟨x,hx,rfl⟩:=dH.1 hf;exact g.QP x hx
theorem ada (hn:n<=400000000000){w:cm}(g:ij n w)(k:Int)(x:Bytes):ij (n+1) (JT (bU w.2.2.2.1).1 k w x):=by have q:=ac8 (by omega) g k (eM x).1;unfold JT;cases (eM x).2==0;exact g.mono;cases (nE w.2.2.1 (bU w.2.2.2.1).1 k (eM x).1).2.2 with|false=>exact q|true=>exact Lm q _ _
theorem Ut (k:Int)(ps:aw Port):∀(l:bV){n:Int}{w:cm},n+(l.length:Int)<=400000000000->ps=(bU w.2.2.2.1).1->ij n w->ij (n+(l.length:Int)) (R3 ps k w l)
 |[],n,w,_,_,g=>g.mono (by simp)
 |x::l,n,w,hn,hp,g=>by simp only[bg]at hn;have s:=ada (by omega) g k x;rw[<-hp]at s;have i:=Ut k ps l (n:=n+1) (by omega) (by rw[(Su ps k w x).2.2];exact hp) s;exact i.mono (by simp only[bg];push_cast;omega)
theorem QW (hn:n<=300000000000){w:cm}(g:ij n w)(z:cB 90000000 fT w)(k:Nat):ij (n+90000000) (CI w k):=by
 have hl:(w.2.1.getD k []).length<=90000000:=by rcases bT k w.2.1.length with h|h;rw[bN h];exact(z.2.1.2 _ (aB h)).1;rw[bu,bJ h];simp
 unfold CI;exact(Ut k _ _ (w:=(w.1,w.2.1.set k [],w.2.2)) (by omega) rfl (D5 g (ay ..))).mono
theorem agX {m:Int}{w:cm}(g:ij n w)(hm:n<=m){s:yN}(hs:w.1[k]?=some s)(hp:(bU (w.2.2.2.1.set k b)).2=true)(h1:b.2.1<=m/\b.2.2.2<=m):ij m (w.1.set k (b.1,s.2),w.2.1,w.2.2.1,w.2.2.2.1.set k b,w.2.2.2.2):=by
 have p:=lE hp;have q:=lE g.mq;obtain⟨gr,_⟩:=aC.1 hs;have hk:k<w.2.2.2.1.length:=by have:=g.len.1;omega
 have hb:iT b=true:=p.2.2.2.1 b (aU (cw hk));have hf:dG b.1=true:=by unfold iT at hb;simp only[af]at hb;exact hb.1
 refine⟨hp,⟨?_,?_,?_⟩,?_,λi s' b' e1 e2=>?_,λi hi=>g.place i ?_,λx hx=>?_,λf hf=>⟨by have:=(g.QP f hf).1;omega,by have:=(g.QP f hf).2;omega⟩⟩;show(w.1.set k _).length=(w.2.2.2.1.set k b).length;rw[ay,ay];exact g.len.1;show w.2.1.length=(w.2.2.2.1.set k b).length;rw[ay];exact g.len.2.1;show w.2.2.1.length=(w.2.2.2.1.set k b).length;rw[ay];exact g.len.2.2;have e:=g.fns;unfold ew at e⊢;rw[q.1,q.2.2.1,q.2.1,aZ]at e;show(gv (bU (w.2.2.2.1.set k b)).1&&(List.range w.2.2.1.length).all (fnB w.2.2.1 ((bU (w.2.2.2.1.set k b)).1.length:Int)))=true;rw[p.1,p.2.2.1,aZ,p.2.1,ay];exact e;have e1:(w.1.set k (b.1,s.2))[i]?=some s':=e1;have e2:(w.2.2.2.1.set k b)[i]?=some b':=e2;by_cases hi:i=k;subst hi;rw[cw gr]at e1;rw[cw hk]at e2;rw[<-bM e1,<-bM e2];have o:=g.at hs;refine⟨?_,rfl⟩;unfold Di at o⊢;simp only[af]at o⊢;exact⟨hf,o.2⟩;rw[aR (df hi)]at e1 e2;exact g.soft i s' b' e1 e2;have hi:i<(w.1.set k (b.1,s.2)).length:=hi;rw[ay]at hi;exact hi;rcases cd hx with e|e;have:=g.FJ x e;omega;rw[e];exact h1
theorem S9 (hn:n<=90000000000){w:cm}(g:ij n w)(k:Nat)(m:uK):ij (n+1) (xj w k m):=by
 have same:ij (n+1) w:=g.mono;rcases bT k w.2.2.2.1.length with gr|BN;have hk:=ak gr;have hs:k<w.1.length:=by have:=g.len.1;omega
 have hbn:=g.FJ _ (aB gr);have old:∀x,jw w.2.2.2.1 k m=(w.2.2.2.1,x)->ij (n+1) (xj w k m):=by
  intro x e;unfold xj;rw[e];simp only;rw[hk,ak hs];have q:=g.soft k _ _ (ak hs) hk;have e2:w.1.set k (w.2.2.2.1[k].1,w.1[k].2)=w.1:=by rw[<-q.2];exact List.set_getElem_self _
  show ij (n+1) (w.1.set k (w.2.2.2.1[k].1,w.1[k].2),w.2.1,w.2.2.1,w.2.2.2.1,w.2.2.2.2);rw[e2];exact same
 by_cases e1:m.1=w.2.2.2.1[k].2.1+1;obtain⟨b',h1,h2,h3,h4⟩:=P8 g.mq hk e1 hbn (by omega);unfold xj;rw[h1];simp only;rw[cw gr,ak hs];exact agX g (by omega) (ak hs) h4 ⟨by omega,by omega⟩;by_cases e3:m.1=w.2.2.2.1[k].2.1;exact old _ (P9 g.mq hk e3);exact old _ (NI g.mq hk e3 e1);have hs:w.1.length<=k:=by have:=g.len.1;omega
 unfold xj;rw[bJ hs];cases (jw w.2.2.2.1 k m).1[k]?<;>exact same
theorem Wy (hn:n<=80000000000){w:cm}(g:ij n w)(z:cB 90000000 fT w)(a:cS)(v:Int):ij (n+90000000) (sD w a v):=by
 have same:ij (n+90000000) w:=g.mono;unfold sD;cases okI w a;exact same;simp only[ah];unfold VP;cases a.1==1;case true=>exact(S9 (by omega) g _ _).mono
 cases a.1==2;case true=>exact D5 same (bw ..)
 cases a.2.2.1.1==0 with
 |true=>cases v==1 with|true=>exact D5 same (ay ..)|false=>exact same
 |false=> ?_
 cases a.2.2.1.1==1;case true=>exact QW (by omega) g z _
 cases a.2.2.1.1==2 with
 |true=>cases (eM a.2.2.1.2.2.2.2.1).2==0 with|true=>exact Lm same _ _|false=>exact same
 |false=> ?_
 cases a.2.2.1.1==4;case true=>exact adf same
 cases a.2.2.1.1==6 with|true=>exact D5 same (ay ..)|false=>exact same
theorem aha (d:EZ c):ij 4 (qn c)/\cB 2000 fT (qn c)/\(qn c).1.length=c.1.length/\(qn c).2.2.2.2=c.2.2.2.2.2.2/\(qn c).2.1=List.replicate c.1.length []:=by
 have g:=d.akG;have z:=WT c (Qc d).z;have e:qn c=(c.1.map Dj,List.replicate c.1.length ([]:bV),c.2.1,c.2.2.1,c.2.2.2.2.2.2):=by unfold qn;rw[g.ok (by omega)];rfl
 rw[e]at z⊢;refine⟨⟨g.mq,⟨?_,?_,g.len.2⟩,g.fns,λi s b e1 e2=>?_,λi hi=>g.place i ?_,g.FJ,g.QP⟩,z,bw ..,rfl,rfl⟩;show(c.1.map Dj).length=_;rw[bw];exact g.len.1;show(List.replicate c.1.length ([]:bV)).length=_;rw[List.length_replicate];exact g.len.1;have e1:(c.1.map Dj)[i]?=some s:=e1;rw[List.getElem?_map]at e1;cases hc:c.1[i]? with|none=>rw[hc]at e1;cases e1|some h=>rw[hc]at e1;have q:=g.host i h b hc e2;have s2:=aov q.1 (by omega);rw[<-bM e1];refine⟨s2.2,?_⟩;rw[s2.1];exact q.2
 have hi:i<(c.1.map Dj).length:=hi;rw[bw]at hi;exact hi
def TT (f:bV):Int:=if ix (f.getD 0 [])<0/\ix (f.getD 1 [])<0 then-1 else if ix (f.getD 1 [])>ix (f.getD 0 []) then ix (f.getD 1 []) else ix (f.getD 0 [])
theorem aiw (h:lb f=true):tX f=some (TT f):=by obtain⟨e,h0,h1⟩:=yR h;unfold tX;rw[L4,ab];unfold gW TT;rw[h,ah];generalize f.getD 0 []=x at e h0 h1⊢;generalize f.getD 1 []=y at e h0 h1⊢;subst e;by_cases a:ix x<0/\ix y<0;rw[aI a,aI a];rfl;rw[aK a,aK a];by_cases b:ix y>ix x;rw[aI b,aI b,cD,ae,show idx [x,y] 1=some y from rfl,ab,Mj y];rfl;rw[aK b,aK b,cD,ae,show idx [x,y] 0=some x from rfl,ab,Mj x];rfl
theorem P5 (h:¬gW f<0):lb f=true:=by unfold gW at h;cases hf:lb f with|true=>rfl|false=>rw[hf,ae]at h;exact absurd (by decide) h
def NF (f g:bV):Prop:=lb g=true/\∀i:Nat,(i:Int)=gW f->g.getD i []=f.getD i []
theorem adD {g:bV}(h:¬gW f<0)(k:NF f g):¬gW g<0/\TT f<=TT g/\0<=TT f:=by
 have hf:=P5 h;obtain⟨k1,k2⟩:=k;unfold gW at h k2;rw[hf,ah]at h k2;unfold gW TT;rw[k1,ah];by_cases a:ix (f.getD 0 [])<0/\ix (f.getD 1 [])<0;rw[aI a]at h;omega;rw[aK a]at h k2⊢;by_cases b:ix (f.getD 1 [])>ix (f.getD 0 []);rw[aI b]at k2⊢;have e:=k2 1 rfl;rw[e];have n:¬(ix (g.getD 0 [])<0/\ix (f.getD 1 [])<0):=by omega
 rw[aK n,aK n];split<;>refine⟨by omega,by omega,by omega⟩;rw[aK b]at k2⊢;have e:=k2 0 rfl;rw[e];have n:¬(ix (f.getD 0 [])<0/\ix (g.getD 1 [])<0):=by omega
 rw[aK n,aK n];split<;>refine⟨by omega,by omega,by omega⟩
theorem Ug (h:lb f=true){k:Int}(hk:0<=k/\k<=1)(hs:s.length=96):lb (f.set k.toNat s)=true/\∀i:Nat,(i:Int)≠k->(f.set k.toNat s).getD i []=f.getD i []:=by obtain⟨e,h0,h1⟩:=yR h;refine⟨?_,λi hi=>?_⟩;rw[e];rcases(by omega:k=0\/k=1)with rfl|rfl;unfold lb;show((((2:Nat):Int)==2)&&(((s.length:Int)==96)&&(((f.getD 1 []).length:Int)==96)))=true;rw[hs,h1];rfl;unfold lb;show((((2:Nat):Int)==2)&&((((f.getD 0 []).length:Int)==96)&&((s.length:Int)==96)))=true;rw[hs,h0];rfl;rw[bu,bu,aR (by omega)]
theorem amn {l:Bytes}{i j:Int}(h0:0<=i)(h1:i<=j)(h2:j<=(l.length:Int)):∃s,sub l i j=some s:=by unfold sub;rw[aI ⟨h0,h1,h2⟩];exact⟨_,rfl⟩
theorem aoM (h:¬ix s<0):12<=s.length:=by unfold ix at h;split at h;omega;exact absurd (by decide) h
def TQ (a b:cE):Prop:=∀(i:Nat)(h:Host),b.1[i]?=some h->∃h0,a.1[i]?=some h0/\S0 h0 h
theorem TQ.refl (a:cE):TQ a a:=λi h e=>⟨h,e,S0.refl h⟩
theorem TQ.trans {a b:cE}(h:TQ a b)(g:TQ b c):TQ a c:=by intro i x e;obtain⟨y,e1,s1⟩:=g i x e;obtain⟨w,e2,s2⟩:=h i y e1;exact⟨w,e2,s2.trans s1⟩
theorem ade (g:gD n c):gD n (c.1,c.2.1.map (OV 1),c.2.2):=by refine Zg g (dB n) (bw ..) (λi hi=>?_) λf hf=>?_;have q:=((Lh.1 g.fns).2 i hi).1;rw[bN hi]at q⊢;rw[bN (by rw[bw];exact hi),List.getElem_map];have w:=uZ.1 q;exact⟨rfl,rfl,uZ.2 ⟨w.1,w.2.1,Ji w.2.2.1 1,w.2.2.2.1,w.2.2.2.2⟩⟩;obtain⟨x,hx,rfl⟩:=dH.1 hf;exact g.QP x hx
theorem ae6 {M:Nat}(hN:N<=M)(z:CK N c){f:Host->Host}(hf:∀h∈c.1,Dz M (f h)):CK M (c.1.map f,c.2):=by have z':=z.mono hN;refine⟨⟨⟨by show(c.1.map f).length<=M;rw[bw];exact z'.z.1.1,λx hx=>?_⟩,z'.z.2⟩,λx hx=>?_⟩;obtain⟨h,hh,rfl⟩:=dH.1 hx;exact(hf h hh).z;obtain⟨h,hh,rfl⟩:=dH.1 hx;exact hf h hh
theorem aoC (x:gE):Ends (uc x) λb=>b=true->(0<=x.2.1/\x.2.1<=1)/\(x.1=0\/(x.2.2.2.length<=8/\0<=x.2.2.1/\x.2.2.1+(x.2.2.2.length:Int)<=96)):=by
 unfold uc;simp only[cn,ab];refine Ends.cond (λ_=>Ends.pure (by simp)) λk=>?_;have k1:cY x.2.1 0 1=true:=by simpa using k
 have k1:=aX.1 k1;refine Ends.cond (λk2=>?_) λ_=>?_;refine Ends.bind (P:=λ_=>True) (Ends.cond (λ_=>Ends.pure trivial) λ_=>Ends.pure trivial) λz _=>Ends.pure λ_=>⟨k1,Or.inl (by simpa using k2)⟩
 refine Ends.bind (P:=λb=>b=true->x.2.2.2.length<=8/\0<=x.2.2.1/\x.2.2.1+(x.2.2.2.length:Int)<=96) (Ends.cond (λ_=>Ends.cond (λk3=>Ends.pure λk4=>?_) λ_=>Ends.pure (by simp)) λ_=>Ends.pure (by simp)) λz hz=>Ends.pure λhb=>⟨k1,Or.inr (hz hb)⟩
 have k3:=aX.1 k3;rw[aj (n:=96-(x.2.2.2.length:Int))]at k4;have k4:=aX.1 k4;omega
theorem YI (h:lb f=true)(x:gE)(part:Int)(hp:part<=1000):Ends (lF f x part) λg=>lb g=true/\∀i:Nat,(i:Int)≠x.2.1->g.getD i []=f.getD i []:=by
 obtain⟨e,h0,h1⟩:=yR h;have hl:f.length=2:=by rw[e];rfl
 have same:lb f=true/\∀i:Nat,(i:Int)≠x.2.1->f.getD i []=f.getD i []:=⟨h,λ_ _=>rfl⟩
 unfold lF;refine Ends.room (by simp;omega) ?_;rw[IY,ab,h];simp only[ab,bz];refine Ends.bind (P:=λb=>b=false->((0<=x.2.1/\x.2.1<=1)/\(x.1=0\/(x.2.2.2.length<=8/\0<=x.2.2.1/\x.2.2.1+(x.2.2.2.length:Int)<=96)))/\0<=part) ?_ λz hz=>?_;refine Ends.cond (λk=>by simp at k) λ_=>(aoC x).bind λb hb=>Ends.cond (λ_=>Ends.pure (by simp)) λk2=>Ends.pure λk3=>⟨hb (by simpa using k2),?_⟩
 have:=dy k3;omega;refine Ends.cond (λ_=>Ends.pure same) λk=>?_;obtain⟨⟨hb,hx⟩,hp0⟩:=hz k;have hbl:x.2.1.toNat<f.length:=by omega
 have hlen:∀(i:Nat)(hi:i<f.length),f[i].length=96:=by intro i hi;have e0:f[0]'(by omega)=f.getD 0 []:=(bN (by omega) _).symm;have e1:f[1]'(by omega)=f.getD 1 []:=(bN (by omega) _).symm;rcases(by omega:i=0\/i=1)with rfl|rfl;rw[e0];exact h0;rw[e1];exact h1
 refine Ends.idx hb.1 (by omega) λhi=>?_;have h96:=hlen _ hi;refine Ends.cond (λ_=>?_) λk0=>?_;refine(IT (if 96<part then 96 else part) 255 (by split<;>omega) (by split<;>omega)).bind λr5 p5=>?_;rw[Ae _ _ _,ab];exact Ends.idx hb.1 (by omega) λ_=>Ends.idx hb.1 (by omega) λ_=>Ends.pure (Ug h hb (by rw[xS];exact h96));have hx:=hx.resolve_left (by simpa using k0);refine Ends.vo (λy=>y.1.length=96/\0<=y.2/\y.2<=(x.2.2.2.length:Int)) (λy=>((x.2.2.2.length:Int)-y.2).toNat) ⟨h96,by simp,by simp⟩ (by simp;omega) λy ny hy hn=>?_;unfold uT;refine Ends.cond (λk1=>?_) λ_=>Ends.idx hb.1 (by omega) λ_=>Ends.idx hb.1 (by omega) λ_=>Ends.pure (Ug h hb hy.1);have k1:=br k1;have k2:y.2<(x.2.2.2.length:Int):=by split at k1<;>omega
 have hy1:=hy.1;rw[aj (n:=y.2+1),aj (n:=x.2.2.1+y.2)];refine Ends.idx (by omega) (by omega) λ_=>Ends.idx hy.2.1 k2 λ_=>?_;rw[Ae _ _ _,ab];exact hn _ ⟨by show(yG _ _ _).length=96;rw[xS];exact hy.1,by show 0<=y.2+1;omega,by show y.2+1<=_;omega⟩ (by show((x.2.2.2.length:Int)-(y.2+1)).toNat<((x.2.2.2.length:Int)-y.2).toNat;omega)
theorem Ov {k0:aw gE->Int->az (aw gE)}{Q:aw gE->Prop}(hs:s.length<=96){b:Int}(hk:∀l i,l.length<=100->(∀x∈l,x.2.1=b)->Ends (k0 l i) Q):Ends (bh (kY k0 s b) fuel ([(0,b,0,([]:Bytes))],8)) Q:=by refine Ends.vo (λy=>8*(y.1.length:Int)<=y.2/\8<=y.2/\y.2<=104/\∀x∈y.1,x.2.1=b) (λy=>(104-y.2).toNat) ⟨by simp,by simp,by simp,by simp⟩ (by simp) λy ny hy hn=>?_;unfold kY;refine Ends.cond (λk=>?_) λ_=>hk _ _ (by have:=hy.1;have:=hy.2.2.1;omega) hy.2.2.2;have k:=br k;have h1:=hy.1;have h2:=hy.2.1;rw[aj (n:=y.2+8)];obtain⟨t,et⟩:=amn (l:=s) (i:=y.2) (j:=if y.2+8<(s.length:Int) then y.2+8 else(s.length:Int)) (by omega) (by split<;>omega) (by split<;>omega);rw[et,ab];refine Ends.room (by simp;omega) (hn _ ⟨by show 8*((y.1++[_]).length:Int)<=y.2+8;simp;omega,by show 8<=y.2+8;omega,by show y.2+8<=104;omega,?_⟩ (by show(104-(y.2+8)).toNat<(104-y.2).toNat;omega));intro x hx;rcases aA.1 hx with hx|hx;exact hy.2.2.2 x hx;rw[bI.1 hx]
theorem aiV (hs:s.length<=1000):Ends (uw f s) λl=>l.length<=101/\∀x∈l,x.2.1≠gW f:=by
 unfold uw;rw[IY,ab];refine Ends.bind (P:=λb=>b=false->lb f=true/\s.length<=96/\12<=s.length) ?_ λz hz=>Ends.cond (λ_=>Ends.pure ⟨by simp,by simp⟩) λk=>?_;refine Ends.cond (λ_=>Ends.pure (by simp)) λk1=>Ends.cond (λ_=>Ends.pure (by simp)) λk2=>?_;rw[Mj s,ab];have:=dy k2;exact Ends.pure λk3=>⟨by simpa using k1,by omega,aoM (dy k3)⟩
 obtain⟨hf,hl,h12⟩:=hz k;have fin:∀(l:aw gE)(b:Int),b≠gW f->l.length<=100->(∀x∈l,x.2.1=b)->Ends (aa (sub s 0 8) λx8=>Go.Dn.room (List.length l+List.length [((1,b,0,x8):gE)]) (some (l++[(1,b,0,x8)]))) (λl=>l.length<=101/\∀x∈l,x.2.1≠gW f):=by intro l b hb h1 h2;obtain⟨t,et⟩:=amn (l:=s) (i:=0) (j:=8) (by omega) (by omega) (by omega);rw[et,ab];refine Ends.room (by simp;omega) (Ends.pure ⟨by simp;omega,λx hx=>?_⟩);rcases aA.1 hx with hx|hx;rw[h2 x hx];exact hb;rw[bI.1 hx];exact hb
 rw[L4,ab];refine Ends.cond (λk0=>Ends.room (by simp) ?_) λk0=>Ends.room (by simp) ?_;have e:gW f=0:=by simpa using k0
 exact Ov hl λl i h1 h2=>fin l 1 (by omega) h1 h2;have e:gW f≠0:=by simpa using k0
 exact Ov hl λl i h1 h2=>fin l 0 (by omega) h1 h2
theorem aeS (h:lb f=true){l:aw gE}(hl:l.length<=101)(hb:∀x∈l,x.2.1≠gW f)(n:Int)(hn:n<=1000):Ends (ym f l n 3) (NF f):=by
 have hlen:f.length=2:=by rw[(yR h).1];rfl
 have same:NF f f:=⟨h,λ_ _=>rfl⟩
 have step:∀(g:bV)(i:Nat)(hi:i<l.length)(part:Int),part<=1000->NF f g->Ends (lF g l[i] part) (NF f):=by
  intro g i hi part hp kg;refine(YI kg.1 l[i] part hp).mono λg' hg=>⟨hg.1,λj hj=>?_⟩
  rw[hg.2 j (by rw[hj];exact(hb _ (aB hi)).symm)];exact kg.2 j hj
 unfold ym;refine Ends.room (by simp;omega) ?_;rw[bz];refine Ends.bind (P:=λb=>b=false->0<=n) (Ends.cond (λ_=>Ends.pure (by simp)) λk=>Ends.pure λ_=>by have:=dy k;omega) λz hz=>Ends.cond (λ_=>Ends.pure same) λk=>?_;have h0:=hz k;refine Ends.vo (λy=>0<=y.1/\y.1<=(l.length:Int)/\NF f y.2) (λy=>((l.length:Int)-y.1).toNat) ⟨by simp,by simp,same⟩ (by simp;omega) λy ny hy hm=>?_;unfold yn;refine Ends.bind (P:=λb=>b=true->y.1<(l.length:Int)) (Ends.cond (λk1=>Ends.pure λ_=>br k1) λ_=>Ends.pure (by simp)) λw hw=>Ends.cond (λk2=>?_) λ_=>Ends.pure hy.2.2;have k2:=hw k2;rw[aj (n:=y.1+1)];have nxt:∀g,NF f g->Ends (ny (y.1+1,g)) (NF f):=λg kg=>hm _ ⟨by show 0<=y.1+1;have:=hy.1;omega,by show y.1+1<=_;omega,kg⟩ (by show((l.length:Int)-(y.1+1)).toNat<((l.length:Int)-y.1).toNat;omega);exact Ends.cond (λ_=>Ends.idx hy.1 k2 λhi=>(step y.2 _ hi 96 (by omega) hy.2.2).bind nxt) λ_=>Ends.idx hy.1 k2 λhi=>(step y.2 _ hi 3 (by omega) hy.2.2).bind nxt
theorem X4 {k:od}(h:rb k=true):Ends (rQ k 1) λr=>rb r=true:=by unfold rQ;rw[FB,ab,h,cn];simp only[al,ae,ab];refine Ends.cond (λ_=>Ends.pure h) λ_=>Ends.ifn (by decide) ?_;unfold Gy;rw[ab];refine Ends.ifn (by decide) ?_;rw[FB,ab];exact Ends.cond (λ_=>Ends.pure h) λk2=>Ends.pure (by simpa using k2)
theorem aaV (K:Int->cE->az R)(b4:cE)(hs:aw Host)(Y X:aw aE×aw bF×bV×od×bQ×bV)(hl:hs.length<=1000)(z:∀h∈hs,Dz 90000000 h):bh (mA K (hs,Y) b4) fuel (0,hs,X)=K (hs.length:Int) (hs.map xV,X):=by refine cK (λi=>((i:Int),C4 xV hs i,X)) hs.length (by omega) (λi nx hi=>?_) (λnx=>?_);simp only[mA,CC];have zh:=z _ (aB hi);rw[iH,Fm _ hi,bc hi,aj];simp only[ah,ab,JP _ (zh.sz) (zh.z.mono),ax];rw[<-Fo _ hi];rfl;simp only[mA,CC];rw[cD,ae,Fl]
theorem aeR (K:Int->cE->az R)(b4:cE)(hs:aw Host)(Y X:aw aE×aw bF×bV×od×bQ×bV)(hl:hs.length<=1000)(z:∀h∈hs,Dz 90000000 h):bh (mB K (hs,Y) b4) fuel (0,hs,X)=K (hs.length:Int) (hs.map Bi,X):=by refine cK (λi=>((i:Int),C4 Bi hs i,X)) hs.length (by omega) (λi nx hi=>?_) (λnx=>?_);simp only[mB,CC];have zh:=z _ (aB hi);rw[iH,Fm _ hi,bc hi,aj];simp only[ah,ab,abr _ (zh.sz) (zh.z.mono),ax];rw[<-Fo _ hi];rfl;simp only[mB,CC];rw[cD,ae,Fl]
def aoR (n:Int)(N:Nat)(c:cE)(r:cE):Prop:=gD (n+14000000) r/\CK (N+645000) r/\r.1.length=c.1.length
theorem acM {a:cS}(hn:n<=10000000000)(hN:1000<=N/\N<=50000000)(g:gD n c)(z:CK N c)(ha:qh (c.1.length:Int) a):Ends (Ej c a) (λr=>aoR n N c r.1):=by
 have p:=lE g.mq;have hlen:=g.len;have z9:cB 1000000000 sq c:=z.z.mono;have gh:∀h∈c.1,Good n h:=by intro h hh;obtain⟨i,hi⟩:=List.getElem?_of_mem hh;exact g.at hi
 have zh:∀h∈c.1,Dz 90000000 h:=λh hh=>(z.h h hh).mono;have same:aoR n N c c:=⟨g.mono,z.mono,rfl⟩
 unfold Ej;rw[tV c z9,ab,FA c (z.sz),g.ok (by omega),ab];simp only[afZ,ha.ok,cn,ab,al,ae];rw[aq (show¬a.2.1<0 by have:=ha.fn.1;omega),aq (show¬a.2.1>=(c.1.length:Int) by have:=ha.fn.2;omega),aX.2 ha.kind,aX.2 ha.part];simp only[al,ae,ab];obtain⟨k,hk⟩:∃k:Nat,a.2.1=k:=⟨a.2.1.toNat,by have:=ha.fn.1;omega⟩
 have Td:=ha.fn;rw[hk]at Td;have SQ:k<c.1.length:=by omega
 have Zq:k<c.2.2.1.length:=by omega
 refine Ends.cond (λk1=>?_) λk1=>?_;rw[Pf c _ _ (z.z.mono) (z.sz) (by have:=ha.msg.2;omega),ab,hk];have hb:=ak Zq;by_cases e1:a.2.2.2.1.1=c.2.2.1[k].2.1+1;obtain⟨h,b',eh,e2,_,_,e5,e6⟩:=Ym g (by omega) hb (m:=a.2.2.2.1) e1;have pb:=lE e5;have hml:b'.1.2.2.length<=8:=C3 (pb.2.2.2.1 b' (aU (cw Zq)));rw[e2];exact Ends.pure ⟨e6.mono,(arE (by omega) z eh hml).mono,ay ..⟩;have e2:∃x,jw c.2.2.1 k a.2.2.2.1=(c.2.2.1,x):=by by_cases e3:a.2.2.2.1.1=c.2.2.1[k].2.1;exact⟨_,P9 g.mq hb e3⟩;exact⟨_,NI g.mq hb e3 e1⟩
 obtain⟨x,e2⟩:=e2;rw[Yn g (by omega) hb e2];exact Ends.pure same;refine Ends.cond (λk2=>?_) λk2=>?_;have hf:=P5 g.MI;refine(aiV (f:=c.2.2.2.1) (s:=a.2.2.2.2.1) (by have:=ha.img;omega)).bind λr6 p6=>(aeS hf p6.1 p6.2 a.2.2.2.2.2 (by have:=ha.part;omega)).bind λf' p7=>?_;have b:=adD g.MI p7;show Ends (bh (mA _ (c.1,c.2) _) fuel (0,c.1,_)) _;rw[aaV _ _ c.1 _ _ (by omega) zh,aiw (show lb f'=true from p7.1),ab];have gm:=Uq g (show n<=n+640 by omega) (f:=xV) (λh q=>QS (by omega) q) Ui;have zm:=ae6 (M:=N+645000) (by omega) z (f:=xV) λh hh=>(Nj (by omega) (z.h h hh) (acT ((gh h hh).ok (by omega)))).1;obtain⟨fe,f0,f1⟩:=yR p7.1;have fz:cB (N+645000) (.sl .str) f':=by rw[fe];refine⟨by show 2<=N+645000;omega,λx hx=>?_⟩;rcases bZ.1 hx with e|hx;rw[e];show(f'.getD 0 []).length<=_;omega;rw[bI.1 hx];show(f'.getD 1 []).length<=_;omega
 refine Ends.pure ⟨?_,⟨⟨zm.z.1,zm.z.2.1,zm.z.2.2.1,fz,zm.z.2.2.2.2⟩,zm.h⟩,bw ..⟩;have q:=gm.mono (show n+640<=n+14000000 by omega);exact⟨q.mq,q.len,q.fns,b.1,q.clock,q.host,q.place,q.FJ,q.QP⟩;have ac:=ha.act;have bound:=ac.2.1;refine Ends.cond (λk3=>?_) λk3=>?_;rw[aer c _ (z.mono),ab];have zt:=(ab1 hN.1 a.2.1 z).1;exact Ends.pure ⟨anD (by omega) g _,zt.mono,(aoc c a.2.1).len⟩;refine Ends.cond (λk4=>?_) λk4=>?_;rw[Pg c _ (z.mono) (by omega),ab];have zr:=aaS hN.1 a.2.2.1.2.2.2.2.1 z;exact Ends.pure ⟨(Ta (by omega) g _).mono,zr.1.mono,zr.2⟩;refine Ends.cond (λk5=>?_) λk5=>?_;show Ends (bh (mB _ (c.1,c.2) _) fuel (0,c.1,c.2)) _;rw[aeR _ _ c.1 _ _ (by omega) zh];rw[abt c.2.1 1 (by omega),ab];refine(X4 g.clock).bind λr24 p24=>Ends.pure ?_;have gm:=Uq (ade g) (show n<=n by omega) (f:=Bi) (λh q=>Uv q) YP;have zm:=ae6 (M:=N+645000) (by omega) z (f:=Bi) λh hh=>(abz hN.1 (z.h h hh)).mono;have q:=gm.mono (show n<=n+14000000 by omega);refine⟨⟨q.mq,q.len,q.fns,q.MI,p24,q.host,q.place,q.FJ,q.QP⟩,⟨⟨zm.z.1,⟨?_,λ_ _=>⟨cq,cq,⟨cq,cq,cq⟩,cq,cq,cq⟩⟩,zm.z.2.2.1,zm.z.2.2.2.1,⟨cq,cq,cq,cq⟩,zm.z.2.2.2.2.2⟩,zm.h⟩,bw ..⟩;show(c.2.1.map (OV 1)).length<=_;rw[bw];exact zm.z.2.1.1;rw[hk,bc SQ,ab];have zk:=z.h _ (aB SQ);rw[aix _ _ (zk.mono) (by omega),ab,ab,ab];have hg:=ak SQ;have uU:=(ajj hN.1 a.2.2.1 zk (acT ((g.at hg).ok (by omega)))).1;exact Ends.pure ⟨(MR g (show n<=n+641 by omega) hg (akH (by omega) (g.at hg) a.2.2.1) (anz ..)).mono,L1 (z.mono) uU,ay ..⟩
theorem aaZ {c0:cE}(d:EZ c0){l:aw cS}(hl:l.length<=40)(ha:∀a∈l,qh (c0.1.length:Int) a):Ends (Ce c0 l) λr=>r.2.length=l.length:=by
 have z0:=Qc d;have g0:=d.akG;unfold Ce;rw[tV c0 (z0.z.mono),ab,FA c0 (z0.sz),g0.ok (by omega),ab];simp only[al,ae,ab];rw[cD,ae];refine Ends.vo (λx=>0<=x.2.1/\x.2.1<=(l.length:Int)/\(x.1.length:Int)=x.2.1/\gD (4+14000000*(x.2.1.toNat:Int)) x.2.2/\CK (2000+645000*x.2.1.toNat) x.2.2/\x.2.2.1.length=c0.1.length) (λx=>((l.length:Int)-x.2.1).toNat) ⟨by simp,by simp,by simp,g0.mono,z0.mono,rfl⟩ (by simp;omega) λx nx hx hn=>?_;obtain⟨q,i,c⟩:=x;obtain⟨x1,x2,x3,x4,x5,x6⟩:=hx;simp only at x1 x2 x3 x4 x5 x6;obtain⟨i,rfl⟩:∃k:Nat,i=k:=⟨i.toNat,by omega⟩
 rw[ax]at x4 x5;unfold Bv;refine Ends.cond (λk=>?_) λk=>?_;have k:=br k;simp only at k⊢;have hi:i<l.length:=by omega
 rw[bc hi,ab];refine(acM (by omega) ⟨by omega,by omega⟩ x4 x5 (by rw[x6];exact ha _ (aB hi))).bind λr p=>Ends.room (by simp;omega) ?_;obtain⟨p1,p2,p3⟩:=p;rw[aj (n:=(i:Int)+1)];have e:((i:Int)+1).toNat=i+1:=by omega
 refine hn _ ⟨by show 0<=(i:Int)+1;omega,by show(i:Int)+1<=_;omega,by show((q++[_]).length:Int)=(i:Int)+1;simp;omega,?_,?_,p3.trans x6⟩ (by show((l.length:Int)-((i:Int)+1)).toNat<((l.length:Int)-(i:Int)).toNat;omega);show gD (4+14000000*(((i:Int)+1).toNat:Int)) r.1;rw[e];exact p1.mono (by push_cast;omega);show CK (2000+645000*((i:Int)+1).toNat) r.1;rw[e];exact p2.mono;have k:=dy k;simp only at k⊢;exact Ends.pure (by show q.length=l.length;omega)
def aeX:cS:=(0,0,axP,(0,0,0),([]:Bytes),0)
def Bu (l:aw cS)(v:bQ)(w:cm):Nat->cm
 |0=>w
 |i+1=>sD (Bu l v w i) (l.getD i aeX) (v.getD i 0)
theorem LY {l:aw cS}{v:bQ}{w:cm}(h:O0 N w):∀i,O0 (N+412542*i) (Bu l v w i)
 |0=>h
 |i+1=>by have:=Wp (a:=l.getD i aeX) (v:=v.getD i 0) (LY (l:=l) (v:=v) h i);rw[show N+412542*(i+1)=N+412542*i+412542 by omega];exact this
theorem al1 (l:aw cS)(v:bQ)(w:cm):∀i,(Bu l v w i).1.length=w.1.length/\(Bu l v w i).2.1.length=w.2.1.length/\(Bu l v w i).2.2.2.1.length=w.2.2.2.1.length
 |0=>⟨rfl,rfl,rfl⟩
 |i+1=>by have h1:=acN (Bu l v w i) (l.getD i aeX) (v.getD i 0);have h2:=al1 l v w i;exact⟨h1.1.trans h2.1,h1.2.1.trans h2.2.1,h1.2.2.trans h2.2.2⟩
def zb (w:cm)(l:aw cS)(v:bQ):cm:=
 bif !sL w||(decide ((l.length:Int)>40)||((v.length:Int) !=(l.length:Int))) then w else Bu l v w l.length
theorem F2 (w:cm)(l:aw cS)(v:bQ)(h:O0 63000000 w)(hl:cB 1000000000 (.sl eo) l):qU w l v=some (zb w l v):=by
 obtain⟨n,_,z,_⟩:=id h;have z9:cB 1000000000 fT w:=z.mono;unfold qU zb;simp only[zH w z9,IK w (FY z9),ab];cases sL w;rfl;by_cases h40:(l.length:Int)>40;rw[au h40];rfl;rw[aq h40];cases hv:((v.length:Int) !=(l.length:Int));case true=>rfl
 have hv:v.length=l.length:=by simp at hv;omega
 simp only[al,ae,ab,cc];refine cK (λi=>((i:Int),Bu l v w i)) l.length (by omega) (λi nx hi=>?_) (λnx=>?_);have hvi:i<v.length:=by omega
 simp only[tG];rw[iH,bc hi,bc hvi,aj];simp only[ah,ab,ZG _ l[i] v[i] _ (LY (l:=l) (v:=v) h i) (by omega) (hl.2 _ (aB hi)),Bu,bN hi,bN hvi];rfl;simp only[tG];rw[cD,ae]
theorem ap4 {a:bQ}{k:Bool->az Bool}(ht:k true=some true)(hk:a.length<=1048576->Ends (k false) (λb=>b=true)):Ends (aa (LF a) k) (λb=>b=true):=by unfold LF;rw[ab];by_cases h:((a.length:Int))>1048576;rw[au h,ht];exact Ends.pure rfl;rw[aq h];exact hk (by omega)
theorem Ends.true {o:az Bool}(h:Ends o (λb=>b=true)):o=some true:=by obtain⟨x,h1,rfl⟩:=h;exact h1
theorem HZ (l:bV)(h:l.length<=10^9):sQ l l=some true:=by refine Ends.true ?_;unfold sQ;rw[bne_self_eq_false,ae];refine Ends.vo (λx=>0<=x/\x<=(l.length:Int)) (λx=>((l.length:Int)-x).toNat) ⟨by omega,by omega⟩ (by omega) λx nx hx hn=>?_;unfold xL;refine Ends.cond (λk=>?_) λ_=>Ends.pure rfl;have k:=br k;refine Ends.idx hx.1 k λ_=>Ends.idx hx.1 k λ_=>?_;rw[gG,al,ae,aj];exact hn _ ⟨by omega,by omega⟩ (by omega)
theorem Nq (l:aw Stream)(h:l.length<=10^9):tQ l l=some true:=by refine Ends.true ?_;unfold tQ;rw[bne_self_eq_false,ae];refine Ends.vo (λx=>0<=x/\x<=(l.length:Int)) (λx=>((l.length:Int)-x).toNat) ⟨by omega,by omega⟩ (by omega) λx nx hx hn=>?_;unfold uP;refine Ends.cond (λk=>?_) λ_=>Ends.pure rfl;have k:=br k;refine Ends.idx hx.1 k λ_=>Ends.idx hx.1 k λ_=>?_;simp only[gG,bW,al,ae];rw[aj];exact hn _ ⟨by omega,by omega⟩ (by omega)
theorem asj {a:bQ}(ha:ags (.sl (.int .u8)) a)(hl:a.length<=1048576){i:Int}(h0:0<=i)(h1:i<=1000000):Ends (PA a i) λx=>0<=x/\x<=255:=by
 unfold PA;refine Ends.cond (λ_=>Ends.pure ⟨dB _,by omega⟩) λk=>?_;have k:((a.length:Int))≠0:=by simpa using k
 have m1:=Int.tmod_nonneg (a.length:Int) (a:=i*5+1) (by omega);have m2:=Int.tmod_lt_of_pos (i*5+1) (b:=(a.length:Int)) (by omega);rw[aj (n:=i*5),aj (n:=i*5+1)];refine Ends.ifn k (Ends.idx m1 m2 λhi=>Ends.pure ?_);have hx:0<=a[(Int.tmod (i*5+1) (a.length:Int)).toNat]/\a[(Int.tmod (i*5+1) (a.length:Int)).toNat]<=255:=ha.2 _ (aB hi);rw[aj];exact hx
theorem Us {l:aw cS}{v:bQ}{w:cm}(g:ij 4 w)(h:O0 3000 w):∀i:Nat,i<=40->ij (4+90000000*(i:Int)) (Bu l v w i)
 |0,_=>g.mono
 |i+1,hi=>by obtain⟨n,_,z,hn⟩:=LY (l:=l) (v:=v) h i;have q:=Wy (by omega) (Us (l:=l) (v:=v) g h i (by omega)) (z.mono) (l.getD i aeX) (v.getD i 0);exact q.mono (by push_cast;omega)
theorem Um {l:aw α}(h:i<k)(d:α):(l.take k).getD i d=l.getD i d:=by rw[bu,bu,dV h]
theorem Ul (l:aw α)(k i:Nat)(d:α):(l.drop k).getD i d=l.getD (k+i) d:=by rw[bu,bu,bS]
theorem Vj (l:aw cS)(v:bQ)(w:cm)(k:Nat):∀i,i<=k->Bu (l.take k) (v.take k) w i=Bu l v w i
 |0,_=>rfl
 |i+1,h=>by rw[Bu,Bu,Vj l v w k i (by omega),Um (by omega),Um (by omega)]
theorem Vi (l:aw cS)(v:bQ)(w:cm)(k:Nat):∀j,Bu (l.drop k) (v.drop k) (Bu l v w k) j=Bu l v w (k+j)
 |0=>rfl
 |j+1=>by rw[Bu,Vi l v w k j,Ul,Ul];rfl
theorem HX {w:cm}(g:ij n w){l:aw cS}{v:bQ}(hl:l.length<=40)(hv:v.length=l.length):zb w l v=Bu l v w l.length:=by unfold zb;rw[g.ok,cD,hv,bne_self_eq_false];rfl
theorem afL {l:aw α}(h:k<=l.length):sub l 0 (k:Int)=some (l.take k)/\sub l (k:Int) (l.length:Int)=some (l.drop k):=by unfold sub;rw[aI ⟨dB _,by omega,by omega⟩,aI ⟨by omega,by omega,dB _⟩];simp
theorem O8 (a:bQ)(ha:ags (.sl (.int .u8)) a):xK a=some true:=by
 refine Ends.true ?_;unfold xK;refine ap4 rfl λhl=>?_;rw[ae];refine(am6 hl).bind λr2 p2=>?_;obtain⟨c,l⟩:=r2;simp only at p2⊢;obtain⟨d,hn,asm⟩:=p2;have zc:=Qc d;obtain⟨g0,z0,n0,u0,q0⟩:=aha d;refine(aaZ d (by omega) asm).bind λr3 p3=>(asj ha hl (i:=0) (by omega) (by omega)).bind λr4 p4=>?_;obtain⟨c',v⟩:=r3;simp only at p3⊢;rw[aj (n:=(l.length:Int)+1)];refine Ends.ifn (by omega) ?_;have k0:=Int.tmod_nonneg ((l.length:Int)+1) p4.1;have k1:=Int.tmod_lt_of_pos r4 (b:=(l.length:Int)+1) (by omega);obtain⟨k,hk⟩:∃k:Nat,Int.tmod r4 ((l.length:Int)+1)=k:=⟨(Int.tmod r4 ((l.length:Int)+1)).toNat,by omega⟩
 rw[hk]at k1⊢;have SQ:k<=l.length:=by omega
 have hkv:k<=v.length:=by omega
 have sl:=afL SQ;have sv:=afL hkv;rw[ZJ c (zc.z.mono) (zc.sz),ab];generalize qn c=w at g0 z0 n0 u0 q0⊢;have hI:O0 3000 w:=⟨2000,by omega,z0,by rw[q0];simp⟩
 have hA:cB 1000000000 (.sl eo) l:=⟨by omega,λx hx=>by have q:=asm x hx;have q1:=q.act.1;have q2:=q.act.2.1;have q3:=q.img;exact⟨cq,cq,⟨cq,⟨cq,cq,cq,cq,cq,cq,cq,cq,cq,cq,cq,cq,cq,cq,cq,by show List.length _<=_;omega⟩,cq,cq,by show List.length _<=_;omega,cq⟩,⟨cq,cq,cq⟩,by show List.length _<=_;omega,cq⟩⟩
 have hI2:∀i,i<=40->O0 63000000 (Bu l v w i):=λi hi=>by obtain⟨n,e1,z,e2⟩:=LY (l:=l) (v:=v) hI i;exact⟨n,e1,z,by omega⟩
 have hG:=λ(i:Nat) (hi:i<=40)=>Us (l:=l) (v:=v) g0 hI i hi;have hT:cB 1000000000 (.sl eo) (l.take k):=⟨by rw[aP];omega,λx hx=>hA.2 x (List.mem_of_mem_take hx)⟩
 have hD:cB 1000000000 (.sl eo) (l.drop k):=⟨by rw[aS];omega,λx hx=>hA.2 x (List.mem_of_mem_drop hx)⟩
 have e1:zb w l v=Bu l v w l.length:=HX g0 (by omega) p3;have e2:zb w (l.take k) (v.take k)=Bu l v w k:=by rw[HX g0 (by rw[aP];omega) (by rw[aP,aP];omega),Vj _ _ _ _ _ (by rw[aP];omega),aP,ju SQ]
 have e3:zb (Bu l v w k) (l.drop k) (v.drop k)=Bu l v w l.length:=by rw[HX (hG k (by omega)) (by rw[aS];omega) (by rw[aS,aS];omega),Vi,aS,show k+(l.length-k)=l.length by omega]
 rw[F2 w l v (hI2 0 (by omega)) hA,ab,ab,sl.1,ab,sv.1,ab,F2 w _ _ (hI2 0 (by omega)) hT,ab,sl.2,ab,sv.2,ab,e2,F2 _ _ _ (hI2 k (by omega)) hD,ab,e1,e3];obtain⟨m,_,z,hm⟩:=hI2 l.length (by omega);have gR:=hG l.length (by omega);have nR:=(al1 l v w l.length).1;generalize Bu l v w l.length=R at z gR nR⊢;have z9:cB 63000000 fT R:=z.mono;have pn:=LR gR.ok;have hu:R.2.2.2.2.length<=10^9:=bp z9.2.2.2.2.1 (by omega);rw[bne_self_eq_false,ae,HZ _ hu,ab];simp only[al,ae,ab,bne_self_eq_false];refine Ends.vo (λy=>0<=y/\y<=(R.1.length:Int)) (λy=>((R.1.length:Int)-y).toNat) ⟨by simp,by simp⟩ (by simp;omega) λy ny hy hm2=>?_;unfold rh;refine Ends.cond (λk2=>?_) λ_=>?_;have k2:=br k2;obtain⟨j,rfl⟩:∃k:Nat,y=k:=⟨y.toNat,by have:=hy.1;omega⟩
 have h1:j<R.1.length:=by omega
 have h2:j<R.2.1.length:=by omega
 have h3:j<R.2.2.1.length:=by omega
 have hs:=(z9.1.2 _ (aB h1)).2.2.2.1.1;have hq:R.2.1[j].length<=63000000:=(z9.2.1.2 _ (aB h2)).1;simp only[bc h1,bc h2,bc h3,ab,Nq _ (show R.1[j].2.2.2.1.length<=10^9 by omega),HZ _ (show R.2.1[j].length<=10^9 by omega),al,ae,gG,bW];rw[aj];exact hm2 _ ⟨by omega,by omega⟩ (by omega);rw[IK R (FY (z9.mono)),gR.ok,ab,ah,nR,n0,gG];exact Ends.pure rfl
end
end Go.Pu
