import Derived.KernelRfl
import Derived.Test.YtinkcmefgciifaaGreatPure
import Derived.Test.YtinkcmefgciifaaGreatPuX1
namespace Go.Pu
open Go.Dn
open Int (tmod)
set_option linter.unusedSimpArgs false
set_option linter.unusedVariables false
noncomputable section
variable {x:Bytes} {h:Host} {a b d:Int} {i k n s:Nat} {p:aP} {q:bJ} {g:ef} {t:dx} {R α:Type} {l l':ax aB} {m m':bR} {f:bR×bJ} {r:kx}
/- Writes by mappings, and the descriptors of rings. -/
theorem Di (m:bR)(a:Int)(s:Bytes):(me m a s).1.length=m.length:=by unfold me;cases hw:gD m a (s.length:Int);rfl;simp only[gD,ae,aD]at hw;exact(yj s.length (kF.1 hw.1) (by omega)).2
def E4:ax (Int×Int)->bR->Bytes->bR
 |[],m,_=>m
 |p::q,m,s=>E4 q (me m p.1 (s.take p.2.toNat)).1 (s.drop p.2.toNat)
theorem S9:∀(q:ax (Int×Int))(m:bR)(s:Bytes),(E4 q m s).length=m.length
 |[],m,s=>rfl
 |p::q,m,s=>by rw[E4,S9 q,Di]
def Da (q:ax (Int×Int)):Int:=(q.map (·.2)).sum
theorem QB:∀(q:ax (Int×Int)),(∀p∈q,0<=p.2)->0<=Da q
 |[],_=>dW _
 |p::q,h=>by have:=QB q (λx hx=>h x (by simp[hx]));have:=h p (by simp);simp only[Da,cS,List.sum_cons]at*;omega
theorem Td {p:Int×Int}{q:ax (Int×Int)}(hc:∀x∈p::q,0<=x.2){s:Bytes}(hs:(s.length:Int)=Da (p::q)):0<=p.2/\p.2<=(s.length:Int)/\((s.drop p.2.toNat).length:Int)=Da q:=by
 have h1:=hc p (by simp);have h2:=QB q (λx hx=>hc x (by simp[hx]));have h3:Da (p::q)=p.2+Da q:=by simp[Da]
 rw[h3]at hs;refine⟨h1,by omega,?_⟩;rw[aM];omega
theorem Ov {s:Bytes}{c:Int}(h0:0<=c)(h1:c<=(s.length:Int)):sub s 0 c=some (s.take c.toNat):=by unfold sub;rw[zip];simp
theorem TI {s:Bytes}{c:Int}(h0:0<=c)(h1:c<=(s.length:Int)):sub s c (s.length:Int)=some (s.drop c.toNat):=by unfold sub;rw[zip];simp
theorem II (K:Bytes->Int->bR->ay (bR×Bool))(hK:∀s i m,K s i m=some (m,true)):∀(rest pre:ax (Int×Int))(m:bR)(s:Bytes)(f:Nat),rest.length<f->pre.length+rest.length<=1000000->(∀x∈rest,0<=x.2)->(s.length:Int)=Da rest->m.length<=10^9->s.length<=1000000->
 ba (wI K (pre++rest) ((pre++rest).length:Int) ([]:bR)) f (s,(pre.length:Int),m)=some (E4 rest m s,true)
 |rest,pre,m,s,0,hf,_,_,_,_,_=>by omega
 |[],pre,m,s,f+1,_,_,_,_,_,_=>by rw[ba];simp only[wI];rw[au (by simp),af,hK];rfl
 |p::q,pre,m,s,f+1,hf,hn,hc,hs,hm,hl=>by
  obtain⟨h1,h2,h3⟩:=Td hc hs;simp only[bz]at hf hn;have hi:pre.length<(pre++p::q).length:=by simp
  have hp:(pre++p::q)[pre.length]=p:=by simp
  rw[ba];simp only[wI];rw[aw (by simp;omega),bl hi,hp,ak];simp only[ah,ab,Ov h1 h2,TI h1 h2,VP m _ _ hm (show(s.take p.2.toNat).length<=10^9 by rw[aW];omega)];have key:=II K hK q (pre++[p]) (me m p.1 (s.take p.2.toNat)).1 (s.drop p.2.toNat) f (by omega) (by simp;omega) (λx hx=>hc x (by simp[hx])) h3 (by rw[Di];exact hm) (by rw[aM];omega);have el:((pre++[p]).length:Int)=(pre.length:Int)+1:=by simp
  rw[aR,List.singleton_append,el]at key;rw[E4];exact key
theorem I3 (K:Bytes->Int->bR->ay (bR×Bool))(hK:∀s i m,K s i m=some (m,true)):∀(rest pre:ax (Int×Int))(m:bR)(s:Bytes)(f:Nat),rest.length<f->pre.length+rest.length<=1000000->(∀x∈rest,0<=x.2)->(s.length:Int)=Da rest->m.length<=10^9->s.length<=1000000->
 ba (nt K ((pre++rest).map (·.1)) ((pre++rest).map (·.2)) ([]:bR)) f (s,(pre.length:Int),m)=some (E4 rest m s,true)
 |rest,pre,m,s,0,hf,_,_,_,_,_=>by omega
 |[],pre,m,s,f+1,_,_,_,_,_,_=>by rw[ba];simp only[nt];rw[au (by simp),af,hK];rfl
 |p::q,pre,m,s,f+1,hf,hn,hc,hs,hm,hl=>by
  obtain⟨h1,h2,h3⟩:=Td hc hs;simp only[bz]at hf hn;have hi:pre.length<(pre++p::q).length:=by simp
  have hp:(pre++p::q)[pre.length]=p:=by simp
  have i1:idx ((pre++p::q).map (·.1)) (pre.length:Int)=some p.1:=by rw[bl (by simp),List.getElem_map,hp]
  have i2:idx ((pre++p::q).map (·.2)) (pre.length:Int)=some p.2:=by rw[bl (by simp),List.getElem_map,hp]
  rw[ba];simp only[nt];rw[aw (by simp;omega),i1,i2,ak];simp only[ah,ab,Ov h1 h2,TI h1 h2,WZ m _ _ hm (show(s.take p.2.toNat).length<=10^9 by rw[aW];omega)];have key:=I3 K hK q (pre++[p]) (me m p.1 (s.take p.2.toNat)).1 (s.drop p.2.toNat) f (by omega) (by simp;omega) (λx hx=>hc x (by simp[hx])) h3 (by rw[Di];exact hm) (by rw[aM];omega);have el:((pre++[p]).length:Int)=(pre.length:Int)+1:=by simp
  rw[aR,List.singleton_append,el]at key;rw[E4];exact key
theorem E3 (l:ax aB)(m:bR)(d:Int)(w:Bool):∀(n a r:Nat)(q:ax (Int×Int)),r<=n->iP l m d w n a r=some q->Da q=(r:Int)/\(∀p∈q,0<=p.2)/\q.length<=n
 |0,a,r,q,hr,h=>by simp only[iP,bc]at h;subst h;exact⟨by show(0:Int)=_;omega,by simp,by simp⟩
 |n+1,a,r,q,hr,h=>by simp only[iP]at h;split at h;simp only[bc]at h;subst h;exact⟨by show(0:Int)=_;omega,by simp,by simp⟩;split at h;simp only[Option.map_eq_some_iff]at h;obtain⟨q',h1,rfl⟩:=h;obtain⟨i1,i2,i3⟩:=E3 l m d w n _ _ q' (by omega) h1;refine⟨?_,?_,by simp only[bz];omega⟩;simp only[Da,cS,List.sum_cons]at i1⊢;rw[i1];omega;intro p hp;rcases cn.1 hp with rfl|hp;show(0:Int)<=((min (128-a%128) r:Nat):Int);omega;exact i2 p hp;cases h
theorem H7 (l:ax aB)(m:bR)(d a n:Int)(w:Bool)(h:(jU l m d a n w).2=true):Da (jU l m d a n w).1=n/\(∀p∈(jU l m d a n w).1,0<=p.2)/\(jU l m d a n w).1.length<=4096/\n<=4096:=by
 unfold jU at h⊢;cases hB:dj l&&(cx m&&di n 0 4096)with|false=>rw[hB]at h;simp at h|true=>?_
 rw[hB]at h;simp only[ae,bh]at hB;simp only[ah]at h⊢;cases h0:n==0 with
 |true=>
  have:n=0:=by simpa using h0
  subst this;exact⟨rfl,by simp,by simp,by omega⟩
 |false=>rw[h0]at h;simp only[af]at h⊢;cases ha:decide (a<0)with|true=>rw[ha]at h;simp at h|false=>rw[ha]at h;simp only[af]at h⊢;cases hq:iP l m d w n.toNat a.toNat n.toNat with|none=>rw[hq]at h;cases h|some q=>obtain⟨i1,i2,i3⟩:=E3 l m d w _ _ _ q (aS _) hq;exact⟨by simp only;rw[i1];omega,i2,by simp only;omega,by omega⟩
def gy (l:ax aB)(m:bR)(d a:Int)(s:Bytes)(w:Bool):bR×Bool:=
 bif (jU l m d a (s.length:Int) w).2 then(E4 (jU l m d a (s.length:Int) w).1 m s,true) else(m,false)
theorem jR (l:ax aB)(m:bR)(d a:Int)(s:Bytes)(w:Bool):(gy l m d a s w).1.length=m.length:=by unfold gy;cases (jU l m d a (s.length:Int) w).2 with|false=>rfl|true=>exact S9 _ _ _
theorem Sc (l:ax aB)(m:bR)(d a:Int)(s:Bytes)(w:Bool)(hl:l.length<=10^9)(hm:m.length<=10^9)(ha:a<=9223372036854775807):CO l m d a s w=some (gy l m d a s w):=by have B7:=eh;unfold CO gy;rw[fP m,ab,Sd l m d a _ w hl hm ha,ab];have hS:=H7 l m d a (s.length:Int) w;generalize jU l m d a (s.length:Int) w=r at hS⊢;cases hr:r.2;rfl;obtain⟨h1,h2,h3,h4⟩:=hS hr;simp only[aj,af,ah];exact II _ (λ_ _ _=>rfl) r.1 [] m s fuel (by omega) (by simp;omega) h2 h1.symm hm (by omega)
theorem GO (l:ax aB)(m:bR)(d a:Int)(s:Bytes)(hl:l.length<=10^9)(hm:m.length<=10^9)(ha:a<=9223372036854775807):sf l m d a s=some (gy l m d a s true):=by have B7:=eh;unfold sf gy;rw[aaY l m d a _ true hl hm ha,ab,Bs m,ab];have hS:=H7 l m d a (s.length:Int) true;generalize jU l m d a (s.length:Int) true=r at hS⊢;cases hr:r.2;rfl;obtain⟨h1,h2,h3,h4⟩:=hS hr;simp only[aj,af,ah];exact I3 _ (λ_ _ _=>rfl) r.1 [] m s fuel (by omega) (by simp;omega) h2 h1.symm hm (by omega)
theorem Bi (l:ax aB)(m:bR)(d a:Int)(s:Bytes)(hl:l.length<=10^9)(hm:m.length<=10^9)(ha:a<=9223372036854775807):pb l m d a s=some (gy l m d a s true):=by rw[pb,Sc l m d a s true hl hm ha];rfl
def wrM (x:aB):aB:=(x.1,x.2.1,x.2.2.1,true)
theorem getD_map (hi:i<l.length):(l.map wrM).getD i B9=wrM (l.getD i B9):=by rw[ca (by simpa using hi),ca hi,List.getElem_map]
theorem P1 (l:ax aB):dj (l.map wrM)=dj l:=by
 unfold dj;rw[cb];congr 1;rw[cD,aF,aF];have key:∀i,i<l.length->Gp (l.map wrM) i=Gp l i:=by
  intro i hi;unfold Gp;rw[getD_map hi];congr 1;rw[cD,aF,aF];constructor;intro h j hj;have hjl:j<l.length:=by have:=bK.1 hj;omega
  have:=h j hj;rw[getD_map hjl]at this;exact this;intro h j hj;have hjl:j<l.length:=by have:=bK.1 hj;omega
  rw[getD_map hjl];exact h j hj
 constructor;intro h i hi;rw[<-key i (bK.1 hi)];exact h i hi;intro h i hi;rw[key i (bK.1 hi)];exact h i hi
theorem adJ (l:ax aB)(d p:Int):nK (l.map wrM) d p true=nK l d p false:=by
 unfold nK;rw[List.findIdx?_map];have e:(B8 d p true∘wrM)=B8 d p false:=by funext x;simp only[Function.comp,B8,kT,wrM,cg,jF,iH]
 rw[e];cases hf:l.findIdx? (B8 d p false)with|none=>rfl|some i=>obtain⟨hi,_⟩:=List.findIdx?_eq_some_iff_getElem.1 hf;simp only[getD_map hi];rfl
theorem Od (l:ax aB)(m:bR)(d:Int):∀n a r,iP (l.map wrM) m d true n a r=iP l m d false n a r
 |0,a,r=>rfl
 |n+1,a,r=>by simp only[iP,adJ,Od l m d n]
theorem afW (l:ax aB)(m:bR)(d a:Int)(s:Bytes):gy (l.map wrM) m d a s true=gy l m d a s false:=by
 have e:jU (l.map wrM) m d a (s.length:Int) true=jU l m d a (s.length:Int) false:=by simp only[jU,P1,Od]
 simp only[gy,e]
theorem MV (l:ax aB)(m:bR)(d a:Int)(s:Bytes)(hl:l.length<=10^9)(hm:m.length<=10^9)(ha:a<=9223372036854775807):uE l m d a s=some (gy l m d a s false):=by unfold uE;refine eD (λi=>((l.take i).map wrM,(i:Int))) l.length (by omega) (λi nx hi=>?_) (λnx=>?_);simp only[pX];rw[ks,bl hi,ak];simp only[ah,ab];rw[aX (by simp;omega),bL hi,dS];rfl;simp only[pX];rw[cP,af,eo,GO _ m d a s (by rw[cb];exact hl) hm ha,afW];rfl
theorem Ac (l:ax aB)(m:bR)(d a:Int)(s:Bytes)(hl:l.length<=10^9)(hm:m.length<=10^9)(ha:a<=9223372036854775807:=by omega):jr l m d a s=some (gy l m d a s false):=by rw[jr,Sc l m d a s false hl hm ha];rfl
def tn (d:Cd):Bool:=di d.1 0 3&&(di d.2.1 0 3&&(di d.2.2.1 0 65535&&(di d.2.2.2.2.1 0 65535&&(di d.2.2.2.2.2 0 65535&&di d.2.2.2.1 0 4294967295))))
theorem R7 (d:Cd):wF d=some (tn d):=by simp only[wF,df,ab,tn];cases di d.1 0 3<;>cases di d.2.1 0 3<;>cases di d.2.2.1 0 65535<;>cases di d.2.2.2.2.1 0 65535<;>cases di d.2.2.2.2.2 0 65535<;>rfl
theorem ad9 (d:Cd):zO d=some (tn d):=by simp only[zO,ez,ab,tn];cases di d.1 0 3<;>cases di d.2.1 0 3<;>cases di d.2.2.1 0 65535<;>cases di d.2.2.2.2.1 0 65535<;>cases di d.2.2.2.2.2 0 65535<;>rfl
def wD (d:Cd):Bytes:=
 bif tn d then((((aL [gb d.1,gb d.2.1]++bT d.2.2.1)++iY d.2.2.2.1)++bT d.2.2.2.2.1)++bT d.2.2.2.2.2)++iY 0 else []
theorem af6 (d:Cd):sO d=some (wD d):=by have h1:=bF d.2.2.1;have h2:=eE d.2.2.2.1;have h3:=bF d.2.2.2.2.1;have h4:=bF d.2.2.2.2.2;have h5:=eE 0;have h0:(aL [gb d.1,gb d.2.1]).length=2:=rfl;unfold sO wD;rw[ad9,ab];cases tn d;rfl;simp only[aj,af,ah,om,qy,ab];rw[aX,aX (by simp only[ai];omega),aX (by simp only[ai];omega),aX (by simp only[ai];omega),aX (by simp only[ai];omega)]
theorem PN (d:Cd):lx d=some (wD d):=by have h1:=bF d.2.2.1;have h2:=eE d.2.2.2.1;have h3:=bF d.2.2.2.2.1;have h4:=bF d.2.2.2.2.2;have h5:=eE 0;have h0:(aL [gb d.1,gb d.2.1]).length=2:=rfl;unfold lx wD;rw[R7,ab];cases tn d;rfl;simp only[aj,af,ah,kM,yL,ab];rw[aX,aX (by simp only[ai];omega),aX (by simp only[ai];omega),aX (by simp only[ai];omega),aX (by simp only[ai];omega)]
def nI (r:kx):Int:=bif cV r then ar (r.2.1-bG r) else 0
def nr (r:kx)(c:Int):Int:=bif !cV r||decide (c<0) then-1 else r.1+tmod c r.2.1*16
theorem lg (h:cV r=true):0<=r.1/\r.1<=130944/\(r.2.1=2\/r.2.1=4\/r.2.1=8\/r.2.1=16)/\0<=r.2.2.1/\r.2.2.1<=2*r.2.1-1/\0<=r.2.2.2/\r.2.2.2<=2*r.2.1-1:=by simp only[cV,ae,bh]at h;exact⟨h.1.1,h.1.2,gQ.1 h.2.1,h.2.2.1.1,h.2.2.1.2,h.2.2.2.1.1,h.2.2.2.1.2⟩
theorem C5 (r:kx)(c:Int): -1<=nr r c/\nr r c<=200000:=by
 unfold nr;cases hc: !cV r||decide (c<0)with
 |true=>exact⟨dW _,by simp⟩
 |false=>
  simp only[ch,dB,cU]at hc;have h:=lg hc.1;have h2:0<=tmod c r.2.1/\tmod c r.2.1<r.2.1:=by rw[dg (by omega)];exact⟨eL _ (by omega),eP _ (by omega)⟩
  simp only[af];omega
def cy (l:ax aB)(m:bR)(d:Int)(r:kx)(s:Bytes):bR×kx×Bool:=
 bif (nI r==0)||((s.length:Int) !=16) then(m,r,false) else
 bif !(gy l m d (nr r r.2.2.2) s true).2 then(m,r,false) else
 ((gy l m d (nr r r.2.2.2) s true).1,(r.1,r.2.1,r.2.2.1,tmod (r.2.2.2+1) (2*r.2.1)),true)
theorem H0 {s:Bytes}{w:Bool}(h:(gy l m d a s w).2=false):(gy l m d a s w).1=m:=by unfold gy at h⊢;cases hr:(jU l m d a (s.length:Int) w).2 with|false=>rfl|true=>rw[hr]at h;cases h
theorem Ic (r:kx):sk r=some (nI r):=by unfold sk nI;rw[LV,ab];cases cV r;rfl;simp only[aj,af,ah,TD,ab]
theorem aa1 (r:kx)(c:Int):re r c=some (nr r c):=by
 have ta:=C5 r c;unfold re;rw[LV,ab];unfold nr at ta⊢;cases hb:cV r;rfl;have h:=lg hb;by_cases hc:c<0;rw[aw hc];rfl;rw[hb,au hc]at ta;rw[au hc];have h2:0<=tmod c r.2.1/\tmod c r.2.1<r.2.1:=by rw[dg (by omega)];exact⟨eL _ (by omega),eP _ (by omega)⟩
 simp only[aj,af,ab,bZ]at ta⊢;rw[lv,ak (n:=16*tmod c r.2.1),ak];congr 1;omega
theorem TB (l:ax aB)(m:bR)(d:Int)(r:kx)(s:Bytes)(hl:l.length<=10^9)(hm:m.length<=10^9):xR l m d r s=some (cy l m d r s):=by
 have hA:=C5 r r.2.2.2;unfold xR cy;simp only[Ic,ab,aa1,GO l m d _ s hl hm (show nr r r.2.2.2<=9223372036854775807 by omega),Bs m (show m.length<=1073741824 by omega)];cases hf:nI r==0;case true=>rfl
 cases (s.length:Int) !=16;case true=>rfl
 have hb:cV r=true:=by cases hb:cV r with|true=>rfl|false=>unfold nI at hf;rw[hb]at hf;cases hf
 have h:=lg hb;simp only[af,ab,bZ];cases hp:(gy l m d (nr r r.2.2.2) s true).2 with|false=>simp only[cg,ah,H0 hp]|true=>simp only[aj,af];rw[ak (n:=2*r.2.1),lv,ak (n:=r.2.2.2+1)]
theorem NL (r:kx):rR r=some (nI r):=by unfold rR nI;rw[wE,ab];cases cV r;rfl;simp only[aj,af,ah,yJ,ab]
theorem NQ (r:kx)(c:Int):nf r c=some (nr r c):=by
 have ta:=C5 r c;unfold nf;rw[wE,ab];unfold nr at ta⊢;cases hb:cV r;rfl;have h:=lg hb;by_cases hc:c<0;rw[aw hc];rfl;rw[hb,au hc]at ta;rw[au hc];have h2:0<=tmod c r.2.1/\tmod c r.2.1<r.2.1:=by rw[dg (by omega)];exact⟨eL _ (by omega),eP _ (by omega)⟩
 simp only[aj,af,ab,bZ]at ta⊢;rw[lv,ak (n:=tmod c r.2.1*16),ak]
theorem IJ (l:ax aB)(m:bR)(d:Int)(r:kx)(s:Bytes)(hl:l.length<=10^9)(hm:m.length<=10^9):ud l m d r s=some (cy l m d r s):=by
 have hA:=C5 r r.2.2.2;unfold ud cy;simp only[NL,ab,NQ,Bi l m d _ s hl hm (show nr r r.2.2.2<=9223372036854775807 by omega),fP m (show m.length<=1073741824 by omega)];cases hf:nI r==0;case true=>rfl
 cases (s.length:Int) !=16;case true=>rfl
 have hb:cV r=true:=by cases hb:cV r with|true=>rfl|false=>unfold nI at hf;rw[hb]at hf;cases hf
 have h:=lg hb;simp only[af,ab,bZ];cases hp:(gy l m d (nr r r.2.2.2) s true).2 with|false=>simp only[cg,ah,H0 hp]|true=>simp only[aj,af];rw[ak (n:=2*r.2.1),lv,ak (n:=r.2.2.2+1)]
theorem xM {p:cK}(h:dy p=true):0<=p.1/\p.1<=130944/\1<=p.2.1/\p.2.1<=512/\0<=p.2.2.1/\p.2.2.1<=16:=by simp only[dy,ae,bh]at h;exact⟨h.1.1,h.1.2,h.2.1.1,h.2.1.2,h.2.2.1.1,h.2.2.1.2⟩
def nG (p:cK)(i:Int):Int:=bif !dy p|| !di i 0 (p.2.2.1-1) then-1 else p.1+i*p.2.1
theorem Xo {p:cK}{i:Int}(hp:dy p=true)(hi:di i 0 (p.2.2.1-1)=true):ar (p.1+ar (i*p.2.1))=p.1+i*p.2.1:=by have h:=xM hp;have h2:=bh.1 hi;have h3:0<=i*p.2.1:=Int.mul_nonneg h2.1 (by omega);have h4:i*p.2.1<=16*512:=Int.mul_le_mul (by omega) (by omega) (by omega) (by omega);rw[ak (n:=i*p.2.1),ak]
theorem ad8 (p:cK)(i:Int)(h:p.2.2.2.length<=10^9):oo p i=some (nG p i):=by unfold oo nG;rw[GQ p h,ab];cases hp:dy p;rfl;have ta:=xM hp;rw[ak (n:=p.2.2.1-1),ez];cases hi:di i 0 (p.2.2.1-1);rfl;simp only[aj,af,ab,bZ,Xo hp hi]
theorem F2 (p:cK)(i:Int)(h:p.2.2.2.length<=10^9):fN p i=some (nG p i):=by unfold fN nG;rw[tR p h,ab];cases hp:dy p;rfl;have ta:=xM hp;rw[ak (n:=p.2.2.1-1),df];cases hi:di i 0 (p.2.2.1-1);rfl;simp only[aj,af,ab,bZ,Xo hp hi]
def upto (n:Nat):cZ:=(List.range n).map Int.ofNat
theorem Ox (n:Nat):upto (n+1)=upto n++[(n:Int)]:=by simp[upto,List.range_succ]
theorem aeO (h:i<n):(upto n).getD i 0=(i:Int):=by rw[ca (by simpa[upto]using h)];simp[upto]
theorem Wx (a b:Int)(n:Nat)(hn:n<=16):dy (a,b,(n:Int),upto n)=dy (a,b,(n:Int),[]):=by
 unfold dy;congr 3;have h1:(List.range (upto n).length).all (Cy (n:Int) (upto n))=true:=by
  rw[aF];intro i hi;have hi:i<n:=by simpa[upto]using hi
  simp only[Cy,aeO hi,ae,bh,aK];refine⟨by omega,?_⟩;rw[Bool.eq_false_iff,ne_eq,List.contains_iff_mem];intro hm;simp only[upto,<-List.map_take,List.mem_map]at hm;obtain⟨j,hj,he⟩:=hm;rw[List.take_range]at hj;have:=bK.1 hj;have:(j:Int)=(i:Int):=he;omega
 rw[h1];rfl
def ia (a b n:Int):cK×Bool:=bif dy (a,b,n,[]) then((a,b,n,upto n.toNat),true) else((0,0,0,[]),false)
theorem IH (a b n:Int):tZ a b n=some (ia a b n):=by
 unfold tZ ia;rw[tR _ (by simp),ab];cases hp:dy (a,b,n,[]);rfl;have ta:=xM hp;obtain⟨n,rfl⟩:=aQ (show 0<=n from ta.2.2.2.2.1);have h16:n<=16:=by have:=ta.2.2.2.2.2;simp only at this;omega
 simp only[aj,af,ah,aA];refine eD (λi=>((i:Int),a,b,(n:Int),upto i)) n (by omega) (λi nx hi=>?_) (λnx=>?_);simp only[sB];rw[ks,aX (by simp[upto];omega),ak,Ox];rfl;simp only[sB];rw[cP];rfl
theorem I2 (a b n:Int):uG a b n=some (ia a b n):=by
 have B7:=eh;unfold uG ia;by_cases hn:0<=n/\n<=16;obtain⟨n,rfl⟩:=aQ hn.1;have h16:n<=16:=by omega
 refine eD (λi=>((i:Int),a,b,(n:Int),upto i)) n (by omega) (λi nx hi=>?_) (λnx=>?_);simp only[oJ];rw[aw (show(i:Int)<n by omega),aw (show(n:Int)<=16 by omega)];simp only[ah,ab];rw[aX (by simp[upto];omega),ak,Ox];rfl;simp only[oJ];rw[au (show¬(n:Int)<n by omega)];simp only[af,ab,GQ (a,b,(n:Int),upto n) (show(upto n).length<=10^9 by simp[upto];omega),Wx a b n h16,aA];cases dy (a,b,(n:Int),[])<;>rfl;have hb:dy (a,b,n,[])=false:=by cases hp:dy (a,b,n,[])with|false=>rfl|true=>have:=xM hp;exact absurd ⟨this.2.2.2.2.1,this.2.2.2.2.2⟩ hn
 obtain⟨f,hf⟩:∃f,fuel=f+1:=⟨fuel-1,by omega⟩
 rw[hf,ba];simp only[oJ];have hc:(cond (decide ((0:Int)<n)) (some (decide (n<=16))) (some false))=some false:=by by_cases h0:(0:Int)<n;rw[aw h0,cP];rfl;rw[au h0];rfl
 rw[hc];simp only[ab,af,GQ (a,b,n,[]) (show([]:cZ).length<=10^9 by simp),hb];rfl
def ee (p:cK)(b:Int):Bytes:=wD (3,0,p.2.1,nG p b,0,b)
def jw (l:ax aB)(d:Int)(p:cK):cZ->bR->kx->Nat×bR×kx
 |[],m,r=>(0,m,r)
 |b::q,m,r=>bif (cy l m d r (ee p b)).2.2 then
   ((jw l d p q (cy l m d r (ee p b)).1 (cy l m d r (ee p b)).2.1).1+1,(jw l d p q (cy l m d r (ee p b)).1 (cy l m d r (ee p b)).2.1).2)
  else(0,m,r)
theorem uy (l:ax aB)(m:bR)(d:Int)(r:kx)(s:Bytes):(cy l m d r s).1.length=m.length:=by
 unfold cy;cases (nI r==0)||((s.length:Int) !=16);case true=>rfl
 cases (gy l m d (nr r r.2.2.2) s true).2 with|false=>rfl|true=>exact jR ..
theorem Hr (l:ax aB)(d:Int)(p:cK):∀(q:cZ)(m:bR)(r:kx),(jw l d p q m r).2.1.length=m.length/\(jw l d p q m r).1<=q.length
 |[],m,r=>⟨rfl,aS _⟩
 |b::q,m,r=>by rw[jw];cases (cy l m d r (ee p b)).2.2 with|false=>exact⟨rfl,bU _⟩|true=>have:=Hr l d p q (cy l m d r (ee p b)).1 (cy l m d r (ee p b)).2.1;simp only[ah,bz];exact⟨by rw[this.1,uy],by omega⟩
theorem acC (r:kx):0<=nI r:=by
 unfold nI;cases hb:cV r with
 |false=>exact dW _
 |true=>
  have h:=lg hb;simp only[cV,ae,aD]at hb;have hu:=hb.2.2.2.2;have h0:0<=bG r:=by unfold bG;split;exact eL _ (by omega);exact dW _
  simp only[ah];rw[ak];omega
theorem Qb {s:Bytes}(h:¬nI r>0):cy l m d r s=(m,r,false):=by
 have h0:=acC r;have:nI r=0:=by omega
 unfold cy;rw[this];rfl
theorem F4 (K:Int->Int->kx->bR->ay R)(K':Nat->kx->bR->ay R)(hK:∀(c:Nat) i r m,K (c:Int) i r m=K' c r m)(l:ax aB)(d:Int)(p p2 p3:cK)(hp:p.2.2.2.length<=10^9)(hl:l.length<=10^9):∀(rest pre:cZ)(m:bR)(r:kx)(f:Nat),rest.length<f->pre.length+rest.length<=10^9->m.length<=10^9->
 ba (mY K l d (pre++rest) ((pre++rest).length:Int) p ([]:bR) (0,0,0,0) p2 p3) f ((pre.length:Int),(pre.length:Int),r,m)=K' (pre.length+(jw l d p rest m r).1) (jw l d p rest m r).2.2 (jw l d p rest m r).2.1
 |rest,pre,m,r,0,hf,_,_=>by omega
 |[],pre,m,r,f+1,_,_,_=>by rw[ba];simp only[mY];rw[au (by simp),af,hK];rfl
 |b::q,pre,m,r,f+1,hf,hn,hm=>by
  simp only[bz]at hf hn;have hi:pre.length<(pre++b::q).length:=by simp
  have hb:(pre++b::q)[pre.length]=b:=by simp
  rw[ba];simp only[mY];rw[aw (by simp;omega),bl hi,hb];simp only[ah,ab,F2 p b hp,PN,IJ l m d r _ hl hm];rw[show wD (3,0,p.2.1,nG p b,0,b)=ee p b from rfl,jw];cases hq:(cy l m d r (ee p b)).2.2 with
  |false=>simp only[cg,ah,af,hK,dT]
  |true=>
   simp only[aj,af,ah];rw[ak (n:=(pre.length:Int)+1)];have key:=F4 K K' hK l d p p2 p3 hp hl q (pre++[b]) (cy l m d r (ee p b)).1 (cy l m d r (ee p b)).2.1 f (by omega) (by simp;omega) (by rw[uy];exact hm);have el:((pre++[b]).length:Int)=(pre.length:Int)+1:=by simp
   have el2:(pre++[b]).length=pre.length+1:=by simp
   rw[aR,List.singleton_append,el,el2]at key;rw[show pre.length+((jw l d p q (cy l m d r (ee p b)).1 (cy l m d r (ee p b)).2.1).1+1)=pre.length+1+(jw l d p q (cy l m d r (ee p b)).1 (cy l m d r (ee p b)).2.1).1 by omega];exact key
theorem GP (K:Int->kx->bR->cK->ay R)(l:ax aB)(d:Int)(p p2:cK)(hp:p.2.2.2.length<=10^9)(hl:l.length<=10^9)(A B C:Int):∀(rest:cZ)(c:Nat)(m:bR)(r:kx)(f:Nat),rest.length<f->c+rest.length<=10^9->m.length<=10^9->
 ba (nv K l d p ([]:bR) (0,0,0,0) p2) f ((c:Int),r,m,A,B,C,rest)=K ((c+(jw l d p rest m r).1:Nat):Int) (jw l d p rest m r).2.2 (jw l d p rest m r).2.1 (A,B,C,rest.drop (jw l d p rest m r).1)
 |rest,c,m,r,0,hf,_,_=>by omega
 |[],c,m,r,f+1,_,_,_=>by
  rw[ba];simp only[nv,Ic,ab];have hc:(cond (decide (nI r>0)) (some (decide ((([]:cZ).length:Int)>0))) (some false))=some false:=by cases decide (nI r>0)<;>rfl
  rw[hc];rfl
 |b::q,c,m,r,f+1,hf,hn,hm=>by
  simp only[bz]at hf hn;rw[ba];simp only[nv,Ic,ab];by_cases hr:nI r>0;rw[aw hr,aw (show(((b::q).length:Nat):Int)>0 by simp)];have hi:idx (b::q) 0=some b:=rfl;have hs:sub (b::q) 1 ((b::q).length:Int)=some q:=by unfold sub;rw[aH (by simp;omega)];simp
  simp only[ah,ab,hi,ad8 p b hp,af6,TB l m d r _ hl hm];rw[show wD (3,0,p.2.1,nG p b,0,b)=ee p b from rfl,jw];cases hq:(cy l m d r (ee p b)).2.2 with|false=>rfl|true=>simp only[aj,af,ah,hs,ab];rw[nn (by omega),ak (n:=(c:Int)+1),cG];have key:=GP K l d p p2 hp hl A B C q (c+1) (cy l m d r (ee p b)).1 (cy l m d r (ee p b)).2.1 f (by omega) (by omega) (by rw[uy];exact hm);rw[show((c+1:Nat):Int)=(c:Int)+1 by omega]at key;refine Eq.trans key ?_;rw[show c+1+(jw l d p q (cy l m d r (ee p b)).1 (cy l m d r (ee p b)).2.1).1=c+((jw l d p q (cy l m d r (ee p b)).1 (cy l m d r (ee p b)).2.1).1+1) by omega];rfl
  rw[au hr,jw,Qb hr];rfl
def rr (l:ax aB)(m:bR)(d:Int)(r:kx)(p:cK):bR×kx×cK×Int:=
 bif !cV r|| !dy p then(m,r,p,0) else
 ((jw l d p p.2.2.2 m r).2.1,(jw l d p p.2.2.2 m r).2.2,(p.1,p.2.1,p.2.2.1,p.2.2.2.drop (jw l d p p.2.2.2 m r).1),((jw l d p p.2.2.2 m r).1:Int))
theorem R9 (l:ax aB)(m:bR)(d:Int)(r:kx)(p:cK)(hl:l.length<=10^9)(hm:m.length<=10^9)(hp:p.2.2.2.length<=10^9):ik l m d r p=some (rr l m d r p):=by have B7:=eh;unfold ik rr;simp only[fP m (show m.length<=1073741824 by omega),tk p hp,wE,tR p hp,ab];cases cV r;rfl;cases dy p;rfl;simp only[aj,af,ab,bZ];have hlen:=(Hr l d p p.2.2.2 m r).2;refine(F4 _ (λc r m=>aa (sub p.2.2.2 (c:Int) (p.2.2.2.length:Int)) λx14=>aa (fS x14) λAL=>some (m,r,(p.1,p.2.1,p.2.2.1,AL),(c:Int))) (λ_ _ _ _=>rfl) l d p _ p hp hl p.2.2.2 [] m r fuel (by omega) (by simp;omega) hm).trans ?_;rw[eO,cr,QA _ _ _ hlen (aS _),ab,bI (by rw[aM];exact aS _),lG _ (by rw[aM];omega)];rfl
theorem aea (l:ax aB)(m:bR)(d:Int)(r:kx)(p:cK)(hl:l.length<=10^9)(hm:m.length<=10^9)(hp:p.2.2.2.length<=10^9):wh l m d r p=some (rr l m d r p):=by have B7:=eh;unfold wh rr;simp only[Bs m (show m.length<=1073741824 by omega),VX p hp,LV,GQ p hp,ab];cases cV r;rfl;cases dy p;rfl;simp only[aj,af,ab,bZ];refine(GP _ l d p _ hp hl p.1 p.2.1 p.2.2.1 p.2.2.2 0 m r fuel (by omega) (by omega) hm).trans ?_;rw[cr]
def jW (p:cK)(n:Int):cK×cZ×Bool:=bif dy p&&di n 0 (p.2.2.2.length:Int) then((p.1,p.2.1,p.2.2.1,p.2.2.2.drop n.toNat),p.2.2.2.take n.toNat,true) else(p,[],false)
theorem ZM (p:cK)(n:Int)(h:p.2.2.2.length<=10^9):qT p n=some (jW p n):=by unfold qT jW;rw[tk p h,ab,tR p h,ab,df];cases dy p;rfl;cases hi:di n 0 (p.2.2.2.length:Int);rfl;have hn:=bh.1 hi;obtain⟨n,rfl⟩:=aQ hn.1;simp only[aj,af,ab,dH,ah,aA];rw[TH _ n (by omega),ab,lG _ (by simp;omega),ab,show sub p.2.2.2 0 (n:Int)=some (p.2.2.2.take n) from by rw[ye (by omega) hn.2,aA],ab,lG _ (by simp;omega),ab]
theorem Ch:∀l:ax kz,(∀x∈l,0<=x.2.1/\x.2.1<=16)->0<=dI l/\dI l<=16*(l.length:Int)
 |[],_=>by simp[dI]
 |y::l,h=>by have h1:=Ch l (λx hx=>h x (eT _ hx));have h2:=h y (List.mem_cons_self ..);simp only[dI,cS,List.sum_cons,bz]at h1⊢;omega
theorem Uz (l:ax kz)(i:Nat)(hi:i<l.length):dI (l.take (i+1))=dI (l.take i)+l[i].2.1:=by rw[bL hi];simp only[dI,dS,List.sum_append,cS,List.map_nil,List.sum_cons,List.sum_nil,Int.add_zero]
theorem ZI (t:dx)(h:t.2.2.1.length<=1000000)(hs:∀x∈t.2.2.1,0<=x.2.1/\x.2.1<=16):pQ t=some (dI t.2.2.1):=by
 have B7:=eh;unfold pQ;refine eD (λi=>(dI (t.2.2.1.take i),(i:Int))) t.2.2.1.length (by omega) (λi nx hi=>?_) (λnx=>?_);have hb:=Ch (t.2.2.1.take i) (λx hx=>hs x (List.mem_of_mem_take hx));have hc:=hs _ (aZ hi);have hl:(t.2.2.1.take i).length<=1000000:=by rw[aW];omega
 rw[Uz _ _ hi];simp only[lO];rw[ks,ah,bl hi,ab,ak (n:=(i:Int)+1),ak];rfl;simp only[lO];rw[cP,af,eo]
def kh (l:ax aB)(d:Int):bR->bR->kx->ay (bR×kx)
 |[],m,r=>some (m,r)
 |s::q,m,r=>bif (cy l m d r s).2.2 then kh l d q (cy l m d r s).1 (cy l m d r s).2.1 else none
def agP (m:bR)(r:kx):ay (bR×kx)->bR×kx×Bool
 |some x=>(x.1,x.2,true)
 |none=>(m,r,false)
def oe (l:ax aB)(m:bR)(d:Int)(r:kx)(q:bR):bR×kx×Bool:=agP m r (kh l d q m r)
theorem IU (l:ax aB)(d:Int):∀(q:bR)(m:bR)(r:kx){x},kh l d q m r=some x->x.1.length=m.length
 |[],m,r,x,h=>by cases h;rfl
 |s::q,m,r,x,h=>by rw[kh]at h;cases hq:(cy l m d r s).2.2 with|false=>rw[hq]at h;cases h|true=>rw[hq]at h;exact(IU l d q _ _ h).trans (uy ..)
theorem CK (l:ax aB)(d:Int)(M:bR)(A B2:kx)(B1:bR)(hl:l.length<=10^9)(hM:M.length<=10^9):∀(rest pre:bR)(m:bR)(r:kx)(f:Nat),rest.length<f->(pre++rest).length<=10^9->m.length<=10^9->
 ba (kP (λ_ y6 y7=>some (y6,y7,true)) (λy8 _ B5 Dj _ _=>some (B5,Dj,y8)) l d false (pre++rest) ((pre++rest).length:Int) M A B1 B2) f ((pre.length:Int),m,r)=some (agP M A (kh l d rest m r))
 |rest,pre,m,r,0,hf,_,_=>by omega
 |[],pre,m,r,f+1,_,_,_=>by rw[ba];simp only[kP];rw[au (by simp),af];rfl
 |s::q,pre,m,r,f+1,hf,hn,hm=>by
  simp only[bz,ai]at hf hn;have hi:pre.length<(pre++s::q).length:=by simp
  have hb:(pre++s::q)[pre.length]=s:=by simp
  rw[ba];simp only[kP];rw[aw (by simp;omega),bl hi,hb];simp only[ah,ab,IJ l m d r _ hl hm];rw[kh];cases hq:(cy l m d r s).2.2 with
  |false=>simp only[cg,ah,af,fP M,ab];rfl
  |true=>
   simp only[aj,af,ah];rw[ak (n:=(pre.length:Int)+1)];have key:=CK l d M A B2 B1 hl hM q (pre++[s]) (cy l m d r s).1 (cy l m d r s).2.1 f (by omega) (by simp;omega) (by rw[uy];exact hm);have el:((pre++[s]).length:Int)=(pre.length:Int)+1:=by simp
   rw[aR,List.singleton_append,el]at key;exact key
theorem VJ (l:ax aB)(m:bR)(d:Int)(r:kx)(q:bR)(hl:l.length<=10^9)(hm:m.length<=10^9)(hq:q.length<=10^9):jI l m d r q=some (oe l m d r q):=by have B7:=eh;unfold jI oe;rw[fP m,ab];exact CK l d m r _ _ hl hm q [] m r fuel (by omega) (by simpa using hq) hm
theorem Lv (l:ax aB)(m:bR)(d:Int)(w:Bool):∀(n a r:Nat)(q:ax (Int×Int)),iP l m d w n a r=some q->q.length<=n
 |0,a,r,q,h=>by simp only[iP,bc]at h;subst h;simp
 |n+1,a,r,q,h=>by simp only[iP]at h;split at h;simp only[bc]at h;subst h;simp;split at h;simp only[Option.map_eq_some_iff]at h;obtain⟨q',h1,rfl⟩:=h;have:=Lv l m d w n _ _ q' h1;simp only[bz];omega;cases h
theorem H6 (l:ax aB)(m:bR)(d a n:Int)(w:Bool):(jU l m d a n w).1.length<=4096:=by
 unfold jU;cases hB:dj l&&(cx m&&di n 0 4096);simp;simp only[ae,bh]at hB;simp only[ah];cases n==0;case true=>simp
 cases decide (a<0);case true=>simp
 simp only[af];split;rename_i q hq;have:=Lv _ _ _ _ _ _ _ _ hq;show q.length<=4096;omega;simp
def ly (m:bR)(p:Int×Int):Bytes:=bif gD m p.1 p.2 then yS m p.1.toNat p.2.toNat else []
theorem Ep (m:bR)(p:Int×Int):(ly m p).length<=8192:=by unfold ly;cases h:gD m p.1 p.2 with|false=>simp|true=>simp only[gD,ae,aD]at h;have:=adR m p.1.toNat p.2.toNat;have:=(mem_iff.1 h.1).2;simp only[ah];omega
theorem uA (m:bR):∀q:ax (Int×Int),(q.flatMap (ly m)).length<=8192*q.length
 |[]=>by simp
 |p::q=>by have:=uA m q;have:=Ep m p;simp only[List.flatMap_cons,ai,bz];omega
def qb (l:ax aB)(m:bR)(d a n:Int):Bytes×Bool:=
 bif (jU l m d a n false).2 then((jU l m d a n false).1.flatMap (ly m),true) else([],false)
theorem Pp {β:Type}(g:α->ax β)(l:ax α)(i:Nat)(hi:i<l.length):(l.take (i+1)).flatMap g=(l.take i).flatMap g++g l[i]:=by rw[bL hi,List.flatMap_append];simp
theorem zC (l:ax aB)(m:bR)(d a n:Int)(hl:l.length<=10^9)(hm:m.length<=10^9)(ha:a<=9223372036854775807):nO l m d a n=some (qb l m d a n):=by
 unfold nO qb;rw[Sd l m d a n false hl hm ha,ab];have hL:=H6 l m d a n false;generalize jU l m d a n false=r at hL⊢;cases hr:r.2;rfl;simp only[aj,af,ah];refine(eD (λi=>((r.1.take i).flatMap (ly m),(i:Int))) r.1.length (by omega) (λi nx hi=>?_) (λnx=>?_));simp only[sy];rw[ks,bl hi,ak];have e:oC m r.1[i].1 r.1[i].2=some (ly m r.1[i],gD m r.1[i].1 r.1[i].2):=by rw[adf m _ _ hm,ly];cases gD m r.1[i].1 r.1[i].2<;>rfl
 have h1:=uA m (r.1.take i);have h2:=Ep m r.1[i];simp only[ah,ab,e];rw[aX (by rw[aW]at h1;omega),<-Pp];rfl;simp only[sy];rw[cP,eo];rfl
theorem Kn (l:ax aB)(m:bR)(d a n:Int):(qb l m d a n).1.length<=100000000:=by have hL:=H6 l m d a n false;have h1:=uA m (jU l m d a n false).1;unfold qb;cases (jU l m d a n false).2 with|false=>simp|true=>simp only[ah];omega
def Ba (s:Bytes):D4×Int×Bool:=
 bif ((s.length:Int) !=16)||decide (fI s 12>1) then((0,0,0,0,0),0,false) else((cj s 0,cj s 2,cj s 4,cj s 6,fI s 8),fI s 12,true)
theorem VC (s:Bytes)(h:s.length<=10^9):kX s=some (Ba s):=by
 unfold kX Ba;cases (s.length:Int) !=16;case true=>rfl
 simp only[vi s _ h,yp s _ h,ab,af,cJ];cases decide (fI s 12>1)<;>rfl
def vn (q:JD):Int:=bif decide (q.2.2<q.2.1) then 1 else 0
theorem NN (q:JD):uk q=some (vn q):=by unfold uk vn;cases decide (q.2.2<q.2.1)<;>rfl
theorem uz {q:JD}(h:fF q=true):0<=q.1/\q.1<=130944/\(q.2.1=2\/q.2.1=4\/q.2.1=8\/q.2.1=16)/\0<=q.2.2/\q.2.2<=2*q.2.1-1:=by simp only[fF,ae,bh]at h;obtain⟨h1,h2,h3⟩:=h;rw[yu h2]at h3;exact⟨h1.1,h1.2,gQ.1 h2,h3⟩
def pW (q:JD):Int:=q.1+tmod q.2.2 q.2.1*16
theorem QF (h:0<=a:=by omega)(hb:0<b:=by omega):0<=tmod a b/\tmod a b<b:=by rw[dg h];exact⟨eL _ (by omega),eP _ hb⟩
theorem Ql {q:JD}(h:fF q=true):0<=tmod q.2.2 q.2.1/\tmod q.2.2 q.2.1<16:=by obtain⟨_,_,h3,h4,h5⟩:=uz h;have:=QF h4 (show 0<q.2.1 by omega);omega
theorem NR (q:JD)(h:fF q=true):nh q=some (pW q):=by obtain⟨h1,h2,h3,h4,h5⟩:=uz h;have:=Ql h;unfold nh pW;rw[lv,ak (n:=tmod q.2.2 q.2.1*16),ak]
def agO (q:JD):JD:=(q.1,q.2.1,tmod (q.2.2+1) (2*q.2.1))
def JR (l:ax aB)(m:bR)(d:Int)(q:JD):Bool:=
 fF q&&((qb l m d (pW q) 16).2&&((Ba (qb l m d (pW q) 16).1).2.2&&((Ba (qb l m d (pW q) 16).1).2.1==vn q)))
def oH (l:ax aB)(m:bR)(d:Int)(q:JD):D4×JD×Bool:=
 bif JR l m d q then((Ba (qb l m d (pW q) 16).1).1,agO q,true) else((0,0,0,0,0),q,false)
theorem ada (l:ax aB)(m:bR)(d:Int)(q:JD)(hl:l.length<=10^9)(hm:m.length<=10^9):mH l m d q=some (oH l m d q):=by unfold mH oH JR;rw[HC q,ab];cases hq:fF q;rfl;obtain⟨h1,h2,h3,h4,h5⟩:=uz hq;have hs:=Ql hq;have hd:=Kn l m d (pW q) 16;simp only[aj,af,NR q hq,ab,zC l m d (pW q) 16 hl hm (by unfold pW;omega),bq];cases (qb l m d (pW q) 16).2;rfl;simp only[aj,af,VC _ (bw hd (by omega)),ab,bq];cases (Ba (qb l m d (pW q) 16).1).2.2;rfl;simp only[aj,af,NN,ab,bq,bne];cases (Ba (qb l m d (pW q) 16).1).2.1==vn q;rfl;simp only[aj,af,ah];rw[ak (n:=2*q.2.1),lv,ak (n:=q.2.2+1)];rfl
theorem ae8 (p:cK)(i:Int):nG p i= -1\/(0<=nG p i/\nG p i<=200000):=by unfold nG;cases hp:dy p;exact .inl rfl;cases hi:di i 0 (p.2.2.1-1);exact .inl rfl;have h:=xM hp;have h2:=bh.1 hi;have h3:0<=i*p.2.1:=Int.mul_nonneg h2.1 (by omega);have h4:i*p.2.1<=16*512:=Int.mul_le_mul (by omega) (by omega) (by omega) (by omega);simp only[aj,bZ,af];exact .inr (by omega)
def afj (l:ax aB)(m:bR)(d a n:Int):Bool:=(qb l m d a n).2&&((jT (qb l m d a n).1).2==0)
def zI (l:ax aB)(m:bR)(d:Int)(s:ax Stream×bJ×cK):ax Stream×bJ×cK:=
 ((bif afj l m d (nG s.2.2 (oH l m d s.2.1.2.2.1).1.1) (oH l m d s.2.1.2.2.1).1.2.1 then Co s.1 (jT (qb l m d (nG s.2.2 (oH l m d s.2.1.2.2.1).1.1) (oH l m d s.2.1.2.2.1).1.2.1).1).1 else s.1),
   (s.2.1.1,s.2.1.2.1,(oH l m d s.2.1.2.2.1).2.1,s.2.1.2.2.2),(ER s.2.2 [(oH l m d s.2.1.2.2.1).1.1]).1)
def iA (l:ax aB)(m:bR)(d:Int):Nat->ax Stream×bJ×cK->Nat×(ax Stream×bJ×cK)
 |0,s=>(0,s)
 |k+1,s=>bif !(oH l m d s.2.1.2.2.1).2.2 then(0,s) else((iA l m d k (zI l m d s)).1+1,(iA l m d k (zI l m d s)).2)
structure Hi (n:Nat) (s:List Stream×bJ×cK):Prop where
 st:cW n (.sl dL) s.1
 pl:s.2.2.2.2.2.length<=n
theorem RE (p:cK)(l:cZ):(ER p l).1.2.2.2.length<=p.2.2.2.length+l.length:=by unfold ER;cases As p l with|false=>show p.2.2.2.length<=_;omega|true=>simp[gx]
theorem Lz {s:ax Stream×bJ×cK}(h:Hi n s):Hi (n+322) (zI l m d s):=by
 refine⟨?_,?_⟩;unfold zI;cases afj l m d (nG s.2.2 (oH l m d s.2.1.2.2.1).1.1) (oH l m d s.2.1.2.2.1).1.2.1 with|false=>exact h.st.mono|true=>exact Pf h.st
 have:=RE s.2.2 [(oH l m d s.2.1.2.2.1).1.1];have h2:=h.pl;show(ER s.2.2 [(oH l m d s.2.1.2.2.1).1.1]).1.2.2.2.length<=_;simp only[bC]at this;omega
theorem F8 (K:ax Stream->Int->bJ->cK->ay R)(l:ax aB)(m:bR)(d:Int)(N:Nat)(hN:N<=1000)(B1:bR)(B2:bJ)(B3:cK)(hl:l.length<=10^9)(hm:m.length<=10^9):∀(k i:Nat)(s:ax Stream×bJ×cK)(f:Nat),i+k=N->k<f->Hi (500000000+322*i) s->
 ba (lM K l d (N:Int) B1 B2 B3 m) f (s.1,(i:Int),s.2.1,s.2.2)=K (iA l m d k s).2.1 ((i+(iA l m d k s).1:Nat):Int) (iA l m d k s).2.2.1 (iA l m d k s).2.2.2
 |k,i,s,0,_,hf,_=>by omega
 |0,i,s,f+1,hi,hf,z=>by rw[ba];simp only[lM];rw[cP,af];rfl
 |k+1,i,s,f+1,hi,hf,z=>by have mF:cW 900000000 (.sl dL) s.1:=z.st.mono;have DC:s.2.2.2.2.2.length<=900000000:=bw z.pl (by omega);rw[ba];simp only[lM];rw[ks];simp only[ah,ada l m d _ hl hm,ab,iA];cases hnx:(oH l m d s.2.1.2.2.1).2.2 with|false=>rfl|true=>have key:=F8 K l m d N hN B1 B2 B3 hl hm k (i+1) (zI l m d s) f (by omega) (by omega) ((Lz z).st.mono|>λa=>⟨a,bw (Lz z).pl (by omega)⟩);rw[show i+1+(iA l m d k (zI l m d s)).1=i+((iA l m d k (zI l m d s)).1+1) by omega]at key;simp only[aj,af];rw[<-key];unfold zI;generalize oH l m d s.2.1.2.2.1=c;have ha:=ae8 s.2.2 c.1.1;have hd:=Kn l m d (nG s.2.2 c.1.1) c.1.2.1;simp only[F2 _ _ (show s.2.2.2.2.2.length<=10^9 by omega),zC l m d _ c.1.2.1 hl hm (show nG s.2.2 c.1.1<=9223372036854775807 by omega),ab,DG _ (bw hd (by omega)),PM _ _ mF,K1 s.2.2 [c.1.1] (show s.2.2.2.2.2.length+1<=10^9 by omega)];rw[ak (n:=(i:Int)+1),show((i+1:Nat):Int)=(i:Int)+1 by omega];unfold afj;cases (qb l m d (nG s.2.2 c.1.1) c.1.2.1).2<;>cases (jT (qb l m d (nG s.2.2 c.1.1) c.1.2.1).1).2==0<;>rfl
theorem Ly {l:ax aB}{m:bR}{d:Int}:∀(k:Nat){s:ax Stream×bJ×cK}{n:Nat},Hi n s->Hi (n+322*k) (iA l m d k s).2
 |0,s,n,h=>h
 |k+1,s,n,h=>by rw[iA];cases (oH l m d s.2.1.2.2.1).2.2 with|false=>exact⟨h.st.mono,bw h.pl (by omega)⟩|true=>have:=Ly (l:=l) (m:=m) (d:=d) k (Lz (l:=l) (m:=m) (d:=d) h);exact⟨this.st.mono,bw this.pl (by omega)⟩
def iT (l:ax aB)(m:bR)(d:Int)(rx:bJ)(pl:cK)(st:ax Stream)(n:Int):bR×bJ×cK×ax Stream×Int:=
 bif !D2 rx||(!dy pl|| !di n 0 1000) then(m,rx,pl,st,0) else
 ((rr l m d (iA l m d n.toNat (st,rx,pl)).2.2.1.1 (iA l m d n.toNat (st,rx,pl)).2.2.2).1,
   ((rr l m d (iA l m d n.toNat (st,rx,pl)).2.2.1.1 (iA l m d n.toNat (st,rx,pl)).2.2.2).2.1,(iA l m d n.toNat (st,rx,pl)).2.2.1.2),
   (rr l m d (iA l m d n.toNat (st,rx,pl)).2.2.1.1 (iA l m d n.toNat (st,rx,pl)).2.2.2).2.2.1,(iA l m d n.toNat (st,rx,pl)).2.1,((iA l m d n.toNat (st,rx,pl)).1:Int))
theorem Sb (l:ax aB)(m:bR)(d:Int)(rx:bJ)(pl:cK)(st:ax Stream)(n:Int)(hl:l.length<=10^9)(hm:m.length<=10^9)(hp:pl.2.2.2.length<=500000000)(hs:cW 500000000 (.sl dL) st):ua l m d rx pl st n=some (iT l m d rx pl st n):=by
 have B7:=eh;have hsl:st.length<=500000000:=hs.1;unfold ua iT;simp only[fP m (show m.length<=1073741824 by omega),tk pl (show pl.2.2.2.length<=10^9 by omega),xj st,PW,tR pl (show pl.2.2.2.length<=10^9 by omega),df,ab];cases D2 rx;rfl;cases dy pl;rfl;cases hn:di n 0 1000;rfl;have h:=bh.1 hn;obtain⟨n,rfl⟩:=aQ h.1;simp only[aj,af,ab,bZ,aA];have z:Hi (500000000+322*0) (st,rx,pl):=⟨hs,hp⟩
 have hz:=Ly (l:=l) (m:=m) (d:=d) n z;refine(F8 _ l m d n (by omega) _ _ _ hl hm n 0 (st,rx,pl) fuel (by omega) (by omega) z).trans ?_;rw[cr];simp only[R9 l m d _ _ hl hm (show(iA l m d n (st,rx,pl)).2.2.2.2.2.2.length<=10^9 from bw hz.pl (by omega)),ab]
def hU (i:Nat):Int:=1280+(i:Int)*1792
theorem Xk (h:i<=8):ar (1280+ar ((i:Int)*1792))=hU i:=by rw[ak (n:=(i:Int)*1792),ak];rfl
theorem R5 (i:Nat)(h:i<=8):qt (i:Int)=some (hU i):=by rw[qt,Xk h]
theorem oa (a b n:Int)(h:n<=1000:=by omega):(ia a b n).1.2.2.2.length<=1000:=by unfold ia;cases dy (a,b,n,[])with|false=>simp|true=>simp[upto];omega
def I1 (i:Nat):bJ:=((hU i,4,0,0),(hU i+64,4,0),(hU i+64,4,0),((0,0,0,0,0,0,0,0,0,0,0,0,0,0,0,([]:Bytes)),0,0),false,0)
theorem ZD (i:Nat)(h:i<=8):vk (i:Int)=some (I1 i,(ia (hU i+128) 384 4).1):=by have hb:hU i=1280+(i:Int)*1792:=rfl;simp only[vk,R5 i h,ab];rw[ak (n:=hU i+128),ak (n:=hU i+64),IH];rfl
def EA:dx:=((0,16,0,0),(ia 256 128 8).1,([]:ax kz),0)
theorem ZQ:Bn=some EA:=by rw[Bn,IH];rfl
theorem aa2:wx=some EA:=by rw[wx,I2];rfl
def pS (l:ax aB)(m:bR)(i:Nat):bR×kx×cK×Int:=
 rr l (gy l m 0 (hU i) (wX 128) false).1 0 (hU i,4,0,0) (ia (hU i+128) 384 4).1
def N5 (h:Host)(i:Nat):Host:=
 ((pS h.2.1 h.1 i).1,h.2.1,h.2.2.1,h.2.2.2.1.set i ((pS h.2.1 h.1 i).2.1,(hU i+64,4,0),(hU i+64,4,0),((0,0,0,0,0,0,0,0,0,0,0,0,0,0,0,([]:Bytes)),0,0),false,(match h.2.2.2.1[i]? with|some x=>x.2.2.2.2.2|none=>0)),h.2.2.2.2.1.set i (pS h.2.1 h.1 i).2.2.1,h.2.2.2.2.2)
theorem aed (h:Host)(i:Nat)(hi:i<=8)(h1:i<h.2.2.2.1.length)(h2:i<h.2.2.2.2.1.length)(hl:h.2.1.length<=10^9)(hm:h.1.length<=10^9):uT h (i:Int)=some ((),N5 h i):=by have hb:hU i=1280+(i:Int)*1792:=rfl;have hz:iB 128 0=some (wX 128):=LS 128;have hf:=aea h.2.1 (gy h.2.1 h.1 0 (hU i) (wX 128) false).1 0 (hU i,4,0,0) (ia (hU i+128) 384 4).1 hl (by rw[jR];exact hm) (bw (oa (hU i+128) 384 4) (by omega));unfold uT;simp only[Xk hi];rw[ak (n:=hU i+128),ak (n:=hU i+64),I2,hz];simp only[bl h1,bl h2,ab,MV h.2.1 h.1 0 (hU i) (wX 128) hl hm (by omega),hf,aA,N5,pS,aq h1]
def ux (h:Host)(i:Nat)(n:Int):Int×Host:=
 match h.2.2.2.1[i]?,h.2.2.2.2.1[i]? with
 |some rx,some pl=>
  ((iT h.2.1 h.1 0 rx pl h.2.2.2.2.2.2.2.2.2.1 n).2.2.2.2,(iT h.2.1 h.1 0 rx pl h.2.2.2.2.2.2.2.2.2.1 n).1,h.2.1,h.2.2.1,h.2.2.2.1.set i (iT h.2.1 h.1 0 rx pl h.2.2.2.2.2.2.2.2.2.1 n).2.1,h.2.2.2.2.1.set i (iT h.2.1 h.1 0 rx pl h.2.2.2.2.2.2.2.2.2.1 n).2.2.1,h.2.2.2.2.2.1,h.2.2.2.2.2.2.1,h.2.2.2.2.2.2.2.1,h.2.2.2.2.2.2.2.2.1,(iT h.2.1 h.1 0 rx pl h.2.2.2.2.2.2.2.2.2.1 n).2.2.2.1,h.2.2.2.2.2.2.2.2.2.2)
 |_,_=>(0,h)
theorem PU (h:Host)(i:Nat)(n:Int)(h1:i<h.2.2.2.1.length)(h2:i<h.2.2.2.2.1.length)(z:cW 500000000 dD h):ku h (i:Int) n=some (ux h i n):=by have hl:h.2.1.length<=500000000:=z.2.1.1;have hm:h.1.length<=500000000:=z.1.1;have hp:h.2.2.2.2.1[i].2.2.2.length<=500000000:=(z.2.2.2.2.1.2 _ (aZ h2)).2.2.2.1;unfold ku;simp only[bl h1,bl h2,ab,Sb h.2.1 h.1 0 _ _ _ n (show h.2.1.length<=10^9 by omega) (show h.1.length<=10^9 by omega) hp z.2.2.2.2.2.2.2.2.2.1,aA,ux,aq h1,aq h2]
theorem oF {t:CT}{l:ax t.D}{x:t.D}(z:cW n (.sl t) l)(hx:cW n t x):cW n (.sl t) (l.set i x):=by refine⟨?_,λy hy=>?_⟩;show(l.set i x).length<=n;rw[aC];exact z.1;rcases dJ hy with h|h;exact z.2 y h;rw[h];exact hx
theorem Ob (hn:128<=n)(h:Bt m):cW n (.sl .str) m:=⟨bw h.2 (by omega),λx hx=>bw (Nat.le_of_eq (h.1 x hx)) hn⟩
theorem TW (hn:128<=n)(z:cW n (.sl .str) m)(a:Int)(s:Bytes):cW n (.sl .str) (me m a s).1:=by unfold me;cases hw:gD m a (s.length:Int);exact z;simp only[gD,ae,aD]at hw;exact Ob hn (yj s.length (kF.1 hw.1) (by omega)).1
theorem Ta (hn:128<=n):∀(q:ax (Int×Int)){m:bR}(s:Bytes),cW n (.sl .str) m->cW n (.sl .str) (E4 q m s)
 |[],m,s,z=>z
 |p::q,m,s,z=>Ta hn q _ (TW hn z _ _)
theorem CX (hn:128<=n)(z:cW n (.sl .str) m)(l:ax aB)(d a:Int)(s:Bytes)(w:Bool):cW n (.sl .str) (gy l m d a s w).1:=by unfold gy;cases (jU l m d a (s.length:Int) w).2 with|false=>exact z|true=>exact Ta hn _ _ z
theorem GA (hn:128<=n)(z:cW n (.sl .str) m)(l:ax aB)(d:Int)(r:kx)(s:Bytes):cW n (.sl .str) (cy l m d r s).1:=by
 unfold cy;cases (nI r==0)||((s.length:Int) !=16);case true=>exact z
 cases (gy l m d (nr r r.2.2.2) s true).2 with|false=>exact z|true=>exact CX hn z ..
theorem Nn (hn:128<=n)(l:ax aB)(d:Int)(p:cK):∀(q:cZ){m:bR}(r:kx),cW n (.sl .str) m->cW n (.sl .str) (jw l d p q m r).2.1
 |[],m,r,z=>z
 |b::q,m,r,z=>by rw[jw];cases (cy l m d r (ee p b)).2.2 with|false=>exact z|true=>exact Nn hn l d p q _ (GA hn z ..)
theorem Np (hn:128<=n)(z:cW n (.sl .str) m)(l:ax aB)(d:Int)(r:kx)(p:cK):cW n (.sl .str) (rr l m d r p).1:=by unfold rr;cases !cV r|| !dy p with|true=>exact z|false=>exact Nn hn _ _ _ _ _ z
theorem XE (l:ax aB)(m:bR)(d:Int)(r:kx)(p:cK):(rr l m d r p).1.length=m.length:=by unfold rr;cases !cV r|| !dy p with|true=>rfl|false=>exact(Hr ..).1
theorem EL (l:ax aB)(m:bR)(d:Int)(r:kx)(p:cK):(rr l m d r p).2.2.1.2.2.2.length<=p.2.2.2.length:=by unfold rr;cases !cV r|| !dy p with|true=>exact aS _|false=>show(p.2.2.2.drop _).length<=_;rw[aM];omega
theorem S2 (l:ax aB)(m:bR)(d:Int):∀(k:Nat)(s:ax Stream×bJ×cK),(iA l m d k s).2.2.1.2.2.2=s.2.1.2.2.2/\(iA l m d k s).1<=k
 |0,s=>⟨rfl,aS _⟩
 |k+1,s=>by rw[iA];cases (oH l m d s.2.1.2.2.1).2.2 with|false=>exact⟨rfl,bU _⟩|true=>have:=S2 l m d k (zI l m d s);simp only[aj,af];exact⟨this.1,by omega⟩
theorem Oh (hn:128<=n){rx:bJ}{pl:cK}{st:ax Stream}(c:Int)(zm:cW n (.sl .str) m)(zr:cW n dM rx)(zp:cW n iq pl)(zs:cW n (.sl dL) st): cW n (.sl .str) (iT l m d rx pl st c).1/\cW n dM (iT l m d rx pl st c).2.1/\cW (n+322000) iq (iT l m d rx pl st c).2.2.1/\cW (n+322000) (.sl dL) (iT l m d rx pl st c).2.2.2.1/\0<=(iT l m d rx pl st c).2.2.2.2/\(iT l m d rx pl st c).2.2.2.2<=1000:=by
 unfold iT;cases hc: !D2 rx||(!dy pl|| !di c 0 1000)with
 |true=>exact⟨zm,zr,zp.mono,zs.mono,dW _,by show(0:Int)<=1000;omega⟩
 |false=>
  have hi:di c 0 1000=true:=by cases h:di c 0 1000 with|true=>rfl|false=>rw[h]at hc;simp at hc
  have h:=bh.1 hi;have z:=Ly (l:=l) (m:=m) (d:=d) c.toNat (s:=(st,rx,pl)) (n:=n) ⟨zs,zp.2.2.2.1⟩;have hx:=S2 l m d c.toNat (st,rx,pl);refine⟨Np hn zm ..,⟨?_,?_,?_,?_⟩,⟨cq,cq,cq,?_,λ_ _=>trivial⟩,z.st.mono,by show(0:Int)<=((iA l m d c.toNat (st,rx,pl)).1:Int);omega,by show((iA l m d c.toNat (st,rx,pl)).1:Int)<=1000;omega⟩;exact⟨cq,cq,cq,cq⟩;exact⟨cq,cq,cq⟩;exact⟨cq,cq,cq⟩;have e:=congrArg (λq=>cW n dM (rx.1,rx.2.1,rx.2.2.1,q)) hx.1;exact(e.mpr zr).2.2.2;have:=EL l m d (iA l m d c.toNat (st,rx,pl)).2.2.1.1 (iA l m d c.toNat (st,rx,pl)).2.2.2;have h2:=z.pl;show(rr l m d (iA l m d c.toNat (st,rx,pl)).2.2.1.1 (iA l m d c.toNat (st,rx,pl)).2.2.2).2.2.1.2.2.2.length<=_;omega
theorem Wu (hn:128<=n)(i:Nat)(c:Int)(z:cW n dD h):cW (n+322000) dD (ux h i c).2:=by unfold ux;rcases h1:h.2.2.2.1[i]? with _|rx;exact z.mono;rcases h2:h.2.2.2.2.1[i]? with _|pl;exact z.mono;have zr:=z.2.2.2.1.2 _ (bp h1);have zp:=z.2.2.2.2.1.2 _ (bp h2);have hp:=Oh hn (l:=h.2.1) (d:=0) c z.1 zr zp z.2.2.2.2.2.2.2.2.2.1;have z':cW (n+322000) dD h:=z.mono;exact⟨hp.1.mono,z'.2.1,z'.2.2.1,oF z'.2.2.2.1 (hp.2.1.mono),oF z'.2.2.2.2.1 hp.2.2.1,z'.2.2.2.2.2.1,z'.2.2.2.2.2.2.1,z'.2.2.2.2.2.2.2.1,z'.2.2.2.2.2.2.2.2.1,hp.2.2.2.1,z'.2.2.2.2.2.2.2.2.2.2⟩
def bg (l:ax aB)(m:bR)(d:Int)(r:kx):Bytes×kx×Bool:=
 bif !cV r||(bG r==0) then([],r,false) else
 bif !(qb l m d (nr r r.2.2.1) 16).2 then([],r,false) else
 ((qb l m d (nr r r.2.2.1) 16).1,(r.1,r.2.1,tmod (r.2.2.1+1) (2*r.2.1),r.2.2.2),true)
theorem Gd (l:ax aB)(m:bR)(d:Int)(r:kx)(hl:l.length<=10^9)(hm:m.length<=10^9):rT l m d r=some (bg l m d r):=by
 have hA:=C5 r r.2.2.1;unfold rT bg;simp only[wE,yJ,ab,NQ,zC l m d _ 16 hl hm (show nr r r.2.2.1<=9223372036854775807 by omega)];cases hb:cV r;rfl;have h:=lg hb;cases bG r==0;case true=>rfl
 simp only[aj,af,ab,bZ];cases (qb l m d (nr r r.2.2.1) 16).2;rfl;simp only[aj,af];rw[ak (n:=2*r.2.1),lv,ak (n:=r.2.2.1+1)]
theorem Ey (l:ax aB)(m:bR)(d:Int)(r:kx):(bg l m d r).1.length<=100000000:=by
 unfold bg;cases !cV r||(bG r==0);case true=>exact bU _
 cases (qb l m d (nr r r.2.2.1) 16).2 with|false=>exact bU _|true=>exact Kn ..
theorem Dc (h:(bg l m d r).2.2=true): cV (bg l m d r).2.1=true/\bG (bg l m d r).2.1=bG r-1/\(bg l m d r).2.1.1=r.1/\(bg l m d r).2.1.2.1=r.2.1/\(bg l m d r).2.1.2.2.2=r.2.2.2:=by
 unfold bg at h⊢;cases hb:cV r with|false=>rw[hb]at h;cases h|true=>?_
 cases hu:bG r==0 with|true=>rw[hb,hu]at h;cases h|false=>?_
 cases hd:(qb l m d (nr r r.2.2.1) 16).2 with|false=>rw[hb,hu,hd]at h;cases h|true=>?_
 simp only[aj,bZ,af];have hr:=lg hb;have hq:=hb;simp only[cV,ae,aD]at hq;have h1:=hq.2.2.2.2;have hs:=hq.2.1;have PI:bG r≠0:=by simpa using hu
 have e:tmod (r.2.2.1+1) (2*r.2.1)=(r.2.2.1+1)%(2*r.2.1):=dg (by omega);rw[e];unfold bG at h1 PI⊢;simp only[hs,bQ]at h1 PI⊢;have key:(r.2.2.2-(r.2.2.1+1)%(2*r.2.1))%(2*r.2.1)=(r.2.2.2-r.2.2.1)%(2*r.2.1)-1/\0<=(r.2.2.1+1)%(2*r.2.1)/\(r.2.2.1+1)%(2*r.2.1)<=2*r.2.1-1:=by rcases hr.2.2.1 with hn|hn|hn|hn<;>rw[hn]at h1 PI hr⊢<;>omega
 refine⟨?_,key.1,cq,cq,cq⟩;simp only[cV,bG,hs,bQ,ae,aD,bh];refine⟨by omega,cq,by omega,by omega,?_⟩;rw[key.1];omega
theorem wT (h:cV r=true):0<=bG r/\bG r<=16:=by have hr:=lg h;have hq:=h;simp only[cV,ae,aD]at hq;refine⟨?_,by have:=hq.2.2.2.2;omega⟩;unfold bG;rw[hq.2.1,aH rfl];exact eL _ (by omega)
def It:Cd:=(0,0,0,0,0,0)
def Cp (s:Bytes):Cd:=((bM s 0:Int),(bM s 1:Int),cj s 2,fI s 4,cj s 8,cj s 10)
def cI (s:Bytes):Cd×Bool:=
 bif ((s.length:Int) !=16) then(It,false) else bif !(wD (Cp s)==s) then(It,false) else(Cp s,true)
theorem R6 (s:Bytes)(h:s.length<=10^9):oA s=some (cI s):=by
 unfold oA cI;cases hn:(s.length:Int) !=16;case true=>rfl
 have hl:s.length=16:=by
  have:((s.length:Int)==16)=true:=by simpa using hn
  have:=bk this;omega
 have b0:=mE (s[0]'(by omega));have b1:=mE (s[1]'(by omega));have i0:idx s 0=some (s[0]'(by omega)):=bl (i:=0) (by omega);have i1:idx s 1=some (s[1]'(by omega)):=bl (i:=1) (by omega);have e:(((s[0]'(by omega)).toNat:Int),((s[1]'(by omega)).toNat:Int),cj s 2,fI s 4,cj s 8,cj s 10)=Cp s:=by simp only[Cp,bM,ca (show 0<s.length by omega),ca (show 1<s.length by omega)]
 simp only[af,i0,i1,ab,vi s _ h,yp s _ h];rw[ic (n:=(s[0]'(by omega)).toNat),ic (n:=(s[1]'(by omega)).toNat),e,PN,ab];cases wD (Cp s)==s<;>rfl
theorem U7 {s:Bytes}(h:(cI s).2=true):tn (cI s).1=true:=by
 unfold cI at h⊢;cases hn:(s.length:Int) !=16 with|true=>rw[hn]at h;cases h|false=>?_
 cases he:wD (Cp s)==s with|false=>rw[hn,he]at h;cases h|true=>?_
 simp only[af,aj];cases hd:tn (Cp s)with
 |true=>rfl
 |false=>
  have:wD (Cp s)=[]:=by unfold wD;rw[hd];rfl
  rw[this]at he;cases s with|nil=>simp at hn|cons x y=>cases he
def U9 (x:Cd):Bool:=bif x.1==1 then(ar (BitVec.toNat (gr x.2.1&&&gr 1))) !=0 else false
def pq (l:ax aB)(m:bR)(d:Int):Nat->ax Cd->kx->ax Cd×kx×Bool
 |0,acc,r=>(acc,r,true)
 |n+1,acc,r=>
  bif !(bg l m d r).2.2|| !(cI (bg l m d r).1).2 then([],(r.1,r.2.1,r.2.2.2,r.2.2.2),false) else
  bif U9 (cI (bg l m d r).1).1 then(acc++[(cI (bg l m d r).1).1],(bg l m d r).2.1,true) else
  pq l m d n (acc++[(cI (bg l m d r).1).1]) (bg l m d r).2.1
def cR (l:ax aB)(m:bR)(d:Int)(r:kx):ax Cd×kx×Bool:=
 bif !cV r||(bG r==0) then([],r,false) else pq l m d (bG r).toNat [] r
theorem Ef (k0:ax Cd->kx->ay R)(k1:ax Cd->Bool->ax Cd->kx->kx->ay R)(K:ax Cd×kx×Bool->ay R)
 (h0:∀a r,k0 a r=K (a,r,true)) (l:ax aB) (m:bR) (d:Int) (B E:kx) (h1:∀a r,k1 [] false a r E=K ([],E,false)) (hl:l.length<=10^9) (hm:m.length<=10^9):∀(n:Nat)(acc:ax Cd)(r:kx)(f:Nat),
 n<f->cV r=true->(bG r).toNat=n->acc.length+n<=1000->E=(r.1,r.2.1,r.2.2.2,r.2.2.2)->ba (lN k0 k1 l d ([]:ax Cd) false m B E) f (acc,r)=K (pq l m d n acc r)
 |n,acc,r,0,hf,_,_,_,_=>by omega
 |0,acc,r,f+1,hf,hb,hu,ha,hE=>by rw[ba];simp only[lN,yJ,ab];rw[cP,af,h0];rfl
 |n+1,acc,r,f+1,hf,hb,hu,ha,hE=>by
  have hlen:=Ey l m d r;have hk:=Dc (l:=l) (m:=m) (d:=d) (r:=r);rw[ba];simp only[lN,yJ,ab];rw[ks,ah,Gd l m d r hl hm,ab,pq];generalize bg l m d r=t at hlen hk⊢;cases ht:t.2.2 with
  |false=>simp only[cg,ah,iH,<-hE,h1]
  |true=>
   have hk:=hk ht;simp only[aj,af,cJ];rw[R6 _ (show t.1.length<=10^9 by omega),ab];generalize cI t.1=x;cases x.2 with
   |false=>simp only[cg,ah,<-hE,h1]
   |true=>
    simp only[aj,af];rw[aX (by rw[bC];omega)];have e:(aa (cond (x.1.1==1) (some ((ar (BitVec.toNat (gr x.1.2.1&&&gr 1))) !=0)) (some false)):(Bool->ay R)->ay R)=λK=>K (U9 x.1):=by funext K;unfold U9;cases x.1.1==1<;>rfl
    rw[e];cases U9 x.1 with|true=>simp only[ah,h0]|false=>simp only[af];exact Ef k0 k1 K h0 l m d B E h1 hl hm n _ _ f (by omega) hk.1 (by omega) (by simp;omega) (by rw[hE,hk.2.2.1,hk.2.2.2.1,hk.2.2.2.2])
theorem MI (l:ax aB)(m:bR)(d:Int)(r:kx)(hl:l.length<=10^9)(hm:m.length<=10^9):ue l m d r=some (cR l m d r):=by
 have B7:=eh;unfold ue cR;simp only[wE,yJ,ab];cases hb:cV r;rfl;cases bG r==0;case true=>rfl
 have hu:=wT hb;simp only[aj,af,ab,bZ];exact Ef _ _ (λx=>some x) (λ_ _=>rfl) l m d _ _ (λ_ _=>rfl) hl hm _ [] r fuel (by omega) hb rfl (by simp;omega) rfl
def yQ (x:Int×Int):Bool:=decide (x.1<0)|| !di x.2 0 4096
def oc (l:ax (Int×Int)):Bool:= !l.any yQ&&decide ((l.length:Int)<=16)
theorem Ws (l:ax (Int×Int)):(bif l.any yQ then some false else some (decide ((l.length:Int)<=16)))=some (oc l):=by unfold oc;cases l.any yQ<;>rfl
theorem K3 (l:ax (Int×Int))(h:l.length<=10^9):rQ l=some (oc l):=by
 unfold rQ;rw[<-Ws];refine J1 yQ l (by omega) (λi hi nx=>?_) (λnx=>?_);simp only[qM];rw[ks,ah,bl hi,ab,df,ak];unfold yQ;cases decide (l[i].1<0)with|true=>rfl|false=>simp only[af,ab,cJ];rfl
 simp only[qM];rw[cP,af]
theorem HX {l:ax (Int×Int)}(h:oc l=true):l.length<=16/\∀x∈l,0<=x.1/\0<=x.2/\x.2<=4096:=by unfold oc at h;simp only[ae,aD,aK]at h;refine⟨by omega,λx hx=>?_⟩;have:=List.any_eq_false.1 h.1 x hx;unfold yQ at this;simp only[cE,aD,aK,not_or,Bool.not_eq_false,bh]at this;omega
def dsc (n:Nat)(c:Int)(i:Nat)(x:Int×Int):Cd:=(1,(if i+1=n then 1 else 0),x.2,x.1,0,c)
def xw (ps:ax (Int×Int))(c:Int):Nat->ax Cd
 |0=>[]
 |i+1=>xw ps c i++[dsc ps.length c i (ps.getD i (0,0))]
theorem Ao (ps:ax (Int×Int))(c:Int):∀i,(xw ps c i).length=i
 |0=>rfl
 |i+1=>by rw[xw,ai,Ao ps c i];rfl
theorem Ho (ps:ax (Int×Int))(c:Int)(q:Cd->Bool):∀i,(xw ps c i).all q=(List.range i).all (λj=>q (dsc ps.length c j (ps.getD j (0,0))))
 |0=>rfl
 |i+1=>by rw[xw,List.all_append,Ho ps c q i,List.range_succ,List.all_append];rfl
def oy (ps:ax (Int×Int))(z c:Int):ax Cd:=
 bif ((ps.length:Int)==0)||(!oc ps|| !di z 1 128) then [] else
 bif ([(2,0,0,0,z,c)]++xw ps c ps.length).all tn then [(2,0,0,0,z,c)]++xw ps c ps.length else []
theorem Bh (ps:ax (Int×Int))(z c:Int)(h:ps.length<=10^9:=by omega):∃b,iC ps z c=some (b,oy ps z c)/\(b=false->oy ps z c=[]):=by
 unfold iC oy;rw[K3 ps h,df];simp only[ab];cases ((ps.length:Int)==0);case true=>exact⟨false,rfl,λ_=>rfl⟩
 cases oc ps;exact⟨false,rfl,λ_=>rfl⟩;cases di z 1 128;exact⟨false,rfl,λ_=>rfl⟩;simp only[aj,af,ab,bZ];refine⟨([(2,0,0,0,z,c)]++xw ps c ps.length).all tn,?_,λhb=>by rw[hb];rfl⟩;refine eD (λi=>(([(2,0,0,0,z,c)]++xw ps c i,(i:Int)):ax Cd×Int)) ps.length (by omega) (λi nx hi=>?_) (λnx=>?_);have hl:=Ao ps c i;simp only[kf];rw[ks,ah,bl hi,ab,ak (n:=(ps.length:Int)-1),ak];have e:[(2,0,0,0,z,c)]++xw ps c (i+1)=([(2,0,0,0,z,c)]++xw ps c i)++[dsc ps.length c i ps[i]]:=by rw[xw,ca hi,aR]
 rw[e];unfold dsc;by_cases hc:i+1=ps.length;rw[show((i:Int)==(ps.length:Int)-1)=true from by rw[aV];omega,aH hc];simp only[ah];rw[aX (by simp only[ai,bC];omega)];rfl;rw[show((i:Int)==(ps.length:Int)-1)=false from by rw[cH];omega,aI hc];simp only[af];rw[aX (by simp only[ai,bC];omega)];rfl;simp only[kf];rw[cP,af];have hl:=Ao ps c ps.length;generalize hq:[(2,0,0,0,z,c)]++xw ps c ps.length=q;have hn:q.length<=1000000001:=by rw[<-hq];simp only[ai,bC];omega
 rw[oW (fin:=some (true,q)) (hit:=some (false,[])) tn q (by omega) (λi hi nx=>?_) (λnx=>?_)];cases q.all tn<;>rfl;simp only[jA];rw[ks,ah,bl hi,ab,R7,ab,ak];rfl;simp only[jA];rw[cP,af]
def LI (x y:Cd):Bool:=(x.1==y.1)&&((x.2.1==y.2.1)&&((x.2.2.1==y.2.2.1)&&((x.2.2.2.1==y.2.2.2.1)&&((x.2.2.2.2.1==y.2.2.2.2.1)&&((x.2.2.2.2.2==y.2.2.2.2.2)&&true)))))
def H8 (a b:ax Cd):Bool:=((a.length:Int)==(b.length:Int))&&(List.range a.length).all λi=>LI (a.getD i It) (b.getD i It)
def kU (l:ax Cd):ax (Int×Int):=(l.drop 1).map λx=>(x.2.2.2.1,x.2.2.1)
def fE (l:ax Cd):ax (Int×Int)×Int×Int×Bool:=
 match l with
 |h::x::r=>bif H8 (oy (kU l) h.2.2.2.2.1 h.2.2.2.2.2) l then(kU l,h.2.2.2.2.1,h.2.2.2.2.2,true) else([],0,0,false)
 |_=>([],0,0,false)
theorem YL (ps:ax (Int×Int))(z c:Int):(oy ps z c).length<=ps.length+1:=by
 unfold oy;cases ((ps.length:Int)==0)||(!oc ps|| !di z 1 128);case true=>simp
 cases ([(2,0,0,0,z,c)]++xw ps c ps.length).all tn with|false=>simp|true=>simp only[af,ah,ai,bC,Ao];omega
theorem PT (l:ax Cd)(hl:l.length<=10^9):nR l=some (fE l):=by
 unfold nR;match l,hl with
 |[],_=>rfl
 |[h],_=>rfl
 |h::y::r,hl=>
  generalize hq:y::r=q;have hq1:1<=q.length:=by rw[<-hq];simp
  have hlen:q.length+1<=10^9:=by rw[<-hq];simpa using hl
  have i0:idx (h::q) 0=some h:=rfl;have s0:sub (h::q) 1 (((h::q).length:Nat):Int)=some q:=uV (l:=h::q) 1 (by simp) (a:=1) rfl;rw[au (by simp only[bz];omega),af,s0,ab];refine eD (λi=>(((q.take i).map (λx=>(x.2.2.2.1,x.2.2.1)),(i:Int)):ax (Int×Int)×Int)) q.length (by omega) (λi nx hi=>?_) (λnx=>?_);simp only[kZ];rw[ks,ah,bl hi,ab,aX (by simp only[cb,aW,bC];omega),ak,bL hi,dS];rfl;simp only[kZ];rw[cP,af,eo];have hp:q.map (λx=>(x.2.2.2.1,x.2.2.1))=kU (h::q):=rfl;have DC:(kU (h::q)).length=q.length:=by rw[<-hp,cb]
  rw[hp];have hdl:=YL (kU (h::q)) h.2.2.2.2.1 h.2.2.2.2.2;obtain⟨b,hd,hb⟩:=Bh (kU (h::q)) h.2.2.2.2.1 h.2.2.2.2.2;have hR:fE (h::q)=bif H8 (oy (kU (h::q)) h.2.2.2.2.1 h.2.2.2.2.2) (h::q) then(kU (h::q),h.2.2.2.2.1,h.2.2.2.2.2,true) else([],0,0,false):=by rw[<-hq];rfl
  rw[hR];simp only[i0,ab,hd];have hlc:(((h::q).length:Nat):Int)=(q.length:Int)+1:=by simp only[bz];omega
  generalize oy (kU (h::q)) h.2.2.2.2.1 h.2.2.2.2.2=w at hdl hb⊢
  have core:∀(K:ay (ax (Int×Int)×Int×Int×Bool))(w':ax Cd),w'=w->(bif ((w'.length:Nat):Int) !=(((h::q).length:Nat):Int) then some (([]:ax (Int×Int)),(0:Int),(0:Int),false) else
   ba (gv (λB5=>some (kU (h::q),h.2.2.2.2.1,h.2.2.2.2.2,true)) (λDj He Fq DV DW=>some (Dj,He,Fq,DV)) (h::q) (kU (h::q)) h.2.2.2.2.1 h.2.2.2.2.2 w' ((w'.length:Nat):Int)) fuel 0)=some (bif H8 w (h::q) then(kU (h::q),h.2.2.2.2.1,h.2.2.2.2.2,true) else([],0,0,false)):=by
   intro K w' e
   subst e
   unfold H8
   cases hl:((w'.length:Int)==(((h::q).length:Nat):Int))with
   |false=>simp only[bne,hl,cg,ah,eJ,af]
   |true=>
    have hn:w'.length=(h::q).length:=by have:=bk hl;omega
    simp only[bne,hl,aj,af,bq]
    rw[oX (fin:=some (kU (h::q),h.2.2.2.2.1,h.2.2.2.2.2,true)) (hit:=some ([],0,0,false)) (λi=>LI (w'.getD i It) ((h::q).getD i It)) w'.length (by omega) (λi nx hi=>?_) (λnx=>?_)]
    ·cases (List.range w'.length).all (λi=>LI (w'.getD i It) ((h::q).getD i It))<;>rfl
    ·have hi2:i<(h::q).length:=by omega
     simp only[gv]
     rw[ks,ah,bl hi,bl hi2,ab,ab,ak,ca hi,ca hi2];rfl
    ·simp only[gv]
     rw[cP,af]
  cases b with|true=>exact core none w rfl|false=>exact core none [] (hb rfl).symm
theorem S0 {l:ax Cd}(h:(fE l).2.2.2=true):oc (fE l).1=true/\∀p∈(fE l).1,p.1<=4294967295:=by match l,h with|hd::x::r,h=>unfold fE at h⊢;simp only at h⊢;cases hs:H8 (oy (kU (hd::x::r)) hd.2.2.2.2.1 hd.2.2.2.2.2) (hd::x::r)with|false=>rw[hs]at h;cases h|true=>simp only[ah];generalize hw:kU (hd::x::r)=ps at hs⊢;unfold H8 at hs;simp only[ae]at hs;have hn:=bk hs.1;unfold oy at hn;cases hc:((ps.length:Int)==0)||(!oc ps|| !di hd.2.2.2.2.1 1 128)with|true=>rw[hc]at hn;simp at hn;omega|false=>rw[hc]at hn;cases ha:([(2,0,0,0,hd.2.2.2.2.1,hd.2.2.2.2.2)]++xw ps hd.2.2.2.2.2 ps.length).all tn with|false=>rw[ha]at hn;simp at hn;omega|true=>simp only[ch,dB]at hc;refine⟨hc.2.1,λp hp=>?_⟩;rw[List.all_append,Ho,ae]at ha;obtain⟨i,hi,rfl⟩:=fb hp;have:=aF.1 ha.2 i (bK.2 hi);rw[ca hi]at this;simp only[tn,dsc,ae,bh]at this;omega
theorem Hp (l:ax aB)(m:bR)(d a n:Int):(qb l m d a n).1.length<=33554432:=by have hL:=H6 l m d a n false;have h1:=uA m (jU l m d a n false).1;unfold qb;cases (jU l m d a n false).2 with|false=>simp|true=>simp only[ah];omega
def tN (l:ax aB)(m:bR)(d:Int):ax (Int×Int)->Bytes->Bytes×Bool
 |[],acc=>(acc,true)
 |p::ps,acc=>bif (qb l m d p.1 p.2).2 then tN l m d ps (acc++(qb l m d p.1 p.2).1) else([],false)
def ka (l:ax aB)(m:bR)(d:Int)(ps:ax (Int×Int)):Bytes×Bool:=bif oc ps then tN l m d ps [] else([],false)
def FO (l:ax aB)(m:bR)(d:Int)(p:Int×Int)(s:Bytes):Except (ay (Bytes×Bool)) Bytes:=
 if(qb l m d p.1 p.2).2=true then .ok (s++(qb l m d p.1 p.2).1) else .error (some ([],false))
theorem KF (l:ax aB)(m:bR)(d:Int):∀(ps:ax (Int×Int))(s:Bytes),Qh (FO l m d) (λs=>some (s,true)) ps s=some (tN l m d ps s)
 |[],s=>rfl
 |p::ps,s=>by rw[Qh,tN];unfold FO;cases hd:(qb l m d p.1 p.2).2 with|false=>rfl|true=>rw[aH rfl];exact KF l m d ps _
theorem Iy (l:ax aB)(m:bR)(d:Int):∀(ps:ax (Int×Int))(s:Bytes),(tN l m d ps s).1.length<=s.length+33554432*ps.length
 |[],s=>by simp[tN]
 |p::ps,s=>by have h1:=Hp l m d p.1 p.2;rw[tN];cases (qb l m d p.1 p.2).2 with|false=>simp|true=>have:=Iy l m d ps (s++(qb l m d p.1 p.2).1);rw[ai]at this;simp only[ah,bz,Nat.mul_add];omega
theorem RB (l:ax aB)(m:bR)(d:Int)(ps:ax (Int×Int)):(ka l m d ps).1.length<=10^9:=by unfold ka;cases hp:oc ps with|false=>simp|true=>have:=(HX hp).1;have:=Iy l m d ps [];simp only[eO]at this;simp only[ah];omega
theorem VF (l:ax aB)(m:bR)(d:Int)(ps:ax (Int×Int))(hl:l.length<=10^9)(hm:m.length<=10^9)(hn:ps.length<=10^9)(ha:∀p∈ps,p.1<=9223372036854775807):pD l m d ps=some (ka l m d ps):=by
 unfold pD ka;rw[K3 ps hn,ab];cases hp:oc ps;rfl;have h16:=(HX hp).1;simp only[aj,af,ah];rw[<-KF];refine GK ps (λs i=>(s,(i:Int))) (λi s=>s.length<=33554432*i) (FO l m d) _ (by omega) (λi hi s nx hI=>?_) (λi hi s s' hI he=>?_) (λs nx hI=>?_) [] (by simp);have h1:=Hp l m d ps[i].1 ps[i].2;simp only[lL];rw[ks,ah,bl hi,ab,zC l m d _ _ hl hm (ha _ (aZ hi)),ab];unfold FO;cases hd:(qb l m d ps[i].1 ps[i].2).2 with|false=>rfl|true=>rw[aH rfl,aX,ak];rfl
 have h1:=Hp l m d ps[i].1 ps[i].2;unfold FO at he;split at he;injection he with he;rw[<-he,ai];omega;cases he;simp only[lL];rw[cP,af]
def zh (t:Bytes):Int:=cj t ((dm t+2:Nat):Int)
def M0 (t:Bytes):Int:=Nb ((t.take (dm t+20)).drop (dm t))
def WK (t:Bytes):Bytes:=(t.take (dm t+(zh t).toNat)).drop (dm t+20)
def afl (t:Bytes):Bytes:=vo (fI t ((dm t+12:Nat):Int)) (fI t ((dm t+16:Nat):Int)) (kv t:Int) (zh t-20)
def Ik (t:Bytes):Int:=bif ((kv t:Int)==17)&&(Nb (afl t++WK t)==0) then 65535 else Nb (afl t++WK t)
def XF (t s:Bytes):Bytes×Bool:=bif ((jT s).2==0)&&((jL (jT s).1).1==t) then dp (jT s).1 else([],false)
def xy (t:Bytes):Bytes×Bool:=XF t (lR t (bT (M0 t)) (bT (Ik t)))
theorem JJ {t:Bytes}(h:¬(TOk t/\cj t (Ah t:Int)=0/\cj t (yf t:Int)=0)):xy t=([],false):=by
 have ha:BM (lR t (bT (M0 t)) (bT (Ik t))) t:=En t (bF _) (bF _);unfold xy XF;generalize lR t (bT (M0 t)) (bT (Ik t))=s at ha⊢;cases h1:(jT s).2==0;rfl;have Ml:(jT s).2=0:=by simpa using h1
 cases h2:(jL (jT s).1).1==t;rfl;have QK:(jL (jT s).1).1=t:=eq_of_beq h2;have ht:=aiO ha Ml;exact absurd ⟨ht,abb QK (LD Ml).2.2.1 ht⟩ h
theorem G1 (t:Bytes)(o n:Nat):(t.drop o).take n=(t.take (o+n)).drop o:=by rw[List.drop_take];congr 1;omega
theorem S6 {t:Bytes}(h1:dm t+20<=t.length)(h2:20<=zh t)(h3:zh t<=(t.length:Int))(h4:t.length<=10^9):xN (fI t ((dm t+12:Nat):Int)) (fI t ((dm t+16:Nat):Int)) (kv t:Int) (zh t-20)=true:=by have a1:=Ar (s:=t) (a:=((dm t+12:Nat):Int));have a2:=Ar (s:=t) (a:=((dm t+16:Nat):Int));have a3:=eH t (dm t+9);have a4:=CA (s:=t) (a:=((dm t+2:Nat):Int));unfold xN;rw[bh.2 a1,bh.2 a2,bh.2 (show 0<=(kv t:Int)/\(kv t:Int)<=255 by unfold kv;omega),bh.2 (show 0<=zh t-20/\zh t-20<=65535 by unfold zh at*;omega)];rfl
theorem Zv (t:Bytes)(hl:t.length<=10^9):vL t=some (xy t):=by
 have hp:=yR t
 have hk:=GU (kv t)
 have Vt:kv t<256:=eH t (dm t+9)
 have CC:=Bu t
 unfold vL
 rw[F7 t hl,ab,vi _ _ (by omega),ab]
 cases h1:(fL t).2 with
 |false=>rw[JJ λh=>by have:=h.1.eth;rw[h1]at this;cases this];rfl
 |true=>
 have he:=HV h1
 rw[he.1]
 simp only[aj,af,ab]
 have en:cj (t.drop (dm t)) 2=zh t:=KG (a:=2)
 rw[en]
 by_cases h4:zh t<20
 ·rw[aw h4,JJ λh=>by have:=h.1.n1;unfold zh at h4;omega];rfl
 rw[au h4]
 simp only[af,ab]
 by_cases h5:zh t>((t.drop (dm t)).length:Int)
 ·rw[aw h5,JJ λh=>by have:=h.1.n2;unfold zh at h5;rw[aM]at h5;omega];rfl
 rw[au h5]
 rw[aM]at h5
 have hdl:(t.drop (dm t)).length=t.length-dm t:=aM ..
 obtain⟨n,hn⟩:=aQ (show 0<=zh t by omega)
 obtain⟨x,hx,ex⟩:=lI (s:=t.drop (dm t)) (i:=9)
 have hx9:idx (t.drop (dm t)) 9=some x:=hx
 have s1:sub (t.drop (dm t)) 0 20=some ((t.take (dm t+20)).drop (dm t)):=by rw[ye,<-G1];rfl
 have s2:sub (t.drop (dm t)) 20 (zh t)=some (WK t):=by rw[Qz (l:=t.drop (dm t)) 20 (a:=20) rfl,hn,aA,G1,eK];unfold WK;rw[hn];rfl
 have hps:=HZ (fI t ((dm t+12:Nat):Int)) (fI t ((dm t+16:Nat):Int)) (kv t:Int) (zh t-20)
 have acY:((WK t).length:Int)=zh t-20:=by unfold WK;rw[aM,aW,hn];omega
 have hk2:ar ((UInt8.toNat x:Int))=(kv t:Int):=by rw[ex,lE,ic (show bM t (dm t+9)<9223372036854775808 by unfold kv at Vt;omega)];rfl
 have g12:fI (t.drop (dm t)) 12=fI t ((dm t+12:Nat):Int):=KH (a:=12)
 have g16:fI (t.drop (dm t)) 16=fI t ((dm t+16:Nat):Int):=KH (a:=16)
 have hw:ar ((LX (kv t):Int)+2)=(LX (kv t):Int)+2:=by rw[ak]
 simp only[af,ab,Gc t hl,s1,s2,hx9,yp _ _ (show(t.drop (dm t)).length<=10^9 by omega),hk2,K5,acY,g12,g16,S6 (show dm t+20<=t.length by omega) (show 20<=zh t by omega) (show zh t<=(t.length:Int) by omega) hl,ah,aj,HD _ Vt,hw]
 rw[show vo (fI t ((dm t+12:Nat):Int)) (fI t ((dm t+16:Nat):Int)) (kv t:Int) (zh t-20)=afl t from rfl]at hps⊢
 by_cases h6:(LX (kv t):Int)+2>zh t-20
 ·rw[aw h6,JJ λh=>by have:=h.1.n1;unfold zh at h6;omega];rfl
 rw[au h6]
 simp only[af]
 have hck:((t.take (dm t+20)).drop (dm t)).length<=10^9:=by rw[aM,aW];omega
 rw[aX,JP _ (by rw[ai];omega),ab]
 have qc:∀y:Int,Ik t=y->(aa (jd ((t.take (dm t+20)).drop (dm t))) λr25=>aa (bX r25) λr26=>aa (fJ t (Ah t:Int) r26) λr27=>aa (bX y) λr28=>aa (fJ r27 (yf t:Int) r28) λr29=>aa (iy r29) λX8=>aa (mj X8.1) λr31=>
  aa (bif X8.2 !=0 then some true else bif !r31.2 then some true else some (!(r31.1==t))) λq32=>bif q32 then some (([]:Bytes),false) else aa (gT X8.1) λr33=>some r33)=some (xy t):=by
  intro y hy
  subst hy
  have b1:=bF (M0 t)
  have b2:=bF (Ik t)
  rw[JP _ hck,ab,show Nb ((t.take (dm t+20)).drop (dm t))=M0 t from rfl]
  rw[kM,ab,Bk t _ _ hl,ab,kM,ab,Bk _ _ _ (by rw[wQ];exact hl),ab]
  have hlen:=CY t (bT (M0 t)) (bT (Ik t))
  unfold xy
  rw[show vp (vp t (Ah t:Int) (bT (M0 t))) (yf t:Int) (bT (Ik t))=lR t (bT (M0 t)) (bT (Ik t)) from rfl]
  generalize lR t (bT (M0 t)) (bT (Ik t))=s at hlen⊢
  simp only[DG s (by omega),ab,NT,DF,XF,bne]
  cases h1:(jT s).2==0;rfl
  have XL:=(LD (show(jT s).2=0 by simpa using h1)).2.2.1
  have h2:(jL (jT s).1).2=true:=by unfold jL;rw[XL];rfl
  rw[h2]
  cases (jL (jT s).1).1==t<;>rfl
 cases h8:(kv t:Int)==17 with
 |false=>exact qc _ (by unfold Ik;rw[h8];rfl)
 |true=>
  simp only[ah,ab]
  cases h7:Nb (afl t++WK t)==0 with
  |false=>exact qc _ (by unfold Ik;rw[h7,fH];rfl)
  |true=>exact qc _ (by unfold Ik;rw[h7,h8];rfl)
theorem YP (t:Bytes):(xy t).1.length<=378:=by unfold xy XF;generalize lR t (bT (M0 t)) (bT (Ik t))=s;cases ((jT s).2==0)&&((jL (jT s).1).1==t)with|false=>exact bU _|true=>exact yo _
theorem Kc (l:ax aB)(m:bR)(d:Int):∀(n:Nat)(acc:ax Cd)(r:kx),(pq l m d n acc r).1.length<=acc.length+n
 |0,acc,r=>aS _
 |n+1,acc,r=>by
  rw[pq];cases !(bg l m d r).2.2|| !(cI (bg l m d r).1).2;case true=>exact bU _
  cases U9 (cI (bg l m d r).1).1 with|true=>simp only[af,ah,ai,bC];omega|false=>have:=Kc l m d n (acc++[(cI (bg l m d r).1).1]) (bg l m d r).2.1;simp only[ai,bC]at this;simp only[af];omega
theorem WG (h:cV r=true):cV (r.1,r.2.1,r.2.2.2,r.2.2.2)=true/\bG (r.1,r.2.1,r.2.2.2,r.2.2.2)=0:=by
 have hr:=lg h;have hq:=h;simp only[cV,ae,aD]at hq;have hu:bG (r.1,r.2.1,r.2.2.2,r.2.2.2)=0:=by unfold bG;simp only[Int.sub_self,Int.zero_emod,ite_self]
 refine⟨?_,hu⟩;simp only[cV,ae,aD,bh,hu,hq.2.1,true_and];omega
theorem Is (l:ax aB)(m:bR)(d:Int):∀(n:Nat)(acc:ax Cd)(r:kx),cV r=true->(bG r).toNat=n->
 cV (pq l m d n acc r).2.1=true/\bG (pq l m d n acc r).2.1<=bG r/\(0<bG r->bG (pq l m d n acc r).2.1<bG r)
 |0,acc,r,hb,hu=>⟨hb,dW _,λh=>by omega⟩
 |n+1,acc,r,hb,hu=>by have hk:=Dc (l:=l) (m:=m) (d:=d) (r:=r);have he:=WG hb;rw[pq];cases hc: !(bg l m d r).2.2|| !(cI (bg l m d r).1).2 with|true=>exact⟨he.1,by show bG (r.1,r.2.1,r.2.2.2,r.2.2.2)<=_;rw[he.2];omega,λ_=>by show bG (r.1,r.2.1,r.2.2.2,r.2.2.2)<_;rw[he.2];omega⟩|false=>simp only[ch,dB]at hc;have hk:=hk hc.1;cases U9 (cI (bg l m d r).1).1 with|true=>exact⟨hk.1,by show bG (bg l m d r).2.1<=_;omega,λ_=>by show bG (bg l m d r).2.1<_;omega⟩|false=>have:=Is l m d n (acc++[(cI (bg l m d r).1).1]) (bg l m d r).2.1 hk.1 (by omega);simp only[af];exact⟨this.1,by omega,λ_=>by omega⟩
def gZ (l:ax aB)(m:bR)(d:Int)(r:kx):kx×bR×Int:=
 bif !cV r||(bG r==0) then(r,[],0) else
 bif !(cR l m d r).2.2|| !(fE (cR l m d r).1).2.2.2 then((cR l m d r).2.1,[],2) else
 bif !(ka l m d (fE (cR l m d r).1).1).2||(!(xy (ka l m d (fE (cR l m d r).1).1).1).2||((jT (xy (ka l m d (fE (cR l m d r).1).1).1).1).2 !=0)) then((cR l m d r).2.1,[],2) else
 ((cR l m d r).2.1,To (jT (xy (ka l m d (fE (cR l m d r).1).1).1).1).1 (fE (cR l m d r).1).2.1,1)
theorem VI (l:ax aB)(m:bR)(d:Int)(r:kx)(hl:l.length<=10^9)(hm:m.length<=10^9):pM l m d r=some (gZ l m d r):=by
 unfold pM gZ;simp only[wE,yJ,ab,MI l m d r hl hm];cases hb:cV r;rfl;cases bG r==0;case true=>rfl
 have hu:=wT hb;have hcl:(cR l m d r).1.length<=16:=by unfold cR;cases !cV r||(bG r==0)with|true=>exact bU _|false=>have:=Kc l m d (bG r).toNat [] r;simp only[eO]at this;show(pq l m d (bG r).toNat [] r).1.length<=16;omega
 simp only[aj,af,ab,bZ];generalize cR l m d r=c at hcl⊢;cases c.2.2;rfl;simp only[aj,af,ab,cJ,PT c.1 (show c.1.length<=10^9 by omega)];have hpo:=S0 (l:=c.1);generalize fE c.1=p at hpo⊢;cases hp:p.2.2.2;rfl;have hpo:=hpo hp;have h16:=(HX hpo.1).1;have hg:=RB l m d p.1;simp only[aj,af,ab,cJ,VF l m d p.1 hl hm (show p.1.length<=10^9 by omega) (λq hq=>Int.le_trans (hpo.2 q hq) (by omega))];generalize ka l m d p.1=g at hg⊢;cases g.2;rfl;have hf:=YP g.1;simp only[aj,af,ab,cJ,Zv g.1 hg];generalize xy g.1=f at hf⊢;cases f.2;rfl;simp only[aj,af,ab,cJ,DG f.1 (show f.1.length<=10^9 by omega)];generalize jT f.1=i;cases i.2 !=0;case true=>rfl
 simp only[af,adh,ab]
theorem N3 (l:ax aB)(m:bR)(d:Int)(r:kx): ((gZ l m d r).2.2=0->(gZ l m d r).1=r)/\((gZ l m d r).2.2≠0->0<bG r/\cV r=true/\cV (gZ l m d r).1=true/\bG (gZ l m d r).1<bG r)/\(gZ l m d r).2.1.length<=320/\(∀x∈(gZ l m d r).2.1,x.length<=382)/\((gZ l m d r).2.2=0\/(gZ l m d r).2.2=1\/(gZ l m d r).2.2=2):=by
 unfold gZ;cases hc: !cV r||(bG r==0)with
 |true=>exact⟨λ_=>rfl,λh=>absurd rfl h,bU _,(λx hx=>by cases hx),.inl rfl⟩
 |false=>
  simp only[ch,dB,cH]at hc;have hu:=wT hc.1;have hch:cV (cR l m d r).2.1=true/\bG (cR l m d r).2.1<bG r:=by have:=Is l m d (bG r).toNat [] r hc.1 rfl;unfold cR;rw[show(!cV r||(bG r==0))=false from by rw[hc.1];simpa using hc.2];exact⟨this.1,this.2.2 (by omega)⟩
  cases !(cR l m d r).2.2|| !(fE (cR l m d r).1).2.2.2 with|true=>exact⟨(λh=>by cases h),λ_=>⟨by omega,hc.1,hch⟩,bU _,(λx hx=>by cases hx),.inr (.inr rfl)⟩|false=>cases !(ka l m d (fE (cR l m d r).1).1).2||(!(xy (ka l m d (fE (cR l m d r).1).1).1).2||((jT (xy (ka l m d (fE (cR l m d r).1).1).1).1).2 !=0))with|true=>exact⟨(λh=>by cases h),λ_=>⟨by omega,hc.1,hch⟩,bU _,(λx hx=>by cases hx),.inr (.inr rfl)⟩|false=>have hs:=aaQ (jT (xy (ka l m d (fE (cR l m d r).1).1).1).1).1 (fE (cR l m d r).1).2.1;exact⟨(λh=>by cases h),λ_=>⟨by omega,hc.1,hch⟩,hs.1,hs.2,.inr (.inl rfl)⟩
def mw (l:ax aB)(m:bR)(d:Int):Nat->bR->Nat->Nat->kx->kx×bR×Int×Int
 |0,fr,dn,bd,r=>(r,fr,(dn:Int),(bd:Int))
 |n+1,fr,dn,bd,r=>
  bif (gZ l m d r).2.2==0 then(r,fr,(dn:Int),(bd:Int)) else
  bif (gZ l m d r).2.2==1 then mw l m d n (fr++(gZ l m d r).2.1) (dn+1) bd (gZ l m d r).1 else
  mw l m d n (fr++(gZ l m d r).2.1) dn (bd+1) (gZ l m d r).1
def py (l:ax aB)(m:bR)(d:Int)(r:kx):kx×bR×Int×Int:=mw l m d 17 [] 0 0 r
theorem EY (l:ax aB)(m:bR)(d:Int)(hl:l.length<=10^9)(hm:m.length<=10^9):∀(n:Nat)(fr:bR)(dn bd:Nat)(r:kx)(f:Nat),n<f->(cV r=true->bG r<n)->0<n->fr.length+320*n<=10000->dn+bd+n<=1000->
 ba (mK (λy2 y3 y4 _ _ _ _ y9=>some (y9,y2,y3,y4)) l d ([]:bR) 0 0 m (0,0,0,0)) f (fr,(dn:Int),(bd:Int),r)=some (mw l m d n fr dn bd r)
 |0,fr,dn,bd,r,f,_,_,h0,_,_=>by omega
 |n+1,fr,dn,bd,r,0,hf,_,_,_,_=>by omega
 |n+1,fr,dn,bd,r,f+1,hf,hr,_,jq,hc=>by have ok:=N3 l m d r;rw[ba,mw];simp only[mK,VI l m d r hl hm,ab];generalize gZ l m d r=x at ok⊢;cases h0:x.2.2==0 with|true=>simp only[ah,ok.1 (by simpa using h0)]|false=>have hk:=ok.2.1 (by simpa using h0);have hu:=hr hk.2.1;have hu2:=(wT hk.2.2.1).1;simp only[af];cases x.2.2==1 with|true=>simp only[ah];rw[aX,ak];exact EY l m d hl hm n _ (dn+1) bd _ f (by omega) (λ_=>by omega) (by omega) (by rw[ai];omega) (by omega)|false=>simp only[af];rw[aX,ak];exact EY l m d hl hm n _ dn (bd+1) _ f (by omega) (λ_=>by omega) (by omega) (by rw[ai];omega) (by omega)
theorem ZP (l:ax aB)(m:bR)(d:Int)(r:kx)(hl:l.length<=10^9)(hm:m.length<=10^9):qU l m d r=some (py l m d r):=by have B7:=eh;unfold qU;exact EY l m d hl hm 17 [] 0 0 r fuel (by omega) (λh=>by have:=(wT h).2;omega) (by omega) (by simp) (by omega)
theorem DT (l:ax aB)(m:bR)(d:Int):∀(n:Nat)(fr:bR)(dn bd:Nat)(r:kx),(∀x∈fr,x.length<=382)->
 (mw l m d n fr dn bd r).2.1.length<=fr.length+320*n/\(∀x∈(mw l m d n fr dn bd r).2.1,x.length<=382)/\0<=(mw l m d n fr dn bd r).2.2.1/\(mw l m d n fr dn bd r).2.2.1<=(dn+n:Nat)/\0<=(mw l m d n fr dn bd r).2.2.2/\(mw l m d n fr dn bd r).2.2.2<=(bd+n:Nat)
 |0,fr,dn,bd,r,h=>⟨aS _,h,by show(0:Int)<=(dn:Int);omega,by show(dn:Int)<=_;omega,by show(0:Int)<=(bd:Int);omega,by show(bd:Int)<=_;omega⟩
 |n+1,fr,dn,bd,r,h=>by
  have ok:=N3 l m d r;rw[mw];generalize gZ l m d r=x at ok⊢;have h2:∀y∈fr++x.2.1,y.length<=382:=λy hy=>by rcases az.1 hy with g|g;exact h y g;exact ok.2.2.2.1 y g
  cases x.2.2==0 with|true=>exact⟨by show fr.length<=_;omega,h,by show(0:Int)<=(dn:Int);omega,by show(dn:Int)<=_;omega,by show(0:Int)<=(bd:Int);omega,by show(bd:Int)<=_;omega⟩|false=>cases x.2.2==1 with|true=>have i:=DT l m d n (fr++x.2.1) (dn+1) bd x.1 h2;rw[ai]at i;simp only[af,ah];exact⟨by omega,i.2.1,i.2.2.1,by omega,i.2.2.2.2.1,by omega⟩|false=>have i:=DT l m d n (fr++x.2.1) dn (bd+1) x.1 h2;rw[ai]at i;simp only[af,ah];exact⟨by omega,i.2.1,i.2.2.1,by omega,i.2.2.2.2.1,by omega⟩
def Cq (v:Vector):Bool:=bif decide (v.2.2.1>=1) then(bif decide (v.2.2.1>=v.1) then true else decide (v.2.2.2.1>=v.2.1)) else false
theorem afu (v:Vector):AD v=some (Cq v):=by unfold AD Cq;cases decide (v.2.2.1>=1);rfl;cases decide (v.2.2.1>=v.1)<;>rfl
theorem af5 (v:Vector):tD v=some (Cq v):=by unfold tD Cq;cases decide (v.2.2.1>=1);rfl;cases decide (v.2.2.1>=v.1)<;>rfl
def Cg (v:Vector):Vector:=bif Cq v&& !v.2.2.2.2.1 then(v.1,v.2.1,v.2.2.1,v.2.2.2.1,v.2.2.2.2.1,true) else v
theorem HA (v:Vector):nX v=some (Cg v):=by unfold nX Cg;rw[afu,ab];cases Cq v;rfl;cases v.2.2.2.2.1<;>rfl
def upM (n:Int):Int:=if 1000000<ar (n+1) then 1000000 else ar (n+1)
def evV (v:Vector):Vector:=bif eG v then Cg (v.1,v.2.1,upM v.2.2.1,v.2.2.2) else v
theorem Zq (v:Vector):vI v=some (evV v):=by unfold vI evV;rw[yK,ab,HA,ab];cases eG v<;>rfl
def TN (v:Vector):Vector:=bif eG v then(bif decide (v.2.2.1>0) then Cg (v.1,v.2.1,v.2.2.1,upM v.2.2.2.1,v.2.2.2.2) else Cg v) else v
theorem ZO (v:Vector):sG v=some (TN v):=by unfold sG TN;simp only[yK,ab,HA];cases eG v;rfl;cases decide (v.2.2.1>0)<;>rfl
def AP (v:Vector):Vector×Bool:=bif eG v&&v.2.2.2.2.2 then((v.1,v.2.1,0,0,true,false),true) else(v,false)
theorem ZN (v:Vector):nW v=some (AP v):=by unfold nW AP;rw[yK,ab];cases eG v;rfl;cases v.2.2.2.2.2<;>rfl
def G7 (v:Vector):Vector:=bif eG v then Cg (v.1,v.2.1,v.2.2.1,v.2.2.2.1,false,v.2.2.2.2.2) else v
theorem K7 (v:Vector):wG v=some (G7 v):=by unfold wG G7;rw[yK,ab,HA,ab];cases eG v<;>rfl
structure lp (k:Nat) (a b:Host):Prop where
 mem:b.1.length=a.1.length
 maps:b.2.1=a.2.1
 tx:b.2.2.1=a.2.2.1
 rx:b.2.2.2.1.length=a.2.2.2.1.length
 rxs:∀j,k<=j->b.2.2.2.1[j]?=a.2.2.2.1[j]?
 pl:b.2.2.2.2.1.length=a.2.2.2.2.1.length
 vec:b.2.2.2.2.2.1.length=a.2.2.2.2.2.1.length
 TS:∀j,k<=j->b.2.2.2.2.2.1[j]?=a.2.2.2.2.2.1[j]?
 Wt:b.2.2.2.2.2.2.1.length=a.2.2.2.2.2.2.1.length
 Jo:b.2.2.2.2.2.2.2.1=a.2.2.2.2.2.2.2.1
 Ot:b.2.2.2.2.2.2.2.2.1=a.2.2.2.2.2.2.2.2.1
theorem lp.refl (k:Nat)(a:Host):lp k a a:=⟨rfl,rfl,rfl,rfl,λ_ _=>rfl,rfl,rfl,λ_ _=>rfl,rfl,rfl,rfl⟩
theorem lp.trans {a b c:Host}(h:lp k a b)(g:lp k b c):lp k a c:=⟨g.mem.trans h.mem,g.maps.trans h.maps,g.tx.trans h.tx,g.rx.trans h.rx,λj hj=>(g.rxs j hj).trans (h.rxs j hj),g.pl.trans h.pl,g.vec.trans h.vec,λj hj=>(g.TS j hj).trans (h.TS j hj),g.Wt.trans h.Wt,g.Jo.trans h.Jo,g.Ot.trans h.Ot⟩
theorem lp.up {m:Nat}{a b:Host}(h:lp k a b)(hk:k<=m):lp m a b:=⟨h.mem,h.maps,h.tx,h.rx,λj hj=>h.rxs j (by omega),h.pl,h.vec,λj hj=>h.TS j (by omega),h.Wt,h.Jo,h.Ot⟩
def kq (g:Nat->Host->Host):Nat->Host->Host
 |0,h=>h
 |k+1,h=>g k (kq g k h)
theorem vA {g:Nat->Host->Host}(hg:∀k h,lp (k+1) h (g k h))(h:Host):∀k,lp k h (kq g k h)
 |0=>lp.refl 0 h
 |k+1=>((vA hg h k).up (by omega)).trans (hg k _)
theorem BE {g:Nat->Host->Host}{d:Nat}(hn:1000<=n)(hg:∀k h m,1000<=m->cW m dD h->cW (m+d) dD (g k h))(z:cW n dD h):∀k,cW (n+d*k) dD (kq g k h)
 |0=>z
 |k+1=>(hg k _ _ (by omega) (BE hn hg z k)).mono (by rw[Nat.mul_add];omega)
def tE (i:Nat)(h:Host):Host:=
 match h.2.2.2.2.2.1[i]? with
 |some v=>(h.1,h.2.1,h.2.2.1,h.2.2.2.1,h.2.2.2.2.1,h.2.2.2.2.2.1.set i (TN v),h.2.2.2.2.2.2)
 |none=>h
theorem Fc (i:Nat)(h:Host):lp (i+1) h (tE i h):=by unfold tE;cases h.2.2.2.2.2.1[i]? with|none=>exact lp.refl _ _|some v=>exact⟨rfl,rfl,rfl,rfl,λ_ _=>rfl,rfl,aC ..,λj hj=>aN (by omega),rfl,rfl,rfl⟩
theorem JZ {l:ax Vector}{v:Vector}(z:cW n (.sl fG) l):cW n (.sl fG) (l.set i v):=oF z ⟨cq,cq,cq,cq,cq,cq⟩
theorem abf (i:Nat)(h:Host)(n:Nat)(hn:1000<=n)(z:cW n dD h):cW (n+0) dD (tE i h):=by unfold tE;cases h.2.2.2.2.2.1[i]? with|none=>exact z|some v=>exact⟨z.1,z.2.1,z.2.2.1,z.2.2.2.1,z.2.2.2.2.1,JZ z.2.2.2.2.2.1,z.2.2.2.2.2.2⟩
def zR (h:Host):Host:=bif dF h then kq tE h.2.2.2.2.2.1.length h else h
theorem aeH (hn:1000<=n)(z:cW n dD h):cW n dD (zR h)/\(zR h).2.2.1=h.2.2.1:=by unfold zR;cases dF h with|false=>exact⟨z,rfl⟩|true=>exact⟨(BE hn abf z _).mono,(vA Fc h _).tx⟩
theorem adj (h:Host)(k:Hg h)(z:cW 1000000000 dD h):vR h=some (zR h):=by
 have B7:=eh;unfold vR zR;rw[kc h z,ab,qn h k,ab];cases hb:dF h;rfl;have hv:h.2.2.2.2.2.1.length<=10^9:=z.2.2.2.2.2.1.1;simp only[aj,af,ah];refine eD (λi=>((i:Int),kq tE i h)) h.2.2.2.2.2.1.length (by omega) (λi nx hi=>?_) (λnx=>?_);have kk:=vA Fc h i;have i1:i<(kq tE i h).2.2.2.2.2.1.length:=by rw[kk.vec];exact hi
 rw[show kq tE (i+1) h=tE i (kq tE i h) from rfl];generalize kq tE i h=s at i1⊢;simp only[qL,tE];rw[ks,ah,aq i1];simp only[bl i1,ab,ZO,aA];rw[ak];rfl;simp only[qL];rw[cP,af]
structure AW (n:Nat) (h:Host):Prop where
 z:cW n dD h
 t:h.2.2.1.2.1.2.2.2.length+(bu h.2.2.1.2.2.1).length<=n
theorem AW.mono {m:Nat}(k:AW n h)(hn:n<=m:=by omega):AW m h:=⟨k.z.mono hn,bw k.t hn⟩
theorem AW.sz (k:AW n h)(hn:n<=10^9):Hg h:=by have z:cW 1000000000 dD h:=k.z.mono hn;exact⟨z.1.1,z.2.1.1,z.2.2.1.2.2.1.1,bw k.t hn,z.2.2.2.2.2.2.2.1.2.2.1,z.2.2.2.2.2.2.2.2.1.1.1,z.2.2.2.2.2.2.2.2.1.2.1.1,z.2.2.2.2.2.2.2.2.1.2.2.2.1,λp hp=>(z.2.2.2.2.1.2 p hp).2.2.2.1⟩
theorem AW.of (k:T9 dD h<=1048576):AW 1048576 h:=by
 refine⟨JX k,?_⟩;have hb:=Xp h.2.2.1.2.2.1;have h1:T9 kJ h.2.2.1<=T9 dD h:=by simp only[T9];omega
 have hp:h.2.2.1.2.1.2.2.2.length+T9 (.sl ir) h.2.2.1.2.2.1<=T9 kJ h.2.2.1:=by simp only[T9];omega
 omega
def qj (p:cK):ax kz->cK
 |[]=>p
 |x::l=>qj (ER p x.2.2).1 l
theorem Hu:∀(l:ax kz)(p:cK),(qj p l).2.2.2.length<=p.2.2.2.length+(bu l).length
 |[],p=>by simp[qj]
 |x::l,p=>by have h1:=RE p x.2.2;have h2:=Hu l (ER p x.2.2).1;simp only[qj,bu,List.flatMap_cons,ai]at h2⊢;omega
theorem NB:∀(l:ax kz)(p:cK)(x:kz),qj p (l++[x])=(ER (qj p l) x.2.2).1
 |[],p,x=>rfl
 |y::l,p,x=>by rw[List.cons_append,qj,qj,NB l]
theorem Q2 (a b:ax kz):(bu (a++b)).length=(bu a).length+(bu b).length:=by simp only[bu,List.flatMap_append,ai]
theorem Q3 (l:ax kz)(n:Nat):(bu (l.take n)).length+(bu (l.drop n)).length=(bu l).length:=by rw[<-Q2,cm]
def mX (t:dx)(n:Int):dx×cZ:=
 bif Mb t&&di n 0 (t.2.2.1.length:Int) then((t.1,qj t.2.1 (t.2.2.1.take n.toNat),t.2.2.1.drop n.toNat,t.2.2.2),(t.2.2.1.take n.toNat).map (·.1)) else(t,[])
theorem af3 {l:ax kz}(h:(bu l).length<=10^9):∀x∈l,x.2.2.length<=10^9:=by intro x hx;induction l with|nil=>cases hx|cons y l ih=>simp only[bu,List.flatMap_cons,ai]at h;rcases cn.1 hx with rfl|g;omega;exact ih (by simp only[bu];omega) g
theorem PL (t:dx)(n:Int)(hw:t.2.2.1.length<=10^9)(hs:t.2.1.2.2.2.length+(bu t.2.2.1).length<=10^9):lJ t n=some (mX t n):=by
 have hx:=af3 (l:=t.2.2.1) (by omega);unfold lJ mX;rw[EW t ⟨by omega,hw,hx⟩,ab,VO t hw hs];simp only[ab,df];cases Mb t;rfl;cases hn:di n 0 (t.2.2.1.length:Int);rfl;have h:=bh.1 hn;obtain⟨n,rfl⟩:=aQ h.1;have hl:n<=t.2.2.1.length:=by omega
 simp only[aj,af,ab,dH,ah,aA];rw[ye,ab,aA];have htl:(t.2.2.1.take n).length=n:=by rw[aW];omega
 rw[htl];refine eD (λi=>(((t.2.2.1.take i).map (·.1),(i:Int),t.1,qj t.2.1 (t.2.2.1.take i),t.2.2):cZ×Int×dx)) n (by omega) (λi nx hi=>?_) (λnx=>?_);have hi2:i<(t.2.2.1.take n).length:=by omega
 have hi3:i<t.2.2.1.length:=by omega
 have e1:(t.2.2.1.take n)[i]=t.2.2.1[i]:=List.getElem_take ..;have g1:=Hu (t.2.2.1.take i) t.2.1;have g2:=Q3 t.2.2.1 (i+1);have g3:(bu (t.2.2.1.take (i+1))).length=(bu (t.2.2.1.take i)).length+t.2.2.1[i].2.2.length:=by rw[bL hi3,Q2];simp[bu]
 simp only[jz];rw[ks,ah,bl hi2,e1,ab,K1 _ _ (by omega),ab,aX (by simp only[cb,aW,bC];omega),ak,bL hi3,NB,dS];rfl;simp only[jz];rw[cP,af,uV (l:=t.2.2.1) n hl rfl,ab,F3 _ (by rw[aM];omega) (λx Ab=>hx x (List.mem_of_mem_drop Ab)),ab]
theorem Nf (n:Int):∀l:ax kz,l.all (oh n)=true->(l.length:Int)<=dI l
 |[],_=>by simp[dI]
 |x::l,h=>by simp only[cc,ae]at h;have:=Nf n l h.2;have hx:=h.1;unfold oh at hx;simp only[ae,bh]at hx;simp only[dI,cS,List.sum_cons,bz]at this⊢;omega
theorem Fe (h:Mb t=true):t.2.2.1.length<=16:=by unfold Mb at h;simp only[ae,aD]at h;have h1:=Nf _ _ h.2.2.2.1;have h2:=(lg h.1).2.2.1;have h3:=h.2.2.2.2.2;omega
theorem FD (n:Int)(z:cW k kJ t)(hs:t.2.1.2.2.2.length+(bu t.2.2.1).length<=k): cW k kJ (mX t n).1/\(mX t n).1.2.1.2.2.2.length+(bu (mX t n).1.2.2.1).length<=k/\(mX t n).2.length<=16:=by unfold mX;cases h:Mb t&&di n 0 (t.2.2.1.length:Int)with|false=>exact⟨z,hs,bU _⟩|true=>simp only[ae]at h;have h16:=Fe h.1;have g1:=Hu (t.2.2.1.take n.toNat) t.2.1;have g2:=Q3 t.2.2.1 n.toNat;have hw:t.2.2.1.length<=k:=z.2.2.1.1;refine⟨⟨z.1,⟨cq,cq,cq,?_,λ_ _=>trivial⟩,⟨?_,λx hx=>z.2.2.1.2 x (List.mem_of_mem_drop hx)⟩,z.2.2.2⟩,?_,?_⟩;show(qj t.2.1 (t.2.2.1.take n.toNat)).2.2.2.length<=k;omega;show(t.2.2.1.drop n.toNat).length<=k;rw[aM];omega;show(qj t.2.1 (t.2.2.1.take n.toNat)).2.2.2.length+(bu (t.2.2.1.drop n.toNat)).length<=k;omega;show((t.2.2.1.take n.toNat).map (·.1)).length<=16;rw[cb,aW];omega
theorem HI {t:CT}{l q:ax t.D}(z:cW n (.sl t) l)(hq:∀y∈q,cW n t y)(hk:q.length<=k):cW (n+k) (.sl t) (l++q):=by refine⟨?_,λy hy=>?_⟩;show(l++q).length<=n+k;have:=z.1;rw[ai];omega;rcases az.1 hy with h|h;exact(z.2 y h).mono;exact(hq y h).mono
def lA (h:Host):Host:=bif dF h then
    (h.1,h.2.1,(mX ((py h.2.1 h.1 0 h.2.2.1.1).1,h.2.2.1.2) (if(h.2.2.1.2.2.1.length:Int)<ar ((py h.2.1 h.1 0 h.2.2.1.1).2.2.1+(py h.2.1 h.1 0 h.2.2.1.1).2.2.2) then(h.2.2.1.2.2.1.length:Int) else ar ((py h.2.1 h.1 0 h.2.2.1.1).2.2.1+(py h.2.1 h.1 0 h.2.2.1.1).2.2.2))).1,
      h.2.2.2.1,h.2.2.2.2.1,h.2.2.2.2.2.1,h.2.2.2.2.2.2.1,h.2.2.2.2.2.2.2.1,h.2.2.2.2.2.2.2.2.1,h.2.2.2.2.2.2.2.2.2.1,h.2.2.2.2.2.2.2.2.2.2.1,h.2.2.2.2.2.2.2.2.2.2.2.1++(py h.2.1 h.1 0 h.2.2.1.1).2.1,
      h.2.2.2.2.2.2.2.2.2.2.2.2.1++(mX ((py h.2.1 h.1 0 h.2.2.1.1).1,h.2.2.1.2) (if(h.2.2.1.2.2.1.length:Int)<ar ((py h.2.1 h.1 0 h.2.2.1.1).2.2.1+(py h.2.1 h.1 0 h.2.2.1.1).2.2.2) then(h.2.2.1.2.2.1.length:Int) else ar ((py h.2.1 h.1 0 h.2.2.1.1).2.2.1+(py h.2.1 h.1 0 h.2.2.1.1).2.2.2))).2,h.2.2.2.2.2.2.2.2.2.2.2.2.2) else h
theorem PX (h:Host)(k:AW 900000000 h):pH h=some (lA h):=by have z:cW 1000000000 dD h:=k.z.mono;have hz:=k.sz (by omega);have hm:h.1.length<=900000000:=k.z.1.1;have hl:h.2.1.length<=900000000:=k.z.2.1.1;have hw:h.2.2.1.2.2.1.length<=900000000:=k.z.2.2.1.2.2.1.1;have hwi:h.2.2.2.2.2.2.2.2.2.2.2.1.length<=900000000:=k.z.2.2.2.2.2.2.2.2.2.2.2.1.1;have hco:h.2.2.2.2.2.2.2.2.2.2.2.2.1.length<=900000000:=k.z.2.2.2.2.2.2.2.2.2.2.2.2.1.1;have hA:=DT h.2.1 h.1 0 17 [] 0 0 h.2.2.1.1 (λx hx=>by cases hx);unfold pH lA;rw[kc h z,ab,qn h hz,ab];cases dF h;rfl;simp only[aj,af,ah,ZP h.2.1 h.1 0 _ (show h.2.1.length<=10^9 by omega) (show h.1.length<=10^9 by omega),ab];rw[show mw h.2.1 h.1 0 17 [] 0 0 h.2.2.1.1=py h.2.1 h.1 0 h.2.2.1.1 from rfl]at hA;generalize py h.2.1 h.1 0 h.2.2.1.1=x at hA⊢;simp only[eO]at hA;have hC:=FD (k:=900000000) (t:=(x.1,h.2.2.1.2)) (if(h.2.2.1.2.2.1.length:Int)<ar (x.2.2.1+x.2.2.2) then(h.2.2.1.2.2.1.length:Int) else ar (x.2.2.1+x.2.2.2)) ⟨⟨cq,cq,cq,cq⟩,k.z.2.2.1.2⟩ k.t;rw[aX,PL (x.1,h.2.2.1.2) _ (by show h.2.2.1.2.2.1.length<=_;omega) (bw k.t (by omega)),ab,aX]
theorem QG (hn:400<=n)(k:AW n h):AW (n+5440) (lA h):=by have k':AW (n+5440) h:=k.mono;have hA:=DT h.2.1 h.1 0 17 [] 0 0 h.2.2.1.1 (λx hx=>by cases hx);unfold lA;cases dF h;exact k';rw[show mw h.2.1 h.1 0 17 [] 0 0 h.2.2.1.1=py h.2.1 h.1 0 h.2.2.1.1 from rfl]at hA;generalize py h.2.1 h.1 0 h.2.2.1.1=x at hA⊢;simp only[eO]at hA;generalize (if(h.2.2.1.2.2.1.length:Int)<ar (x.2.2.1+x.2.2.2) then(h.2.2.1.2.2.1.length:Int) else ar (x.2.2.1+x.2.2.2))=q;have hC:=FD (k:=n) (t:=(x.1,h.2.2.1.2)) q ⟨⟨cq,cq,cq,cq⟩,k.z.2.2.1.2⟩ k.t;have z:=k'.z;refine⟨⟨z.1,z.2.1,hC.1.mono,z.2.2.2.1,z.2.2.2.2.1,z.2.2.2.2.2.1,z.2.2.2.2.2.2.1,z.2.2.2.2.2.2.2.1,z.2.2.2.2.2.2.2.2.1,z.2.2.2.2.2.2.2.2.2.1,cq,?_,?_,z.2.2.2.2.2.2.2.2.2.2.2.2.2⟩,bw hC.2.1 (by omega)⟩;exact HI (t:=.str) (n:=n) (k:=5440) k.z.2.2.2.2.2.2.2.2.2.2.2.1 (λy hy=>by show y.length<=_;have:=hA.2.1 y hy;omega) (by omega);exact(HI (t:=.int .i64) (n:=n) (k:=16) k.z.2.2.2.2.2.2.2.2.2.2.2.2.1 (λ_ _=>trivial) hC.2.2).mono
def qi (l:ax aB)(d:Int)(p:cK)(z:Nat):cZ->Bytes->bR->ax gh->ay (ax gh×bR)
 |[],_,m,a=>some (a,m)
 |b::q,s,m,a=>bif (gy l m d (nG p b) (s.take z) false).2 then qi l d p z q (s.drop z) (gy l m d (nG p b) (s.take z) false).1 (a++[(nG p b,((s.take z).length:Int))]) else none
theorem FJ (l:ax aB)(d:Int)(p:cK)(z:Nat):∀(q:cZ)(s:Bytes)(m:bR)(a:ax gh){x},qi l d p z q s m a=some x->
 x.2.length=m.length/\x.1.length=a.length+q.length/\∀y∈x.1,y∈a\/((∃b∈q,y.1=nG p b)/\0<=y.2/\y.2<=(z:Int))
 |[],s,m,a,x,h=>by cases h;exact⟨rfl,rfl,λy hy=>Or.inl hy⟩
 |b::q,s,m,a,x,h=>by rw[qi]at h;cases hq:(gy l m d (nG p b) (s.take z) false).2 with|false=>rw[hq]at h;cases h|true=>rw[hq]at h;obtain⟨h1,h2,h3⟩:=FJ l d p z q _ _ _ h;rw[jR]at h1;rw[ai,bC]at h2;refine⟨h1,by rw[bz];omega,λy hy=>?_⟩;rcases h3 y hy with g|⟨⟨b',gX,g⟩,g2⟩;rcases az.1 g with g|g;exact Or.inl g;rw[cp.1 g];refine Or.inr ⟨⟨b,List.mem_cons_self ..,rfl⟩,?_,?_⟩;show(0:Int)<=((s.take z).length:Int);omega;show((s.take z).length:Int)<=(z:Int);rw[aW];omega;exact Or.inr ⟨⟨b',eT _ gX,g⟩,g2⟩
theorem OQ (p:cK)(i:Int): -1<=nG p i/\nG p i<=139136:=by unfold nG;cases hb: !dy p|| !di i 0 (p.2.2.1-1)with|true=>exact⟨dW _,show(-1:Int)<=139136 by omega⟩|false=>simp only[ch,dB]at hb;have h:=xM hb.1;have h2:=bh.1 hb.2;have h3:0<=i*p.2.1:=Int.mul_nonneg h2.1 (by omega);have h4:i*p.2.1<=16*512:=Int.mul_le_mul (by omega) (by omega) (by omega) (by omega);simp only[af];omega
theorem abG {p:cK}(hp:dy p=true)(hb:b∈p.2.2.2):0<=nG p b:=by obtain⟨i,hi,rfl⟩:=fb hb;have hq:=hp;simp only[dy,ae]at hq;have:=aF.1 hq.2.2.2 i (bK.2 hi);simp only[Cy,ae,ca hi]at this;have hn:=this.1;have h:=xM hp;have h2:=bh.1 hn;have h3:0<=p.2.2.2[i]*p.2.1:=Int.mul_nonneg h2.1 (by omega);unfold nG;rw[hp,hn];show 0<=p.1+p.2.2.2[i]*p.2.1;omega
theorem TL (s:Bytes)(z:Nat):sub s 0 (if(s.length:Int)<(z:Int) then(s.length:Int) else(z:Int))=some (s.take z):=by by_cases h:(s.length:Int)<(z:Int);rw[aH h,ye,aA,eo,bI (by omega)];rw[aI h,ye,aA]
theorem Rf (s:Bytes)(z:Nat):sub s ((s.take z).length:Int) (s.length:Int)=some (s.drop z):=by rw[TH _ _ (by rw[aW];omega),aW];by_cases h:z<=s.length;rw[gV h];rw[Nat.min_eq_right (by omega),gH,List.drop_eq_nil_of_le (by omega)]
def abo:ay (ax gh×bR)->ay (Bool×bR×ax gh×Bool)->Prop
 |some x,r=>r=some (true,x.2,x.1,true)
 |none,r=>∃c m,r=some (c,m,[],false)
theorem Eg (l:ax aB)(d:Int)(p:cK)(z:Nat)(B:bR)(hp:p.2.2.2.length<=10^9)(hl:l.length<=10^9):∀(rest pre:cZ)(s:Bytes)(m:bR)(a:ax gh)(f:Nat),rest.length<f->(pre++rest).length<=1000000->a.length+rest.length<=1000000->m.length<=10^9->
 abo (qi l d p z rest s m a) (ba (jQ (λ_ DV _ Fj=>some (true,Fj,DV,true)) (λ_ Jl TY _ _ _ y23=>some (true,y23,Jl,TY)) l d (z:Int) ([]:ax gh) false (pre++rest) ((pre++rest).length:Int) p B) f (s,a,(pre.length:Int),m))
 |rest,pre,s,m,a,0,hf,_,_,_=>by omega
 |[],pre,s,m,a,f+1,_,_,_,_=>by rw[ba];simp only[jQ];rw[au (by simp),af];rfl
 |b::q,pre,s,m,a,f+1,hf,hn,ha,hm=>by
  simp only[bz,ai]at hf hn ha;have hi:pre.length<(pre++b::q).length:=by simp
  have hb:(pre++b::q)[pre.length]=b:=by simp
  have hA:=OQ p b;rw[ba];simp only[jQ];rw[aw (by simp;omega),bl hi,hb];simp only[ah,ab,TL,Rf,F2 p b hp,Ac l m d (nG p b) (s.take z) hl hm];rw[qi];cases hq:(gy l m d (nG p b) (s.take z) false).2 with
  |false=>exact⟨_,_,rfl⟩
  |true=>
   simp only[aj,af,ah];rw[ak (n:=(pre.length:Int)+1),aX (by simp only[bC];omega)];have key:=Eg l d p z B hp hl q (pre++[b]) (s.drop z) (gy l m d (nG p b) (s.take z) false).1 (a++[(nG p b,((s.take z).length:Int))]) f (by omega) (by simp;omega) (by simp;omega) (by rw[jR];exact hm);have el:((pre++[b]).length:Int)=(pre.length:Int)+1:=by simp
   rw[aR,List.singleton_append,el]at key;exact key
theorem Zu (l:ax aB)(m:bR)(d:Int)(p:cK)(q:cZ)(s:Bytes)(z:Nat)(hp:p.2.2.2.length<=10^9)(hl:l.length<=10^9)(hm:m.length<=10^9)(hq:q.length<=1000)(h0:0<q.length): abo (qi l d p z q s m []) (ng l m d p q s (z:Int)):=by have B7:=eh;cases q with|nil=>cases h0|cons b q=>simp only[bz]at hq;have hA:=OQ p b;have hi:idx (b::q) 0=some b:=rfl;unfold ng;rw[aw (by simp),ah,hi];simp only[ab,TL,Rf,F2 p b hp,Ac l m d (nG p b) (s.take z) hl hm];rw[qi];cases hq':(gy l m d (nG p b) (s.take z) false).2 with|false=>exact⟨_,_,rfl⟩|true=>simp only[aj,af,ah];rw[aX (by simp),show ar (0+1)=1 from rfl];exact Eg l d p z _ hp hl q [b] (s.drop z) (gy l m d (nG p b) (s.take z) false).1 [(nG p b,((s.take z).length:Int))] fuel (by omega) (by simp;omega) (by simp;omega) (by rw[jR];exact hm)
theorem acq {ps:ax gh}{z c:Int}(h0:0<ps.length)(h16:ps.length<=16)(hp:∀x∈ps,0<=x.1/\x.1<=200000/\0<=x.2/\x.2<=4096)(hz:di z 1 128=true)(hc:di c 0 65535=true):(oy ps z c).length=ps.length+1:=by
 have hz2:=bh.1 hz;have Vq:=bh.1 hc;have e1:oc ps=true:=by unfold oc;rw[ae,aK,aD];refine⟨List.any_eq_false.2 λx hx=>?_,by omega⟩;have:=hp x hx;unfold yQ;rw[cP,cJ,aK,Bool.eq_false_iff];intro h;exact h (bh.2 (by omega))
 have e2:([((2:Int),(0:Int),(0:Int),(0:Int),z,c)]++xw ps c ps.length).all tn=true:=by rw[List.all_append,ae];constructor;simp only[cc,List.all_nil,dR,tn,ae,bh];omega;rw[Ho];refine aF.2 λj hj=>?_;have hj:=bK.1 hj;have:=hp _ (aZ hj);simp only[dsc,ca hj,tn,ae,bh];refine⟨by omega,?_,by omega,by omega,by omega,by omega⟩;by_cases hq:j+1=ps.length;rw[aH hq];omega;rw[aI hq];omega
 unfold oy;rw[e1,hz,e2,show((ps.length:Int)==0)=false from by rw[cH];omega];simp only[aj,bZ,af,ah,ai,bC,Ao];omega
theorem R8 (K:bR->Int->ay R)(l:ax aB)(d:Int)(q:cZ)(ds ds2:ax po)(t1 t2 t3 t4:dx)(m1 m2 m3:bR)(h:ds.length<=1000): ba (fU K l d q ds2 ds (ds.length:Int) t1 m1 t2 m2 t3 t4 m3) fuel (([]:bR),0)=K (ds.map wD) (ds.length:Int):=by
 have B7:=eh;refine eD (λi=>((ds.take i).map wD,(i:Int))) ds.length (by omega) (λi nx hi=>?_) (λnx=>?_);have e:((ds.take i).map wD).length<=1000:=by simp;omega
 rw[bL hi,dS];simp only[fU];rw[ks,ah,bl hi,ab,PN,ab,aX (by simp only[bC];omega),ak];rfl;simp only[fU];rw[cP,af,eo]
def xb (p:aP)(z:Nat):Nat:=((jL p).1.length+z-1)/z
def Er (l:ax aB)(m:bR)(d:Int)(t:dx)(c:Int)(n:Nat)(x:ax gh×bR):bR×dx×Bool:=
 bif (oe l x.2 d t.1 ((oy x.1 c t.2.2.2).map wD)).2.2 then
  ((oe l x.2 d t.1 ((oy x.1 c t.2.2.2).map wD)).1,((oe l x.2 d t.1 ((oy x.1 c t.2.2.2).map wD)).2.1,(jW t.2.1 (n:Int)).1,t.2.2.1++[(t.2.2.2,(n:Int)+1,(jW t.2.1 (n:Int)).2.1)],tmod (t.2.2.2+1) 65536),true)
 else(m,t,false)
def FL (t:dx)(n:Nat):Bool:=(jW t.2.1 (n:Int)).2.2&&(!decide ((n:Int)>16)&&(!decide ((n:Int)+1>nI t.1)&& !decide (dI t.2.2.1+(n:Int)+1>t.1.2.1)))
def og (l:ax aB)(m:bR)(d:Int)(t:dx)(p:aP)(c z:Int):bR×dx×Bool:=
 bif Mb t&&(dw p&&(di z 1 t.2.1.2.1&&di c 1 128)) then
  bif FL t (xb p z.toNat) then
   match qi l d t.2.1 z.toNat (jW t.2.1 (xb p z.toNat:Int)).2.1 (jL p).1 m []with
   |some x=>Er l m d t c (xb p z.toNat) x
   |none=>(m,t,false)
  else(m,t,false)
 else(m,t,false)
theorem Xb (h:dw p=true):0<(jL p).1.length/\(jL p).1.length<=378:=by have hl:=yo p;have hs:=R2 h;unfold jL;rw[h];show 0<(lR (dp p).1 (bT 0) (bT 0)).length/\(lR (dp p).1 (bT 0) (bT 0)).length<=378;rw[CY];omega
theorem aho (len z:Nat)(h:len<=1000)(hz:z<=1000)(h0:0<z):ar (Int.tdiv (ar (ar ((len:Int)+(z:Int))-1)) (z:Int))=(((len+z-1)/z:Nat):Int):=by have hd:(len+z-1)/z<=len+z-1:=Nat.div_le_self ..;rw[ak (n:=(len:Int)+(z:Int)),ak (n:=(len:Int)+(z:Int)-1),show(len:Int)+(z:Int)-1=((len+z-1:Nat):Int) by omega,show Int.tdiv ((len+z-1:Nat):Int) (z:Int)=(((len+z-1)/z:Nat):Int) from rfl];generalize (len+z-1)/z=N at hd⊢;rw[ak]
theorem TJ {p:cK}(h:(jW p (n:Int)).2.2=true):dy p=true/\n<=p.2.2.2.length/\(jW p (n:Int)).2.1=p.2.2.2.take n:=by unfold jW at h⊢;cases hq:dy p&&di (n:Int) 0 (p.2.2.2.length:Int)with|false=>rw[hq]at h;cases h|true=>simp only[ae,bh]at hq;exact⟨hq.1,by omega,rfl⟩
theorem YQ {c:Int}{z:Nat}{s:Bytes}{x:ax gh×bR}(ht:Mb t=true)(hz:z<=512)(hc:di c 1 128=true)(h0:0<n)(h16:n<=16)(hk:(jW t.2.1 (n:Int)).2.2=true)(hx:qi l d t.2.1 z (jW t.2.1 (n:Int)).2.1 s m []=some x):x.2.length=m.length/\(oy x.1 c t.2.2.2).length=n+1:=by
 obtain⟨hp,hn,hb⟩:=TJ hk;rw[hb]at hx;obtain⟨h1,h2,h3⟩:=FJ l d t.2.1 z _ _ _ _ hx;simp only[eO,aW,cr]at h2;have e:x.1.length=n:=by omega
 refine⟨h1,?_⟩;rw[acq (by omega) (by omega) (λy hy=>?_) hc (by simp only[Mb,ae]at ht;exact ht.2.2.1),e];rcases h3 y hy with g|⟨⟨b,gX,g⟩,g2⟩;cases g;have q1:=abG hp (List.mem_of_mem_take gX);have q2:=OQ t.2.1 b;rw[g];omega
theorem ZF (l:ax aB)(m:bR)(d:Int)(t:dx)(p:aP)(c z:Int)(hl:l.length<=10^9)(hm:m.length<=10^9)(ht:ae2 t)(h1:t.2.2.1.length<=10^9)(h2:t.2.1.2.2.2.length+(bu t.2.2.1).length<=10^9):sD l m d t p c z=some (og l m d t p c z):=by
 have B7:=eh;unfold sD og;rw[fP m,ab,EW t ht,ab,VO t h1 h2,ab,oZ,df,df];simp only[ab];cases hb:Mb t;rfl;cases hp:dw p;rfl;cases hz:di z 1 t.2.1.2.1;rfl;cases hc:di c 1 128;rfl;have hT:=Xb hp;have hz2:=bh.1 hz;have hq:=hb;simp only[Mb,ae]at hq;have DC:=xM hq.2.1;have h16:=Fe hb;have T5:=lg hq.1;have hnx:=bh.1 hq.2.2.1;obtain⟨z,rfl⟩:=aQ (by omega:0<=z);have hzn:¬(z:Int)=0:=by omega
 have hS:∀x∈t.2.2.1,0<=x.2.1/\x.2.1<=16:=λx hx=>by have:=aF.1 hq.2.2.2.1 x hx;simp only[oh,ae,bh]at this;omega
 have hcb:=Ch _ hS;have hN:xb p z<=1000:=by have:xb p z<=(jL p).1.length+z-1:=Nat.div_le_self ..;omega
 have hN0:0<xb p z:=Nat.div_pos (by omega) (by omega);have hce:=aho (jL p).1.length z (by omega) (by omega) (by omega);rw[show((jL p).1.length+z-1)/z=xb p z from rfl]at hce;simp only[aj,af,ab,dH,ah,aA,NT,aI hzn,hce,ZM _ _ (show t.2.1.2.2.2.length<=10^9 by omega),NL,ZI t (by omega) hS,FL];rw[ak (n:=(xb p z:Int)+1),ak (n:=dI t.2.2.1+(xb p z:Int)),ak (n:=dI t.2.2.1+(xb p z:Int)+1)];by_cases g1:(xb p z:Int)>16;rw[aw g1];simp only[ah,ab,aj,eJ,fH,af];rw[au g1];simp only[cg,af,bq];cases decide ((xb p z:Int)+1>nI t.1)with|true=>simp only[ah,ab,aj,eJ,fH,af]|false=> ?_
 simp only[cg,af,bq,ab];cases decide (dI t.2.2.1+(xb p z:Int)+1>t.1.2.1)with|true=>simp only[ah,ab,aj,eJ,fH,af]|false=> ?_
 simp only[cg,af,dR,ab];cases hk:(jW t.2.1 (xb p z:Int)).2.2;rfl;simp only[aj,af,ah,fP m (show m.length<=1073741824 by omega),ab];obtain⟨_,hkn,Vt⟩:=TJ hk;have hkl:(jW t.2.1 (xb p z:Int)).2.1.length=xb p z:=by rw[Vt,aW];omega
 have key:=Zu l m d t.2.1 (jW t.2.1 (xb p z:Int)).2.1 (jL p).1 z (by omega) hl hm (by omega) (by omega);cases hx:qi l d t.2.1 z (jW t.2.1 (xb p z:Int)).2.1 (jL p).1 m []with
 |none=>rw[hx]at key;obtain⟨a,b,e⟩:=key;obtain⟨f,g,_⟩:=Bh [] c t.2.2.2 (by simp);rw[e,ab];simp only[g,ab];cases a<;>cases f<;>rfl
 |some x=>
  rw[hx]at key;have key:ng _ _ _ _ _ _ _=_:=key;obtain⟨x1,x2⟩:=YQ hb (by omega) hc hN0 (by omega) hk hx;obtain⟨_,x3,_⟩:=FJ l d t.2.1 z _ _ _ _ hx;simp only[eO]at x3;obtain⟨f,g,hf⟩:=Bh x.1 c t.2.2.2;have hft:f=true:=by cases f with|true=>rfl|false=>have:=hf rfl;rw[this]at x2;cases x2
  subst hft;simp only[key,g,ab,ah,aj,af,aI (show¬(oy x.1 c t.2.2.2).length=0 by omega),Er];rw[R8 _ _ _ _ _ _ _ _ _ _ _ _ _ (by omega)];simp only[VJ l x.2 d t.1 _ hl (by omega) (show((oy x.1 c t.2.2.2).map wD).length<=10^9 by rw[cb];omega),ab];cases (oe l x.2 d t.1 ((oy x.1 c t.2.2.2).map wD)).2.2 with|false=>rfl|true=>simp only[aj,af,ab,ah];rw[aX (by simp only[bC];omega),lv,ak,x2];rfl
def Qu (g:Nat->Host->Host):Nat->Host->Host
 |0,h=>h
 |k+1,h=>g k (Qu g k h)
structure BN (a b:Host):Prop where
 maps:b.2.1=a.2.1
 tx:b.2.2.1=a.2.2.1
 rx:b.2.2.2.1.length=a.2.2.2.1.length
 pl:b.2.2.2.2.1.length=a.2.2.2.2.1.length
 vec:b.2.2.2.2.2.1=a.2.2.2.2.2.1
 Wt:b.2.2.2.2.2.2.1=a.2.2.2.2.2.2.1
 ret:b.2.2.2.2.2.2.2.2.2.2.2.2.2.1=a.2.2.2.2.2.2.2.2.2.2.2.2.2.1
theorem BN.refl (a:Host):BN a a:=⟨rfl,rfl,rfl,rfl,rfl,rfl,rfl⟩
theorem BN.trans {a b c:Host}(h:BN a b)(k:BN b c):BN a c:=⟨k.1.trans h.1,k.2.trans h.2,k.3.trans h.3,k.4.trans h.4,k.5.trans h.5,k.6.trans h.6,k.7.trans h.7⟩
theorem S1 (h:Host)(i:Nat)(c:Int):BN h (ux h i c).2:=by unfold ux;rcases h1:h.2.2.2.1[i]? with _|rx;exact BN.refl h;rcases h2:h.2.2.2.2.1[i]? with _|pl;exact BN.refl h;exact⟨rfl,rfl,aC ..,aC ..,rfl,rfl,rfl⟩
def od (h:Host)(k:Nat):Host:=Qu (λi s=>(ux s i 1000).2) k h
theorem Bv (hn:128<=n)(z:cW n dD h):∀k,BN h (od h k)/\cW (n+322000*k) dD (od h k)
 |0=>⟨BN.refl h,z⟩
 |k+1=>by have i:=Bv hn z k;exact⟨i.1.trans (S1 ..),(Wu (by omega) k 1000 i.2).mono⟩
def adU (h:Host)(l:cZ):Host:=(h.1,h.2.1,h.2.2.1,h.2.2.2.1,h.2.2.2.2.1,h.2.2.2.2.2.1,h.2.2.2.2.2.2.1,h.2.2.2.2.2.2.2.1,h.2.2.2.2.2.2.2.2.1,h.2.2.2.2.2.2.2.2.2.1,h.2.2.2.2.2.2.2.2.2.2.1,h.2.2.2.2.2.2.2.2.2.2.2.1,h.2.2.2.2.2.2.2.2.2.2.2.2.1,h.2.2.2.2.2.2.2.2.2.2.2.2.2.1++l,h.2.2.2.2.2.2.2.2.2.2.2.2.2.2)
def Yr (h:Host):Host:=(h.1,h.2.1,(EA.1,EA.2.1,EA.2.2.1,h.2.2.1.2.2.2),h.2.2.2)
def CU (h:Host)(i:Nat)(dr:Int):Host:=
 ((pS h.2.1 h.1 i).1,h.2.1,h.2.2.1,h.2.2.2.1.set i ((pS h.2.1 h.1 i).2.1,(I1 i).2.1,(I1 i).2.2.1,(I1 i).2.2.2.1,(I1 i).2.2.2.2.1,dr),h.2.2.2.2.1.set i (pS h.2.1 h.1 i).2.2.1,h.2.2.2.2.2)
def D6 (x:bJ):Int:=bif x.2.2.2.2.1 then ar (x.2.2.2.2.2+x.2.2.2.1.2.2) else x.2.2.2.2.2
def uB (i:Nat)(h:Host):Host:=
 match h.2.2.2.1[i]?,h.2.2.2.2.2.1[i]? with
 |some x,some v=>((CU h i (D6 x)).1,h.2.1,h.2.2.1,(CU h i (D6 x)).2.2.2.1,(CU h i (D6 x)).2.2.2.2.1,h.2.2.2.2.2.1.set i (v.1,v.2.1,0,0,false,false),h.2.2.2.2.2.2.1.set i false,h.2.2.2.2.2.2.2)
 |_,_=>h
structure agp (k:Nat) (a b:Host):Prop where
 mem:b.1.length=a.1.length
 maps:b.2.1=a.2.1
 rx:b.2.2.2.1.length=a.2.2.2.1.length
 pl:b.2.2.2.2.1.length=a.2.2.2.2.1.length
 vec:b.2.2.2.2.2.1.length=a.2.2.2.2.2.1.length
 TS:∀j,k<=j->b.2.2.2.2.2.1[j]?=a.2.2.2.2.2.1[j]?
 Wt:b.2.2.2.2.2.2.1.length=a.2.2.2.2.2.2.1.length
theorem HR (l:ax aB)(m:bR)(i:Nat):(pS l m i).1.length=m.length:=by unfold pS;rw[XE,jR]
theorem Tg (i:Nat)(h:Host):agp (i+1) h (uB i h):=by unfold uB;rcases h1:h.2.2.2.1[i]? with _|x;exact⟨rfl,rfl,rfl,rfl,rfl,λ_ _=>rfl,rfl⟩;rcases h2:h.2.2.2.2.2.1[i]? with _|v;exact⟨rfl,rfl,rfl,rfl,rfl,λ_ _=>rfl,rfl⟩;have e1:(CU h i (D6 x)).1.length=h.1.length:=HR h.2.1 h.1 i;exact⟨e1,rfl,aC ..,aC ..,aC ..,λj hj=>aN (by omega),aC ..⟩
def gP (h:Host)(k:Nat):Host:=Qu uB k h
theorem wb (h:Host):∀k,agp k h (gP h k)
 |0=>⟨rfl,rfl,rfl,rfl,rfl,λ_ _=>rfl,rfl⟩
 |k+1=>by have a:=wb h k;have b:=Tg k (gP h k);exact⟨b.mem.trans a.mem,b.maps.trans a.maps,b.rx.trans a.rx,b.pl.trans a.pl,b.vec.trans a.vec,λj hj=>(b.TS j hj).trans (a.TS j (by omega)),b.Wt.trans a.Wt⟩
theorem aam (hn:1000<=n)(i:Nat)(d:Int)(z:cW n dD h):cW n dD (CU h i d):=by unfold CU pS;have h4:=oa (hU i+128) 384 4;have hf:=EL h.2.1 (gy h.2.1 h.1 0 (hU i) (wX 128) false).1 0 (hU i,4,0,0) (ia (hU i+128) 384 4).1;refine⟨Np (by omega) (CX (by omega) z.1 ..) ..,z.2.1,z.2.2.1,oF z.2.2.2.1 ?_,oF z.2.2.2.2.1 ?_,z.2.2.2.2.2⟩;refine⟨⟨cq,cq,cq,cq⟩,⟨cq,cq,cq⟩,⟨cq,cq,cq⟩,⟨⟨cq,cq,cq,cq,cq,cq,cq,cq,cq,cq,cq,cq,cq,cq,cq,?_⟩,cq,cq⟩,cq,cq⟩;exact bU _;exact⟨cq,cq,cq,by show List.length _<=_;omega,λ_ _=>trivial⟩
theorem WD (hn:1000<=n)(i:Nat)(z:cW n dD h):cW n dD (uB i h):=by unfold uB;rcases h1:h.2.2.2.1[i]? with _|x;exact z;rcases h2:h.2.2.2.2.2.1[i]? with _|v;exact z;have zo:=aam hn i (D6 x) z;exact⟨zo.1,z.2.1,z.2.2.1,zo.2.2.2.1,zo.2.2.2.2.1,oF z.2.2.2.2.2.1 ⟨cq,cq,cq,cq,cq,cq⟩,oF z.2.2.2.2.2.2.1 trivial,z.2.2.2.2.2.2.2⟩
theorem BA (hn:1000<=n)(z:cW n dD h):∀k,cW n dD (gP h k)
 |0=>z
 |k+1=>WD hn k (BA hn z k)
def GI (W:ax kz)(i:Nat)(s:Host):Host:=match W[i]? with|some x=>adU s [x.1]|none=>s
def polled (h:Host):Host:=od h h.2.2.2.1.length
def returned (h:Host)(k:Nat):Host:=Qu (GI h.2.2.1.2.2.1) k (polled h)
structure ai8 (a b:Host):Prop where
 e:b=(a.1,a.2.1,a.2.2.1,a.2.2.2.1,a.2.2.2.2.1,a.2.2.2.2.2.1,a.2.2.2.2.2.2.1,a.2.2.2.2.2.2.2.1,a.2.2.2.2.2.2.2.2.1,a.2.2.2.2.2.2.2.2.2.1,a.2.2.2.2.2.2.2.2.2.2.1,a.2.2.2.2.2.2.2.2.2.2.2.1,a.2.2.2.2.2.2.2.2.2.2.2.2.1,b.2.2.2.2.2.2.2.2.2.2.2.2.2.1,a.2.2.2.2.2.2.2.2.2.2.2.2.2.2)
theorem wS (z:cW n dD (polled h)):∀k,ai8 (polled h) (returned h k)/\(returned h k).2.2.2.2.2.2.2.2.2.2.2.2.2.1.length<=n+k
 |0=>⟨⟨rfl⟩,by have:=z.2.2.2.2.2.2.2.2.2.2.2.2.2.1.1;exact bw this (by omega)⟩
 |k+1=>by have i:=wS z k;have e:returned h (k+1)=GI h.2.2.1.2.2.1 k (returned h k):=rfl;rw[e];unfold GI;cases h.2.2.1.2.2.1[k]? with|none=>exact⟨i.1,bw i.2 (by omega)⟩|some x=>refine⟨⟨?_⟩,?_⟩;show adU _ _=_;have e:=i.1.e;generalize returned h k=r at e⊢;rw[e];rfl;show(_++[_]).length<=_;rw[ai,bC];omega
theorem Qe (z:cW n dD (polled h))(k:Nat):cW (n+k) dD (returned h k):=by have i:=wS z k;have z':cW (n+k) dD (polled h):=z.mono;rw[i.1.e];exact⟨z'.1,z'.2.1,z'.2.2.1,z'.2.2.2.1,z'.2.2.2.2.1,z'.2.2.2.2.2.1,z'.2.2.2.2.2.2.1,z'.2.2.2.2.2.2.2.1,z'.2.2.2.2.2.2.2.2.1,z'.2.2.2.2.2.2.2.2.2.1,z'.2.2.2.2.2.2.2.2.2.2.1,z'.2.2.2.2.2.2.2.2.2.2.2.1,z'.2.2.2.2.2.2.2.2.2.2.2.2.1,⟨i.2,λ_ _=>trivial⟩,z'.2.2.2.2.2.2.2.2.2.2.2.2.2.2⟩
theorem TO (hn:1000<=n)(z:cW n dD h):cW n dD (Yr h):=by have h4:=oa 256 128 8;exact⟨z.1,z.2.1,⟨⟨cq,cq,cq,cq⟩,⟨cq,cq,cq,by show List.length (ia 256 128 8).1.2.2.2<=n;omega,λ_ _=>trivial⟩,⟨bU _,λx hx=>by cases hx⟩,cq⟩,z.2.2.2⟩
def nM (h:Host):Host:=Yr (returned h h.2.2.1.2.2.1.length)
def tf (h:Host):Host:=bif dF h then gP (nM h) h.2.2.2.1.length else h
theorem KR (hb:dF h=true):ry h=true:=by simp only[dF,ae]at hb;exact hb.2.2.2.2.1
theorem Iu (hn:1000<=n)(z:cW n dD h)(hl:h.2.2.2.1.length<=2):cW (n+644000+h.2.2.1.2.2.1.length) dD (nM h):=by have hp:=Bv (by omega) z h.2.2.2.1.length;exact TO (by omega) (Qe (hp.2.mono) _)
theorem akt (l:ax aB)(X:bR)(q:bJ)(P:cK)(o:bR×kx×cK×Int)(k:bJ×cK->bR×kx×cK×Int->ay R)(h:ik l X 0 q.1 P=some o):(aa (ik l X 0 (q,P).1.1 (q,P).2) λGD=>k (q,P) GD)=k (q,P) o:=by show aa (ik l X 0 q.1 P) (λGD=>k (q,P) GD)=k (q,P) o;rw[h,ab]
theorem NM (l:ax aB)(m:bR)(i:Nat)(hi:i<=8)(hl:l.length<=10^9)(hm:m.length<=10^9)(k:bJ×cK->bR×kx×cK×Int->ay R): (aa (qt (i:Int)) λwY=>aa (nJ 0 128) λT8=>aa (jr l m 0 wY T8) λAL=>aa (vk (i:Int)) λEo=>aa (ik l AL.1 0 Eo.1.1 Eo.2) λGD=>k Eo GD)=k (I1 i,(ia (hU i+128) 384 4).1) (pS l m i):=by
 have hb:hU i=1280+(i:Int)*1792:=rfl;have JM:hU i<=9223372036854775807:=by omega
 have hz:nJ 0 128=some (wX 128):=XR 128;have hf:=R9 l (gy l m 0 (hU i) (wX 128) false).1 0 (hU i,4,0,0) (ia (hU i+128) 384 4).1 hl (by rw[jR];exact hm) (bw (oa (hU i+128) 384 4) (by omega));rw[R5 i hi,ab,hz,ab,Ac l m 0 (hU i) (wX 128) hl hm JM,ab,ZD i hi,ab];exact akt l _ (I1 i) _ (pS l m i) k hf
theorem MH (K:Int->Host->ay Host)(s0 B:Host)(N:Nat)(hN:N<=2)(h1:s0.2.2.2.1.length=N)(h2:s0.2.2.2.2.1.length=N)(h3:s0.2.2.2.2.2.1.length=N)(h4:s0.2.2.2.2.2.2.1.length=N)(z:cW 900000000 dD s0): ba (kN K (N:Int) B) fuel (0,s0)=K (N:Int) (gP s0 N):=by
 refine eD (λi=>((i:Int),gP s0 i)) N (by omega) (λi nx hi=>?_) (λnx=>?_);have kr:=wb s0 i;have zr:=BA (by omega) z i;have z1:(gP s0 i).1.length<=10^9:=bw zr.1.1 (by omega);have z2:(gP s0 i).2.1.length<=10^9:=bw zr.2.1.1 (by omega);have i1:i<(gP s0 i).2.2.2.1.length:=by rw[kr.rx,h1];exact hi
 have i2:i<(gP s0 i).2.2.2.2.1.length:=by rw[kr.pl,h2];exact hi
 have i3:i<(gP s0 i).2.2.2.2.2.1.length:=by rw[kr.vec,h3];exact hi
 have i4:i<(gP s0 i).2.2.2.2.2.2.1.length:=by rw[kr.Wt,h4];exact hi
 rw[show gP s0 (i+1)=uB i (gP s0 i) from rfl];generalize gP s0 i=s at z1 z2 i1 i2 i3 i4⊢;unfold uB D6 CU;simp only[aq i1,aq i3];simp only[kN];rw[ks,ah];simp only[bl i1,ab];rw[NM s.2.1 s.1 i (by omega) z2 z1,NM s.2.1 s.1 i (by omega) z2 z1];generalize I1 i=q;generalize pS s.2.1 s.1 i=o;simp only[bl i1,bl i2,bl i3,bl i4,ab];rw[ak (n:=(i:Int)+1),aA];cases s.2.2.2.1[i].2.2.2.2.1<;>rfl;simp only[kN];rw[cP,af]
theorem Ph (hq:BN h (polled h))(hz:cW n dD (polled h)):(nM h).2.2.2.1.length=h.2.2.2.1.length/\(nM h).2.2.2.2.1.length=h.2.2.2.2.1.length/\(nM h).2.2.2.2.2.1=h.2.2.2.2.2.1/\(nM h).2.2.2.2.2.2.1=h.2.2.2.2.2.2.1:=by have er:=(wS hz h.2.2.1.2.2.1.length).1.e;refine⟨?_,?_,?_,?_⟩;show(returned h h.2.2.1.2.2.1.length).2.2.2.1.length=_;rw[er];exact hq.rx;show(returned h h.2.2.1.2.2.1.length).2.2.2.2.1.length=_;rw[er];exact hq.pl;show(returned h h.2.2.1.2.2.1.length).2.2.2.2.2.1=_;rw[er];exact hq.vec;show(returned h h.2.2.1.2.2.1.length).2.2.2.2.2.2.1=_;rw[er];exact hq.Wt
theorem Eh (h:Host)(k:Hg h)(z:cW 100000000 dD h):qo h=some (tf h):=by
 have B7:=eh;unfold qo tf;rw[kc h (z.mono),ab,qn h k,ab];cases hb:dF h;rfl;have hl:=qZ (KR hb);have hw:h.2.2.1.2.2.1.length<=100000000:=z.2.2.1.2.2.1.1;have hp:=Bv (n:=100000000) (by omega) z;simp only[aj,af,ah];refine eD (λi=>((i:Int),od h i)) h.2.2.2.1.length (by omega) (λi nx hi=>?_) (λnx=>?_);simp only[pG];rw[ks,ah,PU (od h i) i 1000 (by rw[(hp i).1.rx];exact hi) (by rw[(hp i).1.pl];omega) ((hp i).2.mono),ab,ak];rfl;simp only[pG];rw[cP,af];have hq:=hp h.2.2.2.1.length;have hr:=wS (n:=100000000+322000*h.2.2.2.1.length) hq.2;have e1:(od h h.2.2.2.1.length).2.2.1.2.2.1=h.2.2.1.2.2.1:=by rw[hq.1.tx]
 rw[e1];refine eD (λi=>((i:Int),returned h i)) h.2.2.1.2.2.1.length (by omega) (λi nx hi=>?_) (λnx=>?_);have hri:=(hr i).2;simp only[nP];rw[ks,ah,bl hi,ab,aX (by rw[bC];omega),ak];rw[show returned h (i+1)=GI h.2.2.1.2.2.1 i (returned h i) from rfl,GI,aq hi];rfl;simp only[nP];rw[cP,af];simp only[ZQ,ab];have hE:=Iu (n:=100000000) (by omega) z hl.1;have hk:=Ph hq.1 hq.2;have eN:((List.length (returned h h.2.2.1.2.2.1.length).2.2.2.1:Nat):Int)=(h.2.2.2.1.length:Int):=congrArg Nat.cast hk.1;rw[eN];exact MH _ (nM h) _ h.2.2.2.1.length hl.1 hk.1 (hk.2.1.trans hl.2.1) (by rw[hk.2.2.1];exact hl.2.2.1) (by rw[hk.2.2.2];exact hl.2.2.2) (hE.mono)
def xc (x:D4):Bool:=di x.1 0 65535&&(di x.2.1 0 65535&&(di x.2.2.1 0 65535&&(di x.2.2.2.1 0 65535&&di x.2.2.2.2 0 4294967295)))
theorem NJ (x:D4):lK x=some (xc x):=by simp only[lK,df,ab,bP,cF,xc]
def Kr (x:D4)(p:Int):Bytes:=bif xc x&&di p 0 1 then((((bT x.1++bT x.2.1)++bT x.2.2.1)++bT x.2.2.2.1)++iY x.2.2.2.2)++iY p else []
theorem ac3 (x:D4)(p:Int):kY x p=some (Kr x p):=by have h1:=bF x.1;have h2:=bF x.2.1;have h3:=bF x.2.2.1;have h4:=bF x.2.2.2.1;have h5:=eE x.2.2.2.2;have h6:=eE p;unfold kY Kr;simp only[NJ,df,ab,kM,yL];cases xc x;rfl;cases di p 0 1;rfl;simp only[aj,af,ab,dH,ah];rw[aX,aX (by simp only[ai];omega),aX (by simp only[ai];omega),aX (by simp only[ai];omega),aX (by simp only[ai];omega)]
def wR (l:ax aB)(m:bR)(d:Int)(q:JD)(x:D4):bR×JD×Bool:=
 bif !fF q|| !xc x then(m,q,false) else
 bif !(gy l m d (pW q) (Kr x (vn q)) true).2 then(m,q,false) else
 ((gy l m d (pW q) (Kr x (vn q)) true).1,(q.1,q.2.1,tmod (q.2.2+1) (2*q.2.1)),true)
theorem ade (l:ax aB)(m:bR)(d:Int)(q:JD)(x:D4)(hl:l.length<=10^9)(hm:m.length<=10^9):nS l m d q x=some (wR l m d q x):=by unfold nS wR;simp only[HC,NJ,ab,fP m (show m.length<=1073741824 by omega),NN,ac3];cases hq:fF q;rfl;have h:=uz hq;have hs:=Ql hq;cases xc x;rfl;simp only[aj,af,ab,bZ,NR q hq,Bi l m d _ _ hl hm (show pW q<=9223372036854775807 by unfold pW;omega)];cases hp:(gy l m d (pW q) (Kr x (vn q)) true).2 with|false=>simp only[cg,ah,H0 hp]|true=>simp only[aj,af];rw[ak (n:=2*q.2.1),lv,ak (n:=q.2.2+1)]
theorem aaB (hn:128<=n)(z:cW n (.sl .str) m)(l:ax aB)(d:Int)(q:JD)(x:D4):cW n (.sl .str) (wR l m d q x).1/\(wR l m d q x).1.length=m.length:=by
 unfold wR;cases !fF q|| !xc x;case true=>exact⟨z,rfl⟩
 cases (gy l m d (pW q) (Kr x (vn q)) true).2 with|false=>exact⟨z,rfl⟩|true=>exact⟨CX hn z ..,jR ..⟩
theorem X6 {q:JD}{x:D4}(h:fF q=true):fF (wR l m d q x).2.1=true/\(wR l m d q x).2.1.1=q.1/\(wR l m d q x).2.1.2.1=q.2.1:=by
 have hq:=uz h;unfold wR;cases !fF q|| !xc x;case true=>exact⟨h,rfl,rfl⟩
 cases (gy l m d (pW q) (Kr x (vn q)) true).2 with|false=>exact⟨h,rfl,rfl⟩|true=>refine⟨?_,rfl,rfl⟩;have e:=QF (a:=q.2.2+1) (b:=2*q.2.1);simp only[af,aj,fF,ae,bh]at h⊢;refine⟨h.1,h.2.1,?_⟩;rw[yu h.2.1];omega
def gC (l:ax aB)(m:bR)(d:Int)(q:bJ)(k:Bytes)(s:Bytes):bR×JD×Bool:=
 bif !(cI s).2||(((cI s).1.1 !=3)||decide ((cI s).1.2.2.1<((dp q.2.2.2.1.1).1.length:Int))) then(m,q.2.1,false) else
 bif !(gy l m d (cI s).1.2.2.2.1 (dp q.2.2.2.1.1).1 true).2 then(m,q.2.1,false) else
 wR l (gy l m d (cI s).1.2.2.2.1 (dp q.2.2.2.1.1).1 true).1 d q.2.1 ((cI s).1.2.2.2.2.2,((dp q.2.2.2.1.1).1.length:Int),q.2.2.2.1.2.1,q.2.2.2.1.2.2,yD k (tP (lr q.2.2.2.1.1)))
theorem ZL (l:ax aB)(m:bR)(d:Int)(q:bJ)(k s:Bytes)(hl:l.length<=10^9)(hm:m.length<=10^9)(hs:s.length<=10^9)(hh:dw q.2.2.2.1.1=true):∃b,uq l m d q k s=some (b,gC l m d q k s)/\(b=false->gC l m d q k s=(m,q.2.1,false)):=by
 unfold uq gC;have mB:=U7 (s:=s);simp only[R6 s hs,DF,ab,DE hh];generalize cI s=x at mB⊢;cases hx:x.2;exact⟨false,rfl,λ_=>rfl⟩;have hd:=mB hx;simp only[tn,ae,bh]at hd;cases x.1.1 !=3;case true=>exact⟨false,rfl,λ_=>rfl⟩
 cases decide (x.1.2.2.1<((dp q.2.2.2.1.1).1.length:Int));case true=>exact⟨false,rfl,λ_=>rfl⟩
 simp only[aj,af,ab,bZ,Bi l m d _ _ hl hm (show x.1.2.2.2.1<=9223372036854775807 by omega)];cases (gy l m d x.1.2.2.2.1 (dp q.2.2.2.1.1).1 true).2;exact⟨false,rfl,λ_=>rfl⟩;simp only[aj,af,K0,ab,F5,ade l _ d _ _ hl (show(gy l m d x.1.2.2.2.1 (dp q.2.2.2.1.1).1 true).1.length<=10^9 by rw[jR];exact hm)];exact⟨true,rfl,λh=>by cases h⟩
theorem Ou (hn:128<=n){k s:Bytes}(z:cW n (.sl .str) m)(hq:fF q.2.1=true): cW n (.sl .str) (gC l m d q k s).1/\(gC l m d q k s).1.length=m.length/\fF (gC l m d q k s).2.1=true/\(gC l m d q k s).2.1.1=q.2.1.1/\(gC l m d q k s).2.1.2.1=q.2.1.2.1:=by
 unfold gC;cases !(cI s).2||(((cI s).1.1 !=3)||decide ((cI s).1.2.2.1<((dp q.2.2.2.1.1).1.length:Int)));case true=>exact⟨z,rfl,hq,rfl,rfl⟩
 cases (gy l m d (cI s).1.2.2.2.1 (dp q.2.2.2.1.1).1 true).2;exact⟨z,rfl,hq,rfl,rfl⟩;have h1:=CX hn z l d (cI s).1.2.2.2.1 (dp q.2.2.2.1.1).1 true;have h2:=jR l m d (cI s).1.2.2.2.1 (dp q.2.2.2.1.1).1 true;generalize (gy l m d (cI s).1.2.2.2.1 (dp q.2.2.2.1.1).1 true).1=w at h1 h2;have h3:=aaB hn h1 l d q.2.1 ((cI s).1.2.2.2.2.2,((dp q.2.2.2.1.1).1.length:Int),q.2.2.2.1.2.1,q.2.2.2.1.2.2,yD k (tP (lr q.2.2.2.1.1)));have h4:=X6 (l:=l) (m:=w) (d:=d) (x:=((cI s).1.2.2.2.2.2,((dp q.2.2.2.1.1).1.length:Int),q.2.2.2.1.2.1,q.2.2.2.1.2.2,yD k (tP (lr q.2.2.2.1.1)))) hq;exact⟨h3.1,h3.2.trans h2,h4⟩
def gW (l:ax aB)(m:bR)(d:Int)(q:bJ)(k:Bytes):bR×bJ:=
 bif !D2 q||(!q.2.2.2.2.1||((k.length:Int) !=16)) then(m,q) else
 bif (bg l m d q.1).2.2&&(gC l m d q k (bg l m d q.1).1).2.2 then
  ((gC l m d q k (bg l m d q.1).1).1,(bg l m d q.1).2.1,(gC l m d q k (bg l m d q.1).1).2.1,q.2.2.1,abc,false,q.2.2.2.2.2)
 else(m,(bg l m d q.1).2.1,q.2.1,q.2.2.1,abc,false,ar (q.2.2.2.2.2+q.2.2.2.1.2.2))
theorem TK (h:(bg l m d r).2.2=false):(bg l m d r).2.1=r:=by
 unfold bg at h⊢;cases hc: !cV r||(bG r==0);case true=>rfl
 cases hd:(qb l m d (nr r r.2.2.1) 16).2 with|false=>rfl|true=>rw[hc,hd]at h;cases h
theorem AN (h:D2 q=true):fF q.2.1=true/\(q.2.2.2.2.1=true->dw q.2.2.2.1.1=true):=by unfold D2 at h;simp only[ae]at h;refine⟨h.1.2.1,λhh=>?_⟩;have h2:=h.2;rw[hh]at h2;simp only[ah,ae]at h2;exact h2.1
theorem HB (l:ax aB)(m:bR)(d:Int)(q:bJ)(k:Bytes)(hl:l.length<=10^9)(hm:m.length<=10^9):mZ l m d q k=some (gW l m d q k):=by
 have ht:=Ey l m d q.1;have Fm:=TK (l:=l) (m:=m) (d:=d) (r:=q.1);unfold mZ gW;simp only[PW,ab,fP m (show m.length<=1073741824 by omega),Gd l m d q.1 hl hm];cases hr:D2 q;rfl;cases hh:q.2.2.2.2.1;rfl;cases (k.length:Int) !=16;case true=>rfl
 obtain⟨b,hb,JM⟩:=ZL l m d q k (bg l m d q.1).1 hl hm (by omega) ((AN hr).2 hh);simp only[aj,af,ab,bZ,hb];generalize gC l m d q k (bg l m d q.1).1=s at hb JM⊢;cases hk:(bg l m d q.1).2.2 with|false=>rw[Fm hk];rfl|true=>?_
 cases b with|true=>cases hs:s.2.2<;>rfl|false=>rw[JM rfl];rfl
theorem Dx (hn:128<=n){k:Bytes}(z:cW n (.sl .str) m)(zq:cW n dM q): cW n (.sl .str) (gW l m d q k).1/\(gW l m d q k).1.length=m.length/\cW n dM (gW l m d q k).2/\(D2 q=true->fF (gW l m d q k).2.2.1=true/\(gW l m d q k).2.2.1.2.1=q.2.1.2.1):=by
 unfold gW;cases hc: !D2 q||(!q.2.2.2.2.1||((k.length:Int) !=16));case true=>exact⟨z,rfl,zq,λh=>⟨(AN h).1,rfl⟩⟩
 simp only[ch,dB]at hc;have hq:=(AN hc.1).1;have hs:=Ou hn (l:=l) (d:=d) (k:=k) (s:=(bg l m d q.1).1) z hq;have e0:cW n dM ((bg l m d q.1).2.1,(gC l m d q k (bg l m d q.1).1).2.1,q.2.2.1,abc,false,q.2.2.2.2.2):=⟨⟨cq,cq,cq,cq⟩,⟨cq,cq,cq⟩,⟨cq,cq,cq⟩,⟨⟨cq,cq,cq,cq,cq,cq,cq,cq,cq,cq,cq,cq,cq,cq,cq,bU _⟩,cq,cq⟩,cq,cq⟩
 cases (bg l m d q.1).2.2&&(gC l m d q k (bg l m d q.1).1).2.2 with|true=>exact⟨hs.1,hs.2.1,e0,λ_=>⟨hs.2.2.1,hs.2.2.2.2⟩⟩|false=>exact⟨z,rfl,⟨⟨cq,cq,cq,cq⟩,⟨cq,cq,cq⟩,⟨cq,cq,cq⟩,⟨⟨cq,cq,cq,cq,cq,cq,cq,cq,cq,cq,cq,cq,cq,cq,cq,bU _⟩,cq,cq⟩,cq,cq⟩,λ_=>⟨hq,rfl⟩⟩
def evS (k:Nat)(h:Host):Host:=
 match h.2.2.2.2.2.1[k]? with
 |some v=>(h.1,h.2.1,h.2.2.1,h.2.2.2.1,h.2.2.2.2.1,h.2.2.2.2.2.1.set k (evV v),h.2.2.2.2.2.2)
 |none=>h
def Vc (k:Nat):Nat->Host->Host
 |0,h=>h
 |i+1,h=>evS k (Vc k i h)
theorem acz (k:Nat)(h:Host):lp (k+1) h (evS k h):=by unfold evS;cases h.2.2.2.2.2.1[k]? with|none=>exact lp.refl _ _|some v=>exact⟨rfl,rfl,rfl,rfl,λ_ _=>rfl,rfl,aC ..,λj hj=>aN (by omega),rfl,rfl,rfl⟩
theorem Kv (k:Nat)(h:Host):∀i,lp (k+1) h (Vc k i h)
 |0=>lp.refl _ _
 |i+1=>(Kv k h i).trans (acz k _)
theorem afg (k:Nat)(z:cW n dD h):cW n dD (evS k h):=by unfold evS;cases h.2.2.2.2.2.1[k]? with|none=>exact z|some v=>exact⟨z.1,z.2.1,z.2.2.1,z.2.2.2.1,z.2.2.2.2.1,JZ z.2.2.2.2.2.1,z.2.2.2.2.2.2⟩
theorem XA (k:Nat)(z:cW n dD h):∀i,cW n dD (Vc k i h)
 |0=>z
 |i+1=>afg k (XA k z i)
theorem Vy (h:Host)(k:Nat)(b:Int)(h1:k<h.2.2.2.1.length)(h2:k<h.2.2.2.2.2.1.length)(hq:fF h.2.2.2.1[k].2.1=true)(hb:0<=b/\b<=31):kR h (k:Int) b=some ((),Vc k ((h.2.2.2.1[k].2.1.2.2-b)%(2*h.2.2.2.1[k].2.1.2.1)).toNat h):=by
 have B7:=eh;have q:=uz hq;unfold kR;rw[bl h1,ab];generalize h.2.2.2.1[k]=x at q⊢;rw[ak (n:=x.2.1.2.2-b),ak (n:=2*x.2.1.2.1),HN _ _,ab];have hm:0<=(x.2.1.2.2-b)%(2*x.2.1.2.1)/\(x.2.1.2.2-b)%(2*x.2.1.2.1)<32:=by have g1:=eL (x.2.1.2.2-b) (show 2*x.2.1.2.1≠0 by omega);have g2:=eP (x.2.1.2.2-b) (show 0<2*x.2.1.2.1 by omega);omega
 generalize (x.2.1.2.2-b)%(2*x.2.1.2.1)=c at hm⊢;obtain⟨c,rfl⟩:=aQ hm.1;rw[aA];have e0:((c:Int),h)=(((c:Int)-((0:Nat):Int)),Vc k 0 h):=by simp[Vc]
 rw[e0];refine eD (λi=>((c:Int)-(i:Int),Vc k i h)) c (by omega) (λi nx hi=>?_) (λnx=>?_);have kk:=Kv k h i;have i1:k<(Vc k i h).2.2.2.2.2.1.length:=by rw[kk.vec];exact h2
 rw[show Vc k (i+1) h=evS k (Vc k i h) from rfl];generalize Vc k i h=s at i1⊢;simp only[pN,evS];rw[ks,ah,aq i1];simp only[bl i1,ab,Zq,aA];rw[ak,show(c:Int)-(i:Int)-1=(c:Int)-((i+1:Nat):Int) by omega];simp only[pN];rw[cP,af]
def GB (h:Host)(k:Nat)(f:bR×bJ):Host:=(f.1,h.2.1,h.2.2.1,h.2.2.2.1.set k f.2,h.2.2.2.2)
def BK (h:Host)(k:Nat)(b:Int)(f:bR×bJ):Host:=Vc k ((f.2.2.1.2.2-b)%(2*f.2.2.1.2.1)).toNat (GB h k f)
def mh (k:Nat)(h:Host):Host:=
 match h.2.2.2.1[k]? with
 |some x=>BK h k x.2.1.2.2 (gW h.2.1 h.1 0 x h.2.2.2.2.2.2.2.2.1.2.2.1)
 |none=>h
theorem Dh (hf:f.1.length=h.1.length):lp (k+1) h (BK h k b f):=by
 have a:lp (k+1) h (GB h k f):=⟨hf,rfl,rfl,aC ..,λj hj=>aN (by omega),rfl,rfl,λ_ _=>rfl,rfl,rfl,rfl⟩
 exact a.trans (Kv k (GB h k f) _)
theorem Mg (z:cW n dD h)(h1:cW n (.sl .str) f.1)(h2:cW n dM f.2):cW n dD (BK h k b f):=by
 have a:cW n dD (GB h k f):=⟨h1,z.2.1,z.2.2.1,oF z.2.2.2.1 h2,z.2.2.2.2⟩
 exact XA k a _
theorem Rx {k:Bytes}:(gW l m d q k).1.length=m.length:=by
 have hs:(gC l m d q k (bg l m d q.1).1).1.length=m.length:=by
  unfold gC;cases !(cI (bg l m d q.1).1).2||(((cI (bg l m d q.1).1).1.1 !=3)||decide ((cI (bg l m d q.1).1).1.2.2.1<((dp q.2.2.2.1.1).1.length:Int)));case true=>rfl
  cases (gy l m d (cI (bg l m d q.1).1).1.2.2.2.1 (dp q.2.2.2.1.1).1 true).2;rfl;have h2:=jR l m d (cI (bg l m d q.1).1).1.2.2.2.1 (dp q.2.2.2.1.1).1 true;simp only[af,aj];unfold wR;cases !fF q.2.1|| !xc ((cI (bg l m d q.1).1).1.2.2.2.2.2,((dp q.2.2.2.1.1).1.length:Int),q.2.2.2.1.2.1,q.2.2.2.1.2.2,yD k (tP (lr q.2.2.2.1.1)));case true=>exact h2
  cases (gy l (gy l m d (cI (bg l m d q.1).1).1.2.2.2.1 (dp q.2.2.2.1.1).1 true).1 d (pW q.2.1) (Kr ((cI (bg l m d q.1).1).1.2.2.2.2.2,((dp q.2.2.2.1.1).1.length:Int),q.2.2.2.1.2.1,q.2.2.2.1.2.2,yD k (tP (lr q.2.2.2.1.1))) (vn q.2.1)) true).2 with|false=>exact h2|true=>exact(jR ..).trans h2
 unfold gW;cases !D2 q||(!q.2.2.2.2.1||((k.length:Int) !=16));case true=>rfl
 cases (bg l m d q.1).2.2&&(gC l m d q k (bg l m d q.1).1).2.2 with|true=>exact hs|false=>rfl
theorem Cx (k:Nat)(h:Host):lp (k+1) h (mh k h):=by unfold mh;cases h.2.2.2.1[k]? with|none=>exact lp.refl _ _|some x=>exact Dh Rx
theorem KE (k:Nat)(h:Host)(n:Nat)(hn:1000<=n)(z:cW n dD h):cW (n+0) dD (mh k h):=by unfold mh;cases hx:h.2.2.2.1[k]? with|none=>exact z|some x=>have hf:=Dx (show 128<=n by omega) (l:=h.2.1) (d:=0) (k:=h.2.2.2.2.2.2.2.2.1.2.2.1) z.1 (z.2.2.2.1.2 _ (bp hx));exact Mg z hf.1 hf.2.2.1
def xf (h:Host):Host:=bif dF h then kq mh h.2.2.2.1.length h else h
theorem YU (hn:1000<=n)(k:AW n h):AW n (xf h):=by unfold xf;cases dF h with|false=>exact k|true=>refine⟨(BE hn KE k.z _).mono,?_⟩;simp only[ah];rw[(vA Cx h _).tx];exact k.t
theorem EU (hb:dF h=true):∀i (hi:i<h.2.2.2.1.length),D2 h.2.2.2.1[i]=true:=by simp only[dF,Ti,ae]at hb;exact λi hi=>aF.1 hb.2.2.2.2.2.2.1.1 _ (aZ hi)
theorem Jk (h1:k<h.2.2.2.1.length)(h2:k<h.2.2.2.2.2.1.length)(hq:fF f.2.2.1=true)(hb:0<=b/\b<=31:=by omega): kR (f.1,h.2.1,h.2.2.1,h.2.2.2.1.set k f.2,h.2.2.2.2) (k:Int) b=some ((),BK h k b f):=by
 have h3:k<(GB h k f).2.2.2.1.length:=by show k<(h.2.2.2.1.set k f.2).length;rw[aC];exact h1
 have e:(GB h k f).2.2.2.1[k]=f.2:=List.getElem_set_self _;have a:=Vy (GB h k f) k b h3 h2 (by rw[e];exact hq) hb;rw[e]at a;exact a
theorem VD (h:Host)(k:AW 900000000 h):tW h=some (xf h):=by
 have B7:=eh;unfold tW xf;rw[kc h (k.z.mono),ab,qn h (k.sz (by omega)),ab];cases hb:dF h;rfl;have hl:=qZ (by simp only[dF,ae]at hb;exact hb.2.2.2.2.1:ry h=true);have hr:=EU hb;simp only[aj,af,ah];refine eD (λi=>((i:Int),kq mh i h)) h.2.2.2.1.length (by omega) (λi nx hi=>?_) (λnx=>?_);have kk:=vA Cx h i;have zz:cW 900000000 dD (kq mh i h):=(BE (by omega) KE k.z i).mono;have i1:i<(kq mh i h).2.2.2.1.length:=by rw[kk.rx];exact hi
 have i2:i<(kq mh i h).2.2.2.2.2.1.length:=by rw[kk.vec];omega
 have e1:(kq mh i h).2.2.2.1[i]=h.2.2.2.1[i]:=by have:=kk.rxs i (aS _);rw[aq i1,aq hi]at this;exact du this
 rw[show kq mh (i+1) h=mh i (kq mh i h) from rfl];generalize kq mh i h=s at zz i1 i2 e1⊢;have z1:s.1.length<=900000000:=zz.1.1;have z2:s.2.1.length<=900000000:=zz.2.1.1;have Zm:=hr i hi;rw[<-e1]at Zm;have hqd:=uz (AN Zm).1;have hf:=Dx (show 128<=900000000 by omega) (l:=s.2.1) (d:=0) (k:=s.2.2.2.2.2.2.2.2.1.2.2.1) zz.1 (zz.2.2.2.1.2 _ (aZ i1));have ev:=Jk (h:=s) (k:=i) (b:=s.2.2.2.1[i].2.1.2.2) (f:=gW s.2.1 s.1 0 s.2.2.2.1[i] s.2.2.2.2.2.2.2.2.1.2.2.1) i1 i2 (hf.2.2.2 Zm).1;simp only[pF,mh];rw[ks,ah,aq i1];simp only[bl i1,bl hi,ab,HB s.2.1 s.1 0 _ _ (show s.2.1.length<=10^9 by omega) (show s.1.length<=10^9 by omega),aA,<-e1,ev];rw[ak];rfl;simp only[pF];rw[cP,af]
def SW (a b:aP):Bool:=(a.1==b.1)&&((a.2.1==b.2.1)&&((a.2.2.1==b.2.2.1)&&((a.2.2.2.1==b.2.2.2.1)&&((a.2.2.2.2.2.1==b.2.2.2.2.2.1)&&((a.2.2.2.2.2.2.1==b.2.2.2.2.2.2.1)&&((a.2.2.2.2.2.2.2.1==b.2.2.2.2.2.2.2.1)&&((a.2.2.2.2.2.2.2.2.1==b.2.2.2.2.2.2.2.2.1)&&((a.2.2.2.2.2.2.2.2.2.1==b.2.2.2.2.2.2.2.2.2.1)&&((a.2.2.2.2.2.2.2.2.2.2.1==b.2.2.2.2.2.2.2.2.2.2.1)&&((a.2.2.2.2.2.2.2.2.2.2.2.2.1==b.2.2.2.2.2.2.2.2.2.2.2.2.1)&&((a.2.2.2.2.2.2.2.2.2.2.2.2.2.2.1==b.2.2.2.2.2.2.2.2.2.2.2.2.2.2.1))))))))))))
theorem adb (a b:aP):vT a b=some (SW a b):=by unfold vT SW;simp only[gI,bq,dR]
def aiL (s:rq)(p:aP):Bool:=(p.2.2.2.2.2.2.2.2.2.2.2.1==tmod (ar (s.1.2.2.2.2.2.2.2.2.2.2.2.1+(s.1.2.2.2.2.2.2.2.2.2.2.2.2.2.2.2.length:Int))) 4294967296)&&(p.2.2.2.2.1==tmod (ar (s.1.2.2.2.2.1+s.2.2)) 65536)
def Ye (s:rq)(p:aP):Bool:=decide (1<=s.2.1)&&(di s.2.2 1 320&&(decide ((s.1.2.2.2.2.2.2.2.2.2.2.2.2.2.2.2.length:Int)=s.2.1*s.2.2)&&(di (p.2.2.2.2.2.2.2.2.2.2.2.2.2.2.2.length:Int) 1 s.2.1&&decide ((s.1.2.2.2.2.2.2.2.2.2.2.2.2.2.2.2.length:Int)+(p.2.2.2.2.2.2.2.2.2.2.2.2.2.2.2.length:Int)<=320))))
def acK (s:rq)(p:aP):Bool:=dw s.1&&(fZ p&&(SW s.1 p&&((p.2.2.2.2.2.2.2.2.1==6)&&((s.1.2.2.2.2.2.2.2.2.2.2.2.2.2.1==16)&&Bc p.2.2.2.2.2.2.2.2.2.2.2.2.2.1))))
def FB (s:rq)(p:aP):Bool:=acK s p&&(Ye s p&&aiL s p)
theorem Gv (h:fZ p=true)(h6:(p.2.2.2.2.2.2.2.2.1==6)=true):di p.2.2.2.2.2.2.2.2.2.2.2.2.2.1 0 31=true:=by simp only[fZ,dw,ae]at h;exact DP (yG h.1.1) h6
theorem E2 (h:fZ p=true):p.2.2.2.2.2.2.2.2.2.2.2.2.2.2.2.length<=128:=by simp only[fZ,ae,aD]at h;omega
theorem XP (s:rq)(p:aP):tT s p=some (FB s p):=by
 unfold tT FB acK;rw[oZ,ab,Bj,ab,adb,ab];cases hs:dw s.1;rfl;cases hp:fZ p;rfl;cases SW s.1 p;rfl;cases h6:p.2.2.2.2.2.2.2.2.1==6 with|false=>simp only[bne,h6];rfl|true=>?_
 cases h16:s.1.2.2.2.2.2.2.2.2.2.2.2.2.2.1==16 with|false=>simp only[bne,h6,h16];rfl|true=>?_
 have hf:=Gv hp h6;have hsl:=BG hs;have DC:=E2 hp;simp only[bne,h6,h16,aj,af,ab,Ky _ hf,bq];cases Bc p.2.2.2.2.2.2.2.2.2.2.2.2.2.1;rfl;simp only[aj,af,df,ab,bq];rw[aI (show¬(4294967296:Nat)=0 by omega),aI (show¬(65536:Nat)=0 by omega)];simp only[bP,cF];rw[show((p.2.2.2.2.2.2.2.2.2.2.2.1==tmod (ar (s.1.2.2.2.2.2.2.2.2.2.2.2.1+(s.1.2.2.2.2.2.2.2.2.2.2.2.2.2.2.2.length:Int))) 4294967296)&&(p.2.2.2.2.1==tmod (ar (s.1.2.2.2.2.1+s.2.2)) 65536))=aiL s p from rfl];unfold Ye;generalize aiL s p=q;generalize s.1.2.2.2.2.2.2.2.2.2.2.2.2.2.2.2.length=n at hsl⊢;generalize p.2.2.2.2.2.2.2.2.2.2.2.2.2.2.2.length=m at DC⊢;rw[ak (n:=(n:Int)+(m:Int))];by_cases h1:s.2.1<1;rw[aw h1,au (show¬1<=s.2.1 by omega)];rfl;rw[au h1,aw (show 1<=s.2.1 by omega)];cases h2:di s.2.2 1 320;rfl;have QK:=bh.1 h2;simp only[aj,af,ab,bq];rw[lv,lv];have e1:tmod (n:Int) s.2.2=(n:Int)%s.2.2:=dg (by omega);have e2:Int.tdiv (n:Int) s.2.2=(n:Int)/s.2.2:=Int.tdiv_eq_ediv_of_nonneg (by omega);have hdm:=Int.emod_add_mul_ediv (n:Int) s.2.2;have hq0:0<=(n:Int)/s.2.2:=Int.ediv_nonneg (by omega) (by omega);have hq1:(n:Int)/s.2.2<=(n:Int):=Int.ediv_le_self _ (by omega);rw[e1,e2,ak (n:=(n:Int)/s.2.2)];by_cases h3:(n:Int)=s.2.1*s.2.2;have h4:(n:Int)%s.2.2=0:=by rw[h3];exact Int.mul_emod_left ..
 have h5:(n:Int)/s.2.2=s.2.1:=by rw[h3];exact Int.mul_ediv_cancel _ (by omega)
 rw[h4,h5,aw h3];simp only[gI,aj,af,ab,bq];cases di (m:Int) 1 s.2.1;rfl;cases decide ((n:Int)+(m:Int)<=320)<;>rfl;rw[au h3];cases h4:(n:Int)%s.2.2==0 with
 |false=>rfl
 |true=>
  have h4':(n:Int)%s.2.2=0:=by simpa using h4
  have h5:((n:Int)/s.2.2==s.2.1)=false:=by rw[cH];intro h5;rw[h4',h5]at hdm;exact h3 (by rw[Int.mul_comm];omega)
  simp only[aj,af,h5,cg,ab,ah];rfl
def Ej (s:rq)(p:aP):rq:=bif FB s p then((s.1.1,s.1.2.1,s.1.2.2.1,s.1.2.2.2.1,s.1.2.2.2.2.1,s.1.2.2.2.2.2.1,s.1.2.2.2.2.2.2.1,s.1.2.2.2.2.2.2.2.1,s.1.2.2.2.2.2.2.2.2.1,s.1.2.2.2.2.2.2.2.2.2.1,s.1.2.2.2.2.2.2.2.2.2.2.1,s.1.2.2.2.2.2.2.2.2.2.2.2.1,s.1.2.2.2.2.2.2.2.2.2.2.2.2.1,p.2.2.2.2.2.2.2.2.2.2.2.2.2.1,s.1.2.2.2.2.2.2.2.2.2.2.2.2.2.2.1,s.1.2.2.2.2.2.2.2.2.2.2.2.2.2.2.2++p.2.2.2.2.2.2.2.2.2.2.2.2.2.2.2),s.2.1,ar (s.2.2+1)) else s
theorem OR {s:rq}(h:FB s p=true):s.1.2.2.2.2.2.2.2.2.2.2.2.2.2.2.2.length+p.2.2.2.2.2.2.2.2.2.2.2.2.2.2.2.length<=320:=by simp only[FB,Ye,ae,aD]at h;have:=h.2.1.2.2.2.2;omega
theorem ac8 (s:rq)(p:aP):DH s p=some (Ej s p):=by unfold DH Ej;rw[XP,ab];cases h:FB s p;rfl;have:=OR h;simp only[aj,af,ah];rw[aX]
def my (p:aP):rq:=(p,(p.2.2.2.2.2.2.2.2.2.2.2.2.2.2.2.length:Int),1)
theorem VL (p:aP):CN p=some (my p):=rfl
def KM (q:bJ)(s:rq):bJ:=(q.1,q.2.1,q.2.2.1,s,true,q.2.2.2.2.2)
def jv (l:ax aB)(m:bR)(d:Int)(q:bJ)(k:Bytes)(p:aP)(c:Bool):bR×bJ:=
 bif !D2 q||(!fZ p||((k.length:Int) !=16)) then(m,q) else
 bif c&&(q.2.2.2.2.1&&FB q.2.2.2.1 p) then(m,q.1,q.2.1,q.2.2.1,Ej q.2.2.2.1 p,q.2.2.2.2) else
 bif c then((gW l m d q k).1,KM (gW l m d q k).2 (my p)) else gW l (gW l m d q k).1 d (KM (gW l m d q k).2 (my p)) k
theorem Vz (l:ax aB)(m:bR)(d:Int)(q:bJ)(k:Bytes)(p:aP)(c:Bool)(hl:l.length<=10^9)(hm:m.length<=10^9):nU l m d q k p c=some (jv l m d q k p c):=by
 unfold nU jv KM;simp only[PW,Bj,ab,fP m (show m.length<=1073741824 by omega),XP,ac8,HB l m d q k hl hm,VL,HB l (gW l m d q k).1 d _ k hl (show(gW l m d q k).1.length<=10^9 by rw[Rx];exact hm)];cases D2 q;rfl;cases fZ p;rfl;cases (k.length:Int) !=16;case true=>rfl
 cases c;rfl;cases q.2.2.2.2.1;rfl;cases FB q.2.2.2.1 p<;>rfl
theorem Ry {k:Bytes}(h:fF q.2.1=true):fF (gW l m d q k).2.2.1=true:=by
 unfold gW;cases !D2 q||(!q.2.2.2.2.1||((k.length:Int) !=16));case true=>exact h
 have hs:fF (gC l m d q k (bg l m d q.1).1).2.1=true:=by
  unfold gC;cases !(cI (bg l m d q.1).1).2||(((cI (bg l m d q.1).1).1.1 !=3)||decide ((cI (bg l m d q.1).1).1.2.2.1<((dp q.2.2.2.1.1).1.length:Int)));case true=>exact h
  cases (gy l m d (cI (bg l m d q.1).1).1.2.2.2.1 (dp q.2.2.2.1.1).1 true).2;exact h;exact(X6 h).1
 cases (bg l m d q.1).2.2&&(gC l m d q k (bg l m d q.1).1).2.2 with|true=>exact hs|false=>exact h
theorem Zd {s:rq}(h:s.1.2.2.2.2.2.2.2.2.2.2.2.2.2.2.2.length<=n):cW n dM (KM q s):=⟨⟨cq,cq,cq,cq⟩,⟨cq,cq,cq⟩,⟨cq,cq,cq⟩,⟨⟨cq,cq,cq,cq,cq,cq,cq,cq,cq,cq,cq,cq,cq,cq,cq,h⟩,cq,cq⟩,cq,cq⟩
theorem J3 (hn:1000<=n){k:Bytes}{c:Bool}(z:cW n (.sl .str) m)(zq:cW n dM q)(hq:fF q.2.1=true): cW n (.sl .str) (jv l m d q k p c).1/\(jv l m d q k p c).1.length=m.length/\cW n dM (jv l m d q k p c).2/\fF (jv l m d q k p c).2.2.1=true:=by
 unfold jv;cases hc: !D2 q||(!fZ p||((k.length:Int) !=16));case true=>exact⟨z,rfl,zq,hq⟩
 simp only[ch,dB]at hc;have hp:=E2 hc.2.1;cases hj:c&&(q.2.2.2.2.1&&FB q.2.2.2.1 p)with|true=>simp only[ae]at hj;have:=OR hj.2.2;refine⟨z,rfl,⟨⟨cq,cq,cq,cq⟩,⟨cq,cq,cq⟩,⟨cq,cq,cq⟩,⟨?_,cq,cq⟩,cq,cq⟩,hq⟩;refine⟨cq,cq,cq,cq,cq,cq,cq,cq,cq,cq,cq,cq,cq,cq,cq,?_⟩;unfold Ej;rw[hj.2.2];show List.length (q.2.2.2.1.1.2.2.2.2.2.2.2.2.2.2.2.2.2.2.2++p.2.2.2.2.2.2.2.2.2.2.2.2.2.2.2)<=n;rw[ai];omega|false=>have hf:=Dx (show 128<=n by omega) (l:=l) (d:=d) (k:=k) z zq;have hfq:=Ry (l:=l) (m:=m) (d:=d) (k:=k) hq;have hh:cW n dM (KM (gW l m d q k).2 (my p)):=Zd (by show p.2.2.2.2.2.2.2.2.2.2.2.2.2.2.2.length<=n;omega);cases c with|true=>exact⟨hf.1,hf.2.1,hh,hfq⟩|false=>have Bf:=Dx (show 128<=n by omega) (l:=l) (d:=d) (k:=k) hf.1 hh;exact⟨Bf.1,Bf.2.1.trans hf.2.1,Bf.2.2.1,Ry (q:=KM (gW l m d q k).2 (my p)) hfq⟩
theorem Tk {r:iE}(h:zL r=true):0<=r.2.2.2.2.2.2.2.2:=by
 by_cases h0:0<=r.2.2.2.2.2.2.2.2;exact h0;exfalso;have e:∀b:Int,di r.2.2.2.2.2.2.2.2 0 b=false:=λb=>by rw[Bool.eq_false_iff];intro hc;have:=bh.1 hc;omega
 have e1:(r.2.2.2.2.2.2.2.2==0)=false:=by rw[cH];omega
 revert h;unfold zL;have z:∀c:Bool,(bif c then false else false)=false:=by intro c;cases c<;>rfl
 simp only[ma,ez,ab,bP,e,e1,fC,z,af];intro h;cases h
theorem aa8 {s:cQ}{q:Int}:rE s q p= -1\/∃n:Nat,rE s q p=(n:Int)/\(n:Int)<q:=by
 unfold rE;cases hb: !fw s q|| !dw p;case true=>exact .inl rfl
 simp only[ch,dB]at hb;have hs:=hb.1;simp only[fw,ae]at hs;simp only[af];cases hd:decide (D7 s.1 p>=0)with
 |true=>obtain⟨n,hn,hl⟩:=Rq s.1 p (bk hd);simp only[ah,hn,aA,ca hl];cases s.1[n].2.2.2.2.2.2.2.1==1 with|true=>exact .inl rfl|false=>have h1:=aF.1 hs.1.2 _ (aZ hl);have h2:=hs.1.1.1.1;simp only[xl,ae]at h2;have h3:=Tk (aF.1 h2.1 _ (aZ hl));simp only[aK,cU]at h1;exact .inr ⟨s.1[n].2.2.2.2.2.2.2.2.toNat,by simp only[af];omega,by omega⟩
 |false=>
  simp only[af];cases QM:decide (findF s.2.1 (lr p)>=0)with
  |true=>obtain⟨n,hn,hl⟩:=Rp s.2.1 (lr p) (bk QM);simp only[ah,hn,aA,ca hl];have h1:=aF.1 hs.2 _ (aZ hl);have h2:=hs.1.1.1.2;simp only[ow,ae,aV]at h2;have h3:=aF.1 h2.2 n (bK.2 (by omega));unfold ns On at h3;rw[vr hl]at h3;simp only[ae,bh]at h3;simp only[aK,cU]at h1;exact .inr ⟨s.2.1[n].2.2.toNat,by omega,by omega⟩
  |false=>
   simp only[af];unfold JW;cases hc: !rn s.2.2 q||decide (Bb s.2.2 (lr p)<0);case true=>exact .inl rfl
   simp only[ch,dB,cU]at hc;obtain⟨n,hn,hl⟩:=Nl s.2.2 (lr p) hc.2;have h1:=hc.1;simp only[rn,ae]at h1;have h2:=bh.1 (aF.1 h1.2 _ (aZ hl));simp only[af,hn,aA,ca hl];exact .inr ⟨s.2.2.2[n].toNat,by omega,by omega⟩
def xd (h:Host)(a b c d:Int):Host:=(h.1,h.2.1,h.2.2.1,h.2.2.2.1,h.2.2.2.2.1,h.2.2.2.2.2.1,h.2.2.2.2.2.2.1,h.2.2.2.2.2.2.2.1,h.2.2.2.2.2.2.2.2.1,h.2.2.2.2.2.2.2.2.2.1,h.2.2.2.2.2.2.2.2.2.2.1,h.2.2.2.2.2.2.2.2.2.2.2.1,h.2.2.2.2.2.2.2.2.2.2.2.2.1,h.2.2.2.2.2.2.2.2.2.2.2.2.2.1,ar (h.2.2.2.2.2.2.2.2.2.2.2.2.2.2.1+1),a,b,c,d)
def lS (h:Host)(x:Bytes):Host:=
 bif !dF h then h else
 bif (oI x).2 !=0 then xd h (ar (h.2.2.2.2.2.2.2.2.2.2.2.2.2.2.2.1+1)) h.2.2.2.2.2.2.2.2.2.2.2.2.2.2.2.2.1 h.2.2.2.2.2.2.2.2.2.2.2.2.2.2.2.2.2.1 h.2.2.2.2.2.2.2.2.2.2.2.2.2.2.2.2.2.2 else
 bif !wB h.2.2.2.2.2.2.2.1 (oI x).1 then xd h h.2.2.2.2.2.2.2.2.2.2.2.2.2.2.2.1 (ar (h.2.2.2.2.2.2.2.2.2.2.2.2.2.2.2.2.1+1)) h.2.2.2.2.2.2.2.2.2.2.2.2.2.2.2.2.2.1 h.2.2.2.2.2.2.2.2.2.2.2.2.2.2.2.2.2.2 else
 bif rE h.2.2.2.2.2.2.2.2.1 (h.2.2.2.1.length:Int) (oI x).1== -1 then xd h h.2.2.2.2.2.2.2.2.2.2.2.2.2.2.2.1 h.2.2.2.2.2.2.2.2.2.2.2.2.2.2.2.2.1 (ar (h.2.2.2.2.2.2.2.2.2.2.2.2.2.2.2.2.2.1+1)) h.2.2.2.2.2.2.2.2.2.2.2.2.2.2.2.2.2.2 else
 match h.2.2.2.1[(rE h.2.2.2.2.2.2.2.2.1 (h.2.2.2.1.length:Int) (oI x).1).toNat]? with
 |some q=>BK (xd h h.2.2.2.2.2.2.2.2.2.2.2.2.2.2.2.1 h.2.2.2.2.2.2.2.2.2.2.2.2.2.2.2.2.1 h.2.2.2.2.2.2.2.2.2.2.2.2.2.2.2.2.2.1 (ar (h.2.2.2.2.2.2.2.2.2.2.2.2.2.2.2.2.2.2+1))) (rE h.2.2.2.2.2.2.2.2.1 (h.2.2.2.1.length:Int) (oI x).1).toNat q.2.1.2.2 (jv h.2.1 h.1 0 q h.2.2.2.2.2.2.2.2.1.2.2.1 (oI x).1 h.2.2.2.2.2.2.2.2.2.2.1)
 |none=>h
theorem PV (h:Host)(x:Bytes)(k:AW 900000000 h)(hx:x.length<=10^9):qJ h x=some (lS h x):=by
 have z:=k.z;have z1:h.1.length<=900000000:=z.1.1;have z2:h.2.1.length<=900000000:=z.2.1.1;have zf:h.2.2.2.2.2.2.2.1.2.2.length<=900000000:=z.2.2.2.2.2.2.2.1.2.2.1;have s1:h.2.2.2.2.2.2.2.2.1.1.length<=900000000:=z.2.2.2.2.2.2.2.2.1.1.1;have s2:h.2.2.2.2.2.2.2.2.1.2.1.length<=900000000:=z.2.2.2.2.2.2.2.2.1.2.1.1;have s3:h.2.2.2.2.2.2.2.2.1.2.2.2.length<=900000000:=z.2.2.2.2.2.2.2.2.1.2.2.2.1;unfold qJ lS;rw[kc h (z.mono),ab,qn h (k.sz (by omega)),ab];cases hb:dF h;rfl;have hl:=qZ (by simp only[dF,ae]at hb;exact hb.2.2.2.2.1:ry h=true);have hr:=EU hb;simp only[aj,af,ZB x hx,ab,R3 h.2.2.2.2.2.2.2.1 _ (show h.2.2.2.2.2.2.2.1.2.2.length<=10^9 by omega),ZK h.2.2.2.2.2.2.2.2.1 _ _ (show h.2.2.2.2.2.2.2.2.1.1.length<=10^9 by omega) (show h.2.2.2.2.2.2.2.2.1.2.1.length<=10^9 by omega) (show h.2.2.2.2.2.2.2.2.1.2.2.2.length<=10^9 by omega)];generalize oI x=f;cases f.2 !=0;case true=>rfl
 cases wB h.2.2.2.2.2.2.2.1 f.1;rfl;simp only[aj,af];have mF:=aa8 (s:=h.2.2.2.2.2.2.2.2.1) (q:=(h.2.2.2.1.length:Int)) (p:=f.1);generalize rE h.2.2.2.2.2.2.2.2.1 (h.2.2.2.1.length:Int) f.1=r at mF⊢;rcases mF with rfl|⟨n,rfl,hn⟩;rfl;have i1:n<h.2.2.2.1.length:=by omega
 have i2:n<h.2.2.2.2.2.1.length:=by omega
 have hq:=(AN (hr n i1)).1;have hqi:=uz hq;have ha:=J3 (show 1000<=900000000 by omega) (l:=h.2.1) (d:=0) (k:=h.2.2.2.2.2.2.2.2.1.2.2.1) (p:=f.1) (c:=h.2.2.2.2.2.2.2.2.2.2.1) z.1 (z.2.2.2.1.2 _ (aZ i1)) hq;have ev:=Jk (h:=xd h h.2.2.2.2.2.2.2.2.2.2.2.2.2.2.2.1 h.2.2.2.2.2.2.2.2.2.2.2.2.2.2.2.2.1 h.2.2.2.2.2.2.2.2.2.2.2.2.2.2.2.2.2.1 (ar (h.2.2.2.2.2.2.2.2.2.2.2.2.2.2.2.2.2.2+1))) (k:=n) (b:=h.2.2.2.1[n].2.1.2.2) (f:=jv h.2.1 h.1 0 h.2.2.2.1[n] h.2.2.2.2.2.2.2.2.1.2.2.1 f.1 h.2.2.2.2.2.2.2.2.2.2.1) i1 i2 ha.2.2.2;rw[show((n:Int)== -1)=false from by rw[cH];omega,aA,aq i1];simp only[af,bl i1,ab,Vz h.2.1 h.1 0 _ _ _ _ (show h.2.1.length<=10^9 by omega) (show h.1.length<=10^9 by omega)];rw[show(kR ((jv h.2.1 h.1 0 h.2.2.2.1[n] h.2.2.2.2.2.2.2.2.1.2.2.1 f.1 h.2.2.2.2.2.2.2.2.2.2.1).1,h.2.1,h.2.2.1,h.2.2.2.1.set n (jv h.2.1 h.1 0 h.2.2.2.1[n] h.2.2.2.2.2.2.2.2.1.2.2.1 f.1 h.2.2.2.2.2.2.2.2.2.2.1).2,h.2.2.2.2.1,h.2.2.2.2.2.1,h.2.2.2.2.2.2.1,h.2.2.2.2.2.2.2.1,h.2.2.2.2.2.2.2.2.1,h.2.2.2.2.2.2.2.2.2.1,h.2.2.2.2.2.2.2.2.2.2.1,h.2.2.2.2.2.2.2.2.2.2.2.1,h.2.2.2.2.2.2.2.2.2.2.2.2.1,h.2.2.2.2.2.2.2.2.2.2.2.2.2.1,ar (h.2.2.2.2.2.2.2.2.2.2.2.2.2.2.1+1),h.2.2.2.2.2.2.2.2.2.2.2.2.2.2.2.1,h.2.2.2.2.2.2.2.2.2.2.2.2.2.2.2.2.1,h.2.2.2.2.2.2.2.2.2.2.2.2.2.2.2.2.2.1,ar (h.2.2.2.2.2.2.2.2.2.2.2.2.2.2.2.2.2.2+1)) (n:Int) h.2.2.2.1[n].2.1.2.2)=_ from ev,ab]
theorem Te (hn:1000<=n)(x:Bytes)(k:AW n h):AW n (lS h x)/\(lS h x).2.2.1=h.2.2.1/\(lS h x).2.2.2.2.1.length=h.2.2.2.2.1.length:=by
 have z:=k.z;have zc:∀a b c d,AW n (xd h a b c d):=λa b c d=>⟨⟨z.1,z.2.1,z.2.2.1,z.2.2.2.1,z.2.2.2.2.1,z.2.2.2.2.2.1,z.2.2.2.2.2.2.1,z.2.2.2.2.2.2.2.1,z.2.2.2.2.2.2.2.2.1,z.2.2.2.2.2.2.2.2.2.1,z.2.2.2.2.2.2.2.2.2.2.1,z.2.2.2.2.2.2.2.2.2.2.2.1,z.2.2.2.2.2.2.2.2.2.2.2.2.1,z.2.2.2.2.2.2.2.2.2.2.2.2.2.1,cq,cq,cq,cq,cq⟩,k.t⟩
 unfold lS;cases hb:dF h;exact⟨k,rfl,rfl⟩;have hr:=EU hb;generalize oI x=f;cases f.2 !=0;case true=>exact⟨zc ..,rfl,rfl⟩
 cases wB h.2.2.2.2.2.2.2.1 f.1;exact⟨zc ..,rfl,rfl⟩;simp only[aj,af];generalize rE h.2.2.2.2.2.2.2.2.1 (h.2.2.2.1.length:Int) f.1=r;cases r== -1;case true=>exact⟨zc ..,rfl,rfl⟩
 simp only[af];rcases hq:h.2.2.2.1[r.toNat]? with _|q;exact⟨k,rfl,rfl⟩;obtain⟨hi,hqe⟩:=aG.1 hq;have hqd:=(AN (hr _ hi)).1;rw[hqe]at hqd;have ha:=J3 hn (l:=h.2.1) (d:=0) (k:=h.2.2.2.2.2.2.2.2.1.2.2.1) (p:=f.1) (c:=h.2.2.2.2.2.2.2.2.2.2.1) z.1 (z.2.2.2.1.2 _ (bp hq)) hqd;have zc':=zc h.2.2.2.2.2.2.2.2.2.2.2.2.2.2.2.1 h.2.2.2.2.2.2.2.2.2.2.2.2.2.2.2.2.1 h.2.2.2.2.2.2.2.2.2.2.2.2.2.2.2.2.2.1 (ar (h.2.2.2.2.2.2.2.2.2.2.2.2.2.2.2.2.2.2+1));have kk:=Dh (h:=xd h h.2.2.2.2.2.2.2.2.2.2.2.2.2.2.2.1 h.2.2.2.2.2.2.2.2.2.2.2.2.2.2.2.2.1 h.2.2.2.2.2.2.2.2.2.2.2.2.2.2.2.2.2.1 (ar (h.2.2.2.2.2.2.2.2.2.2.2.2.2.2.2.2.2.2+1))) (k:=r.toNat) (b:=q.2.1.2.2) (f:=jv h.2.1 h.1 0 q h.2.2.2.2.2.2.2.2.1.2.2.1 f.1 h.2.2.2.2.2.2.2.2.2.2.1) ha.2.1;exact⟨⟨Mg zc'.z ha.1 ha.2.2.1,by rw[kk.tx];exact k.t⟩,kk.tx,kk.pl⟩
theorem X4 (l:ax aB)(m:bR)(d:Int)(rx:bJ)(pl:cK)(st:ax Stream)(c:Int):(iT l m d rx pl st c).1.length=m.length:=by unfold iT;cases !D2 rx||(!dy pl|| !di c 0 1000)with|true=>rfl|false=>exact XE ..
def uC (b:Int)(k:Nat)(s:Int×Host):Int×Host:=
 match s.2.2.2.2.2.2.1[k]?,s.2.2.2.2.2.2.2.1[k]?,s.2.2.2.2.1[k]?,s.2.2.2.2.2.1[k]? with
 |some v,some p,some x,some pl=>
  bif p||(AP v).2 then
   (ar (s.1+(iT s.2.2.1 s.2.1 0 x pl s.2.2.2.2.2.2.2.2.2.2.1 b).2.2.2.2),
    (iT s.2.2.1 s.2.1 0 x pl s.2.2.2.2.2.2.2.2.2.2.1 b).1,s.2.2.1,s.2.2.2.1,s.2.2.2.2.1.set k (iT s.2.2.1 s.2.1 0 x pl s.2.2.2.2.2.2.2.2.2.2.1 b).2.1,s.2.2.2.2.2.1.set k (iT s.2.2.1 s.2.1 0 x pl s.2.2.2.2.2.2.2.2.2.2.1 b).2.2.1,
    s.2.2.2.2.2.2.1.set k (bif decide ((iT s.2.2.1 s.2.1 0 x pl s.2.2.2.2.2.2.2.2.2.2.1 b).2.2.2.2<b) then G7 (AP v).1 else(AP v).1),
    s.2.2.2.2.2.2.2.1.set k (!decide ((iT s.2.2.1 s.2.1 0 x pl s.2.2.2.2.2.2.2.2.2.2.1 b).2.2.2.2<b)),s.2.2.2.2.2.2.2.2.1,s.2.2.2.2.2.2.2.2.2.1,(iT s.2.2.1 s.2.1 0 x pl s.2.2.2.2.2.2.2.2.2.2.1 b).2.2.2.1,s.2.2.2.2.2.2.2.2.2.2.2)
  else(s.1,s.2.1,s.2.2.1,s.2.2.2.1,s.2.2.2.2.1,s.2.2.2.2.2.1,s.2.2.2.2.2.2.1.set k (AP v).1,s.2.2.2.2.2.2.2.1.set k false,s.2.2.2.2.2.2.2.2)
 |_,_,_,_=>s
theorem Tq (b:Int)(k:Nat)(s:Int×Host):lp (k+1) s.2 (uC b k s).2:=by unfold uC;rcases s.2.2.2.2.2.2.1[k]? with _|v;exact lp.refl _ _;rcases s.2.2.2.2.2.2.2.1[k]? with _|p;exact lp.refl _ _;rcases s.2.2.2.2.1[k]? with _|x;exact lp.refl _ _;rcases s.2.2.2.2.2.1[k]? with _|pl;exact lp.refl _ _;simp only;cases p||(AP v).2 with|true=>exact⟨X4 ..,rfl,rfl,aC ..,λj hj=>aN (by omega),aC ..,aC ..,λj hj=>aN (by omega),aC ..,rfl,rfl⟩|false=>exact⟨rfl,rfl,rfl,rfl,λ_ _=>rfl,rfl,aC ..,λj hj=>aN (by omega),aC ..,rfl,rfl⟩
theorem WL (b:Int)(k:Nat)(s:Int×Host)(hn:1000<=n)(z:cW n dD s.2):cW (n+322000) dD (uC b k s).2:=by have z':cW (n+322000) dD s.2:=z.mono;unfold uC;rcases s.2.2.2.2.2.2.1[k]? with _|v;exact z';rcases s.2.2.2.2.2.2.2.1[k]? with _|p;exact z';rcases h1:s.2.2.2.2.1[k]? with _|x;exact z';rcases h2:s.2.2.2.2.2.1[k]? with _|pl;exact z';simp only;cases p||(AP v).2 with|true=>have hp:=Oh (by omega) (l:=s.2.2.1) (d:=0) b z.1 (z.2.2.2.1.2 _ (bp h1)) (z.2.2.2.2.1.2 _ (bp h2)) z.2.2.2.2.2.2.2.2.2.1;exact⟨hp.1.mono,z'.2.1,z'.2.2.1,oF z'.2.2.2.1 (hp.2.1.mono),oF z'.2.2.2.2.1 hp.2.2.1,JZ z'.2.2.2.2.2.1,oF z'.2.2.2.2.2.2.1 trivial,z'.2.2.2.2.2.2.2.1,z'.2.2.2.2.2.2.2.2.1,hp.2.2.2.1,z'.2.2.2.2.2.2.2.2.2.2⟩|false=>exact⟨z'.1,z'.2.1,z'.2.2.1,z'.2.2.2.1,z'.2.2.2.2.1,JZ z'.2.2.2.2.2.1,oF z'.2.2.2.2.2.2.1 trivial,z'.2.2.2.2.2.2.2⟩
def nq (b:Int):Nat->Host->Int×Host
 |0,h=>(0,h)
 |k+1,h=>uC b k (nq b k h)
theorem DQ (b:Int)(h:Host):∀k,lp k h (nq b k h).2
 |0=>lp.refl 0 h
 |k+1=>((DQ b h k).up (by omega)).trans (Tq b k _)
theorem E6 (b:Int)(hn:1000<=n)(z:cW n dD h):∀k,cW (n+322000*k) dD (nq b k h).2
 |0=>z
 |k+1=>(WL b k _ (by omega) (E6 b hn z k)).mono
def lT (h:Host)(b:Int):Host×Int:=bif dF h&&di b 1 1000 then((nq b h.2.2.2.1.length h).2,(nq b h.2.2.2.1.length h).1) else(h,0)
theorem Tr (hn:1000<=n)(b:Int)(k:AW n h):AW (n+644000) (lT h b).1:=by unfold lT;cases hb:dF h&&di b 1 1000 with|false=>exact k.mono|true=>simp only[ae]at hb;have hl:=qZ (by have:=hb.1;simp only[dF,ae]at this;exact this.2.2.2.2.1:ry h=true);refine⟨(E6 b hn k.z _).mono,?_⟩;simp only[ah];rw[(DQ b h _).tx];exact bw k.t (by omega)
theorem Se (h:Host)(b:Int)(k:AW 400000000 h):qK h b=some (lT h b):=by
 have B7:=eh;unfold qK lT;rw[kc h (k.z.mono),ab,qn h (k.sz (by omega)),ab,df];cases hb:dF h;rfl;cases hi0:di b 1 1000;rfl;have hl:=qZ (by simp only[dF,ae]at hb;exact hb.2.2.2.2.1:ry h=true);simp only[aj,af,ab,dH,ah];refine eD (λi=>((nq b i h).1,(i:Int),(nq b i h).2)) h.2.2.2.1.length (by omega) (λi nx hi=>?_) (λnx=>?_);have kk:=DQ b h i;have zz:cW 500000000 dD (nq b i h).2:=(E6 b (by omega) k.z i).mono;have i1:i<(nq b i h).2.2.2.2.1.length:=by rw[kk.rx];exact hi
 have i2:i<(nq b i h).2.2.2.2.2.1.length:=by rw[kk.pl];omega
 have i3:i<(nq b i h).2.2.2.2.2.2.1.length:=by rw[kk.vec];omega
 have i4:i<(nq b i h).2.2.2.2.2.2.2.1.length:=by rw[kk.Wt];omega
 rw[show nq b (i+1) h=uC b i (nq b i h) from rfl];generalize nq b i h=s at zz i1 i2 i3 i4⊢;have gp:∀(V:ax Vector)(P:ax Bool),ku (s.2.1,s.2.2.1,s.2.2.2.1,s.2.2.2.2.1,s.2.2.2.2.2.1,V,P,s.2.2.2.2.2.2.2.2) (i:Int) b=some ((iT s.2.2.1 s.2.1 0 s.2.2.2.2.1[i] s.2.2.2.2.2.1[i] s.2.2.2.2.2.2.2.2.2.2.1 b).2.2.2.2,(iT s.2.2.1 s.2.1 0 s.2.2.2.2.1[i] s.2.2.2.2.2.1[i] s.2.2.2.2.2.2.2.2.2.2.1 b).1,s.2.2.1,s.2.2.2.1,s.2.2.2.2.1.set i (iT s.2.2.1 s.2.1 0 s.2.2.2.2.1[i] s.2.2.2.2.2.1[i] s.2.2.2.2.2.2.2.2.2.2.1 b).2.1,s.2.2.2.2.2.1.set i (iT s.2.2.1 s.2.1 0 s.2.2.2.2.1[i] s.2.2.2.2.2.1[i] s.2.2.2.2.2.2.2.2.2.2.1 b).2.2.1,V,P,s.2.2.2.2.2.2.2.2.1,s.2.2.2.2.2.2.2.2.2.1,(iT s.2.2.1 s.2.1 0 s.2.2.2.2.1[i] s.2.2.2.2.2.1[i] s.2.2.2.2.2.2.2.2.2.2.1 b).2.2.2.1,s.2.2.2.2.2.2.2.2.2.2.2):=by intro V P;have DC:s.2.2.2.2.2.1[i].2.2.2.length<=500000000:=(zz.2.2.2.2.1.2 _ (aZ i2)).2.2.2.1;have hm:s.2.1.length<=500000000:=zz.1.1;have hp:s.2.2.1.length<=500000000:=zz.2.1.1;unfold ku;simp only[bl i1,bl i2,ab,Sb s.2.2.1 s.2.1 0 _ _ _ b (show s.2.2.1.length<=10^9 by omega) (show s.2.1.length<=10^9 by omega) DC zz.2.2.2.2.2.2.2.2.2.1,aA]
 have CI:∀V:Vector,s.2.2.2.2.2.2.1.set i V=s.2.2.2.2.2.2.1.set i V:=λ_=>rfl;unfold uC;rw[aq i1,aq i2,aq i3,aq i4];simp only[mG];rw[ks,ah];simp only[bl i3,bl i4,ab,ZN,aA,gp];generalize AP s.2.2.2.2.2.2.1[i]=w;generalize iT s.2.2.1 s.2.1 0 s.2.2.2.2.1[i] s.2.2.2.2.2.1[i] s.2.2.2.2.2.2.2.2.2.2.1 b=pr;have i5:∀V:Vector,i<(s.2.2.2.2.2.2.1.set i V).length:=λV=>by rw[aC];exact i3
 have i6:∀q:Bool,i<(s.2.2.2.2.2.2.2.1.set i q).length:=λq=>by rw[aC];exact i4
 have e5:∀V:Vector,idx (s.2.2.2.2.2.2.1.set i V) (i:Int)=some V:=λV=>by rw[bl (i5 V),List.getElem_set_self]
 have e6:∀q:Bool,idx (s.2.2.2.2.2.2.2.1.set i q) (i:Int)=some q:=λq=>by rw[bl (i6 q),List.getElem_set_self]
 rw[ak (n:=(i:Int)+1)];have zB:s.2.2.2.2.2.2.2.1.set i (s.2.2.2.2.2.2.2.1[i])=s.2.2.2.2.2.2.2.1:=List.set_getElem_self ..;generalize hp:s.2.2.2.2.2.2.2.1[i]=p at zB⊢;cases hw:w.2 with
 |true=>simp only[jF,ah,e6,e5,ab,aj,af,K7,List.set_set];cases decide (pr.2.2.2.2<b)<;>rfl
 |false=>
  simp only[Bool.or_false,af];cases p with
  |false=>rw[zB];rfl
  |true=>
   have e7:idx s.2.2.2.2.2.2.2.1 (i:Int)=some true:=by rw[bl i4,hp]
   simp only[ah,aj,af,e5,e7,ab,K7,List.set_set];cases decide (pr.2.2.2.2<b)with|true=>rfl|false=>simp only[af,cg,zB];rfl
 simp only[mG];rw[cP,af]
theorem aeI (hn:1000<=n)(k:AW n h):AW n (zR h):=by have:=aeH hn k.z;exact⟨this.1,by rw[this.2];exact k.t⟩
def txt (_:Int):Bytes:=[]
def Ca:(t:CT)->t.D->Nat
 | .int _,_=>1
 | .bool,_=>1
 | .str,_=>1
 | .sl e,xs=>(xs.map (Ca e)).sum
 | .pair a b,x=>Ca a x.1+Ca b x.2
def mkL (f:α->Int->α)(c:α->Nat):ax α->Int->ax α
 |[],_=>[]
 |x::xs,k=>f x k::mkL f c xs (k+c x)
def mk:(t:CT)->t.D->Int->t.D
 | .int _,_,k=>k
 | .bool,_,k=>tmod k 3==0
 | .str,_,k=>txt k
 | .sl e,xs,k=>mkL (mk e) (Ca e) xs k
 | .pair a b,x,k=>(mk a x.1 k,mk b x.2 (k+Ca a x.1))
structure Few (h:Host):Prop where
 pl:h.2.2.2.2.1.length<=2
 w:h.2.2.1.2.2.1.length<=16
theorem aht (hb:dF h=true):Few h:=by have hl:=qZ (by have:=hb;simp only[dF,ae]at this;exact this.2.2.2.2.1:ry h=true);have ht:=Fe (t:=h.2.2.1) (by simp only[dF,ae]at hb;exact hb.2.2.1);exact⟨by omega,ht⟩
theorem AW.tx (k:AW n h)(hn:n<=10^9):ae2 h.2.2.1:=
 have z:cW 1000000000 dD h:=k.z.mono hn
 ⟨z.2.2.1.2.1.2.2.2.1,z.2.2.1.2.2.1.1,λx hx=>(z.2.2.1.2.2.1.2 x hx).2.2.1⟩
def yU (h:Host)(p:aP)(c z:Int):Host×Bool:=
 bif dF h then(((og h.2.1 h.1 0 h.2.2.1 p c z).1,h.2.1,(og h.2.1 h.1 0 h.2.2.1 p c z).2.1,h.2.2.2),(og h.2.1 h.1 0 h.2.2.1 p c z).2.2) else(h,false)
theorem ZE (h:Host)(p:aP)(c z:Int)(k:AW 900000000 h):vQ h p c z=some (yU h p c z):=by have zz:cW 1000000000 dD h:=k.z.mono;unfold vQ yU;rw[kc h zz,ab,qn h (k.sz (by omega)),ab];cases dF h;rfl;simp only[aj,af,ah,ZF _ _ _ _ _ _ _ zz.2.1.1 zz.1.1 (k.tx (by omega)) zz.2.2.1.2.2.1.1 (bw k.t (by omega)),ab]
theorem Nq (hn:128<=n)(l:ax aB)(d:Int)(p:cK)(z:Nat):∀(q:cZ)(s:Bytes)(m:bR)(a:ax gh){x},cW n (.sl .str) m->qi l d p z q s m a=some x->cW n (.sl .str) x.2
 |[],s,m,a,x,hm,h=>by cases h;exact hm
 |b::q,s,m,a,x,hm,h=>by rw[qi]at h;cases hq:(gy l m d (nG p b) (s.take z) false).2 with|false=>rw[hq]at h;cases h|true=>rw[hq]at h;exact Nq hn l d p z q _ _ _ (CX hn hm ..) h
theorem IV (hn:128<=n)(l:ax aB)(d:Int):∀(q:bR)(m:bR)(r:kx){x},cW n (.sl .str) m->kh l d q m r=some x->cW n (.sl .str) x.1
 |[],m,r,x,hm,h=>by cases h;exact hm
 |s::q,m,r,x,hm,h=>by rw[kh]at h;cases hq:(cy l m d r s).2.2 with|false=>rw[hq]at h;cases h|true=>rw[hq]at h;exact IV hn l d q _ _ (GA hn hm ..) h
theorem S7 (hn:128<=n){q:bR}(hm:cW n (.sl .str) m):cW n (.sl .str) (oe l m d r q).1:=by unfold oe;cases hx:kh l d q m r with|none=>exact hm|some x=>exact IV hn l d q m r hm hx
theorem abe (p:cK)(n:Int):(jW p n).1.2.2.2.length+(jW p n).2.1.length=p.2.2.2.length:=by unfold jW;cases dy p&&di n 0 (p.2.2.2.length:Int)with|false=>rfl|true=>simp only[ah,aM,aW];omega
theorem YE (a:ax kz)(x:kz):(bu (a++[x])).length=(bu a).length+x.2.2.length:=by simp[bu]
theorem Tp:∀l:ax kz,(∀x∈l,1<=x.2.1)->(l.length:Int)<=dI l
 |[],_=>by simp[dI]
 |y::l,h=>by have h1:=Tp l (λx hx=>h x (eT _ hx));have h2:=h y (List.mem_cons_self ..);simp only[dI,cS,List.sum_cons,bz]at h1⊢;omega
structure agr (n:Nat) (m:List Bytes) (t:dx) (r:List Bytes×dx×Bool):Prop where
 mem:cW n (.sl .str) r.1
 tx:cW (n+1) kJ r.2.1
 sum:r.2.1.2.1.2.2.2.length+(bu r.2.1.2.2.1).length<=n
 w:r.2.1.2.2.1.length<=16\/r.2.1.2.2.1=t.2.2.1
theorem aaP (hn:128<=n){c z:Int}(d:Int)(hm:cW n (.sl .str) m)(ht:cW n kJ t)(hs:t.2.1.2.2.2.length+(bu t.2.2.1).length<=n):agr n m t (og l m d t p c z):=by
 have old:agr n m t (m,t,false):=⟨hm,ht.mono,hs,Or.inr rfl⟩
 unfold og;cases hg:Mb t&&(dw p&&(di z 1 t.2.1.2.1&&di c 1 128));exact old;simp only[ae]at hg;simp only[ah];generalize xb p z.toNat=k;cases hk:FL t k;exact old;simp only[ah];rcases hx:qi l d t.2.1 z.toNat (jW t.2.1 (k:Int)).2.1 (jL p).1 m []with _|x;exact old;simp only;unfold Er;have hpm:=S7 (n:=n) hn (l:=l) (d:=d) (q:=(oy x.1 c t.2.2.2).map wD) (r:=t.1) (Nq hn l d t.2.1 z.toNat _ _ _ _ hm hx);generalize oe l x.2 d t.1 ((oy x.1 c t.2.2.2).map wD)=w at hpm⊢;cases w.2.2;exact old;have hl:=abe t.2.1 (k:Int);have hb:=YE t.2.2.1 (t.2.2.2,(k:Int)+1,(jW t.2.1 (k:Int)).2.1);have hb:(bu (t.2.2.1++[(t.2.2.2,(k:Int)+1,(jW t.2.1 (k:Int)).2.1)])).length=(bu t.2.2.1).length+(jW t.2.1 (k:Int)).2.1.length:=hb;refine⟨hpm,⟨⟨cq,cq,cq,cq⟩,⟨cq,cq,cq,?_,λ_ _=>trivial⟩,?_,cq⟩,?_,Or.inl ?_⟩;show(jW t.2.1 (k:Int)).1.2.2.2.length<=n+1;omega;exact HI (t:=ir) (k:=1) ht.2.2.1 (λy hy=>by rw[cp.1 hy];exact⟨cq,cq,by show(jW t.2.1 (k:Int)).2.1.length<=n;omega,λ_ _=>trivial⟩) (by simp);show(jW t.2.1 (k:Int)).1.2.2.2.length+(bu (t.2.2.1++[(t.2.2.2,(k:Int)+1,(jW t.2.1 (k:Int)).2.1)])).length<=n;omega;show(t.2.2.1++[_]).length<=16;have hq:=hg.1;simp only[Mb,ae]at hq;have T5:=lg hq.1;have hc:=Tp t.2.2.1 (λx hx=>by have:=aF.1 hq.2.2.2.1 x hx;simp only[oh,ae,bh]at this;omega);unfold FL at hk;simp only[ae,aK,cU]at hk;rw[ai,bC];omega
theorem ad3 (hn:1000<=n)(p:aP)(c z:Int)(k:AW n h):AW (n+1) (yU h p c z).1:=by unfold yU;cases dF h;exact k.mono;have zz:=k.z;have s:=aaP (by omega) (l:=h.2.1) (p:=p) (c:=c) (z:=z) 0 zz.1 zz.2.2.1 k.t;have z1:cW (n+1) dD h:=zz.mono;exact⟨⟨s.mem.mono,z1.2.1,s.tx,z1.2.2.2⟩,bw s.sum (by omega)⟩
theorem IY (h:Host):∀k,(gP h k).2.2.1=h.2.2.1
 |0=>rfl
 |k+1=>by show(uB k (gP h k)).2.2.1=_;rw[<-IY h k];generalize gP h k=s;unfold uB;rcases h1:s.2.2.2.1[k]? with _|x;rfl;cases h2:s.2.2.2.2.2.1[k]? with|none=>rfl|some v=>rfl
theorem aaF (hn:1000<=n)(k:AW n h)(f:Few h):AW (n+645000) (tf h)/\Few (tf h):=by
 unfold tf;cases hb:dF h;exact⟨k.mono,f⟩;have hl:=qZ (KR hb);have e:=Iu hn k.z hl.1;have hw:=f.w;have hp:=Bv (n:=n) (by omega) k.z h.2.2.2.1.length;have ht:=(wS (n:=n+322000*h.2.2.2.1.length) (h:=h) hp.2 h.2.2.1.2.2.1.length).1.e;have h4:=oa 256 128 8;simp only[ah];have hx:=IY (nM h) h.2.2.2.1.length;have hk:=(wb (nM h) h.2.2.2.1.length).pl;have DC:(nM h).2.2.2.2.1.length=h.2.2.2.2.1.length:=by show(returned h h.2.2.1.2.2.1.length).2.2.2.2.1.length=_;rw[ht];exact hp.1.pl
 refine⟨⟨(BA (by omega) e _).mono,?_⟩,?_,?_⟩;rw[hx];show(ia 256 128 8).1.2.2.2.length+0<=_;omega;rw[hk,DC];exact f.pl;rw[hx];show 0<=16;omega
def acB (f:iM):ax Stream->Int->Int
 |[],_=> -1
 |s::r,i=>if s.1=f then i else acB f r (i+1)
def aby (a b:ax Stream)(f:iM):Bool:=
 match idx a (acB f a 0),idx b (acB f b 0)with
 |some x,some y=>decide (x=y)
 |_,_=>false
def aiB (b:Bool):Int:=bif b then 1 else 0
def SX (m:bR)(s:Nat):Nat->bR
 |0=>m
 |i+1=>(SX m s i).set ((i+s)%m.length) (m.getD i [])
theorem Gw (m:bR)(s:Nat):∀i,(SX m s i).length=m.length
 |0=>rfl
 |i+1=>by rw[SX,aC,Gw m s i]
def xm (n s:Int)(m:aB):aB:=(m.1,m.2.1,tmod (ar (m.2.2.1+s)) n,m.2.2.2)
def rA (n s:Int)(l:ax aB)(i:Nat):ax aB:=(l.take i).map (xm n s)++l.drop i
theorem V8 (n s:Int)(l:ax aB)(i:Nat):(rA n s l i).length=l.length:=by simp only[rA,ai,cb,aW,aM];omega
theorem V7 (n s:Int)(l:ax aB)(i:Nat)(hi:i<l.length):idx (rA n s l i) (i:Int)=some l[i]:=by rw[JO,rA,bm (by simp;omega),bH];simp only[cb,aW];rw[show i+(i-min i l.length)=i by omega,aq hi]
theorem V9 (n s:Int)(l:ax aB)(i:Nat)(hi:i<l.length):(rA n s l i).set i (xm n s l[i])=rA n s l (i+1):=by
 have hl:((l.take i).map (xm n s)).length=i:=by simp;omega
 rw[rA,List.set_append_right _ _ (by omega),hl,jG,bO hi,List.set_cons_zero,rA,bL hi,dS,aR];rfl
def zM (h:Host)(s:Int):Bool:=dF h&&(!((h.1.length:Int)==0)&&di s 0 64)
def SZ (h:Host):Bool:=(List.range h.2.1.length).all (λi=> !(decide ((h.2.1.getD i B9).2.2.1>=(h.1.length:Int))))
def H9 (h:Host)(s:Int):Host×Bool:=bif zM h s&&SZ h then((SX h.1 s.toNat h.1.length,rA (h.1.length:Int) s h.2.1 h.2.1.length,h.2.2),true) else(h,false)
theorem ajs {s:Int}(hn:n<=64)(hi:i<n)(h0:0<=s)(h1:s<=64):tmod (ar ((i:Int)+s)) (n:Int)=(((i+s.toNat)%n:Nat):Int):=by rw[ak,show(i:Int)+s=((i+s.toNat:Nat):Int) by omega];exact Int.ofNat_tmod _ _
theorem akm (b:dF h=true):h.1.length<=64:=by simp only[dF,cx,ae,aD]at b;omega
theorem ZH (h:Host)(s:Int)(z:cW 1000000000 dD h)(k:Hg h):sE h s=some (H9 h s):=by
 have hm:h.2.1.length<=10^9:=z.2.1.1;unfold sE;generalize ((([]:bR),([]:ax aB),((0,0,0,0),(0,0,0,([]:cZ)),([]:ax kz),0),([]:ax bJ),([]:ax cK),([]:ax Vector),([]:ax Bool),(0,false,([]:cZ)),(([]:ax iE),([]:ax Slot),([]:Bytes),([]:cZ)),([]:ax Stream),false,([]:bR),([]:cZ),([]:cZ),0,0,0,0,0):Host)=b4;simp only[kc h z,qn h k,df,ab,H9];rw[show(aa (cond (!dF h) (some true) (cond ((h.1.length:Int)==0) (some true) (some (!di s 0 64)))) λq4=>cond q4 (some (h,false)) _)=cond (!(zM h s)) (some (h,false)) _ from by unfold zM;cases dF h<;>cases ((h.1.length:Int)==0)<;>cases di s 0 64<;>rfl];cases mB:zM h s with
 |false=>rfl
 |true=>
  simp only[zM,ae,bh,aK,cH]at mB;obtain⟨hb,Al,hs0,hs1⟩:=mB;have hn:=akm hb;simp only[aj,af,bq];have key:=Hj (T:=kQ (λ(_:Int) (B5:Host)=>ba (jP (λ(_:Int) (DW:Host)=>some (DW,true)) s (h.1.length:Int) h.1 (h.1.length:Int) b4) fuel (0,B5)) (λ(Fj:Bool) (_:Int) (Jl:Host) (_:Host)=>some (Jl,Fj)) s false (h.1.length:Int) h.2.1 (h.2.1.length:Int) h b4) (hit:=some (h,false)) (fin:=some ((SX h.1 s.toNat h.1.length,rA (h.1.length:Int) s h.2.1 h.2.1.length,h.2.2),true)) (λi=>((i:Int),h.1,rA (h.1.length:Int) s h.2.1 i,h.2.2)) (λi=> !(decide ((h.2.1.getD i B9).2.2.1>=(h.1.length:Int)))) h.2.1.length (by omega) (λi nx hi hp=>?hs) (λhp nx=>?hf)
  case hs=>
   simp only[kQ]
   rw[ks,bl hi,V7 _ _ _ i hi,ak (n:=(i:Int)+1)]
   simp only[ah,ab,kc h z,aI Al,ca hi,fO,aA]
   have:=V9 (h.1.length:Int) s h.2.1 i hi
   unfold xm at this
   rw[this];rfl
  case hf=>
   simp only[kQ]
   rw[cP]
   simp only[af]
   refine eD (λi=>((i:Int),SX h.1 s.toNat i,rA (h.1.length:Int) s h.2.1 h.2.1.length,h.2.2)) h.1.length (by omega) (λi nx hi=>?_) (λnx=>?_)
   ·have hj:(i+s.toNat)%h.1.length<(SX h.1 s.toNat i).length:=by rw[Gw];exact gk _ (by omega)
    simp only[jP]
    rw[ks,bl hi,ah,ab,aI Al,ajs hn hi hs0 hs1,bl hj,ak]
    simp only[ab,aA,SX,ca hi];rfl
   ·simp only[jP]
    rw[cP];rfl
  refine Eq.trans (Eq.trans (congrArg (λq=>ba _ fuel ((0:Int),h.1,q,h.2.2)) ?_) key) ?_;simp[rA];unfold SZ;cases (List.range h.2.1.length).all (λi=> !(decide ((h.2.1.getD i B9).2.2.1>=(h.1.length:Int))))<;>rfl
theorem Oe (hm:∀x∈m,x.length<=n)(s:Nat):∀i,∀x∈SX m s i,x.length<=n
 |0=>hm
 |i+1=>λx hx=>by rw[SX]at hx;rcases dJ hx with h|h;exact Oe hm s i x h;rw[h];by_cases hi:i<m.length;rw[ca hi];exact hm _ (aZ hi);rw[bA,bn (by omega)];exact bU _
theorem WN {s:Int}(z:cW n dD h):cW n dD (H9 h s).1:=by unfold H9;cases zM h s&&SZ h with|false=>exact z|true=>refine⟨⟨?_,?_⟩,⟨?_,λ_ _=>⟨cq,cq,cq,cq⟩⟩,z.2.2⟩;show(SX h.1 s.toNat h.1.length).length<=n;rw[Gw];exact z.1.1;exact Oe z.1.2 _ _;show(rA _ _ _ _).length<=n;rw[V8];exact z.2.1.1
structure lC (n s:Nat) (l l':List aB):Prop where
 n0:0<n/\n<=64
 s0:s<=64
 ok:dj l=true
 ok':dj l'=true
 e:l'=l.map (xm (n:Int) (s:Int))
 ph:∀x∈l,0<=x.2.2.1/\x.2.2.1<(n:Int)
structure ij (n s:Nat) (m m':List Bytes):Prop where
 ln:m.length=n
 ln':m'.length=n
 pg:∀x∈m,x.length=128
 pg':∀x∈m',x.length=128
 eq:∀i,i<n->m'.getD ((i+s)%n) []=m.getD i []
theorem ij.mem (hn:n<=64)(h:ij n s m m'):cx m=true/\cx m'=true:=⟨kF.2 ⟨h.pg,by have:=h.ln;omega⟩,kF.2 ⟨h.pg',by have:=h.ln';omega⟩⟩
def piN (n s:Nat)(f:Int):Int:=if f<0 then-1 else((((f.toNat+s)%n:Nat)):Int)
theorem findIdx_map {β:Type}(g:α->β)(p:β->Bool)(q:α->Bool)(h:∀x,p (g x)=q x):∀l:ax α,(l.map g).findIdx? p=l.findIdx? q
 |[]=>rfl
 |x::l=>by rw[cS,List.findIdx?_cons,List.findIdx?_cons,h x,findIdx_map g p q h l]
theorem Wp (h:lC n s l l')(d p:Int)(w:Bool):nK l' d p w=piN n s (nK l d p w)/\nK l d p w<(n:Int):=by have e:(l.map (xm (n:Int) (s:Int))).findIdx? (B8 d p w)=l.findIdx? (B8 d p w):=findIdx_map _ _ _ (λx=>rfl) l;unfold nK;rw[h.e,e];cases hf:l.findIdx? (B8 d p w)with|none=>exact⟨rfl,by have:=h.n0;show(-1:Int)<_;omega⟩|some i=>obtain⟨hi,_⟩:=List.findIdx?_eq_some_iff_getElem.1 hf;have hx:=h.ph _ (aZ hi);have hn:=h.n0;have hs:=h.s0;simp only;rw[ca hi,ca (by rw[cb];exact hi),List.getElem_map];refine⟨?_,hx.2⟩;unfold piN;rw[lv];show tmod (ar (l[i].2.2.1+(s:Int))) (n:Int)=_;rw[ak,show l[i].2.2.1+(s:Int)=((l[i].2.2.1.toNat+s:Nat):Int) by omega,G3]
theorem Om {j:Nat}(hi:i<n)(hj:j<n)(h:(i+s)%n=(j+s)%n):i=j:=by
 have a:=Nat.div_add_mod (i+s) n;have b:=Nat.div_add_mod (j+s) n;rw[h]at a;rcases Nat.lt_trichotomy ((i+s)/n) ((j+s)/n)with g|g|g;have:n*((i+s)/n)+n<=n*((j+s)/n):=by rw[<-Nat.mul_succ];exact Nat.mul_le_mul_left _ g
 omega;rw[g]at a;omega;have:n*((j+s)/n)+n<=n*((i+s)/n):=by rw[<-Nat.mul_succ];exact Nat.mul_le_mul_left _ g
 omega
theorem aav (hn:n<=64){f o c:Nat}(hf:f<n)(hc:0<c)(ho:o+c<=128)(h:ij n s m m'):ly m ((f:Int)*128+(o:Int),(c:Int))=ly m' ((((f+s)%n:Nat):Int)*128+(o:Int),(c:Int)):=by
 have hk:=h.mem hn;have h2:(f+s)%n<n:=gk _ (by omega);have p1:f<m.length:=by rw[h.ln];exact hf
 have p2:(f+s)%n<m'.length:=by rw[h.ln'];exact h2
 have e:=h.eq f hf;rw[ca p1,ca p2]at e;unfold ly;rw[yi hk.1 (by omega) hc ho,yi hk.2 (by omega) hc ho,ks,ks,ah,ah];show yS m ((f:Int)*128+(o:Int)).toNat (c:Int).toNat=yS m' ((((f+s)%n:Nat):Int)*128+(o:Int)).toNat (c:Int).toNat;rw[aA,<-E5 hk.1 p1 ho,<-E5 hk.2 p2 ho,e]
theorem OB (hm:cx m=true){f o:Nat}{t:Bytes}(hf:f<m.length)(hc:0<t.length)(ho:o+t.length<=128):(me m ((f:Int)*128+(o:Int)) t).1=m.set f (B0 m[f] o t):=by
 have hx:=(kF.1 hm).1 _ (aZ hf);unfold me;rw[yi hm (by omega) hc ho,ks,ah];have e1:((f:Int)*128+(o:Int)).toNat=f*128+o:=by omega
 show uX t.length m ((f:Int)*128+(o:Int)).toNat t=_;rw[e1];obtain⟨k,hk⟩:∃k,t.length=k+1:=⟨t.length-1,by omega⟩
 rw[hk,uX,lv];have e2:(f*128+o)/128=f:=by omega
 have e3:(f*128+o)%128=o:=by omega
 rw[e2,e3,ca hf,bI (by omega),cC (by omega)];cases k with|zero=>rfl|succ k=>rw[uX];rfl
theorem abm (hn:n<=64){f o:Nat}{t:Bytes}(hf:f<n)(hc:0<t.length)(ho:o+t.length<=128)(h:ij n s m m'):ij n s (me m ((f:Int)*128+(o:Int)) t).1 (me m' ((((f+s)%n:Nat):Int)*128+(o:Int)) t).1:=by
 have hk:=h.mem hn;have h2:(f+s)%n<n:=gk _ (by omega);have p1:f<m.length:=by rw[h.ln];exact hf
 have p2:(f+s)%n<m'.length:=by rw[h.ln'];exact h2
 have e:=h.eq f hf;rw[ca p1,ca p2]at e;rw[OB hk.1 p1 hc ho,OB hk.2 p2 hc ho];have l1:(B0 m[f] o t).length=128:=by rw[N8 (by have:=h.pg _ (aZ p1);omega)];exact h.pg _ (aZ p1)
 rw[e];refine⟨by rw[aC];exact h.ln,by rw[aC];exact h.ln',λx hx=>?_,λx hx=>?_,λi hi=>?_⟩;rcases dJ hx with g|g;exact h.pg x g;rw[g];exact l1;rcases dJ hx with g|g;exact h.pg' x g;rw[g];exact l1;rw[bA,bA];by_cases g:i=f;subst g;rw[List.getElem?_set_self p1,List.getElem?_set_self p2];have g2:(i+s)%n≠(f+s)%n:=λe=>g (Om hi hf e);rw[aN (cO g),aN (cO g2),<-bA,<-bA];exact h.eq i hi
structure Alike (n s:Nat) (q q':List (Int×Int)):Prop where
 rd:∀m m',ij n s m m'->q.flatMap (ly m)=q'.flatMap (ly m')
 wr:∀m m' t,ij n s m m'->(t.length:Int)=Da q->ij n s (E4 q m t) (E4 q' m' t)
theorem HW (h:lC n s l l'){M M':bR}(hM:M.length=n)(hM':M'.length=n)(d:Int)(w:Bool):∀(k a r:Nat),r<=k->(iP l M d w k a r=none/\iP l' M' d w k a r=none)\/∃q q',iP l M d w k a r=some q/\iP l' M' d w k a r=some q'/\Alike n s q q'
 |0,a,r,_=>Or.inr ⟨[],[],rfl,rfl,λ_ _ _=>rfl,λm m' t hs _=>hs⟩
 |k+1,a,r,hr=>by
  rw[iP,iP];by_cases h0:r=0;rw[aH h0,aH h0];exact Or.inr ⟨[],[],rfl,rfl,λ_ _ _=>rfl,λm m' t hs _=>hs⟩;rw[aI h0,aI h0];have hn:=h.n0;have ps:=Wp h d ((a/128:Nat):Int) w;rw[ps.1,hM,hM'];have gY:=ps.2;generalize nK l d ((a/128:Nat):Int) w=f at gY⊢;rcases Int.lt_or_le f 0 with g|g;have e:piN n s f= -1:=by unfold piN;rw[aH g]
  rw[e,lv,lv];exact Or.inl ⟨rfl,rfl⟩;obtain⟨f,rfl⟩:=aQ g;have e:piN n s (f:Int)=(((f+s)%n:Nat):Int):=by unfold piN;rw[lv,aA]
  have h2:(f+s)%n<n:=gk _ (by omega);rw[e,zip,zip];generalize hc:min (128-a%128) r=c;have T1:0<c:=by omega
  have hc1:a%128+c<=128:=by omega
  rcases HW h hM hM' d w k (a+c) (r-c) (by omega)with⟨e1,e2⟩|⟨q,q',e1,e2,al⟩;rw[e1,e2];exact Or.inl ⟨rfl,rfl⟩;rw[e1,e2];refine Or.inr ⟨_,_,rfl,rfl,λm m' hs=>?_,λm m' t hs ht=>?_⟩;rw[List.flatMap_cons,List.flatMap_cons,al.rd m m' hs,aav (by omega) (by omega) T1 hc1 hs];rw[E4,E4];simp only[aA];have aj3:Da (((f:Int)*128+((a%128:Nat):Int),(c:Int))::q)=(c:Int)+Da q:=by simp[Da]
  rw[aj3]at ht;have hq:0<=Da q:=QB q (E3 l M d w k (a+c) (r-c) q (by omega) e1).2.1;have tl:(t.take c).length=c:=by rw[aW];omega
  have w1:=abm (t:=t.take c) (by omega) (show f<n by omega) (by omega) (by rw[tl];exact hc1) hs;exact al.wr _ _ _ w1 (by rw[aM];omega)
theorem JI (h:lC n s l l')(hs:ij n s m m')(d a c:Int):qb l' m' d a c=qb l m d a c:=by have hk:=hs.mem h.n0.2;unfold qb jU;rw[h.ok,h.ok',hk.1,hk.2];cases di c 0 4096 with|false=>rfl|true=>simp only[dH,ah];cases c==0 with|true=>rfl|false=>simp only[af];cases decide (a<0)with|true=>rfl|false=>simp only[af];rcases HW h hs.ln hs.ln' d false c.toNat a.toNat c.toNat (aS _)with⟨e1,e2⟩|⟨q,q',e1,e2,al⟩;rw[e1,e2];rfl;rw[e1,e2];simp only[ah];rw[al.rd m m' hs]
theorem GC (h:lC n s l l')(hs:ij n s m m')(d a:Int)(t:Bytes)(w:Bool):(gy l' m' d a t w).2=(gy l m d a t w).2/\ij n s (gy l m d a t w).1 (gy l' m' d a t w).1:=by have hk:=hs.mem h.n0.2;have sm:=H7 l m d a (t.length:Int) w;unfold gy;unfold jU at sm⊢;rw[h.ok,h.ok',hk.1,hk.2];rw[h.ok,hk.1]at sm;cases hi:di (t.length:Int) 0 4096 with|false=>exact⟨rfl,hs⟩|true=>rw[hi]at sm;simp only[dH,ah]at sm⊢;cases h0:((t.length:Int))==0 with|true=>exact⟨rfl,hs⟩|false=>rw[h0]at sm;simp only[af]at sm⊢;cases ha:decide (a<0)with|true=>exact⟨rfl,hs⟩|false=>rw[ha]at sm;simp only[af]at sm⊢;rcases HW h hs.ln hs.ln' d w ((t.length:Int)).toNat a.toNat ((t.length:Int)).toNat (aS _)with⟨e1,e2⟩|⟨q,q',e1,e2,al⟩;rw[e1,e2];exact⟨rfl,hs⟩;rw[e1]at sm;rw[e1,e2];simp only[ah];exact⟨by trivial,al.wr m m' t hs (sm rfl).1.symm⟩
theorem GZ (h:lC n s l l')(hs:ij n s m m')(d:Int)(r:kx):bg l' m' d r=bg l m d r:=by unfold bg;rw[JI h hs]
abbrev Fu (n s:Nat)(x y:bR×α):Prop:=y.2=x.2/\ij n s x.1 y.1
theorem IX (h:lC n s l l')(hs:ij n s m m')(d:Int)(r:kx)(e:Bytes):Fu n s (cy l m d r e) (cy l' m' d r e):=by have p:=GC h hs d (nr r r.2.2.2) e true;unfold cy;cases (nI r==0)||((e.length:Int) !=16)with|true=>exact⟨rfl,hs⟩|false=>simp only[af];rw[p.1];cases (gy l m d (nr r r.2.2.2) e true).2 with|false=>exact⟨rfl,hs⟩|true=>exact⟨rfl,p.2⟩
theorem adN (h:lC n s l l')(hs:ij n s m m')(d:Int)(q:JD)(x:D4):Fu n s (wR l m d q x) (wR l' m' d q x):=by have p:=GC h hs d (pW q) (Kr x (vn q)) true;unfold wR;cases !fF q|| !xc x with|true=>exact⟨rfl,hs⟩|false=>simp only[af];rw[p.1];cases (gy l m d (pW q) (Kr x (vn q)) true).2 with|false=>exact⟨rfl,hs⟩|true=>exact⟨rfl,p.2⟩
theorem SU (h:lC n s l l')(hs:ij n s m m')(d:Int)(q:JD):oH l' m' d q=oH l m d q:=by unfold oH JR;rw[JI h hs]
theorem aa9 (h:lC n s l l')(hs:ij n s m m')(d:Int)(q:bJ)(k e:Bytes):Fu n s (gC l m d q k e) (gC l' m' d q k e):=by have p:=GC h hs d (cI e).1.2.2.2.1 (dp q.2.2.2.1.1).1 true;unfold gC;cases !(cI e).2||(((cI e).1.1 !=3)||decide ((cI e).1.2.2.1<((dp q.2.2.2.1.1).1.length:Int)))with|true=>exact⟨rfl,hs⟩|false=>simp only[af];rw[p.1];cases (gy l m d (cI e).1.2.2.2.1 (dp q.2.2.2.1.1).1 true).2 with|false=>exact⟨rfl,hs⟩|true=>exact adN h p.2 d _ _
theorem Hs (h:lC n s l l')(hs:ij n s m m')(d:Int)(q:bJ)(k:Bytes):Fu n s (gW l m d q k) (gW l' m' d q k):=by unfold gW;rw[GZ h hs];have p:=aa9 h hs d q k (bg l m d q.1).1;rw[p.1];cases !D2 q||(!q.2.2.2.2.1||((k.length:Int) !=16))with|true=>exact⟨rfl,hs⟩|false=>simp only[af];cases (bg l m d q.1).2.2&&(gC l m d q k (bg l m d q.1).1).2.2 with|true=>exact⟨rfl,p.2⟩|false=>exact⟨rfl,hs⟩
theorem Ui (h:lC n s l l')(hs:ij n s m m')(d:Int)(q:bJ)(k:Bytes)(p:aP)(c:Bool):Fu n s (jv l m d q k p c) (jv l' m' d q k p c):=by
 have f:=Hs h hs d q k;unfold jv;cases !D2 q||(!fZ p||((k.length:Int) !=16));case true=>exact⟨rfl,hs⟩
 cases c&&(q.2.2.2.2.1&&FB q.2.2.2.1 p);case true=>exact⟨rfl,hs⟩
 simp only[af];rw[f.1];cases c with|true=>exact⟨rfl,f.2⟩|false=>exact Hs h f.2 d _ k
theorem No (h:lC n s l l')(d:Int)(p:cK):∀(q:cZ)(m m':bR)(r:kx),ij n s m m'->(jw l' d p q m' r).1=(jw l d p q m r).1/\Fu n s (jw l d p q m r).2 (jw l' d p q m' r).2
 |[],m,m',r,hs=>⟨rfl,rfl,hs⟩
 |b::q,m,m',r,hs=>by have pr:=IX h hs d r (ee p b);rw[jw,jw,pr.1];cases (cy l m d r (ee p b)).2.2 with|false=>exact⟨rfl,rfl,hs⟩|true=>have i:=No h d p q _ _ (cy l m d r (ee p b)).2.1 pr.2;exact⟨by show _+1=_+1;rw[i.1],i.2⟩
theorem Rn (h:lC n s l l')(hs:ij n s m m')(d:Int)(r:kx)(p:cK):Fu n s (rr l m d r p) (rr l' m' d r p):=by have i:=No h d p p.2.2.2 m m' r hs;unfold rr;cases !cV r|| !dy p with|true=>exact⟨rfl,hs⟩|false=>simp only[af];rw[i.1,i.2.1];exact⟨rfl,i.2.2⟩
theorem aax (h:lC n s l l')(hs:ij n s m m')(d:Int)(x:ax Stream×bJ×cK):zI l' m' d x=zI l m d x:=by unfold zI afj;rw[SU h hs,JI h hs]
theorem Og (h:lC n s l l')(hs:ij n s m m')(d:Int):∀(k:Nat)(x:ax Stream×bJ×cK),iA l' m' d k x=iA l m d k x
 |0,_=>rfl
 |k+1,x=>by rw[iA,iA,SU h hs,aax h hs,Og h hs d k]
theorem S3 (h:lC n s l l')(hs:ij n s m m')(d:Int)(rx:bJ)(pl:cK)(st:ax Stream)(c:Int):Fu n s (iT l m d rx pl st c) (iT l' m' d rx pl st c):=by unfold iT;rw[Og h hs];have f:=Rn h hs d (iA l m d c.toNat (st,rx,pl)).2.2.1.1 (iA l m d c.toNat (st,rx,pl)).2.2.2;cases !D2 rx||(!dy pl|| !di c 0 1000)with|true=>exact⟨rfl,hs⟩|false=>simp only[af];rw[f.1];exact⟨rfl,f.2⟩
theorem adE (h:lC n s l l')(hs:ij n s m m')(i:Nat):Fu n s (pS l m i) (pS l' m' i):=by unfold pS;exact Rn h (GC h hs 0 _ _ _).2 0 _ _
theorem Nr (h:lC n s l l')(d:Int)(p:cK)(z:Nat):∀(q:cZ)(t:Bytes)(m m':bR)(a:ax gh),ij n s m m'->(qi l d p z q t m a=none/\qi l' d p z q t m' a=none)\/∃x y,qi l d p z q t m a=some x/\qi l' d p z q t m' a=some y/\y.1=x.1/\ij n s x.2 y.2
 |[],t,m,m',a,hs=>Or.inr ⟨_,_,rfl,rfl,rfl,hs⟩
 |b::q,t,m,m',a,hs=>by have p1:=GC h hs d (nG p b) (t.take z) false;rw[qi,qi,p1.1];cases (gy l m d (nG p b) (t.take z) false).2 with|false=>exact Or.inl ⟨rfl,rfl⟩|true=>exact Nr h d p z q _ _ _ _ p1.2
theorem IW (h:lC n s l l')(d:Int):∀(q:bR)(m m':bR)(r:kx),ij n s m m'->(kh l d q m r=none/\kh l' d q m' r=none)\/∃x y,kh l d q m r=some x/\kh l' d q m' r=some y/\Fu n s x y
 |[],m,m',r,hs=>Or.inr ⟨_,_,rfl,rfl,rfl,hs⟩
 |e::q,m,m',r,hs=>by have p1:=IX h hs d r e;rw[kh,kh,p1.1];cases (cy l m d r e).2.2 with|false=>exact Or.inl ⟨rfl,rfl⟩|true=>exact IW h d q _ _ _ p1.2
theorem WA (h:lC n s l l')(hs:ij n s m m')(d:Int)(r:kx)(q:bR):Fu n s (oe l m d r q) (oe l' m' d r q):=by unfold oe;rcases IW h d q m m' r hs with⟨e1,e2⟩|⟨x,y,e1,e2,e3⟩;rw[e1,e2];exact⟨rfl,hs⟩;rw[e1,e2];exact⟨by show(y.2,true)=(x.2,true);rw[e3.1],e3.2⟩
theorem ad6 (h:lC n s l l')(hs:ij n s m m')(d:Int)(t:dx)(c:Int)(k:Nat)(x y:ax gh×bR)(e:y.1=x.1)(hx:ij n s x.2 y.2):Fu n s (Er l m d t c k x) (Er l' m' d t c k y):=by have p:=WA h hx d t.1 ((oy x.1 c t.2.2.2).map wD);unfold Er;rw[e,p.1];cases (oe l x.2 d t.1 ((oy x.1 c t.2.2.2).map wD)).2.2 with|false=>exact⟨rfl,hs⟩|true=>exact⟨rfl,p.2⟩
theorem ad5 (h:lC n s l l')(hs:ij n s m m')(d:Int)(t:dx)(p:aP)(c z:Int):Fu n s (og l m d t p c z) (og l' m' d t p c z):=by unfold og;cases Mb t&&(dw p&&(di z 1 t.2.1.2.1&&di c 1 128));exact⟨rfl,hs⟩;cases FL t (xb p z.toNat);exact⟨rfl,hs⟩;simp only[ah];rcases Nr h d t.2.1 z.toNat (jW t.2.1 (xb p z.toNat:Int)).2.1 (jL p).1 m m' [] hs with⟨e1,e2⟩|⟨x,y,e1,e2,e3,e4⟩;rw[e1,e2];exact⟨rfl,hs⟩;rw[e1,e2];exact ad6 h hs d t c _ x y e3 e4
theorem Na (h:lC n s l l')(hs:ij n s m m')(d:Int):∀(k:Nat)(acc:ax Cd)(r:kx),pq l' m' d k acc r=pq l m d k acc r
 |0,_,_=>rfl
 |k+1,acc,r=>by rw[pq,pq,GZ h hs,Na h hs d k]
theorem Iz (h:lC n s l l')(hs:ij n s m m')(d:Int):∀(q:ax (Int×Int))(acc:Bytes),tN l' m' d q acc=tN l m d q acc
 |[],_=>rfl
 |p::q,acc=>by rw[tN,tN,JI h hs,Iz h hs d q]
theorem Wl (h:lC n s l l')(hs:ij n s m m')(d:Int)(r:kx):gZ l' m' d r=gZ l m d r:=by
 have e:cR l' m' d r=cR l m d r:=by unfold cR;rw[Na h hs]
 have g:∀q,ka l' m' d q=ka l m d q:=by intro q;unfold ka;rw[Iz h hs]
 unfold gZ;rw[e,g]
theorem abh (h:lC n s l l')(hs:ij n s m m')(d:Int)(r:kx):py l' m' d r=py l m d r:=by
 have key:∀(k:Nat)(fr:bR)(a b:Nat)(r:kx),mw l' m' d k fr a b r=mw l m d k fr a b r:=by intro k;induction k with|zero=>intro fr a b r;rfl|succ k ih=>intro fr a b r;rw[mw,mw,Wl h hs,ih,ih]
 exact key ..
def Ends (o:ay α)(P:α->Prop):Prop:=∃x,o=some x/\P x
theorem Ends.pure {x:α}{P:α->Prop}(h:P x):Ends (some x) P:=⟨x,rfl,h⟩
theorem Ends.bind {o:ay α}{P:α->Prop}{k:α->ay R}{Q:R->Prop}(h:Ends o P)(hk:∀x,P x->Ends (k x) Q):Ends (aa o k) Q:=by obtain⟨x,rfl,hx⟩:=h;exact hk x hx
theorem Ends.mono {o:ay α}{P Q:α->Prop}(h:Ends o P)(hq:∀x,P x->Q x):Ends o Q:=by obtain⟨x,hx,hp⟩:=h;exact⟨x,hx,hq x hp⟩
theorem Ends.cond {c:Bool}{a b:ay α}{P:α->Prop}(h1:c=true->Ends a P)(h2:c=false->Ends b P):Ends (cond c a b) P:=by cases c with|true=>exact h1 rfl|false=>exact h2 rfl
theorem Ends.ifn {p:Prop}[Decidable p]{a:ay α}{P:α->Prop}(h:¬p)(ha:Ends a P):Ends (if p then none else a) P:=by rw[aI h];exact ha
theorem Ends.room {k:ay α}{P:α->Prop}(h:n<=1073741824)(hk:Ends k P):Ends (room n k) P:=by rw[aX h];exact hk
theorem Ends.of {o:ay α}{x:α}{P:α->Prop}(h:o=some x)(hp:P x):Ends o P:=⟨x,h,hp⟩
theorem Ends.iter {σ:Type}{T:(σ->ay R)->σ->ay R}{Q:R->Prop}(I:σ->Prop)(m:σ->Nat)(hs:∀x nx,I x->(∀y,I y->m y<m x->Ends (nx y) Q)->Ends (T nx x) Q): ∀n x,I x->m x<n->Ends (ba T n x) Q:=by intro n;induction n with|zero=>intro x _ h;omega|succ n ih=>intro x hx hm;rw[ba];exact hs x _ hx λy hy gY=>ih y hy (by omega)
theorem Ends.wL {σ:Type}{T:(σ->ay R)->σ->ay R}{Q:R->Prop}(I:σ->Prop)(m:σ->Nat){x:σ}(hx:I x)(hm:m x<=1000000000000)(hs:∀x nx,I x->(∀y,I y->m y<m x->Ends (nx y) Q)->Ends (T nx x) Q):Ends (ba T fuel x) Q:=Ends.iter I m hs fuel x hx (by have:=eh;omega)
theorem Ends.idx {xs:ax α}{i:Int}{k:α->ay R}{Q:R->Prop}(h0:0<=i)(h1:i<(xs.length:Int))(hk:∀(h:i.toNat<xs.length),Ends (k xs[i.toNat]) Q):Ends (aa (idx xs i) k) Q:=by
 obtain⟨n,rfl⟩:=aQ h0;have hn:n<xs.length:=by omega
 rw[bl hn,ab];exact hk (by simpa using hn)
abbrev OF:=cZ×Int×Int
variable {c:OF}
def Cu (c:OF):Prop:=0<=c.2.1/\c.2.1<=(c.1.length:Int)/\c.1.length<=1048576
theorem abA (x y:Int)(n:Nat)(hy:(gr y).toNat=n)(hn:n<9223372036854775808):0<=ar (BitVec.toNat (gr x&&&gr y))/\ar (BitVec.toNat (gr x&&&gr y))<=n:=by
 have h:(gr x&&&gr y).toNat<=n:=by rw[BitVec.toNat_and,hy];exact Nat.and_le_right
 generalize (gr x&&&gr y).toNat=k at h;rw[ak];omega
theorem aiy {a:cZ}(ha:a.length<=1048576):Ends (zP a) Cu:=by
 unfold zP;refine Ends.wL (λx=>0<=x.2/\x.2<=4000) (λx=>(4000-x.2).toNat) ⟨by omega,by omega⟩ (by simp) λx nx hx hn=>?_;unfold yW;refine Ends.bind (P:=λb=>b=true->x.2<(a.length:Int)/\x.2<4000) (Ends.cond (λh=>Ends.pure λh2=>⟨bk h,bk h2⟩) λh=>Ends.pure λh2=>by cases h2) λq hq=>?_;refine Ends.cond (λh=>?_) (λh=>Ends.pure ⟨dW _,by simp,ha⟩);have hq:=hq h;refine Ends.idx hx.1 hq.1 λ_=>hn _ ⟨?_,?_⟩ ?_;all_goals simp only[ak (n:=x.2+1) (by omega) (by omega)]
 all_goals omega
theorem Dq (h:Cu c):Ends (ko c) λr=>(0<=r.1/\r.1<=255)/\Cu r.2:=by
 unfold ko;refine Ends.ifn (by decide) (Ends.ifn (by decide) (Ends.cond (λh1=>?_) λh1=>?_))
 ·have h1:=bk h1;refine Ends.idx h.1 h1 λ_=>Ends.pure ⟨abA _ 255 255 rfl (by decide),?_⟩;refine⟨?_,?_,h.2.2⟩;all_goals simp only[ak (n:=c.2.1+1) (by have:=h.1;omega) (by have:=h.2.2;omega)]
  have:=h.1;omega;omega
 exact Ends.pure ⟨abA _ 255 255 rfl (by decide),h.1,h.2.1,h.2.2⟩
theorem gE (h:Cu c){n:Int}(hn:0<n:=by omega):Ends (cf c n) λr=>(0<=r.1/\r.1<n)/\Cu r.2:=by unfold cf;rw[cP];simp only[af];refine Ends.cond (λh1=>?_) λh1=>?_;refine(Dq h).bind λr hr=>Ends.ifn (by omega) (Ends.pure ⟨⟨Int.tmod_nonneg _ hr.1.1,Int.tmod_lt_of_pos _ hn⟩,hr.2⟩);refine(Dq h).bind λr2 h2=>(Dq h2.2).bind λr3 h3=>(Dq h3.2).bind λr4 h4=>(Dq h4.2).bind λr5 h5=>Ends.ifn (by omega) (Ends.pure ⟨⟨Int.tmod_nonneg _ ?_,Int.tmod_lt_of_pos _ hn⟩,h5.2⟩);have a2:=h2.1;have a3:=h3.1;have a4:=h4.1;have a5:=h5.1;rw[ak (n:=r2.1*16777216),ak (n:=r3.1*65536),ak (n:=r4.1*256)];rw[ak (n:=r2.1*16777216+r3.1*65536)];rw[ak (n:=r2.1*16777216+r3.1*65536+r4.1*256)];rw[ak];omega
theorem Fy (h:Cu c)(n:Int):Ends (cf c n) λr=>(0<=r.1/\(r.1<n\/r.1=0))/\Cu r.2:=by
 rcases Int.lt_or_le 0 n with hn|hn;exact(gE h hn).mono λr hr=>⟨⟨hr.1.1,Or.inl hr.1.2⟩,hr.2⟩
 unfold cf;rw[aw hn];exact Ends.pure ⟨⟨dW _,Or.inr rfl⟩,h⟩
theorem vZ (h:Cu c)(n:Int):Ends (gB c n) λr=>Cu r.2:=by unfold gB;exact(Fy h n).bind λr hr=>Ends.pure hr.2
theorem iR (h:Cu c){l:cZ}{P:Int->Prop}(hl:0<l.length)(hp:∀x∈l,P x):Ends (cu c l) λr=>P r.1/\Cu r.2:=by unfold cu;exact(gE h).bind λr hr=>Ends.idx hr.1.1 hr.1.2 λhi=>Ends.pure ⟨hp _ (aZ hi),hr.2⟩
theorem G2 (h:Cu c)(n:Int):Ends (mc c n) λr=>(r.1.length<=5000/\(0<=n->n<=5000->(r.1.length:Int)=n)/\(n<=0->r.1=[]))/\Cu r.2:=by
 have key:∀v:Int,v<=5000->∀Q:(Bytes×OF)->Prop,(∀x c,((x.length:Int)=v\/(v<=0/\x=[]))->Cu c->Q (aL x,c))->Ends (ba (oL (λy _ z=>some (aL y,z)) v) fuel (([]:cZ),0,c)) Q:=by
  intro v hv Q hQ;refine Ends.wL (λx=>(x.1.length:Int)=x.2.1/\(x.2.1<=v\/x.2.1=0)/\Cu x.2.2) (λx=>(v-x.2.1).toNat) ⟨rfl,Or.inr rfl,h⟩ (by simp;omega) λx nx hx hn=>?_;unfold oL;refine Ends.cond (λh1=>?_) λh1=>Ends.pure (hQ _ _ ?_ hx.2.2)
  ·have h1:=bk h1;refine(Dq hx.2.2).bind λr hr=>Ends.room (by simp;omega) (hn _ ⟨?_,?_,hr.2⟩ ?_);all_goals simp only[ak (n:=x.2.1+1) (by omega) (by omega)]
   simp;omega;omega;omega
  have h1:=fA h1;rcases hx.2.1 with h2|h2;exact Or.inl (by omega);rcases Int.lt_or_le 0 v with h3|h3;omega;exact Or.inr ⟨h3,bV (by omega)⟩
 have hb:∀x:cZ,(aL x).length=x.length:=λx=>by simp[aL]
 unfold mc;refine Ends.cond (λh1=>?_) λh1=>?_;have h1:=bk h1;refine key 5000 (by omega) _ λx c hx hc=>⟨⟨by rw[hb];rcases hx with hx|hx<;>omega,λ_ _=>by omega,λ_=>by omega⟩,hc⟩
 have h1:=fA h1;refine key n (by omega) _ λx c hx hc=>⟨⟨?_,λh0 _=>?_,λh0=>?_⟩,hc⟩
 rw[hb];rcases hx with hx|hx;omega;rw[hx.2];simp;rw[hb];rcases hx with hx|hx;omega;rw[hx.2];simp;omega;rcases hx with hx|hx;have:x=[]:=bV (by omega);rw[this];rfl;rw[hx.2];rfl
theorem Tn {s k f w:Int}(h1:0<=a/\a<=65535)(h2:0<=b/\b<=65535)(h3:0<=s/\s<=4294967295)(h4:0<=k/\k<=4294967295)(h5:0<=f/\f<=31)(h6:0<=w/\w<=65535)(hx:x.length<=320):sc (6,a,b,s,k,f,w,x)=true:=by have Ab:decide ((x.length:Int)>320)=false:=cP;simp only[sc,bh.2 h1,bh.2 h2,bh.2 h3,bh.2 h4,bh.2 h5,bh.2 h6,Ab];rfl
theorem ad1 (h1:0<=a/\a<=65535)(h2:0<=b/\b<=65535)(hx:x.length<=320):sc (17,a,b,0,0,0,0,x)=true:=by have Ab:decide ((x.length:Int)>320)=false:=cP;simp only[sc,bh.2 h1,bh.2 h2,Ab];rfl
theorem aaN (h:sc g=true)(hx:x.length<=320):sc (g.1,g.2.1,g.2.2.1,g.2.2.2.1,g.2.2.2.2.1,g.2.2.2.2.2.1,g.2.2.2.2.2.2.1,x)=true:=by have e:decide ((x.length:Int)>320)=false:=cP;unfold sc at h⊢;simp only[ae]at h⊢;exact⟨h.1,h.2.1,by rw[e];rfl,h.2.2.2⟩
theorem acJ {v t i l s:Int}(h1:0<=a/\a<=281474976710655)(h2:0<=b/\b<=281474976710655)(h3: -1<=v/\v<=4095)(h4:0<=t/\t<=255)(h5:0<=i/\i<=65535)(h6:0<=l/\l<=255)(h7:0<=s/\s<=4294967295)(h8:0<=d/\d<=4294967295)(hg:sc g=true):pC (a,b,v,t,i,l,s,d,g)=true:=by simp only[pC,bh.2 h1,bh.2 h2,bh.2 h3,bh.2 h4,bh.2 h5,bh.2 h6,bh.2 h7,bh.2 h8,hg];rfl
theorem SV (p:aP):fZ p=true↔pC p=true/\p.2.2.2.2.2.2.2.2.2.2.2.2.2.2.2.length<=128:=by unfold fZ dw;rw[ae,ae,cE,aD];constructor;rintro⟨⟨h1,_⟩,h2⟩;exact⟨h1,by omega⟩;rintro⟨h1,h2⟩;exact⟨⟨h1,Or.inl (by omega)⟩,by omega⟩
theorem Yb (h:sc g=true)(h6:g.1=6):(0<=g.2.1/\g.2.1<=65535)/\(0<=g.2.2.1/\g.2.2.1<=65535)/\(0<=g.2.2.2.1/\g.2.2.2.1<=4294967295)/\(0<=g.2.2.2.2.1/\g.2.2.2.2.1<=4294967295)/\(0<=g.2.2.2.2.2.1/\g.2.2.2.2.2.1<=31)/\(0<=g.2.2.2.2.2.2.1/\g.2.2.2.2.2.2.1<=65535)/\g.2.2.2.2.2.2.2.length<=320:=by have hl:=C2 h;unfold sc at h;rw[h6]at h;simp only[ae,bh,show((6:Int)==17)=false from rfl,af]at h;exact⟨h.1,h.2.1,h.2.2.2.2.1,h.2.2.2.2.2.1,h.2.2.2.2.2.2.1,h.2.2.2.2.2.2.2,hl⟩
theorem LL (h:sc g=true)(h6:g.1=6){s f:Int}(hs:0<=s/\s<=4294967295)(hf:0<=f/\f<=31)(hx:x.length<=320):sc (g.1,g.2.1,g.2.2.1,s,g.2.2.2.2.1,f,g.2.2.2.2.2.2.1,x)=true:=by have k:=Yb h h6;rw[h6];exact Tn k.1 k.2.1 hs k.2.2.2.1 hf k.2.2.2.2.2.1 hx
theorem Av (h:pC p=true){i:Int}(hi:0<=i/\i<=65535)(hg:sc g=true):pC (p.1,p.2.1,p.2.2.1,p.2.2.2.1,i,p.2.2.2.2.2.1,p.2.2.2.2.2.2.1,p.2.2.2.2.2.2.2.1,g)=true:=by unfold pC at h⊢;simp only[ae]at h⊢;exact⟨h.1,h.2.1,h.2.2.1,h.2.2.2.1,h.2.2.2.2.1,bh.2 hi,h.2.2.2.2.2.2.1,h.2.2.2.2.2.2.2.1,hg⟩
theorem KL (h:pC p=true):0<=p.2.2.2.2.1/\p.2.2.2.2.1<=65535:=by unfold pC at h;simp only[ae]at h;exact bh.1 h.2.2.2.2.2.1
theorem afT {i:Int}(h:0<=i/\i<=65535):0<=tmod (ar (i+1)) 65536/\tmod (ar (i+1)) 65536<=65535:=by rw[ak];have h1:=Int.tmod_nonneg 65536 (a:=i+1) (by omega);have h2:=Int.tmod_lt_of_pos (i+1) (b:=65536) (by omega);omega
theorem adB {s:Int}(h:0<=s/\s<=4294967295)(hn:n<=320):0<=tmod (ar (s+(n:Int))) 4294967296/\tmod (ar (s+(n:Int))) 4294967296<=4294967295:=by rw[ak];have h1:=Int.tmod_nonneg 4294967296 (a:=s+(n:Int)) (by omega);have h2:=Int.tmod_lt_of_pos (s+(n:Int)) (b:=4294967296) (by omega);omega
end
end Go.Pu
