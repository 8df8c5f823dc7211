import Derived.KernelRfl
import Derived.Test.YtainmjjkipbciaaGreatPuX1
namespace Go.Pu
open Go.Dn
set_option linter.unusedSimpArgs false
set_option linter.unusedVariables false
noncomputable section
variable {s x:Bytes} {h:Host} {a b c d:Int} {i k n:Nat} {p:aQ} {q:bF} {g:eR} {t:dZ} {R:Type} {l:ax aC} {m:bW} {f:bW×bF} {r:lb}
/- Writes by mappings, and the descriptors of rings. -/
theorem Ci (m:bW)(a:Int)(s:Bytes):(lS m a s).1.length=m.length:=by
 unfold lS;cases hw:gV m a (s.length:Int)with|false=>rfl|true=>?_
 simp only[gV,ae,aD]at hw;exact(xC s.length (nf.1 hw.1) (by omega)).2
def CQ:ax (Int×Int)->bW->Bytes->bW
 |[],m,_=>m
 |p::q,m,s=>CQ q (lS m p.1 (s.take p.2.toNat)).1 (s.drop p.2.toNat)
theorem Rn:∀(q:ax (Int×Int))(m:bW)(s:Bytes),(CQ q m s).length=m.length
 |[],m,s=>rfl
 |p::q,m,s=>by rw[CQ,Rn q,Ci]
def HH (q:ax (Int×Int)):Int:=(q.map (·.2)).sum
theorem VG:∀(q:ax (Int×Int)),(∀p∈q,0<=p.2)->0<=HH q
 |[],_=>eo _
 |p::q,h=>by have:=VG q (λx hx=>h x (by simp[hx]));have:=h p (by simp);simp only[HH,cU,List.sum_cons]at*;omega
theorem Rs {p:Int×Int}{q:ax (Int×Int)}(hc:∀x∈p::q,0<=x.2)(hs:(s.length:Int)=HH (p::q)):0<=p.2/\p.2<=(s.length:Int)/\((s.drop p.2.toNat).length:Int)=HH q:=by
 have h1:=hc p (by simp);have h2:=VG q (λx hx=>hc x (by simp[hx]));have h3:HH (p::q)=p.2+HH q:=by simp[HH]
 rw[h3]at hs;refine⟨h1,by omega,?_⟩;rw[aO];omega
theorem MG (h0:0<=c)(h1:c<=(s.length:Int)):sub s 0 c=some (s.take c.toNat):=by unfold sub;rw[zip];simp
theorem RX (h0:0<=c)(h1:c<=(s.length:Int)):sub s c (s.length:Int)=some (s.drop c.toNat):=by unfold sub;rw[zip];simp
theorem GL (K:Bytes->Int->bW->aB (bW×Bool))(hK:∀s i m,K s i m=some (m,true)):∀(rest pre:ax (Int×Int))(m:bW)(s:Bytes)(f:Nat),rest.length<f->pre.length+rest.length<=1000000->(∀x∈rest,0<=x.2)->(s.length:Int)=HH rest->m.length<=1000000000->s.length<=1000000->
 bm (vX K (pre++rest) ((pre++rest).length:Int) ([]:bW)) f (s,(pre.length:Int),m)=some (CQ rest m s,true)
 |rest,pre,m,s,0,hf,_,_,_,_,_=>by omega
 |[],pre,m,s,f+1,_,_,_,_,_,_=>by rw[bm];simp only[vX];rw[ar (by simp),af,hK];rfl
 |p::q,pre,m,s,f+1,hf,hn,hc,hs,hm,hl=>by
  obtain⟨h1,h2,h3⟩:=Rs hc hs;simp only[bc]at hf hn;have hi:pre.length<(pre++p::q).length:=by simp
  have hp:(pre++p::q)[pre.length]=p:=by simp
  rw[bm];simp only[vX];rw[au (by simp;omega),bK hi,hp,ak];simp only[ah,ab,MG h1 h2,RX h1 h2,Tc m _ _ hm (show(s.take p.2.toNat).length<=1000000000 by rw[aS];omega)];have key:=GL K hK q (pre++[p]) (lS m p.1 (s.take p.2.toNat)).1 (s.drop p.2.toNat) f (by omega) (by simp;omega) (λx hx=>hc x (by simp[hx])) h3 (by rw[Ci];exact hm) (by rw[aO];omega);have el:((pre++[p]).length:Int)=(pre.length:Int)+1:=by simp
  rw[aN,fQ,el]at key;rw[CQ];exact key
theorem G9 (K:Bytes->Int->bW->aB (bW×Bool))(hK:∀s i m,K s i m=some (m,true)):∀(rest pre:ax (Int×Int))(m:bW)(s:Bytes)(f:Nat),rest.length<f->pre.length+rest.length<=1000000->(∀x∈rest,0<=x.2)->(s.length:Int)=HH rest->m.length<=1000000000->s.length<=1000000->
 bm (nm K ((pre++rest).map (·.1)) ((pre++rest).map (·.2)) ([]:bW)) f (s,(pre.length:Int),m)=some (CQ rest m s,true)
 |rest,pre,m,s,0,hf,_,_,_,_,_=>by omega
 |[],pre,m,s,f+1,_,_,_,_,_,_=>by rw[bm];simp only[nm];rw[ar (by simp),af,hK];rfl
 |p::q,pre,m,s,f+1,hf,hn,hc,hs,hm,hl=>by
  obtain⟨h1,h2,h3⟩:=Rs hc hs;simp only[bc]at hf hn;have hi:pre.length<(pre++p::q).length:=by simp
  have hp:(pre++p::q)[pre.length]=p:=by simp
  have i1:idx ((pre++p::q).map (·.1)) (pre.length:Int)=some p.1:=by rw[bK (by simp),List.getElem_map,hp]
  have i2:idx ((pre++p::q).map (·.2)) (pre.length:Int)=some p.2:=by rw[bK (by simp),List.getElem_map,hp]
  rw[bm];simp only[nm];rw[au (by simp;omega),i1,i2,ak];simp only[ah,ab,MG h1 h2,RX h1 h2,Ua m _ _ hm (show(s.take p.2.toNat).length<=1000000000 by rw[aS];omega)];have key:=G9 K hK q (pre++[p]) (lS m p.1 (s.take p.2.toNat)).1 (s.drop p.2.toNat) f (by omega) (by simp;omega) (λx hx=>hc x (by simp[hx])) h3 (by rw[Ci];exact hm) (by rw[aO];omega);have el:((pre++[p]).length:Int)=(pre.length:Int)+1:=by simp
  rw[aN,fQ,el]at key;rw[CQ];exact key
theorem JZ (l:ax aC)(m:bW)(d:Int)(w:Bool):∀(n a r:Nat)(q:ax (Int×Int)),r<=n->kj l m d w n a r=some q->HH q=(r:Int)/\(∀p∈q,0<=p.2)/\q.length<=n
 |0,a,r,q,hr,h=>by simp only[kj,bj]at h;subst h;exact⟨by show(0:Int)=_;omega,by simp,by simp⟩
 |n+1,a,r,q,hr,h=>by simp only[kj]at h;split at h;simp only[bj]at h;subst h;exact⟨by show(0:Int)=_;omega,by simp,by simp⟩;split at h;simp only[Option.map_eq_some_iff]at h;obtain⟨q',h1,rfl⟩:=h;obtain⟨i1,i2,i3⟩:=JZ l m d w n _ _ q' (by omega) h1;refine⟨?_,?_,by simp only[bc];omega⟩;simp only[HH,cU,List.sum_cons]at i1⊢;rw[i1];omega;intro p hp;rcases cA.1 hp with rfl|hp;show(0:Int)<=((min (128-a%128) r:Nat):Int);omega;exact i2 p hp;cases h
theorem My (l:ax aC)(m:bW)(d a n:Int)(w:Bool)(h:(jZ l m d a n w).2=true):HH (jZ l m d a n w).1=n/\(∀p∈(jZ l m d a n w).1,0<=p.2)/\(jZ l m d a n w).1.length<=4096/\n<=4096:=by
 unfold jZ at h⊢;cases hB:fS l&&(cP m&&dp n 0 4096)with|false=>rw[hB]at h;simp at h|true=>?_
 rw[hB]at h;simp only[ae,aX]at hB;simp only[ah]at h⊢;cases h0:n==0 with
 |true=>
  have:n=0:=by simpa using h0
  subst this;exact⟨rfl,by simp,by simp,by omega⟩
 |false=>rw[h0]at h;simp only[af]at h⊢;cases ha:decide (a<0)with|true=>rw[ha]at h;simp at h|false=>rw[ha]at h;simp only[af]at h⊢;cases hq:kj l m d w n.toNat a.toNat n.toNat with|none=>rw[hq]at h;cases h|some q=>obtain⟨i1,i2,i3⟩:=JZ l m d w _ _ _ q (aR _) hq;exact⟨by simp only;rw[i1];omega,i2,by simp only;omega,by omega⟩
def gA (l:ax aC)(m:bW)(d a:Int)(s:Bytes)(w:Bool):bW×Bool:=
 bif (jZ l m d a (s.length:Int) w).2 then(CQ (jZ l m d a (s.length:Int) w).1 m s,true) else(m,false)
theorem jX (l:ax aC)(m:bW)(d a:Int)(s:Bytes)(w:Bool):(gA l m d a s w).1.length=m.length:=by unfold gA;cases (jZ l m d a (s.length:Int) w).2 with|false=>rfl|true=>exact Rn _ _ _
theorem Qm (l:ax aC)(m:bW)(d a:Int)(s:Bytes)(w:Bool)(hl:l.length<=1000000000)(hm:m.length<=1000000000)(ha:a<=9223372036854775807):BK l m d a s w=some (gA l m d a s w):=by
 have hfu:=eO;unfold BK gA;rw[gu m,ab,Qn l m d a _ w hl hm ha,ab];have hS:=My l m d a (s.length:Int) w;generalize jZ l m d a (s.length:Int) w=r at hS⊢;cases hr:r.2 with|false=>rfl|true=>?_
 obtain⟨h1,h2,h3,h4⟩:=hS hr;simp only[aj,af,ah];exact GL _ (λ_ _ _=>rfl) r.1 [] m s fuel (by omega) (by simp;omega) h2 h1.symm hm (by omega)
theorem E3 (l:ax aC)(m:bW)(d a:Int)(s:Bytes)(hl:l.length<=1000000000)(hm:m.length<=1000000000)(ha:a<=9223372036854775807):rO l m d a s=some (gA l m d a s true):=by
 have hfu:=eO;unfold rO gA;rw[X3 l m d a _ true hl hm ha,ab,Au m,ab];have hS:=My l m d a (s.length:Int) true;generalize jZ l m d a (s.length:Int) true=r at hS⊢;cases hr:r.2 with|false=>rfl|true=>?_
 obtain⟨h1,h2,h3,h4⟩:=hS hr;simp only[aj,af,ah];exact G9 _ (λ_ _ _=>rfl) r.1 [] m s fuel (by omega) (by simp;omega) h2 h1.symm hm (by omega)
theorem Ai (l:ax aC)(m:bW)(d a:Int)(s:Bytes)(hl:l.length<=1000000000)(hm:m.length<=1000000000)(ha:a<=9223372036854775807):oO l m d a s=some (gA l m d a s true):=by rw[oO,Qm l m d a s true hl hm ha];rfl
def wrM (x:aC):aC:=(x.1,x.2.1,x.2.2.1,true)
theorem getD_map (hi:i<l.length):(l.map wrM).getD i Hz=wrM (l.getD i Hz):=by rw[cS (by simpa using hi),cS hi,List.getElem_map]
theorem Oe (l:ax aC):fS (l.map wrM)=fS l:=by
 unfold fS;rw[cI];congr 1;rw[dS,aJ,aJ];have key:∀i,i<l.length->JK (l.map wrM) i=JK l i:=by
  intro i hi;unfold JK;rw[getD_map hi];congr 1;rw[dS,aJ,aJ];constructor;intro h j hj;have hjl:j<l.length:=by have:=cp.1 hj;omega
  have:=h j hj;rw[getD_map hjl]at this;exact this;intro h j hj;have hjl:j<l.length:=by have:=cp.1 hj;omega
  rw[getD_map hjl];exact h j hj
 constructor;intro h i hi;rw[<-key i (cp.1 hi)];exact h i hi;intro h i hi;rw[key i (cp.1 hi)];exact h i hi
theorem Z2 (l:ax aC)(d p:Int):pZ (l.map wrM) d p true=pZ l d p false:=by
 unfold pZ;rw[List.findIdx?_map];have e:(DK d p true∘wrM)=DK d p false:=by funext x;simp only[Function.comp,DK,pY,wrM,cd,jL,iT]
 rw[e];cases hf:l.findIdx? (DK d p false)with|none=>rfl|some i=>obtain⟨hi,_⟩:=List.findIdx?_eq_some_iff_getElem.1 hf;simp only[getD_map hi];rfl
theorem Mp (l:ax aC)(m:bW)(d:Int):∀n a r,kj (l.map wrM) m d true n a r=kj l m d false n a r
 |0,a,r=>rfl
 |n+1,a,r=>by simp only[kj,Z2,Mp l m d n]
theorem acX (l:ax aC)(m:bW)(d a:Int)(s:Bytes):gA (l.map wrM) m d a s true=gA l m d a s false:=by
 have e:jZ (l.map wrM) m d a (s.length:Int) true=jZ l m d a (s.length:Int) false:=by simp only[jZ,Oe,Mp]
 simp only[gA,e]
theorem Ld (l:ax aC)(m:bW)(d a:Int)(s:Bytes)(hl:l.length<=1000000000)(hm:m.length<=1000000000)(ha:a<=9223372036854775807):tZ l m d a s=some (gA l m d a s false):=by unfold tZ;refine eV (λi=>((l.take i).map wrM,(i:Int))) l.length (by omega) (λi nx hi=>?_) (λnx=>?_);simp only[pB];rw[lT,bK hi,ak];simp only[ah,ab];rw[aZ (by simp;omega),cb hi,cY];rfl;simp only[pB];rw[jJ,af,eS,E3 _ m d a s (by rw[cI];exact hl) hm ha,acX];rfl
theorem yU (l:ax aC)(m:bW)(d a:Int)(s:Bytes)(hl:l.length<=1000000000)(hm:m.length<=1000000000)(ha:a<=9223372036854775807:=by omega):jy l m d a s=some (gA l m d a s false):=by rw[jy,Qm l m d a s false hl hm ha];rfl
def nA (d:AQ):Bool:=dp d.1 0 3&&(dp d.2.1 0 3&&(dp d.2.2.1 0 65535&&(dp d.2.2.2.2.1 0 65535&&(dp d.2.2.2.2.2 0 65535&&dp d.2.2.2.1 0 4294967295))))
theorem Qf (d:AQ):vU d=some (nA d):=by simp only[vU,di,ab,nA];cases dp d.1 0 3<;>cases dp d.2.1 0 3<;>cases dp d.2.2.1 0 65535<;>cases dp d.2.2.2.2.1 0 65535<;>cases dp d.2.2.2.2.2 0 65535<;>rfl
theorem aao (d:AQ):yL d=some (nA d):=by simp only[yL,eI,ab,nA];cases dp d.1 0 3<;>cases dp d.2.1 0 3<;>cases dp d.2.2.1 0 65535<;>cases dp d.2.2.2.2.1 0 65535<;>cases dp d.2.2.2.2.2 0 65535<;>rfl
def jj (d:AQ):Bytes:=
 bif nA d then((((aM [gx d.1,gx d.2.1]++bV d.2.2.1)++il d.2.2.2.1)++bV d.2.2.2.2.1)++bV d.2.2.2.2.2)++il 0 else []
theorem ac7 (d:AQ):su d=some (jj d):=by
 have h1:=bL d.2.2.1;have h2:=eH d.2.2.2.1;have h3:=bL d.2.2.2.2.1;have h4:=bL d.2.2.2.2.2;have h5:=eH 0;have h0:(aM [gx d.1,gx d.2.1]).length=2:=rfl;unfold su jj;rw[aao,ab];cases nA d with|false=>rfl|true=>?_
 simp only[aj,af,ah,nY,qf,ab];rw[aZ,aZ (by simp only[ai];omega),aZ (by simp only[ai];omega),aZ (by simp only[ai];omega),aZ (by simp only[ai];omega)]
theorem N4 (d:AQ):lg d=some (jj d):=by
 have h1:=bL d.2.2.1;have h2:=eH d.2.2.2.1;have h3:=bL d.2.2.2.2.1;have h4:=bL d.2.2.2.2.2;have h5:=eH 0;have h0:(aM [gx d.1,gx d.2.1]).length=2:=rfl;unfold lg jj;rw[Qf,ab];cases nA d with|false=>rfl|true=>?_
 simp only[aj,af,ah,kG,ya,ab];rw[aZ,aZ (by simp only[ai];omega),aZ (by simp only[ai];omega),aZ (by simp only[ai];omega),aZ (by simp only[ai];omega)]
def ly (r:lb):Int:=bif dg r then aq (r.2.1-bI r) else 0
def ku (r:lb)(c:Int):Int:=bif !dg r||decide (c<0) then-1 else r.1+Int.tmod c r.2.1*16
theorem kV (h:dg r=true):0<=r.1/\r.1<=130944/\(r.2.1=2\/r.2.1=4\/r.2.1=8\/r.2.1=16)/\0<=r.2.2.1/\r.2.2.1<=2*r.2.1-1/\0<=r.2.2.2/\r.2.2.2<=2*r.2.1-1:=by simp only[dg,ae,aX]at h;exact⟨h.1.1,h.1.2,gM.1 h.2.1,h.2.2.1.1,h.2.2.1.2,h.2.2.2.1.1,h.2.2.2.1.2⟩
theorem B0 (r:lb)(c:Int): -1<=ku r c/\ku r c<=200000:=by
 unfold ku;cases hc: !dg r||decide (c<0)with
 |true=>exact⟨eo _,by simp⟩
 |false=>
  simp only[cj,dN,cR]at hc;have h:=kV hc.1;have h2:0<=Int.tmod c r.2.1/\Int.tmod c r.2.1<r.2.1:=by rw[dB (by omega)];exact⟨fy _ (by omega),fA _ (by omega)⟩
  simp only[af];omega
def cL (l:ax aC)(m:bW)(d:Int)(r:lb)(s:Bytes):bW×lb×Bool:=
 bif (ly r==0)||((s.length:Int) !=16) then(m,r,false) else
 bif !(gA l m d (ku r r.2.2.2) s true).2 then(m,r,false) else
 ((gA l m d (ku r r.2.2.2) s true).1,(r.1,r.2.1,r.2.2.1,Int.tmod (r.2.2.2+1) (2*r.2.1)),true)
theorem F9 {w:Bool}(h:(gA l m d a s w).2=false):(gA l m d a s w).1=m:=by unfold gA at h⊢;cases hr:(jZ l m d a (s.length:Int) w).2 with|false=>rfl|true=>rw[hr]at h;cases h
theorem Gj (r:lb):rT r=some (ly r):=by
 unfold rT ly;rw[Kq,ab];cases dg r with|false=>rfl|true=>?_
 simp only[aj,af,ah,RR,ab]
theorem X6 (r:lb)(c:Int):qO r c=some (ku r c):=by
 have hin:=B0 r c;unfold qO;rw[Kq,ab];unfold ku at hin⊢;cases hb:dg r with|false=>rfl|true=>?_
 have h:=kV hb;by_cases hc:c<0;rw[au hc];rfl;rw[hb,ar hc]at hin;rw[ar hc];have h2:0<=Int.tmod c r.2.1/\Int.tmod c r.2.1<r.2.1:=by rw[dB (by omega)];exact⟨fy _ (by omega),fA _ (by omega)⟩
 simp only[aj,af,ab,bQ]at hin⊢;rw[jR,ak (n:=16*Int.tmod c r.2.1),ak];congr 1;omega
theorem RP (l:ax aC)(m:bW)(d:Int)(r:lb)(s:Bytes)(hl:l.length<=1000000000)(hm:m.length<=1000000000):xh l m d r s=some (cL l m d r s):=by
 have hA:=B0 r r.2.2.2;unfold xh cL;simp only[Gj,ab,X6,E3 l m d _ s hl hm (show ku r r.2.2.2<=9223372036854775807 by omega),Au m (show m.length<=1073741824 by omega)];cases hf:ly r==0 with|true=>rfl|false=>?_
 cases (s.length:Int) !=16 with|true=>rfl|false=>?_
 have hb:dg r=true:=by cases hb:dg r with|true=>rfl|false=>unfold ly at hf;rw[hb]at hf;cases hf
 have h:=kV hb;simp only[af,ab,bQ];cases hp:(gA l m d (ku r r.2.2.2) s true).2 with|false=>simp only[cd,ah,F9 hp]|true=>simp only[aj,af];rw[ak (n:=2*r.2.1),jR,ak (n:=r.2.2.2+1)]
theorem LW (r:lb):rF r=some (ly r):=by
 unfold rF ly;rw[vT,ab];cases dg r with|false=>rfl|true=>?_
 simp only[aj,af,ah,xY,ab]
theorem L1 (r:lb)(c:Int):mU r c=some (ku r c):=by
 have hin:=B0 r c;unfold mU;rw[vT,ab];unfold ku at hin⊢;cases hb:dg r with|false=>rfl|true=>?_
 have h:=kV hb;by_cases hc:c<0;rw[au hc];rfl;rw[hb,ar hc]at hin;rw[ar hc];have h2:0<=Int.tmod c r.2.1/\Int.tmod c r.2.1<r.2.1:=by rw[dB (by omega)];exact⟨fy _ (by omega),fA _ (by omega)⟩
 simp only[aj,af,ab,bQ]at hin⊢;rw[jR,ak (n:=Int.tmod c r.2.1*16),ak]
theorem GM (l:ax aC)(m:bW)(d:Int)(r:lb)(s:Bytes)(hl:l.length<=1000000000)(hm:m.length<=1000000000):tF l m d r s=some (cL l m d r s):=by
 have hA:=B0 r r.2.2.2;unfold tF cL;simp only[LW,ab,L1,Ai l m d _ s hl hm (show ku r r.2.2.2<=9223372036854775807 by omega),gu m (show m.length<=1073741824 by omega)];cases hf:ly r==0 with|true=>rfl|false=>?_
 cases (s.length:Int) !=16 with|true=>rfl|false=>?_
 have hb:dg r=true:=by cases hb:dg r with|true=>rfl|false=>unfold ly at hf;rw[hb]at hf;cases hf
 have h:=kV hb;simp only[af,ab,bQ];cases hp:(gA l m d (ku r r.2.2.2) s true).2 with|false=>simp only[cd,ah,F9 hp]|true=>simp only[aj,af];rw[ak (n:=2*r.2.1),jR,ak (n:=r.2.2.2+1)]
theorem xc {p:de}(h:dh p=true):0<=p.1/\p.1<=130944/\1<=p.2.1/\p.2.1<=512/\0<=p.2.2.1/\p.2.2.1<=16:=by simp only[dh,ae,aX]at h;exact⟨h.1.1,h.1.2,h.2.1.1,h.2.1.2,h.2.2.1.1,h.2.2.1.2⟩
def mm (p:de)(i:Int):Int:=bif !dh p|| !dp i 0 (p.2.2.1-1) then-1 else p.1+i*p.2.1
theorem UA {p:de}{i:Int}(hp:dh p=true)(hi:dp i 0 (p.2.2.1-1)=true):aq (p.1+aq (i*p.2.1))=p.1+i*p.2.1:=by have h:=xc hp;have h2:=aX.1 hi;have h3:0<=i*p.2.1:=Int.mul_nonneg h2.1 (by omega);have h4:i*p.2.1<=16*512:=Int.mul_le_mul (by omega) (by omega) (by omega) (by omega);rw[ak (n:=i*p.2.1),ak]
theorem aan (p:de)(i:Int)(h:p.2.2.2.length<=1000000000):nZ p i=some (mm p i):=by
 unfold nZ mm;rw[E5 p h,ab];cases hp:dh p with|false=>rfl|true=>?_
 have hin:=xc hp;rw[ak (n:=p.2.2.1-1),eI];cases hi:dp i 0 (p.2.2.1-1)with|false=>rfl|true=>?_
 simp only[aj,af,ab,bQ,UA hp hi]
theorem Eo (p:de)(i:Int)(h:p.2.2.2.length<=1000000000):gn p i=some (mm p i):=by
 unfold gn mm;rw[tq p h,ab];cases hp:dh p with|false=>rfl|true=>?_
 have hin:=xc hp;rw[ak (n:=p.2.2.1-1),di];cases hi:dp i 0 (p.2.2.1-1)with|false=>rfl|true=>?_
 simp only[aj,af,ab,bQ,UA hp hi]
def upto (n:Nat):dC:=(List.range n).map Int.ofNat
theorem MI (n:Nat):upto (n+1)=upto n++[(n:Int)]:=by simp[upto,List.range_succ]
theorem abH (h:i<n):(upto n).getD i 0=(i:Int):=by rw[cS (by simpa[upto]using h)];simp[upto]
theorem TR (a b:Int)(n:Nat)(hn:n<=16):dh (a,b,(n:Int),upto n)=dh (a,b,(n:Int),[]):=by
 unfold dh;congr 3;have h1:(List.range (upto n).length).all (zA (n:Int) (upto n))=true:=by
  rw[aJ];intro i hi;have hi:i<n:=by simpa[upto]using hi
  simp only[zA,abH hi,ae,aX,aL];refine⟨by omega,?_⟩;rw[Bool.eq_false_iff,ne_eq,List.contains_iff_mem];intro hm;simp only[upto,<-List.map_take,eQ]at hm;obtain⟨j,hj,he⟩:=hm;rw[List.take_range]at hj;have:=cp.1 hj;have:(j:Int)=(i:Int):=he;omega
 rw[h1];rfl
def ga (a b n:Int):de×Bool:=bif dh (a,b,n,[]) then((a,b,n,upto n.toNat),true) else((0,0,0,[]),false)
theorem GK (a b n:Int):tB a b n=some (ga a b n):=by
 unfold tB ga;rw[tq _ (by simp),ab];cases hp:dh (a,b,n,[])with|false=>rfl|true=>?_
 have hin:=xc hp;obtain⟨n,rfl⟩:=aG (show 0<=n from hin.2.2.2.2.1);have h16:n<=16:=by have:=hin.2.2.2.2.2;simp only at this;omega
 simp only[aj,af,ah,ay];refine eV (λi=>((i:Int),a,b,(n:Int),upto i)) n (by omega) (λi nx hi=>?_) (λnx=>?_);simp only[sc];rw[lT,aZ (by simp[upto];omega),ak,MI];rfl;simp only[sc];rw[jJ];rfl
theorem G8 (a b n:Int):ub a b n=some (ga a b n):=by
 have hfu:=eO;unfold ub ga;by_cases hn:0<=n/\n<=16;obtain⟨n,rfl⟩:=aG hn.1;have h16:n<=16:=by omega
 refine eV (λi=>((i:Int),a,b,(n:Int),upto i)) n (by omega) (λi nx hi=>?_) (λnx=>?_);simp only[oz];rw[au (show(i:Int)<n by omega),au (show(n:Int)<=16 by omega)];simp only[ah,ab];rw[aZ (by simp[upto];omega),ak,MI];rfl;simp only[oz];rw[ar (show¬(n:Int)<n by omega)];simp only[af,ab,E5 (a,b,(n:Int),upto n) (show(upto n).length<=1000000000 by simp[upto];omega),TR a b n h16,ay];cases dh (a,b,(n:Int),[])<;>rfl;have hb:dh (a,b,n,[])=false:=by cases hp:dh (a,b,n,[])with|false=>rfl|true=>have:=xc hp;exact absurd ⟨this.2.2.2.2.1,this.2.2.2.2.2⟩ hn
 obtain⟨f,hf⟩:∃f,fuel=f+1:=⟨fuel-1,by omega⟩
 rw[hf,bm];simp only[oz];have hc:(cond (decide ((0:Int)<n)) (some (decide (n<=16))) (some false))=some false:=by by_cases h0:(0:Int)<n;rw[au h0,jJ];rfl;rw[ar h0];rfl
 rw[hc];simp only[ab,af,E5 (a,b,n,[]) (show([]:dC).length<=1000000000 by simp),hb];rfl
def eX (p:de)(b:Int):Bytes:=jj (3,0,p.2.1,mm p b,0,b)
def jw (l:ax aC)(d:Int)(p:de):dC->bW->lb->Nat×bW×lb
 |[],m,r=>(0,m,r)
 |b::q,m,r=>bif (cL l m d r (eX p b)).2.2 then
   ((jw l d p q (cL l m d r (eX p b)).1 (cL l m d r (eX p b)).2.1).1+1,(jw l d p q (cL l m d r (eX p b)).1 (cL l m d r (eX p b)).2.1).2)
  else(0,m,r)
theorem tS (l:ax aC)(m:bW)(d:Int)(r:lb)(s:Bytes):(cL l m d r s).1.length=m.length:=by
 unfold cL;cases (ly r==0)||((s.length:Int) !=16)with|true=>rfl|false=>?_
 cases (gA l m d (ku r r.2.2.2) s true).2 with|false=>rfl|true=>exact jX ..
theorem FA (l:ax aC)(d:Int)(p:de):∀(q:dC)(m:bW)(r:lb),(jw l d p q m r).2.1.length=m.length/\(jw l d p q m r).1<=q.length
 |[],m,r=>⟨rfl,aR _⟩
 |b::q,m,r=>by rw[jw];cases (cL l m d r (eX p b)).2.2 with|false=>exact⟨rfl,bX _⟩|true=>have:=FA l d p q (cL l m d r (eX p b)).1 (cL l m d r (eX p b)).2.1;simp only[ah,bc];exact⟨by rw[this.1,tS],by omega⟩
theorem Zd (r:lb):0<=ly r:=by
 unfold ly;cases hb:dg r with
 |false=>exact eo _
 |true=>
  have h:=kV hb;simp only[dg,ae,aD]at hb;have hu:=hb.2.2.2.2;have h0:0<=bI r:=by unfold bI;split;exact fy _ (by omega);exact eo _
  simp only[ah];rw[ak];omega
theorem Oo (h:¬ly r>0):cL l m d r s=(m,r,false):=by
 have h0:=Zd r;have:ly r=0:=by omega
 unfold cL;rw[this];rfl
theorem Er {R:Type}(K:Int->Int->lb->bW->aB R)(K':Nat->lb->bW->aB R)(hK:∀(c:Nat) i r m,K (c:Int) i r m=K' c r m)(l:ax aC)(d:Int)(p p2 p3:de)(hp:p.2.2.2.length<=1000000000)(hl:l.length<=1000000000):∀(rest pre:dC)(m:bW)(r:lb)(f:Nat),rest.length<f->pre.length+rest.length<=1000000000->m.length<=1000000000->
 bm (mP K l d (pre++rest) ((pre++rest).length:Int) p ([]:bW) (0,0,0,0) p2 p3) f ((pre.length:Int),(pre.length:Int),r,m)=K' (pre.length+(jw l d p rest m r).1) (jw l d p rest m r).2.2 (jw l d p rest m r).2.1
 |rest,pre,m,r,0,hf,_,_=>by omega
 |[],pre,m,r,f+1,_,_,_=>by rw[bm];simp only[mP];rw[ar (by simp),af,hK];rfl
 |b::q,pre,m,r,f+1,hf,hn,hm=>by
  simp only[bc]at hf hn;have hi:pre.length<(pre++b::q).length:=by simp
  have hb:(pre++b::q)[pre.length]=b:=by simp
  rw[bm];simp only[mP];rw[au (by simp;omega),bK hi,hb];simp only[ah,ab,Eo p b hp,N4,GM l m d r _ hl hm];rw[show jj (3,0,p.2.1,mm p b,0,b)=eX p b from rfl,jw];cases hq:(cL l m d r (eX p b)).2.2 with
  |false=>simp only[cd,ah,af,hK,dQ]
  |true=>
   simp only[aj,af,ah];rw[ak (n:=(pre.length:Int)+1)];have key:=Er K K' hK l d p p2 p3 hp hl q (pre++[b]) (cL l m d r (eX p b)).1 (cL l m d r (eX p b)).2.1 f (by omega) (by simp;omega) (by rw[tS];exact hm);have el:((pre++[b]).length:Int)=(pre.length:Int)+1:=by simp
   have el2:(pre++[b]).length=pre.length+1:=by simp
   rw[aN,fQ,el,el2]at key;rw[show pre.length+((jw l d p q (cL l m d r (eX p b)).1 (cL l m d r (eX p b)).2.1).1+1)=pre.length+1+(jw l d p q (cL l m d r (eX p b)).1 (cL l m d r (eX p b)).2.1).1 by omega];exact key
theorem E4 {R:Type}(K:Int->lb->bW->de->aB R)(l:ax aC)(d:Int)(p p2:de)(hp:p.2.2.2.length<=1000000000)(hl:l.length<=1000000000)(A B C:Int):∀(rest:dC)(c:Nat)(m:bW)(r:lb)(f:Nat),rest.length<f->c+rest.length<=1000000000->m.length<=1000000000->
 bm (nn K l d p ([]:bW) (0,0,0,0) p2) f ((c:Int),r,m,A,B,C,rest)=K ((c+(jw l d p rest m r).1:Nat):Int) (jw l d p rest m r).2.2 (jw l d p rest m r).2.1 (A,B,C,rest.drop (jw l d p rest m r).1)
 |rest,c,m,r,0,hf,_,_=>by omega
 |[],c,m,r,f+1,_,_,_=>by
  rw[bm];simp only[nn,Gj,ab];have hc:(cond (decide (ly r>0)) (some (decide ((([]:dC).length:Int)>0))) (some false))=some false:=by cases decide (ly r>0)<;>rfl
  rw[hc];rfl
 |b::q,c,m,r,f+1,hf,hn,hm=>by
  simp only[bc]at hf hn;rw[bm];simp only[nn,Gj,ab];by_cases hr:ly r>0;rw[au hr,au (show(((b::q).length:Nat):Int)>0 by simp)];have hi:idx (b::q) 0=some b:=rfl;have hs:sub (b::q) 1 ((b::q).length:Int)=some q:=by unfold sub;rw[aH (by simp;omega)];simp
  simp only[ah,ab,hi,aan p b hp,ac7,RP l m d r _ hl hm];rw[show jj (3,0,p.2.1,mm p b,0,b)=eX p b from rfl,jw];cases hq:(cL l m d r (eX p b)).2.2 with|false=>rfl|true=>simp only[aj,af,ah,hs,ab];rw[ni (by omega),ak (n:=(c:Int)+1),cJ];have key:=E4 K l d p p2 hp hl A B C q (c+1) (cL l m d r (eX p b)).1 (cL l m d r (eX p b)).2.1 f (by omega) (by omega) (by rw[tS];exact hm);rw[show((c+1:Nat):Int)=(c:Int)+1 by omega]at key;refine Eq.trans key ?_;rw[show c+1+(jw l d p q (cL l m d r (eX p b)).1 (cL l m d r (eX p b)).2.1).1=c+((jw l d p q (cL l m d r (eX p b)).1 (cL l m d r (eX p b)).2.1).1+1) by omega];rfl
  rw[ar hr,jw,Oo hr];rfl
def nB (l:ax aC)(m:bW)(d:Int)(r:lb)(p:de):bW×lb×de×Int:=
 bif !dg r|| !dh p then(m,r,p,0) else
 ((jw l d p p.2.2.2 m r).2.1,(jw l d p p.2.2.2 m r).2.2,(p.1,p.2.1,p.2.2.1,p.2.2.2.drop (jw l d p p.2.2.2 m r).1),((jw l d p p.2.2.2 m r).1:Int))
theorem Qh (l:ax aC)(m:bW)(d:Int)(r:lb)(p:de)(hl:l.length<=1000000000)(hm:m.length<=1000000000)(hp:p.2.2.2.length<=1000000000):iz l m d r p=some (nB l m d r p):=by
 have hfu:=eO;unfold iz nB;simp only[gu m (show m.length<=1073741824 by omega),sM p hp,vT,tq p hp,ab];cases dg r with|false=>rfl|true=>?_
 cases dh p with|false=>rfl|true=>?_
 simp only[aj,af,ab,bQ];have hlen:=(FA l d p p.2.2.2 m r).2;refine(Er _ (λc r m=>aa (sub p.2.2.2 (c:Int) (p.2.2.2.length:Int)) λx14=>aa (gw x14) λr15=>some (m,r,(p.1,p.2.1,p.2.2.1,r15),(c:Int))) (λ_ _ _ _=>rfl) l d p _ p hp hl p.2.2.2 [] m r fuel (by omega) (by simp;omega) hm).trans ?_;rw[eD,cD,OP _ _ _ hlen (aR _),ab,bP (by rw[aO];exact aR _),lr _ (by rw[aO];omega)];rfl
theorem aap (l:ax aC)(m:bW)(d:Int)(r:lb)(p:de)(hl:l.length<=1000000000)(hm:m.length<=1000000000)(hp:p.2.2.2.length<=1000000000):vC l m d r p=some (nB l m d r p):=by
 have hfu:=eO;unfold vC nB;simp only[Au m (show m.length<=1073741824 by omega),Tk p hp,Kq,E5 p hp,ab];cases dg r with|false=>rfl|true=>?_
 cases dh p with|false=>rfl|true=>?_
 simp only[aj,af,ab,bQ];refine(E4 _ l d p _ hp hl p.1 p.2.1 p.2.2.1 p.2.2.2 0 m r fuel (by omega) (by omega) hm).trans ?_;rw[cD]
def jg (p:de)(n:Int):de×dC×Bool:=bif dh p&&dp n 0 (p.2.2.2.length:Int) then((p.1,p.2.1,p.2.2.1,p.2.2.2.drop n.toNat),p.2.2.2.take n.toNat,true) else(p,[],false)
theorem WL (p:de)(n:Int)(h:p.2.2.2.length<=1000000000):qE p n=some (jg p n):=by
 unfold qE jg;rw[sM p h,ab,tq p h,ab,di];cases dh p with|false=>rfl|true=>?_
 cases hi:dp n 0 (p.2.2.2.length:Int)with|false=>rfl|true=>?_
 have hn:=aX.1 hi;obtain⟨n,rfl⟩:=aG hn.1;simp only[aj,af,ab,dL,ah,ay];rw[RV _ n (by omega),ab,lr _ (by simp;omega),ab,show sub p.2.2.2 0 (n:Int)=some (p.2.2.2.take n) from by rw[xx (by omega) hn.2,ay],ab,lr _ (by simp;omega),ab]
theorem Bo:∀l:ax nG,(∀x∈l,0<=x.2.1/\x.2.1<=16)->0<=dW l/\dW l<=16*(l.length:Int)
 |[],_=>by simp[dW]
 |y::l,h=>by have h1:=Bo l (λx hx=>h x (fD _ hx));have h2:=h y (List.mem_cons_self ..);simp only[dW,cU,List.sum_cons,bc]at h1⊢;omega
theorem SB (l:ax nG)(i:Nat)(hi:i<l.length):dW (l.take (i+1))=dW (l.take i)+l[i].2.1:=by rw[cb hi];simp only[dW,cY,List.sum_append,cU,List.map_nil,List.sum_cons,List.sum_nil,Int.add_zero]
theorem WH (t:dZ)(h:t.2.2.1.length<=1000000)(hs:∀x∈t.2.2.1,0<=x.2.1/\x.2.1<=16):pz t=some (dW t.2.2.1):=by
 have hfu:=eO;unfold pz;refine eV (λi=>(dW (t.2.2.1.take i),(i:Int))) t.2.2.1.length (by omega) (λi nx hi=>?_) (λnx=>?_);have hb:=Bo (t.2.2.1.take i) (λx hx=>hs x (List.mem_of_mem_take hx));have hc:=hs _ (bz hi);have hl:(t.2.2.1.take i).length<=1000000:=by rw[aS];omega
 rw[SB _ _ hi];simp only[lH];rw[lT,ah,bK hi,ab,ak (n:=(i:Int)+1),ak];rfl;simp only[lH];rw[jJ,af,eS]
def nW (l:ax aC)(d:Int):bW->bW->lb->aB (bW×lb)
 |[],m,r=>some (m,r)
 |s::q,m,r=>bif (cL l m d r s).2.2 then nW l d q (cL l m d r s).1 (cL l m d r s).2.1 else none
def adC (m:bW)(r:lb):aB (bW×lb)->bW×lb×Bool
 |some x=>(x.1,x.2,true)
 |none=>(m,r,false)
def qK (l:ax aC)(m:bW)(d:Int)(r:lb)(q:bW):bW×lb×Bool:=adC m r (nW l d q m r)
theorem GZ (l:ax aC)(d:Int):∀(q:bW)(m:bW)(r:lb){x},nW l d q m r=some x->x.1.length=m.length
 |[],m,r,x,h=>by cases h;rfl
 |s::q,m,r,x,h=>by rw[nW]at h;cases hq:(cL l m d r s).2.2 with|false=>rw[hq]at h;cases h|true=>rw[hq]at h;exact(GZ l d q _ _ h).trans (tS ..)
theorem BG (l:ax aC)(d:Int)(M:bW)(A B2:lb)(B1:bW)(hl:l.length<=1000000000)(hM:M.length<=1000000000):∀(rest pre:bW)(m:bW)(r:lb)(f:Nat),rest.length<f->(pre++rest).length<=1000000000->m.length<=1000000000->
 bm (kJ (λ_ y6 y7=>some (y6,y7,true)) (λy8 _ y10 y11 _ _=>some (y10,y11,y8)) l d false (pre++rest) ((pre++rest).length:Int) M A B1 B2) f ((pre.length:Int),m,r)=some (adC M A (nW l d rest m r))
 |rest,pre,m,r,0,hf,_,_=>by omega
 |[],pre,m,r,f+1,_,_,_=>by rw[bm];simp only[kJ];rw[ar (by simp),af];rfl
 |s::q,pre,m,r,f+1,hf,hn,hm=>by
  simp only[bc,ai]at hf hn;have hi:pre.length<(pre++s::q).length:=by simp
  have hb:(pre++s::q)[pre.length]=s:=by simp
  rw[bm];simp only[kJ];rw[au (by simp;omega),bK hi,hb];simp only[ah,ab,GM l m d r _ hl hm];rw[nW];cases hq:(cL l m d r s).2.2 with
  |false=>simp only[cd,ah,af,gu M,ab];rfl
  |true=>
   simp only[aj,af,ah];rw[ak (n:=(pre.length:Int)+1)];have key:=BG l d M A B2 B1 hl hM q (pre++[s]) (cL l m d r s).1 (cL l m d r s).2.1 f (by omega) (by simp;omega) (by rw[tS];exact hm);have el:((pre++[s]).length:Int)=(pre.length:Int)+1:=by simp
   rw[aN,fQ,el]at key;exact key
theorem S8 (l:ax aC)(m:bW)(d:Int)(r:lb)(q:bW)(hl:l.length<=1000000000)(hm:m.length<=1000000000)(hq:q.length<=1000000000):jN l m d r q=some (qK l m d r q):=by have hfu:=eO;unfold jN qK;rw[gu m,ab];exact BG l d m r _ _ hl hm q [] m r fuel (by omega) (by simpa using hq) hm
theorem JY (l:ax aC)(m:bW)(d:Int)(w:Bool):∀(n a r:Nat)(q:ax (Int×Int)),kj l m d w n a r=some q->q.length<=n
 |0,a,r,q,h=>by simp only[kj,bj]at h;subst h;simp
 |n+1,a,r,q,h=>by simp only[kj]at h;split at h;simp only[bj]at h;subst h;simp;split at h;simp only[Option.map_eq_some_iff]at h;obtain⟨q',h1,rfl⟩:=h;have:=JY l m d w n _ _ q' h1;simp only[bc];omega;cases h
theorem Ge (l:ax aC)(m:bW)(d a n:Int)(w:Bool):(jZ l m d a n w).1.length<=4096:=by
 unfold jZ;cases hB:fS l&&(cP m&&dp n 0 4096)with|false=>simp|true=>?_
 simp only[ae,aX]at hB;simp only[ah];cases n==0 with|true=>simp|false=>?_
 cases decide (a<0)with|true=>simp|false=>?_
 simp only[af];split;rename_i q hq;have:=JY _ _ _ _ _ _ _ _ hq;show q.length<=4096;omega;simp
def ng (m:bW)(p:Int×Int):Bytes:=bif gV m p.1 p.2 then yI m p.1.toNat p.2.toNat else []
theorem De (m:bW)(p:Int×Int):(ng m p).length<=8192:=by unfold ng;cases h:gV m p.1 p.2 with|false=>simp|true=>simp only[gV,ae,aD]at h;have:=aaa m p.1.toNat p.2.toNat;have:=(mem_iff.1 h.1).2;simp only[ah];omega
theorem tU (m:bW):∀q:ax (Int×Int),(q.flatMap (ng m)).length<=8192*q.length
 |[]=>by simp
 |p::q=>by have:=tU m q;have:=De m p;simp only[List.flatMap_cons,ai,bc];omega
def oo (l:ax aC)(m:bW)(d a n:Int):Bytes×Bool:=
 bif (jZ l m d a n false).2 then((jZ l m d a n false).1.flatMap (ng m),true) else([],false)
theorem NW {α β:Type}(g:α->ax β)(l:ax α)(i:Nat)(hi:i<l.length):(l.take (i+1)).flatMap g=(l.take i).flatMap g++g l[i]:=by rw[cb hi,List.flatMap_append];simp
theorem yC (l:ax aC)(m:bW)(d a n:Int)(hl:l.length<=1000000000)(hm:m.length<=1000000000)(ha:a<=9223372036854775807):nI l m d a n=some (oo l m d a n):=by
 unfold nI oo;rw[Qn l m d a n false hl hm ha,ab];have hL:=Ge l m d a n false;generalize jZ l m d a n false=r at hL⊢;cases hr:r.2 with|false=>rfl|true=>?_
 simp only[aj,af,ah];refine(eV (λi=>((r.1.take i).flatMap (ng m),(i:Int))) r.1.length (by omega) (λi nx hi=>?_) (λnx=>?_));simp only[rY];rw[lT,bK hi,ak];have e:ou m r.1[i].1 r.1[i].2=some (ng m r.1[i],gV m r.1[i].1 r.1[i].2):=by rw[Zx m _ _ hm,ng];cases gV m r.1[i].1 r.1[i].2<;>rfl
 have h1:=tU m (r.1.take i);have h2:=De m r.1[i];simp only[ah,ab,e];rw[aZ (by rw[aS]at h1;omega),<-NW];rfl;simp only[rY];rw[jJ,eS];rfl
theorem IS (l:ax aC)(m:bW)(d a n:Int):(oo l m d a n).1.length<=100000000:=by have hL:=Ge l m d a n false;have h1:=tU m (jZ l m d a n false).1;unfold oo;cases (jZ l m d a n false).2 with|false=>simp|true=>simp only[ah];omega
def qn (s:Bytes):CL×Int×Bool:=
 bif ((s.length:Int) !=16)||decide (fZ s 12>1) then((0,0,0,0,0),0,false) else((cw s 0,cw s 2,cw s 4,cw s 6,fZ s 8),fZ s 12,true)
theorem S1 (s:Bytes)(h:s.length<=1000000000):kQ s=some (qn s):=by
 unfold kQ qn;cases (s.length:Int) !=16 with|true=>rfl|false=>?_
 simp only[uC s _ h,xG s _ h,ab,af,cz];cases decide (fZ s 12>1)<;>rfl
def wC (q:HI):Int:=bif decide (q.2.2<q.2.1) then 1 else 0
theorem LY (q:HI):tM q=some (wC q):=by unfold tM wC;cases decide (q.2.2<q.2.1)<;>rfl
theorem tT {q:HI}(h:fV q=true):0<=q.1/\q.1<=130944/\(q.2.1=2\/q.2.1=4\/q.2.1=8\/q.2.1=16)/\0<=q.2.2/\q.2.2<=2*q.2.1-1:=by simp only[fV,ae,aX]at h;obtain⟨h1,h2,h3⟩:=h;rw[uL h2]at h3;exact⟨h1.1,h1.2,gM.1 h2,h3⟩
def qe (q:HI):Int:=q.1+Int.tmod q.2.2 q.2.1*16
theorem OT (h:0<=a:=by omega)(hb:0<b:=by omega):0<=Int.tmod a b/\Int.tmod a b<b:=by rw[dB h];exact⟨fy _ (by omega),fA _ hb⟩
theorem OB {q:HI}(h:fV q=true):0<=Int.tmod q.2.2 q.2.1/\Int.tmod q.2.2 q.2.1<16:=by obtain⟨_,_,h3,h4,h5⟩:=tT h;have:=OT h4 (show 0<q.2.1 by omega);omega
theorem L2 (q:HI)(h:fV q=true):mX q=some (qe q):=by obtain⟨h1,h2,h3,h4,h5⟩:=tT h;have:=OB h;unfold mX qe;rw[jR,ak (n:=Int.tmod q.2.2 q.2.1*16),ak]
def ZQ (q:HI):HI:=(q.1,q.2.1,Int.tmod (q.2.2+1) (2*q.2.1))
def EP (l:ax aC)(m:bW)(d:Int)(q:HI):Bool:=
 fV q&&((oo l m d (qe q) 16).2&&((qn (oo l m d (qe q) 16).1).2.2&&((qn (oo l m d (qe q) 16).1).2.1==wC q)))
def kY (l:ax aC)(m:bW)(d:Int)(q:HI):CL×HI×Bool:=
 bif EP l m d q then((qn (oo l m d (qe q) 16).1).1,ZQ q,true) else((0,0,0,0,0),q,false)
theorem Qi (l:ax aC)(m:bW)(d:Int)(q:HI)(hl:l.length<=1000000000)(hm:m.length<=1000000000):jV l m d q=some (kY l m d q):=by
 unfold jV kY EP;rw[FH q,ab];cases hq:fV q with|false=>rfl|true=>?_
 obtain⟨h1,h2,h3,h4,h5⟩:=tT hq;have hs:=OB hq;have hd:=IS l m d (qe q) 16;simp only[aj,af,L2 q hq,ab,yC l m d (qe q) 16 hl hm (by unfold qe;omega),bB];cases (oo l m d (qe q) 16).2 with|false=>rfl|true=>?_
 simp only[aj,af,S1 _ (bE hd (by omega)),ab,bB];cases (qn (oo l m d (qe q) 16).1).2.2 with|false=>rfl|true=>?_
 simp only[aj,af,LY,ab,bB,bne];cases (qn (oo l m d (qe q) 16).1).2.1==wC q with|false=>rfl|true=>?_
 simp only[aj,af,ah];rw[ak (n:=2*q.2.1),jR,ak (n:=q.2.2+1)];rfl
def yB (l:ax aC)(m:bW)(d:Int)(r:bF):Bool:=Bl r&&(kY l m d r.2.2.1).2.2
theorem S4 (l:ax aC)(m:bW)(d:Int)(r:bF)(hl:l.length<=1000000000)(hm:m.length<=1000000000):nJ l m d r=some (yB l m d r):=by simp only[nJ,Jw,Qi l m d _ hl hm,ab,yB];cases Bl r<;>rfl
def J9 (h:Host):Bool:=eZ h&&(!(decide ((h.2.2.1.2.2.1.length:Int)>0))&&h.2.2.2.1.all (λr=> !(r.2.2.2.2.1||yB h.2.1 h.1 0 r)))
theorem WB (h:Host)(z:H2 h)(hl:dw 1000000000 dY h):qw h=some (J9 h):=by
 have hL:h.2.2.2.1.length<=1000000000:=hl.2.2.2.1.1;unfold qw J9;rw[rr h z,ab];cases eZ h with|false=>rfl|true=>?_
 simp only[aj,af,ab,bB];cases decide ((h.2.2.1.2.2.1.length:Int)>0)with|true=>rfl|false=>?_
 simp only[af,cd,bB];rw[oK (hit:=some false) (fin:=some true) (λr:bF=> !(r.2.2.2.2.1||yB h.2.1 h.1 0 r)) h.2.2.2.1 (by omega) (λi hi nx=>?hs) (λnx=>?hf)]
 case hs=>
  simp only[sa]
  rw[lT,bK hi,ak]
  simp only[ah,ab,S4 _ _ _ _ hl.2.1.1 hl.1.1]
  cases h.2.2.2.1[i].2.2.2.2.1<;>cases yB h.2.1 h.1 0 h.2.2.2.1[i]<;>rfl
 case hf=>
  simp only[sa]
  rw[jJ];rfl
 cases h.2.2.2.1.all (λr=> !(r.2.2.2.2.1||yB h.2.1 h.1 0 r))<;>rfl
theorem abS (p:de)(i:Int):mm p i= -1\/(0<=mm p i/\mm p i<=200000):=by
 unfold mm;cases hp:dh p with|false=>exact .inl rfl|true=>?_
 cases hi:dp i 0 (p.2.2.1-1)with|false=>exact .inl rfl|true=>?_
 have h:=xc hp;have h2:=aX.1 hi;have h3:0<=i*p.2.1:=Int.mul_nonneg h2.1 (by omega);have h4:i*p.2.1<=16*512:=Int.mul_le_mul (by omega) (by omega) (by omega) (by omega);simp only[aj,bQ,af];exact .inr (by omega)
def aeN (l:ax aC)(m:bW)(d a n:Int):Bool:=(oo l m d a n).2&&((jG (oo l m d a n).1).2==0)
def wP (l:ax aC)(m:bW)(d:Int)(s:ax Stream×bF×de):ax Stream×bF×de:=
 ((bif aeN l m d (mm s.2.2 (kY l m d s.2.1.2.2.1).1.1) (kY l m d s.2.1.2.2.1).1.2.1 then Bv s.1 (jG (oo l m d (mm s.2.2 (kY l m d s.2.1.2.2.1).1.1) (kY l m d s.2.1.2.2.1).1.2.1).1).1 else s.1),
   (s.2.1.1,s.2.1.2.1,(kY l m d s.2.1.2.2.1).2.1,s.2.1.2.2.2),(xT s.2.2 [(kY l m d s.2.1.2.2.1).1.1]).1)
def iM (l:ax aC)(m:bW)(d:Int):Nat->ax Stream×bF×de->Nat×(ax Stream×bF×de)
 |0,s=>(0,s)
 |k+1,s=>bif !(kY l m d s.2.1.2.2.1).2.2 then(0,s) else((iM l m d k (wP l m d s)).1+1,(iM l m d k (wP l m d s)).2)
structure Fq (n:Nat) (s:List Stream×bF×de):Prop where
 st:dw n (.sl eG) s.1
 pl:s.2.2.2.2.2.length<=n
theorem P1 (p:de)(l:dC):(xT p l).1.2.2.2.length<=p.2.2.2.length+l.length:=by unfold xT;cases xU p l with|false=>show p.2.2.2.length<=_;omega|true=>simp[gG]
theorem J5 {s:ax Stream×bF×de}(h:Fq n s):Fq (n+322) (wP l m d s):=by
 refine⟨?_,?_⟩;unfold wP;cases aeN l m d (mm s.2.2 (kY l m d s.2.1.2.2.1).1.1) (kY l m d s.2.1.2.2.1).1.2.1 with|false=>exact h.st.mono|true=>exact NN h.st
 have:=P1 s.2.2 [(kY l m d s.2.1.2.2.1).1.1];have h2:=h.pl;show(xT s.2.2 [(kY l m d s.2.1.2.2.1).1.1]).1.2.2.2.length<=_;simp only[br]at this;omega
theorem Ev {R:Type}(K:ax Stream->Int->bF->de->aB R)(l:ax aC)(m:bW)(d:Int)(N:Nat)(hN:N<=1000)(B1:bW)(B2:bF)(B3:de)(hl:l.length<=1000000000)(hm:m.length<=1000000000):∀(k i:Nat)(s:ax Stream×bF×de)(f:Nat),i+k=N->k<f->Fq (500000000+322*i) s->
 bm (lF K l d (N:Int) B1 B2 B3 m) f (s.1,(i:Int),s.2.1,s.2.2)=K (iM l m d k s).2.1 ((i+(iM l m d k s).1:Nat):Int) (iM l m d k s).2.2.1 (iM l m d k s).2.2.2
 |k,i,s,0,_,hf,_=>by omega
 |0,i,s,f+1,hi,hf,z=>by rw[bm];simp only[lF];rw[jJ,af];rfl
 |k+1,i,s,f+1,hi,hf,z=>by have hst:dw 900000000 (.sl eG) s.1:=z.st.mono;have hpl:s.2.2.2.2.2.length<=900000000:=bE z.pl (by omega);rw[bm];simp only[lF];rw[lT];simp only[ah,Qi l m d _ hl hm,ab,iM];cases hnx:(kY l m d s.2.1.2.2.1).2.2 with|false=>rfl|true=>have key:=Ev K l m d N hN B1 B2 B3 hl hm k (i+1) (wP l m d s) f (by omega) (by omega) ((J5 z).st.mono|>λa=>⟨a,bE (J5 z).pl (by omega)⟩);rw[show i+1+(iM l m d k (wP l m d s)).1=i+((iM l m d k (wP l m d s)).1+1) by omega]at key;simp only[aj,af];rw[<-key];unfold wP;generalize kY l m d s.2.1.2.2.1=c;have ha:=abS s.2.2 c.1.1;have hd:=IS l m d (mm s.2.2 c.1.1) c.1.2.1;simp only[Eo _ _ (show s.2.2.2.2.2.length<=1000000000 by omega),yC l m d _ c.1.2.1 hl hm (show mm s.2.2 c.1.1<=9223372036854775807 by omega),ab,Cx _ (bE hd (by omega)),N3 _ _ hst,Jt s.2.2 [c.1.1] (show s.2.2.2.2.2.length+1<=1000000000 by omega)];rw[ak (n:=(i:Int)+1),show((i+1:Nat):Int)=(i:Int)+1 by omega];unfold aeN;cases (oo l m d (mm s.2.2 c.1.1) c.1.2.1).2<;>cases (jG (oo l m d (mm s.2.2 c.1.1) c.1.2.1).1).2==0<;>rfl
theorem J4 {l:ax aC}{m:bW}{d:Int}:∀(k:Nat){s:ax Stream×bF×de}{n:Nat},Fq n s->Fq (n+322*k) (iM l m d k s).2
 |0,s,n,h=>h
 |k+1,s,n,h=>by rw[iM];cases (kY l m d s.2.1.2.2.1).2.2 with|false=>exact⟨h.st.mono,bE h.pl (by omega)⟩|true=>have:=J4 (l:=l) (m:=m) (d:=d) k (J5 (l:=l) (m:=m) (d:=d) h);exact⟨this.st.mono,bE this.pl (by omega)⟩
def hZ (l:ax aC)(m:bW)(d:Int)(rx:bF)(pl:de)(st:ax Stream)(n:Int):bW×bF×de×ax Stream×Int:=
 bif !Bl rx||(!dh pl|| !dp n 0 1000) then(m,rx,pl,st,0) else
 ((nB l m d (iM l m d n.toNat (st,rx,pl)).2.2.1.1 (iM l m d n.toNat (st,rx,pl)).2.2.2).1,
   ((nB l m d (iM l m d n.toNat (st,rx,pl)).2.2.1.1 (iM l m d n.toNat (st,rx,pl)).2.2.2).2.1,(iM l m d n.toNat (st,rx,pl)).2.2.1.2),
   (nB l m d (iM l m d n.toNat (st,rx,pl)).2.2.1.1 (iM l m d n.toNat (st,rx,pl)).2.2.2).2.2.1,(iM l m d n.toNat (st,rx,pl)).2.1,((iM l m d n.toNat (st,rx,pl)).1:Int))
theorem Ql (l:ax aC)(m:bW)(d:Int)(rx:bF)(pl:de)(st:ax Stream)(n:Int)(hl:l.length<=1000000000)(hm:m.length<=1000000000)(hp:pl.2.2.2.length<=500000000)(hs:dw 500000000 (.sl eG) st):tC l m d rx pl st n=some (hZ l m d rx pl st n):=by
 have hfu:=eO;have hsl:st.length<=500000000:=hs.1;unfold tC hZ;simp only[gu m (show m.length<=1073741824 by omega),sM pl (show pl.2.2.2.length<=1000000000 by omega),wA st,Jw,tq pl (show pl.2.2.2.length<=1000000000 by omega),di,ab];cases Bl rx with|false=>rfl|true=>?_
 cases dh pl with|false=>rfl|true=>?_
 cases hn:dp n 0 1000 with|false=>rfl|true=>?_
 have h:=aX.1 hn;obtain⟨n,rfl⟩:=aG h.1;simp only[aj,af,ab,bQ,ay];have z:Fq (500000000+322*0) (st,rx,pl):=⟨hs,hp⟩
 have hz:=J4 (l:=l) (m:=m) (d:=d) n z;refine(Ev _ l m d n (by omega) _ _ _ hl hm n 0 (st,rx,pl) fuel (by omega) (by omega) z).trans ?_;rw[cD];simp only[Qh l m d _ _ hl hm (show(iM l m d n (st,rx,pl)).2.2.2.2.2.2.length<=1000000000 from bE hz.pl (by omega)),ab]
def gq (i:Nat):Int:=1280+(i:Int)*1792
theorem Uw (h:i<=8):aq (1280+aq ((i:Int)*1792))=gq i:=by rw[ak (n:=(i:Int)*1792),ak];rfl
theorem Qd (i:Nat)(h:i<=8):pU (i:Int)=some (gq i):=by rw[pU,Uw h]
theorem nV (a b n:Int)(h:n<=1000:=by omega):(ga a b n).1.2.2.2.length<=1000:=by unfold ga;cases dh (a,b,n,[])with|false=>simp|true=>simp[upto];omega
def Bg (i:Nat):bF:=((gq i,4,0,0),(gq i+64,4,0),(gq i+64,4,0),((0,0,0,0,0,0,0,0,0,0,0,0,0,0,0,([]:Bytes)),0,0),false,0)
theorem WD (i:Nat)(h:i<=8):uD (i:Int)=some (Bg i,(ga (gq i+128) 384 4).1):=by have hb:gq i=1280+(i:Int)*1792:=rfl;simp only[uD,Qd i h,ab];rw[ak (n:=gq i+128),ak (n:=gq i+64),GK];rfl
def yO:dZ:=((0,16,0,0),(ga 256 128 8).1,([]:ax nG),0)
theorem WQ:Ao=some yO:=by rw[Ao,GK];rfl
theorem X7:vL=some yO:=by rw[vL,G8];rfl
def kM (l:ax aC)(m:bW)(i:Nat):bW×lb×de×Int:=
 nB l (gA l m 0 (gq i) (rb 128) false).1 0 (gq i,4,0,0) (ga (gq i+128) 384 4).1
def GR (h:Host)(i:Nat):Host:=
 ((kM h.2.1 h.1 i).1,h.2.1,h.2.2.1,h.2.2.2.1.set i ((kM h.2.1 h.1 i).2.1,(gq i+64,4,0),(gq i+64,4,0),((0,0,0,0,0,0,0,0,0,0,0,0,0,0,0,([]:Bytes)),0,0),false,(match h.2.2.2.1[i]? with|some x=>x.2.2.2.2.2|none=>0)),h.2.2.2.2.1.set i (kM h.2.1 h.1 i).2.2.1,h.2.2.2.2.2)
theorem aas (h:Host)(i:Nat)(hi:i<=8)(h1:i<h.2.2.2.1.length)(h2:i<h.2.2.2.2.1.length)(hl:h.2.1.length<=1000000000)(hm:h.1.length<=1000000000):uu h (i:Int)=some ((),GR h i):=by have hb:gq i=1280+(i:Int)*1792:=rfl;have hz:iP 128 0=some (rb 128):=Kn 128;have hf:=aap h.2.1 (gA h.2.1 h.1 0 (gq i) (rb 128) false).1 0 (gq i,4,0,0) (ga (gq i+128) 384 4).1 hl (by rw[jX];exact hm) (bE (nV (gq i+128) 384 4) (by omega));unfold uu;simp only[Uw hi];rw[ak (n:=gq i+128),ak (n:=gq i+64),G8,hz];simp only[bK h1,bK h2,ab,Ld h.2.1 h.1 0 (gq i) (rb 128) hl hm (by omega),hf,ay,GR,kM,al h1]
def uF (h:Host)(i:Nat)(n:Int):Int×Host:=
 match h.2.2.2.1[i]?,h.2.2.2.2.1[i]? with
 |some rx,some pl=>
  ((hZ h.2.1 h.1 0 rx pl h.2.2.2.2.2.2.2.2.2.1 n).2.2.2.2,(hZ h.2.1 h.1 0 rx pl h.2.2.2.2.2.2.2.2.2.1 n).1,h.2.1,h.2.2.1,h.2.2.2.1.set i (hZ h.2.1 h.1 0 rx pl h.2.2.2.2.2.2.2.2.2.1 n).2.1,h.2.2.2.2.1.set i (hZ h.2.1 h.1 0 rx pl h.2.2.2.2.2.2.2.2.2.1 n).2.2.1,h.2.2.2.2.2.1,h.2.2.2.2.2.2.1,h.2.2.2.2.2.2.2.1,h.2.2.2.2.2.2.2.2.1,(hZ h.2.1 h.1 0 rx pl h.2.2.2.2.2.2.2.2.2.1 n).2.2.2.1,h.2.2.2.2.2.2.2.2.2.2)
 |_,_=>(0,h)
theorem N8 (h:Host)(i:Nat)(n:Int)(h1:i<h.2.2.2.1.length)(h2:i<h.2.2.2.2.1.length)(z:dw 500000000 dY h):ks h (i:Int) n=some (uF h i n):=by have hl:h.2.1.length<=500000000:=z.2.1.1;have hm:h.1.length<=500000000:=z.1.1;have hp:h.2.2.2.2.1[i].2.2.2.length<=500000000:=(z.2.2.2.2.1.2 _ (bz h2)).2.2.2.1;unfold ks;simp only[bK h1,bK h2,ab,Ql h.2.1 h.1 0 _ _ _ n (show h.2.1.length<=1000000000 by omega) (show h.1.length<=1000000000 by omega) hp z.2.2.2.2.2.2.2.2.2.1,ay,uF,al h1,al h2]
theorem ox {t:CT}{l:ax t.D}{x:t.D}(z:dw n (.sl t) l)(hx:dw n t x):dw n (.sl t) (l.set i x):=by refine⟨?_,λy hy=>?_⟩;show(l.set i x).length<=n;rw[az];exact z.1;rcases fJ hy with h|h;exact z.2 y h;rw[h];exact hx
theorem Mn (hn:128<=n)(h:Av m):dw n (.sl .str) m:=⟨bE h.2 (by omega),λx hx=>bE (Nat.le_of_eq (h.1 x hx)) hn⟩
theorem Sc (hn:128<=n)(z:dw n (.sl .str) m)(a:Int)(s:Bytes):dw n (.sl .str) (lS m a s).1:=by
 unfold lS;cases hw:gV m a (s.length:Int)with|false=>exact z|true=>?_
 simp only[gV,ae,aD]at hw;exact Mn hn (xC s.length (nf.1 hw.1) (by omega)).1
theorem Ro {n:Nat}(hn:128<=n):∀(q:ax (Int×Int)){m:bW}(s:Bytes),dw n (.sl .str) m->dw n (.sl .str) (CQ q m s)
 |[],m,s,z=>z
 |p::q,m,s,z=>Ro hn q _ (Sc hn z _ _)
theorem BR (hn:128<=n)(z:dw n (.sl .str) m)(l:ax aC)(d a:Int)(s:Bytes)(w:Bool):dw n (.sl .str) (gA l m d a s w).1:=by unfold gA;cases (jZ l m d a (s.length:Int) w).2 with|false=>exact z|true=>exact Ro hn _ _ z
theorem EW (hn:128<=n)(z:dw n (.sl .str) m)(l:ax aC)(d:Int)(r:lb)(s:Bytes):dw n (.sl .str) (cL l m d r s).1:=by
 unfold cL;cases (ly r==0)||((s.length:Int) !=16)with|true=>exact z|false=>?_
 cases (gA l m d (ku r r.2.2.2) s true).2 with|false=>exact z|true=>exact BR hn z ..
theorem LG {n:Nat}(hn:128<=n)(l:ax aC)(d:Int)(p:de):∀(q:dC){m:bW}(r:lb),dw n (.sl .str) m->dw n (.sl .str) (jw l d p q m r).2.1
 |[],m,r,z=>z
 |b::q,m,r,z=>by rw[jw];cases (cL l m d r (eX p b)).2.2 with|false=>exact z|true=>exact LG hn l d p q _ (EW hn z ..)
theorem LH (hn:128<=n)(z:dw n (.sl .str) m)(l:ax aC)(d:Int)(r:lb)(p:de):dw n (.sl .str) (nB l m d r p).1:=by unfold nB;cases !dg r|| !dh p with|true=>exact z|false=>exact LG hn _ _ _ _ _ z
theorem U3 (l:ax aC)(m:bW)(d:Int)(r:lb)(p:de):(nB l m d r p).1.length=m.length:=by unfold nB;cases !dg r|| !dh p with|true=>rfl|false=>exact(FA ..).1
theorem Dz (l:ax aC)(m:bW)(d:Int)(r:lb)(p:de):(nB l m d r p).2.2.1.2.2.2.length<=p.2.2.2.length:=by unfold nB;cases !dg r|| !dh p with|true=>exact aR _|false=>show(p.2.2.2.drop _).length<=_;rw[aO];omega
theorem Ri (l:ax aC)(m:bW)(d:Int):∀(k:Nat)(s:ax Stream×bF×de),(iM l m d k s).2.2.1.2.2.2=s.2.1.2.2.2/\(iM l m d k s).1<=k
 |0,s=>⟨rfl,aR _⟩
 |k+1,s=>by rw[iM];cases (kY l m d s.2.1.2.2.1).2.2 with|false=>exact⟨rfl,bX _⟩|true=>have:=Ri l m d k (wP l m d s);simp only[aj,af];exact⟨this.1,by omega⟩
theorem Mr (hn:128<=n){rx:bF}{pl:de}{st:ax Stream}(c:Int)(zm:dw n (.sl .str) m)(zr:dw n ef rx)(zp:dw n jo pl)(zs:dw n (.sl eG) st): dw n (.sl .str) (hZ l m d rx pl st c).1/\dw n ef (hZ l m d rx pl st c).2.1/\dw (n+322000) jo (hZ l m d rx pl st c).2.2.1/\dw (n+322000) (.sl eG) (hZ l m d rx pl st c).2.2.2.1/\0<=(hZ l m d rx pl st c).2.2.2.2/\(hZ l m d rx pl st c).2.2.2.2<=1000:=by
 unfold hZ;cases hc: !Bl rx||(!dh pl|| !dp c 0 1000)with
 |true=>exact⟨zm,zr,zp.mono,zs.mono,eo _,by show(0:Int)<=1000;omega⟩
 |false=>
  have hi:dp c 0 1000=true:=by cases h:dp c 0 1000 with|true=>rfl|false=>rw[h]at hc;simp at hc
  have h:=aX.1 hi;have z:=J4 (l:=l) (m:=m) (d:=d) c.toNat (s:=(st,rx,pl)) (n:=n) ⟨zs,zp.2.2.2.1⟩;have hx:=Ri l m d c.toNat (st,rx,pl);refine⟨LH hn zm ..,⟨?_,?_,?_,?_⟩,⟨cC,cC,cC,?_,λ_ _=>trivial⟩,z.st.mono,by show(0:Int)<=((iM l m d c.toNat (st,rx,pl)).1:Int);omega,by show((iM l m d c.toNat (st,rx,pl)).1:Int)<=1000;omega⟩;exact⟨cC,cC,cC,cC⟩;exact⟨cC,cC,cC⟩;exact⟨cC,cC,cC⟩;have e:=congrArg (λq=>dw n ef (rx.1,rx.2.1,rx.2.2.1,q)) hx.1;exact(e.mpr zr).2.2.2;have:=Dz l m d (iM l m d c.toNat (st,rx,pl)).2.2.1.1 (iM l m d c.toNat (st,rx,pl)).2.2.2;have h2:=z.pl;show(nB l m d (iM l m d c.toNat (st,rx,pl)).2.2.1.1 (iM l m d c.toNat (st,rx,pl)).2.2.2).2.2.1.2.2.2.length<=_;omega
theorem TO (hn:128<=n)(i:Nat)(c:Int)(z:dw n dY h):dw (n+322000) dY (uF h i c).2:=by
 unfold uF;cases h1:h.2.2.2.1[i]? with|none=>exact z.mono|some rx=>?_
 cases h2:h.2.2.2.2.1[i]? with|none=>exact z.mono|some pl=>?_
 have zr:=z.2.2.2.1.2 _ (aW h1);have zp:=z.2.2.2.2.1.2 _ (aW h2);have hp:=Mr hn (l:=h.2.1) (d:=0) c z.1 zr zp z.2.2.2.2.2.2.2.2.2.1;have z':dw (n+322000) dY h:=z.mono;exact⟨hp.1.mono,z'.2.1,z'.2.2.1,ox z'.2.2.2.1 (hp.2.1.mono),ox z'.2.2.2.2.1 hp.2.2.1,z'.2.2.2.2.2.1,z'.2.2.2.2.2.2.1,z'.2.2.2.2.2.2.2.1,z'.2.2.2.2.2.2.2.2.1,hp.2.2.2.1,z'.2.2.2.2.2.2.2.2.2.2⟩
def bn (l:ax aC)(m:bW)(d:Int)(r:lb):Bytes×lb×Bool:=
 bif !dg r||(bI r==0) then([],r,false) else
 bif !(oo l m d (ku r r.2.2.1) 16).2 then([],r,false) else
 ((oo l m d (ku r r.2.2.1) 16).1,(r.1,r.2.1,Int.tmod (r.2.2.1+1) (2*r.2.1),r.2.2.2),true)
theorem EB (l:ax aC)(m:bW)(d:Int)(r:lb)(hl:l.length<=1000000000)(hm:m.length<=1000000000):rG l m d r=some (bn l m d r):=by
 have hA:=B0 r r.2.2.1;unfold rG bn;simp only[vT,xY,ab,L1,yC l m d _ 16 hl hm (show ku r r.2.2.1<=9223372036854775807 by omega)];cases hb:dg r with|false=>rfl|true=>?_
 have h:=kV hb;cases bI r==0 with|true=>rfl|false=>?_
 simp only[aj,af,ab,bQ];cases (oo l m d (ku r r.2.2.1) 16).2 with|false=>rfl|true=>?_
 simp only[aj,af];rw[ak (n:=2*r.2.1),jR,ak (n:=r.2.2.1+1)]
theorem Dl (l:ax aC)(m:bW)(d:Int)(r:lb):(bn l m d r).1.length<=100000000:=by
 unfold bn;cases !dg r||(bI r==0)with|true=>exact bX _|false=>?_
 cases (oo l m d (ku r r.2.2.1) 16).2 with|false=>exact bX _|true=>exact IS ..
theorem B9 (h:(bn l m d r).2.2=true): dg (bn l m d r).2.1=true/\bI (bn l m d r).2.1=bI r-1/\(bn l m d r).2.1.1=r.1/\(bn l m d r).2.1.2.1=r.2.1/\(bn l m d r).2.1.2.2.2=r.2.2.2:=by
 unfold bn at h⊢;cases hb:dg r with|false=>rw[hb]at h;cases h|true=>?_
 cases hu:bI r==0 with|true=>rw[hb,hu]at h;cases h|false=>?_
 cases hd:(oo l m d (ku r r.2.2.1) 16).2 with|false=>rw[hb,hu,hd]at h;cases h|true=>?_
 simp only[aj,bQ,af];have hr:=kV hb;have hq:=hb;simp only[dg,ae,aD]at hq;have h1:=hq.2.2.2.2;have hs:=hq.2.1;have hu':bI r≠0:=by simpa using hu
 have e:Int.tmod (r.2.2.1+1) (2*r.2.1)=(r.2.2.1+1)%(2*r.2.1):=dB (by omega);rw[e];unfold bI at h1 hu'⊢;simp only[hs,bU]at h1 hu'⊢;have key:(r.2.2.2-(r.2.2.1+1)%(2*r.2.1))%(2*r.2.1)=(r.2.2.2-r.2.2.1)%(2*r.2.1)-1/\0<=(r.2.2.1+1)%(2*r.2.1)/\(r.2.2.1+1)%(2*r.2.1)<=2*r.2.1-1:=by rcases hr.2.2.1 with hn|hn|hn|hn<;>rw[hn]at h1 hu' hr⊢<;>omega
 refine⟨?_,key.1,cC,cC,cC⟩;simp only[dg,bI,hs,bU,ae,aD,aX];refine⟨by omega,cC,by omega,by omega,?_⟩;rw[key.1];omega
theorem wj (h:dg r=true):0<=bI r/\bI r<=16:=by have hr:=kV h;have hq:=h;simp only[dg,ae,aD]at hq;refine⟨?_,by have:=hq.2.2.2.2;omega⟩;unfold bI;rw[hq.2.1,aH rfl];exact fy _ (by omega)
def Gz:AQ:=(0,0,0,0,0,0)
def zX (s:Bytes):AQ:=((bR s 0:Int),(bR s 1:Int),cw s 2,fZ s 4,cw s 8,cw s 10)
def cB (s:Bytes):AQ×Bool:=
 bif ((s.length:Int) !=16) then(Gz,false) else bif !(jj (zX s)==s) then(Gz,false) else(zX s,true)
theorem Qe (s:Bytes)(h:s.length<=1000000000):oq s=some (cB s):=by
 unfold oq cB;cases hn:(s.length:Int) !=16 with|true=>rfl|false=>?_
 have hl:s.length=16:=by
  have:((s.length:Int)==16)=true:=by simpa using hn
  have:=bu this;omega
 have b0:=mu (s[0]'(by omega));have b1:=mu (s[1]'(by omega));have i0:idx s 0=some (s[0]'(by omega)):=bK (i:=0) (by omega);have i1:idx s 1=some (s[1]'(by omega)):=bK (i:=1) (by omega);have e:(((s[0]'(by omega)).toNat:Int),((s[1]'(by omega)).toNat:Int),cw s 2,fZ s 4,cw s 8,cw s 10)=zX s:=by simp only[zX,bR,cS (show 0<s.length by omega),cS (show 1<s.length by omega)]
 simp only[af,i0,i1,ab,uC s _ h,xG s _ h];rw[ix (n:=(s[0]'(by omega)).toNat),ix (n:=(s[1]'(by omega)).toNat),e,N4,ab];cases jj (zX s)==s<;>rfl
theorem SI (h:(cB s).2=true):nA (cB s).1=true:=by
 unfold cB at h⊢;cases hn:(s.length:Int) !=16 with|true=>rw[hn]at h;cases h|false=>?_
 cases he:jj (zX s)==s with|false=>rw[hn,he]at h;cases h|true=>?_
 simp only[af,aj];cases hd:nA (zX s)with
 |true=>rfl
 |false=>
  have:jj (zX s)=[]:=by unfold jj;rw[hd];rfl
  rw[this]at he;cases s with|nil=>simp at hn|cons x y=>cases he
def CP (x:AQ):Bool:=bif x.1==1 then(aq (BitVec.toNat (gN x.2.1&&&gN 1))) !=0 else false
def pK (l:ax aC)(m:bW)(d:Int):Nat->ax AQ->lb->ax AQ×lb×Bool
 |0,acc,r=>(acc,r,true)
 |n+1,acc,r=>
  bif !(bn l m d r).2.2|| !(cB (bn l m d r).1).2 then([],(r.1,r.2.1,r.2.2.2,r.2.2.2),false) else
  bif CP (cB (bn l m d r).1).1 then(acc++[(cB (bn l m d r).1).1],(bn l m d r).2.1,true) else
  pK l m d n (acc++[(cB (bn l m d r).1).1]) (bn l m d r).2.1
def cQ (l:ax aC)(m:bW)(d:Int)(r:lb):ax AQ×lb×Bool:=
 bif !dg r||(bI r==0) then([],r,false) else pK l m d (bI r).toNat [] r
theorem C1 {R:Type}(k0:ax AQ->lb->aB R)(k1:ax AQ->Bool->ax AQ->lb->lb->aB R)(K:ax AQ×lb×Bool->aB R)
 (h0:∀a r,k0 a r=K (a,r,true)) (l:ax aC) (m:bW) (d:Int) (B E:lb) (h1:∀a r,k1 [] false a r E=K ([],E,false)) (hl:l.length<=1000000000) (hm:m.length<=1000000000):∀(n:Nat)(acc:ax AQ)(r:lb)(f:Nat),
 n<f->dg r=true->(bI r).toNat=n->acc.length+n<=1000->E=(r.1,r.2.1,r.2.2.2,r.2.2.2)->bm (lG k0 k1 l d ([]:ax AQ) false m B E) f (acc,r)=K (pK l m d n acc r)
 |n,acc,r,0,hf,_,_,_,_=>by omega
 |0,acc,r,f+1,hf,hb,hu,ha,hE=>by rw[bm];simp only[lG,xY,ab];rw[jJ,af,h0];rfl
 |n+1,acc,r,f+1,hf,hb,hu,ha,hE=>by
  have hlen:=Dl l m d r;have hk:=B9 (l:=l) (m:=m) (d:=d) (r:=r);rw[bm];simp only[lG,xY,ab];rw[lT,ah,EB l m d r hl hm,ab,pK];generalize bn l m d r=t at hlen hk⊢;cases ht:t.2.2 with
  |false=>simp only[cd,ah,iT,<-hE,h1]
  |true=>
   have hk:=hk ht;simp only[aj,af,cz];rw[Qe _ (show t.1.length<=1000000000 by omega),ab];generalize cB t.1=x;cases x.2 with
   |false=>simp only[cd,ah,<-hE,h1]
   |true=>
    simp only[aj,af];rw[aZ (by rw[br];omega)];have e:(aa (cond (x.1.1==1) (some ((aq (BitVec.toNat (gN x.1.2.1&&&gN 1))) !=0)) (some false)):(Bool->aB R)->aB R)=λK=>K (CP x.1):=by funext K;unfold CP;cases x.1.1==1<;>rfl
    rw[e];cases CP x.1 with|true=>simp only[ah,h0]|false=>simp only[af];exact C1 k0 k1 K h0 l m d B E h1 hl hm n _ _ f (by omega) hk.1 (by omega) (by simp;omega) (by rw[hE,hk.2.2.1,hk.2.2.2.1,hk.2.2.2.2])
theorem KZ (l:ax aC)(m:bW)(d:Int)(r:lb)(hl:l.length<=1000000000)(hm:m.length<=1000000000):tG l m d r=some (cQ l m d r):=by
 have hfu:=eO;unfold tG cQ;simp only[vT,xY,ab];cases hb:dg r with|false=>rfl|true=>?_
 cases bI r==0 with|true=>rfl|false=>?_
 have hu:=wj hb;simp only[aj,af,ab,bQ];exact C1 _ _ (λx=>some x) (λ_ _=>rfl) l m d _ _ (λ_ _=>rfl) hl hm _ [] r fuel (by omega) hb rfl (by simp;omega) rfl
def yf (x:Int×Int):Bool:=decide (x.1<0)|| !dp x.2 0 4096
def mF (l:ax (Int×Int)):Bool:= !l.any yf&&decide ((l.length:Int)<=16)
theorem TN (l:ax (Int×Int)):(bif l.any yf then some false else some (decide ((l.length:Int)<=16)))=some (mF l):=by unfold mF;cases l.any yf<;>rfl
theorem Ju (l:ax (Int×Int))(h:l.length<=1000000000):rE l=some (mF l):=by
 unfold rE;rw[<-TN];refine H4 yf l (by omega) (λi hi nx=>?_) (λnx=>?_);simp only[qx];rw[lT,ah,bK hi,ab,di,ak];unfold yf;cases decide (l[i].1<0)with|true=>rfl|false=>simp only[af,ab,cz];rfl
 simp only[qx];rw[jJ,af]
theorem F6 {l:ax (Int×Int)}(h:mF l=true):l.length<=16/\∀x∈l,0<=x.1/\0<=x.2/\x.2<=4096:=by unfold mF at h;simp only[ae,aD,aL]at h;refine⟨by omega,λx hx=>?_⟩;have:=List.any_eq_false.1 h.1 x hx;unfold yf at this;simp only[cG,aD,aL,not_or,Bool.not_eq_false,aX]at this;omega
def dsc (n:Nat)(c:Int)(i:Nat)(x:Int×Int):AQ:=(1,(if i+1=n then 1 else 0),x.2,x.1,0,c)
def mN (ps:ax (Int×Int))(c:Int):Nat->ax AQ
 |0=>[]
 |i+1=>mN ps c i++[dsc ps.length c i (ps.getD i (0,0))]
theorem zv (ps:ax (Int×Int))(c:Int):∀i,(mN ps c i).length=i
 |0=>rfl
 |i+1=>by rw[mN,ai,zv ps c i];rfl
theorem Fw (ps:ax (Int×Int))(c:Int)(q:AQ->Bool):∀i,(mN ps c i).all q=(List.range i).all (λj=>q (dsc ps.length c j (ps.getD j (0,0))))
 |0=>rfl
 |i+1=>by rw[mN,List.all_append,Fw ps c q i,List.range_succ,List.all_append];rfl
def ju (ps:ax (Int×Int))(z c:Int):ax AQ:=
 bif ((ps.length:Int)==0)||(!mF ps|| !dp z 1 128) then [] else
 bif ([(2,0,0,0,z,c)]++mN ps c ps.length).all nA then [(2,0,0,0,z,c)]++mN ps c ps.length else []
theorem Ah (ps:ax (Int×Int))(z c:Int)(h:ps.length<=1000000000:=by omega):∃b,iQ ps z c=some (b,ju ps z c)/\(b=false->ju ps z c=[]):=by
 unfold iQ ju;rw[Ju ps h,di];simp only[ab];cases ((ps.length:Int)==0)with|true=>exact⟨false,rfl,λ_=>rfl⟩|false=>?_
 cases mF ps with|false=>exact⟨false,rfl,λ_=>rfl⟩|true=>?_
 cases dp z 1 128 with|false=>exact⟨false,rfl,λ_=>rfl⟩|true=>?_
 simp only[aj,af,ab,bQ];refine⟨([(2,0,0,0,z,c)]++mN ps c ps.length).all nA,?_,λhb=>by rw[hb];rfl⟩;refine eV (λi=>(([(2,0,0,0,z,c)]++mN ps c i,(i:Int)):ax AQ×Int)) ps.length (by omega) (λi nx hi=>?_) (λnx=>?_);have hl:=zv ps c i;simp only[kh];rw[lT,ah,bK hi,ab,ak (n:=(ps.length:Int)-1),ak];have e:[(2,0,0,0,z,c)]++mN ps c (i+1)=([(2,0,0,0,z,c)]++mN ps c i)++[dsc ps.length c i ps[i]]:=by rw[mN,cS hi,aN]
 rw[e];unfold dsc;by_cases hc:i+1=ps.length;rw[show((i:Int)==(ps.length:Int)-1)=true from by rw[bq];omega,aH hc];simp only[ah];rw[aZ (by simp only[ai,br];omega)];rfl;rw[show((i:Int)==(ps.length:Int)-1)=false from by rw[bT];omega,aI hc];simp only[af];rw[aZ (by simp only[ai,br];omega)];rfl;simp only[kh];rw[jJ,af];have hl:=zv ps c ps.length;generalize hq:[(2,0,0,0,z,c)]++mN ps c ps.length=q;have hn:q.length<=1000000001:=by rw[<-hq];simp only[ai,br];omega
 rw[oK (fin:=some (true,q)) (hit:=some (false,[])) nA q (by omega) (λi hi nx=>?_) (λnx=>?_)];cases q.all nA<;>rfl;simp only[jF];rw[lT,ah,bK hi,ab,Qf,ab,ak];rfl;simp only[jF];rw[jJ,af]
def Kg (x y:AQ):Bool:=(x.1==y.1)&&((x.2.1==y.2.1)&&((x.2.2.1==y.2.2.1)&&((x.2.2.2.1==y.2.2.2.1)&&((x.2.2.2.2.1==y.2.2.2.2.1)&&((x.2.2.2.2.2==y.2.2.2.2.2)&&true)))))
def Gf (a b:ax AQ):Bool:=((a.length:Int)==(b.length:Int))&&(List.range a.length).all λi=>Kg (a.getD i Gz) (b.getD i Gz)
def kN (l:ax AQ):ax (Int×Int):=(l.drop 1).map λx=>(x.2.2.2.1,x.2.2.1)
def fe (l:ax AQ):ax (Int×Int)×Int×Int×Bool:=
 match l with
 |h::x::r=>bif Gf (ju (kN l) h.2.2.2.2.1 h.2.2.2.2.2) l then(kN l,h.2.2.2.2.1,h.2.2.2.2.2,true) else([],0,0,false)
 |_=>([],0,0,false)
theorem V8 (ps:ax (Int×Int))(z c:Int):(ju ps z c).length<=ps.length+1:=by
 unfold ju;cases ((ps.length:Int)==0)||(!mF ps|| !dp z 1 128)with|true=>simp|false=>?_
 cases ([(2,0,0,0,z,c)]++mN ps c ps.length).all nA with|false=>simp|true=>simp only[af,ah,ai,br,zv];omega
theorem N7 (l:ax AQ)(hl:l.length<=1000000000):nM l=some (fe l):=by
 unfold nM;match l,hl with
 |[],_=>rfl
 |[h],_=>rfl
 |h::y::r,hl=>
  generalize hq:y::r=q;have hq1:1<=q.length:=by rw[<-hq];simp
  have hlen:q.length+1<=1000000000:=by rw[<-hq];simpa using hl
  have i0:idx (h::q) 0=some h:=rfl;have s0:sub (h::q) 1 (((h::q).length:Nat):Int)=some q:=uw (l:=h::q) 1 (by simp) (a:=1) rfl;rw[ar (by simp only[bc];omega),af,s0,ab];refine eV (λi=>(((q.take i).map (λx=>(x.2.2.2.1,x.2.2.1)),(i:Int)):ax (Int×Int)×Int)) q.length (by omega) (λi nx hi=>?_) (λnx=>?_);simp only[kS];rw[lT,ah,bK hi,ab,aZ (by simp only[cI,aS,br];omega),ak,cb hi,cY];rfl;simp only[kS];rw[jJ,af,eS];have hp:q.map (λx=>(x.2.2.2.1,x.2.2.1))=kN (h::q):=rfl;have hpl:(kN (h::q)).length=q.length:=by rw[<-hp,cI]
  rw[hp];have hdl:=V8 (kN (h::q)) h.2.2.2.2.1 h.2.2.2.2.2;obtain⟨b,hd,hb⟩:=Ah (kN (h::q)) h.2.2.2.2.1 h.2.2.2.2.2;have hR:fe (h::q)=bif Gf (ju (kN (h::q)) h.2.2.2.2.1 h.2.2.2.2.2) (h::q) then(kN (h::q),h.2.2.2.2.1,h.2.2.2.2.2,true) else([],0,0,false):=by rw[<-hq];rfl
  rw[hR];simp only[i0,ab,hd];have hlc:(((h::q).length:Nat):Int)=(q.length:Int)+1:=by simp only[bc];omega
  generalize ju (kN (h::q)) h.2.2.2.2.1 h.2.2.2.2.2=w at hdl hb⊢
  have core:∀(K:aB (ax (Int×Int)×Int×Int×Bool))(w':ax AQ),w'=w->(bif ((w'.length:Nat):Int) !=(((h::q).length:Nat):Int) then some (([]:ax (Int×Int)),(0:Int),(0:Int),false) else
   bm (gR (λy10=>some (kN (h::q),h.2.2.2.2.1,h.2.2.2.2.2,true)) (λy11 y12 y13 y14 y15=>some (y11,y12,y13,y14)) (h::q) (kN (h::q)) h.2.2.2.2.1 h.2.2.2.2.2 w' ((w'.length:Nat):Int)) fuel 0)=some (bif Gf w (h::q) then(kN (h::q),h.2.2.2.2.1,h.2.2.2.2.2,true) else([],0,0,false)):=by
   intro K w' e
   subst e
   unfold Gf
   cases hl:((w'.length:Int)==(((h::q).length:Nat):Int))with
   |false=>simp only[bne,hl,cd,ah,fi,af]
   |true=>
    have hn:w'.length=(h::q).length:=by have:=bu hl;omega
    simp only[bne,hl,aj,af,bB]
    rw[ql (fin:=some (kN (h::q),h.2.2.2.2.1,h.2.2.2.2.2,true)) (hit:=some ([],0,0,false)) (λi=>Kg (w'.getD i Gz) ((h::q).getD i Gz)) w'.length (by omega) (λi nx hi=>?_) (λnx=>?_)]
    ·cases (List.range w'.length).all (λi=>Kg (w'.getD i Gz) ((h::q).getD i Gz))<;>rfl
    ·have hi2:i<(h::q).length:=by omega
     simp only[gR]
     rw[lT,ah,bK hi,bK hi2,ab,ab,ak,cS hi,cS hi2];rfl
    ·simp only[gR]
     rw[jJ,af]
  cases b with|true=>exact core none w rfl|false=>exact core none [] (hb rfl).symm
theorem Rh {l:ax AQ}(h:(fe l).2.2.2=true):mF (fe l).1=true/\∀p∈(fe l).1,p.1<=4294967295:=by match l,h with|hd::x::r,h=>unfold fe at h⊢;simp only at h⊢;cases hs:Gf (ju (kN (hd::x::r)) hd.2.2.2.2.1 hd.2.2.2.2.2) (hd::x::r)with|false=>rw[hs]at h;cases h|true=>simp only[ah];generalize hw:kN (hd::x::r)=ps at hs⊢;unfold Gf at hs;simp only[ae]at hs;have hn:=bu hs.1;unfold ju at hn;cases hc:((ps.length:Int)==0)||(!mF ps|| !dp hd.2.2.2.2.1 1 128)with|true=>rw[hc]at hn;simp at hn;omega|false=>rw[hc]at hn;cases ha:([(2,0,0,0,hd.2.2.2.2.1,hd.2.2.2.2.2)]++mN ps hd.2.2.2.2.2 ps.length).all nA with|false=>rw[ha]at hn;simp at hn;omega|true=>simp only[cj,dN]at hc;refine⟨hc.2.1,λp hp=>?_⟩;rw[List.all_append,Fw,ae]at ha;obtain⟨i,hi,rfl⟩:=fN hp;have:=aJ.1 ha.2 i (cp.2 hi);rw[cS hi]at this;simp only[nA,dsc,ae,aX]at this;omega
theorem Fx (l:ax aC)(m:bW)(d a n:Int):(oo l m d a n).1.length<=33554432:=by have hL:=Ge l m d a n false;have h1:=tU m (jZ l m d a n false).1;unfold oo;cases (jZ l m d a n false).2 with|false=>simp|true=>simp only[ah];omega
def Ad (l:ax aC)(m:bW)(d:Int):ax (Int×Int)->Bytes->Bytes×Bool
 |[],acc=>(acc,true)
 |p::ps,acc=>bif (oo l m d p.1 p.2).2 then Ad l m d ps (acc++(oo l m d p.1 p.2).1) else([],false)
def kg (l:ax aC)(m:bW)(d:Int)(ps:ax (Int×Int)):Bytes×Bool:=bif mF ps then Ad l m d ps [] else([],false)
def Ej (l:ax aC)(m:bW)(d:Int)(p:Int×Int)(s:Bytes):Except (aB (Bytes×Bool)) Bytes:=
 if(oo l m d p.1 p.2).2=true then .ok (s++(oo l m d p.1 p.2).1) else .error (some ([],false))
theorem Jc (l:ax aC)(m:bW)(d:Int):∀(ps:ax (Int×Int))(s:Bytes),Ox (Ej l m d) (λs=>some (s,true)) ps s=some (Ad l m d ps s)
 |[],s=>rfl
 |p::ps,s=>by rw[Ox,Ad];unfold Ej;cases hd:(oo l m d p.1 p.2).2 with|false=>rfl|true=>rw[aH rfl];exact Jc l m d ps _
theorem GF (l:ax aC)(m:bW)(d:Int):∀(ps:ax (Int×Int))(s:Bytes),(Ad l m d ps s).1.length<=s.length+33554432*ps.length
 |[],s=>by simp[Ad]
 |p::ps,s=>by have h1:=Fx l m d p.1 p.2;rw[Ad];cases (oo l m d p.1 p.2).2 with|false=>simp|true=>have:=GF l m d ps (s++(oo l m d p.1 p.2).1);rw[ai]at this;simp only[ah,bc,Nat.mul_add];omega
theorem PY (l:ax aC)(m:bW)(d:Int)(ps:ax (Int×Int)):(kg l m d ps).1.length<=1000000000:=by unfold kg;cases hp:mF ps with|false=>simp|true=>have:=(F6 hp).1;have:=GF l m d ps [];simp only[eD]at this;simp only[ah];omega
theorem S3 (l:ax aC)(m:bW)(d:Int)(ps:ax (Int×Int))(hl:l.length<=1000000000)(hm:m.length<=1000000000)(hn:ps.length<=1000000000)(ha:∀p∈ps,p.1<=9223372036854775807):ph l m d ps=some (kg l m d ps):=by
 unfold ph kg;rw[Ju ps hn,ab];cases hp:mF ps with|false=>rfl|true=>?_
 have h16:=(F6 hp).1;simp only[aj,af,ah];rw[<-Jc];refine EZ ps (λs i=>(s,(i:Int))) (λi s=>s.length<=33554432*i) (Ej l m d) _ (by omega) (λi hi s nx hI=>?_) (λi hi s s' hI he=>?_) (λs nx hI=>?_) [] (by simp);have h1:=Fx l m d ps[i].1 ps[i].2;simp only[lD];rw[lT,ah,bK hi,ab,yC l m d _ _ hl hm (ha _ (bz hi)),ab];unfold Ej;cases hd:(oo l m d ps[i].1 ps[i].2).2 with|false=>rfl|true=>rw[aH rfl,aZ,ak];rfl
 have h1:=Fx l m d ps[i].1 ps[i].2;unfold Ej at he;split at he;injection he with he;rw[<-he,ai];omega;cases he;simp only[lD];rw[jJ,af]
def yn (t:Bytes):Int:=cw t ((dE t+2:Nat):Int)
def Lj (t:Bytes):Int:=Lu ((t.take (dE t+20)).drop (dE t))
def TZ (t:Bytes):Bytes:=(t.take (dE t+(yn t).toNat)).drop (dE t+20)
def ab8 (t:Bytes):Bytes:=uG (fZ t ((dE t+12:Nat):Int)) (fZ t ((dE t+16:Nat):Int)) (kt t:Int) (yn t-20)
def Gp (t:Bytes):Int:=bif ((kt t:Int)==17)&&(Lu (ab8 t++TZ t)==0) then 65535 else Lu (ab8 t++TZ t)
def U4 (t s:Bytes):Bytes×Bool:=bif ((jG s).2==0)&&((jQ (jG s).1).1==t) then dj (jG s).1 else([],false)
def uy (t:Bytes):Bytes×Bool:=U4 t (lL t (bV (Lj t)) (bV (Gp t)))
theorem HO {t:Bytes}(h:¬(TOk t/\cw t (za t:Int)=0/\cw t (xy t:Int)=0)):uy t=([],false):=by
 have ha:AU (lL t (bV (Lj t)) (bV (Gp t))) t:=Dd t (bL _) (bL _);unfold uy U4;generalize lL t (bV (Lj t)) (bV (Gp t))=s at ha⊢;cases h1:(jG s).2==0 with|false=>rfl|true=>?_
 have h1':(jG s).2=0:=by simpa using h1
 cases h2:(jQ (jG s).1).1==t with|false=>rfl|true=>?_
 have h2':(jQ (jG s).1).1=t:=eq_of_beq h2;have ht:=ahB ha h1';exact absurd ⟨ht,Yg h2' (Ka h1').2.2.1 ht⟩ h
theorem Fe (t:Bytes)(o n:Nat):(t.drop o).take n=(t.take (o+n)).drop o:=by rw[List.drop_take];congr 1;omega
theorem Rk {t:Bytes}(h1:dE t+20<=t.length)(h2:20<=yn t)(h3:yn t<=(t.length:Int))(h4:t.length<=1000000000):xd (fZ t ((dE t+12:Nat):Int)) (fZ t ((dE t+16:Nat):Int)) (kt t:Int) (yn t-20)=true:=by have a1:=zB (s:=t) (a:=((dE t+12:Nat):Int));have a2:=zB (s:=t) (a:=((dE t+16:Nat):Int));have a3:=fb t (dE t+9);have a4:=BD (s:=t) (a:=((dE t+2:Nat):Int));unfold xd;rw[aX.2 a1,aX.2 a2,aX.2 (show 0<=(kt t:Int)/\(kt t:Int)<=255 by unfold kt;omega),aX.2 (show 0<=yn t-20/\yn t-20<=65535 by unfold yn at*;omega)];rfl
theorem Ww (t:Bytes)(hl:t.length<=1000000000):vf t=some (uy t):=by
 have hp:=yg t
 have hk:=E8 (kt t)
 have hkb:kt t<256:=fb t (dE t+9)
 have hel:=Aw t
 unfold vf
 rw[Eu t hl,ab,uC _ _ (by omega),ab]
 cases h1:(gi t).2 with
 |false=>rw[HO λh=>by have:=h.1.eth;rw[h1]at this;cases this];rfl
 |true=>
 have he:=F5 h1
 rw[he.1]
 simp only[aj,af,ab]
 have en:cw (t.drop (dE t)) 2=yn t:=Jd (a:=2)
 rw[en]
 by_cases h4:yn t<20
 ·rw[au h4,HO λh=>by have:=h.1.n1;unfold yn at h4;omega];rfl
 rw[ar h4]
 simp only[af,ab]
 by_cases h5:yn t>((t.drop (dE t)).length:Int)
 ·rw[au h5,HO λh=>by have:=h.1.n2;unfold yn at h5;rw[aO]at h5;omega];rfl
 rw[ar h5]
 rw[aO]at h5
 have hdl:(t.drop (dE t)).length=t.length-dE t:=aO ..
 obtain⟨n,hn⟩:=aG (show 0<=yn t by omega)
 obtain⟨x,hx,ex⟩:=lz (s:=t.drop (dE t)) (i:=9)
 have hx9:idx (t.drop (dE t)) 9=some x:=hx
 have s1:sub (t.drop (dE t)) 0 20=some ((t.take (dE t+20)).drop (dE t)):=by rw[xx,<-Fe];rfl
 have s2:sub (t.drop (dE t)) 20 (yn t)=some (TZ t):=by rw[OO (l:=t.drop (dE t)) 20 (a:=20) rfl,hn,ay,Fe,fj];unfold TZ;rw[hn];rfl
 have hps:=F8 (fZ t ((dE t+12:Nat):Int)) (fZ t ((dE t+16:Nat):Int)) (kt t:Int) (yn t-20)
 have hseg:((TZ t).length:Int)=yn t-20:=by unfold TZ;rw[aO,aS,hn];omega
 have hk2:aq ((UInt8.toNat x:Int))=(kt t:Int):=by rw[ex,lp,ix (show bR t (dE t+9)<9223372036854775808 by unfold kt at hkb;omega)];rfl
 have g12:fZ (t.drop (dE t)) 12=fZ t ((dE t+12:Nat):Int):=Je (a:=12)
 have g16:fZ (t.drop (dE t)) 16=fZ t ((dE t+16:Nat):Int):=Je (a:=16)
 have hw:aq ((Ks (kt t):Int)+2)=(Ks (kt t):Int)+2:=by rw[ak]
 simp only[af,ab,EA t hl,s1,s2,hx9,xG _ _ (show(t.drop (dE t)).length<=1000000000 by omega),hk2,Jv,hseg,g12,g16,Rk (show dE t+20<=t.length by omega) (show 20<=yn t by omega) (show yn t<=(t.length:Int) by omega) hl,ah,aj,FI _ hkb,hw]
 rw[show uG (fZ t ((dE t+12:Nat):Int)) (fZ t ((dE t+16:Nat):Int)) (kt t:Int) (yn t-20)=ab8 t from rfl]at hps⊢
 by_cases h6:(Ks (kt t):Int)+2>yn t-20
 ·rw[au h6,HO λh=>by have:=h.1.n1;unfold yn at h6;omega];rfl
 rw[ar h6]
 simp only[af]
 have hck:((t.take (dE t+20)).drop (dE t)).length<=1000000000:=by rw[aO,aS];omega
 rw[aZ,HQ _ (by rw[ai];omega),ab]
 have hfin:∀y:Int,Gp t=y->(aa (jk ((t.take (dE t+20)).drop (dE t))) λr25=>aa (cn r25) λr26=>aa (gb t (za t:Int) r26) λr27=>aa (cn y) λr28=>aa (gb r27 (xy t:Int) r28) λr29=>aa (iK r29) λr30=>aa (lX r30.1) λr31=>
  aa (bif r30.2 !=0 then some true else bif !r31.2 then some true else some (!(r31.1==t))) λq32=>bif q32 then some (([]:Bytes),false) else aa (ic r30.1) λr33=>some r33)=some (uy t):=by
  intro y hy
  subst hy
  have b1:=bL (Lj t)
  have b2:=bL (Gp t)
  rw[HQ _ hck,ab,show Lu ((t.take (dE t+20)).drop (dE t))=Lj t from rfl]
  rw[kG,ab,Ak t _ _ hl,ab,kG,ab,Ak _ _ _ (by rw[wh];exact hl),ab]
  have hlen:=BS t (bV (Lj t)) (bV (Gp t))
  unfold uy
  rw[show uH (uH t (za t:Int) (bV (Lj t))) (xy t:Int) (bV (Gp t))=lL t (bV (Lj t)) (bV (Gp t)) from rfl]
  generalize lL t (bV (Lj t)) (bV (Gp t))=s at hlen⊢
  simp only[Cx s (by omega),ab,L4,Cw,U4,bne]
  cases h1:(jG s).2==0 with|false=>rfl|true=>?_
  have hsb:=(Ka (show(jG s).2=0 by simpa using h1)).2.2.1
  have h2:(jQ (jG s).1).2=true:=by unfold jQ;rw[hsb];rfl
  rw[h2]
  cases (jQ (jG s).1).1==t<;>rfl
 cases h8:(kt t:Int)==17 with
 |false=>exact hfin _ (by unfold Gp;rw[h8];rfl)
 |true=>
  simp only[ah,ab]
  cases h7:Lu (ab8 t++TZ t)==0 with
  |false=>exact hfin _ (by unfold Gp;rw[h7,eM];rfl)
  |true=>exact hfin _ (by unfold Gp;rw[h7,h8];rfl)
theorem Wd (t:Bytes):(uy t).1.length<=378:=by unfold uy U4;generalize lL t (bV (Lj t)) (bV (Gp t))=s;cases ((jG s).2==0)&&((jQ (jG s).1).1==t)with|false=>exact bX _|true=>exact uB _
theorem Ii (l:ax aC)(m:bW)(d:Int):∀(n:Nat)(acc:ax AQ)(r:lb),(pK l m d n acc r).1.length<=acc.length+n
 |0,acc,r=>aR _
 |n+1,acc,r=>by
  rw[pK];cases !(bn l m d r).2.2|| !(cB (bn l m d r).1).2 with|true=>exact bX _|false=>?_
  cases CP (cB (bn l m d r).1).1 with|true=>simp only[af,ah,ai,br];omega|false=>have:=Ii l m d n (acc++[(cB (bn l m d r).1).1]) (bn l m d r).2.1;simp only[ai,br]at this;simp only[af];omega
theorem TX (h:dg r=true):dg (r.1,r.2.1,r.2.2.2,r.2.2.2)=true/\bI (r.1,r.2.1,r.2.2.2,r.2.2.2)=0:=by
 have hr:=kV h;have hq:=h;simp only[dg,ae,aD]at hq;have hu:bI (r.1,r.2.1,r.2.2.2,r.2.2.2)=0:=by unfold bI;simp only[Int.sub_self,Int.zero_emod,ite_self]
 refine⟨?_,hu⟩;simp only[dg,ae,aD,aX,hu,hq.2.1,true_and];omega
theorem Gx (l:ax aC)(m:bW)(d:Int):∀(n:Nat)(acc:ax AQ)(r:lb),dg r=true->(bI r).toNat=n->
 dg (pK l m d n acc r).2.1=true/\bI (pK l m d n acc r).2.1<=bI r/\(0<bI r->bI (pK l m d n acc r).2.1<bI r)
 |0,acc,r,hb,hu=>⟨hb,eo _,λh=>by omega⟩
 |n+1,acc,r,hb,hu=>by have hk:=B9 (l:=l) (m:=m) (d:=d) (r:=r);have he:=TX hb;rw[pK];cases hc: !(bn l m d r).2.2|| !(cB (bn l m d r).1).2 with|true=>exact⟨he.1,by show bI (r.1,r.2.1,r.2.2.2,r.2.2.2)<=_;rw[he.2];omega,λ_=>by show bI (r.1,r.2.1,r.2.2.2,r.2.2.2)<_;rw[he.2];omega⟩|false=>simp only[cj,dN]at hc;have hk:=hk hc.1;cases CP (cB (bn l m d r).1).1 with|true=>exact⟨hk.1,by show bI (bn l m d r).2.1<=_;omega,λ_=>by show bI (bn l m d r).2.1<_;omega⟩|false=>have:=Gx l m d n (acc++[(cB (bn l m d r).1).1]) (bn l m d r).2.1 hk.1 (by omega);simp only[af];exact⟨this.1,by omega,λ_=>by omega⟩
def gH (l:ax aC)(m:bW)(d:Int)(r:lb):lb×bW×Int:=
 bif !dg r||(bI r==0) then(r,[],0) else
 bif !(cQ l m d r).2.2|| !(fe (cQ l m d r).1).2.2.2 then((cQ l m d r).2.1,[],2) else
 bif !(kg l m d (fe (cQ l m d r).1).1).2||(!(uy (kg l m d (fe (cQ l m d r).1).1).1).2||((jG (uy (kg l m d (fe (cQ l m d r).1).1).1).1).2 !=0)) then((cQ l m d r).2.1,[],2) else
 ((cQ l m d r).2.1,RF (jG (uy (kg l m d (fe (cQ l m d r).1).1).1).1).1 (fe (cQ l m d r).1).2.1,1)
theorem S7 (l:ax aC)(m:bW)(d:Int)(r:lb)(hl:l.length<=1000000000)(hm:m.length<=1000000000):pw l m d r=some (gH l m d r):=by
 unfold pw gH;simp only[vT,xY,ab,KZ l m d r hl hm];cases hb:dg r with|false=>rfl|true=>?_
 cases bI r==0 with|true=>rfl|false=>?_
 have hu:=wj hb;have hcl:(cQ l m d r).1.length<=16:=by unfold cQ;cases !dg r||(bI r==0)with|true=>exact bX _|false=>have:=Ii l m d (bI r).toNat [] r;simp only[eD]at this;show(pK l m d (bI r).toNat [] r).1.length<=16;omega
 simp only[aj,af,ab,bQ];generalize cQ l m d r=c at hcl⊢;cases c.2.2 with|false=>rfl|true=>?_
 simp only[aj,af,ab,cz,N7 c.1 (show c.1.length<=1000000000 by omega)];have hpo:=Rh (l:=c.1);generalize fe c.1=p at hpo⊢;cases hp:p.2.2.2 with|false=>rfl|true=>?_
 have hpo:=hpo hp;have h16:=(F6 hpo.1).1;have hg:=PY l m d p.1;simp only[aj,af,ab,cz,S3 l m d p.1 hl hm (show p.1.length<=1000000000 by omega) (λq hq=>Int.le_trans (hpo.2 q hq) (by omega))];generalize kg l m d p.1=g at hg⊢;cases g.2 with|false=>rfl|true=>?_
 have hf:=Wd g.1;simp only[aj,af,ab,cz,Ww g.1 hg];generalize uy g.1=f at hf⊢;cases f.2 with|false=>rfl|true=>?_
 simp only[aj,af,ab,cz,Cx f.1 (show f.1.length<=1000000000 by omega)];generalize jG f.1=i;cases i.2 !=0 with|true=>rfl|false=>?_
 simp only[af,Zz,ab]
theorem Mf (l:ax aC)(m:bW)(d:Int)(r:lb): ((gH l m d r).2.2=0->(gH l m d r).1=r)/\((gH l m d r).2.2≠0->0<bI r/\dg r=true/\dg (gH l m d r).1=true/\bI (gH l m d r).1<bI r)/\(gH l m d r).2.1.length<=320/\(∀x∈(gH l m d r).2.1,x.length<=382)/\((gH l m d r).2.2=0\/(gH l m d r).2.2=1\/(gH l m d r).2.2=2):=by
 unfold gH;cases hc: !dg r||(bI r==0)with
 |true=>exact⟨λ_=>rfl,λh=>absurd rfl h,bX _,(λx hx=>by cases hx),.inl rfl⟩
 |false=>
  simp only[cj,dN,bT]at hc;have hu:=wj hc.1;have hch:dg (cQ l m d r).2.1=true/\bI (cQ l m d r).2.1<bI r:=by have:=Gx l m d (bI r).toNat [] r hc.1 rfl;unfold cQ;rw[show(!dg r||(bI r==0))=false from by rw[hc.1];simpa using hc.2];exact⟨this.1,this.2.2 (by omega)⟩
  cases !(cQ l m d r).2.2|| !(fe (cQ l m d r).1).2.2.2 with|true=>exact⟨(λh=>by cases h),λ_=>⟨by omega,hc.1,hch⟩,bX _,(λx hx=>by cases hx),.inr (.inr rfl)⟩|false=>cases !(kg l m d (fe (cQ l m d r).1).1).2||(!(uy (kg l m d (fe (cQ l m d r).1).1).1).2||((jG (uy (kg l m d (fe (cQ l m d r).1).1).1).1).2 !=0))with|true=>exact⟨(λh=>by cases h),λ_=>⟨by omega,hc.1,hch⟩,bX _,(λx hx=>by cases hx),.inr (.inr rfl)⟩|false=>have hs:=XV (jG (uy (kg l m d (fe (cQ l m d r).1).1).1).1).1 (fe (cQ l m d r).1).2.1;exact⟨(λh=>by cases h),λ_=>⟨by omega,hc.1,hch⟩,hs.1,hs.2,.inr (.inl rfl)⟩
def mf (l:ax aC)(m:bW)(d:Int):Nat->bW->Nat->Nat->lb->lb×bW×Int×Int
 |0,fr,dn,bd,r=>(r,fr,(dn:Int),(bd:Int))
 |n+1,fr,dn,bd,r=>
  bif (gH l m d r).2.2==0 then(r,fr,(dn:Int),(bd:Int)) else
  bif (gH l m d r).2.2==1 then mf l m d n (fr++(gH l m d r).2.1) (dn+1) bd (gH l m d r).1 else
  mf l m d n (fr++(gH l m d r).2.1) dn (bd+1) (gH l m d r).1
def qi (l:ax aC)(m:bW)(d:Int)(r:lb):lb×bW×Int×Int:=mf l m d 17 [] 0 0 r
theorem DH (l:ax aC)(m:bW)(d:Int)(hl:l.length<=1000000000)(hm:m.length<=1000000000):∀(n:Nat)(fr:bW)(dn bd:Nat)(r:lb)(f:Nat),n<f->(dg r=true->bI r<n)->0<n->fr.length+320*n<=10000->dn+bd+n<=1000->
 bm (mz (λy2 y3 y4 _ _ _ _ y9=>some (y9,y2,y3,y4)) l d ([]:bW) 0 0 m (0,0,0,0)) f (fr,(dn:Int),(bd:Int),r)=some (mf l m d n fr dn bd r)
 |0,fr,dn,bd,r,f,_,_,h0,_,_=>by omega
 |n+1,fr,dn,bd,r,0,hf,_,_,_,_=>by omega
 |n+1,fr,dn,bd,r,f+1,hf,hr,_,hfr,hc=>by have ok:=Mf l m d r;rw[bm,mf];simp only[mz,S7 l m d r hl hm,ab];generalize gH l m d r=x at ok⊢;cases h0:x.2.2==0 with|true=>simp only[ah,ok.1 (by simpa using h0)]|false=>have hk:=ok.2.1 (by simpa using h0);have hu:=hr hk.2.1;have hu2:=(wj hk.2.2.1).1;simp only[af];cases x.2.2==1 with|true=>simp only[ah];rw[aZ,ak];exact DH l m d hl hm n _ (dn+1) bd _ f (by omega) (λ_=>by omega) (by omega) (by rw[ai];omega) (by omega)|false=>simp only[af];rw[aZ,ak];exact DH l m d hl hm n _ dn (bd+1) _ f (by omega) (λ_=>by omega) (by omega) (by rw[ai];omega) (by omega)
theorem WO (l:ax aC)(m:bW)(d:Int)(r:lb)(hl:l.length<=1000000000)(hm:m.length<=1000000000):qF l m d r=some (qi l m d r):=by have hfu:=eO;unfold qF;exact DH l m d hl hm 17 [] 0 0 r fuel (by omega) (λh=>by have:=(wj h).2;omega) (by omega) (by simp) (by omega)
theorem CI (l:ax aC)(m:bW)(d:Int):∀(n:Nat)(fr:bW)(dn bd:Nat)(r:lb),(∀x∈fr,x.length<=382)->
 (mf l m d n fr dn bd r).2.1.length<=fr.length+320*n/\(∀x∈(mf l m d n fr dn bd r).2.1,x.length<=382)/\0<=(mf l m d n fr dn bd r).2.2.1/\(mf l m d n fr dn bd r).2.2.1<=(dn+n:Nat)/\0<=(mf l m d n fr dn bd r).2.2.2/\(mf l m d n fr dn bd r).2.2.2<=(bd+n:Nat)
 |0,fr,dn,bd,r,h=>⟨aR _,h,by show(0:Int)<=(dn:Int);omega,by show(dn:Int)<=_;omega,by show(0:Int)<=(bd:Int);omega,by show(bd:Int)<=_;omega⟩
 |n+1,fr,dn,bd,r,h=>by
  have ok:=Mf l m d r;rw[mf];generalize gH l m d r=x at ok⊢;have h2:∀y∈fr++x.2.1,y.length<=382:=λy hy=>by rcases aw.1 hy with g|g;exact h y g;exact ok.2.2.2.1 y g
  cases x.2.2==0 with|true=>exact⟨by show fr.length<=_;omega,h,by show(0:Int)<=(dn:Int);omega,by show(dn:Int)<=_;omega,by show(0:Int)<=(bd:Int);omega,by show(bd:Int)<=_;omega⟩|false=>cases x.2.2==1 with|true=>have i:=CI l m d n (fr++x.2.1) (dn+1) bd x.1 h2;rw[ai]at i;simp only[af,ah];exact⟨by omega,i.2.1,i.2.2.1,by omega,i.2.2.2.2.1,by omega⟩|false=>have i:=CI l m d n (fr++x.2.1) dn (bd+1) x.1 h2;rw[ai]at i;simp only[af,ah];exact⟨by omega,i.2.1,i.2.2.1,by omega,i.2.2.2.2.1,by omega⟩
def zY (v:Vector):Bool:=bif decide (v.2.2.1>=1) then(bif decide (v.2.2.1>=v.1) then true else decide (v.2.2.2.1>=v.2.1)) else false
theorem acb (v:Vector):zG v=some (zY v):=by
 unfold zG zY;cases decide (v.2.2.1>=1)with|false=>rfl|true=>?_
 cases decide (v.2.2.1>=v.1)<;>rfl
theorem ac6 (v:Vector):sZ v=some (zY v):=by
 unfold sZ zY;cases decide (v.2.2.1>=1)with|false=>rfl|true=>?_
 cases decide (v.2.2.1>=v.1)<;>rfl
def re (v:Vector):Vector:=bif zY v&& !v.2.2.2.2.1 then(v.1,v.2.1,v.2.2.1,v.2.2.2.1,v.2.2.2.2.1,true) else v
theorem FF (v:Vector):nS v=some (re v):=by
 unfold nS re;rw[acb,ab];cases zY v with|false=>rfl|true=>?_
 cases v.2.2.2.2.1<;>rfl
def HY (n:Int):Int:=if 1000000<aq (n+1) then 1000000 else aq (n+1)
def evV (v:Vector):Vector:=bif dH v then re (v.1,v.2.1,HY v.2.2.1,v.2.2.2) else v
theorem Wr (v:Vector):uZ v=some (evV v):=by unfold uZ evV;rw[xZ,ab,FF,ab];cases dH v<;>rfl
def wq (v:Vector):Vector:=bif dH v then(bif decide (v.2.2.1>0) then re (v.1,v.2.1,v.2.2.1,HY v.2.2.2.1,v.2.2.2.2) else re v) else v
theorem WN (v:Vector):sj v=some (wq v):=by
 unfold sj wq;simp only[xZ,ab,FF];cases dH v with|false=>rfl|true=>?_
 cases decide (v.2.2.1>0)<;>rfl
def pF (v:Vector):Vector×Bool:=bif dH v&&v.2.2.2.2.2 then((v.1,v.2.1,0,0,true,false),true) else(v,false)
theorem WM (v:Vector):nR v=some (pF v):=by
 unfold nR pF;rw[xZ,ab];cases dH v with|false=>rfl|true=>?_
 cases v.2.2.2.2.2<;>rfl
def xA (v:Vector):Vector:=bif dH v then re (v.1,v.2.1,v.2.2.1,v.2.2.2.1,false,v.2.2.2.2.2) else v
theorem Jy (v:Vector):vV v=some (xA v):=by unfold vV xA;rw[xZ,ab,FF,ab];cases dH v<;>rfl
structure kX (k:Nat) (a b:Host):Prop where
 mem:b.1.length=a.1.length
 maps:b.2.1=a.2.1
 tx:b.2.2.1=a.2.2.1
 rx:b.2.2.2.1.length=a.2.2.2.1.length
 rxs:∀j,k<=j->b.2.2.2.1[j]?=a.2.2.2.1[j]?
 pl:b.2.2.2.2.1.length=a.2.2.2.2.1.length
 vec:b.2.2.2.2.2.1.length=a.2.2.2.2.2.1.length
 vecs:∀j,k<=j->b.2.2.2.2.2.1[j]?=a.2.2.2.2.2.1[j]?
 pol:b.2.2.2.2.2.2.1.length=a.2.2.2.2.2.2.1.length
 flt:b.2.2.2.2.2.2.2.1=a.2.2.2.2.2.2.2.1
 ste:b.2.2.2.2.2.2.2.2.1=a.2.2.2.2.2.2.2.2.1
theorem kX.refl (k:Nat)(a:Host):kX k a a:=⟨rfl,rfl,rfl,rfl,λ_ _=>rfl,rfl,rfl,λ_ _=>rfl,rfl,rfl,rfl⟩
theorem kX.trans {a b c:Host}(h:kX k a b)(g:kX k b c):kX k a c:=⟨g.mem.trans h.mem,g.maps.trans h.maps,g.tx.trans h.tx,g.rx.trans h.rx,λj hj=>(g.rxs j hj).trans (h.rxs j hj),g.pl.trans h.pl,g.vec.trans h.vec,λj hj=>(g.vecs j hj).trans (h.vecs j hj),g.pol.trans h.pol,g.flt.trans h.flt,g.ste.trans h.ste⟩
theorem kX.up {m:Nat}{a b:Host}(h:kX k a b)(hk:k<=m):kX m a b:=⟨h.mem,h.maps,h.tx,h.rx,λj hj=>h.rxs j (by omega),h.pl,h.vec,λj hj=>h.vecs j (by omega),h.pol,h.flt,h.ste⟩
def ik (g:Nat->Host->Host):Nat->Host->Host
 |0,h=>h
 |k+1,h=>g k (ik g k h)
theorem qW {g:Nat->Host->Host}(hg:∀k h,kX (k+1) h (g k h))(h:Host):∀k,kX k h (ik g k h)
 |0=>kX.refl 0 h
 |k+1=>((qW hg h k).up (by omega)).trans (hg k _)
theorem AH {g:Nat->Host->Host}{d n:Nat}(hn:1000<=n)(hg:∀k h m,1000<=m->dw m dY h->dw (m+d) dY (g k h)){h:Host}(z:dw n dY h):∀k,dw (n+d*k) dY (ik g k h)
 |0=>z
 |k+1=>(hg k _ _ (by omega) (AH hn hg z k)).mono (by rw[Nat.mul_add];omega)
def nw (i:Nat)(h:Host):Host:=
 match h.2.2.2.2.2.1[i]? with
 |some v=>(h.1,h.2.1,h.2.2.1,h.2.2.2.1,h.2.2.2.2.1,h.2.2.2.2.2.1.set i (wq v),h.2.2.2.2.2.2)
 |none=>h
theorem yl (i:Nat)(h:Host):kX (i+1) h (nw i h):=by unfold nw;cases h.2.2.2.2.2.1[i]? with|none=>exact kX.refl _ _|some v=>exact⟨rfl,rfl,rfl,rfl,λ_ _=>rfl,rfl,az ..,λj hj=>aF (by omega),rfl,rfl,rfl⟩
theorem HZ {l:ax Vector}{v:Vector}(z:dw n (.sl gr) l):dw n (.sl gr) (l.set i v):=ox z ⟨cC,cC,cC,cC,cC,cC⟩
theorem Yl (i:Nat)(h:Host)(n:Nat)(hn:1000<=n)(z:dw n dY h):dw (n+0) dY (nw i h):=by unfold nw;cases h.2.2.2.2.2.1[i]? with|none=>exact z|some v=>exact⟨z.1,z.2.1,z.2.2.1,z.2.2.2.1,z.2.2.2.2.1,HZ z.2.2.2.2.2.1,z.2.2.2.2.2.2⟩
def ta (h:Host):Host:=bif eZ h then ik nw h.2.2.2.2.2.1.length h else h
theorem abC (hn:1000<=n)(z:dw n dY h):dw n dY (ta h)/\(ta h).2.2.1=h.2.2.1:=by unfold ta;cases eZ h with|false=>exact⟨z,rfl⟩|true=>exact⟨(AH hn Yl z _).mono,(qW yl h _).tx⟩
theorem Qq (h:Host)(k:H2 h)(z:dw 1000000000 dY h):rA h=some (ta h):=by
 have hfu:=eO;unfold rA ta;rw[lA h z,ab,rr h k,ab];cases hb:eZ h with|false=>rfl|true=>?_
 have hv:h.2.2.2.2.2.1.length<=1000000000:=z.2.2.2.2.2.1.1;simp only[aj,af,ah];refine eV (λi=>((i:Int),ik nw i h)) h.2.2.2.2.2.1.length (by omega) (λi nx hi=>?_) (λnx=>?_);have kk:=qW yl h i;have i1:i<(ik nw i h).2.2.2.2.2.1.length:=by rw[kk.vec];exact hi
 rw[show ik nw (i+1) h=nw i (ik nw i h) from rfl];generalize ik nw i h=s at i1⊢;simp only[qv,nw];rw[lT,ah,al i1];simp only[bK i1,ab,WN,ay];rw[ak];rfl;simp only[qv];rw[jJ,af]
structure zj (n:Nat) (h:Host):Prop where
 z:dw n dY h
 t:h.2.2.1.2.1.2.2.2.length+(bD h.2.2.1.2.2.1).length<=n
theorem zj.mono {m:Nat}(k:zj n h)(hn:n<=m:=by omega):zj m h:=⟨k.z.mono hn,bE k.t hn⟩
theorem zj.sz (k:zj n h)(hn:n<=1000000000):H2 h:=by have z:dw 1000000000 dY h:=k.z.mono hn;exact⟨z.1.1,z.2.1.1,z.2.2.1.2.2.1.1,bE k.t hn,z.2.2.2.2.2.2.2.1.2.2.1,z.2.2.2.2.2.2.2.2.1.1.1,z.2.2.2.2.2.2.2.2.1.2.1.1,z.2.2.2.2.2.2.2.2.1.2.2.2.1,λp hp=>(z.2.2.2.2.1.2 p hp).2.2.2.1⟩
theorem zj.of (k:Sf dY h<=1048576):zj 1048576 h:=by
 refine⟨HW k,?_⟩;have hb:=UD h.2.2.1.2.2.1;have h1:Sf lj h.2.2.1<=Sf dY h:=by simp only[Sf];omega
 have hp:h.2.2.1.2.1.2.2.2.length+Sf (.sl jq) h.2.2.1.2.2.1<=Sf lj h.2.2.1:=by simp only[Sf];omega
 omega
def mi (p:de):ax nG->de
 |[]=>p
 |x::l=>mi (xT p x.2.2).1 l
theorem FD:∀(l:ax nG)(p:de),(mi p l).2.2.2.length<=p.2.2.2.length+(bD l).length
 |[],p=>by simp[mi]
 |x::l,p=>by have h1:=P1 p x.2.2;have h2:=FD l (xT p x.2.2).1;simp only[mi,bD,List.flatMap_cons,ai]at h2⊢;omega
theorem LS:∀(l:ax nG)(p:de)(x:nG),mi p (l++[x])=(xT (mi p l) x.2.2).1
 |[],p,x=>rfl
 |y::l,p,x=>by rw[List.cons_append,mi,mi,LS l]
theorem Pf (a b:ax nG):(bD (a++b)).length=(bD a).length+(bD b).length:=by simp only[bD,List.flatMap_append,ai]
theorem Pg (l:ax nG)(n:Nat):(bD (l.take n)).length+(bD (l.drop n)).length=(bD l).length:=by rw[<-Pf,cy]
def ky (t:dZ)(n:Int):dZ×dC:=
 bif KH t&&dp n 0 (t.2.2.1.length:Int) then((t.1,mi t.2.1 (t.2.2.1.take n.toNat),t.2.2.1.drop n.toNat,t.2.2.2),(t.2.2.1.take n.toNat).map (·.1)) else(t,[])
theorem ac4 {l:ax nG}(h:(bD l).length<=1000000000):∀x∈l,x.2.2.length<=1000000000:=by intro x hx;induction l with|nil=>cases hx|cons y l ih=>simp only[bD,List.flatMap_cons,ai]at h;rcases cA.1 hx with rfl|g;omega;exact ih (by simp only[bD];omega) g
theorem N2 (t:dZ)(n:Int)(hw:t.2.2.1.length<=1000000000)(hs:t.2.1.2.2.2.length+(bD t.2.2.1).length<=1000000000):lB t n=some (ky t n):=by
 have hx:=ac4 (l:=t.2.2.1) (by omega);unfold lB ky;rw[DF t ⟨by omega,hw,hx⟩,ab,Tb t hw hs];simp only[ab,di];cases KH t with|false=>rfl|true=>?_
 cases hn:dp n 0 (t.2.2.1.length:Int)with|false=>rfl|true=>?_
 have h:=aX.1 hn;obtain⟨n,rfl⟩:=aG h.1;have hl:n<=t.2.2.1.length:=by omega
 simp only[aj,af,ab,dL,ah,ay];rw[xx,ab,ay];have htl:(t.2.2.1.take n).length=n:=by rw[aS];omega
 rw[htl];refine eV (λi=>(((t.2.2.1.take i).map (·.1),(i:Int),t.1,mi t.2.1 (t.2.2.1.take i),t.2.2):dC×Int×dZ)) n (by omega) (λi nx hi=>?_) (λnx=>?_);have hi2:i<(t.2.2.1.take n).length:=by omega
 have hi3:i<t.2.2.1.length:=by omega
 have e1:(t.2.2.1.take n)[i]=t.2.2.1[i]:=List.getElem_take ..;have g1:=FD (t.2.2.1.take i) t.2.1;have g2:=Pg t.2.2.1 (i+1);have g3:(bD (t.2.2.1.take (i+1))).length=(bD (t.2.2.1.take i)).length+t.2.2.1[i].2.2.length:=by rw[cb hi3,Pf];simp[bD]
 simp only[jE];rw[lT,ah,bK hi2,e1,ab,Jt _ _ (by omega),ab,aZ (by simp only[cI,aS,br];omega),ak,cb hi3,LS,cY];rfl;simp only[jE];rw[jJ,af,uw (l:=t.2.2.1) n hl rfl,ab,Ep _ (by rw[aO];omega) (λx hx'=>hx x (List.mem_of_mem_drop hx')),ab]
theorem Ly (n:Int):∀l:ax nG,l.all (nX n)=true->(l.length:Int)<=dW l
 |[],_=>by simp[dW]
 |x::l,h=>by simp only[cr,ae]at h;have:=Ly n l h.2;have hx:=h.1;unfold nX at hx;simp only[ae,aX]at hx;simp only[dW,cU,List.sum_cons,bc]at this⊢;omega
theorem DW (h:KH t=true):t.2.2.1.length<=16:=by unfold KH at h;simp only[ae,aD]at h;have h1:=Ly _ _ h.2.2.2.1;have h2:=(kV h.1).2.2.1;have h3:=h.2.2.2.2.2;omega
theorem Ea (n:Int)(z:dw k lj t)(hs:t.2.1.2.2.2.length+(bD t.2.2.1).length<=k): dw k lj (ky t n).1/\(ky t n).1.2.1.2.2.2.length+(bD (ky t n).1.2.2.1).length<=k/\(ky t n).2.length<=16:=by unfold ky;cases h:KH t&&dp n 0 (t.2.2.1.length:Int)with|false=>exact⟨z,hs,bX _⟩|true=>simp only[ae]at h;have h16:=DW h.1;have g1:=FD (t.2.2.1.take n.toNat) t.2.1;have g2:=Pg t.2.2.1 n.toNat;have hw:t.2.2.1.length<=k:=z.2.2.1.1;refine⟨⟨z.1,⟨cC,cC,cC,?_,λ_ _=>trivial⟩,⟨?_,λx hx=>z.2.2.1.2 x (List.mem_of_mem_drop hx)⟩,z.2.2.2⟩,?_,?_⟩;show(mi t.2.1 (t.2.2.1.take n.toNat)).2.2.2.length<=k;omega;show(t.2.2.1.drop n.toNat).length<=k;rw[aO];omega;show(mi t.2.1 (t.2.2.1.take n.toNat)).2.2.2.length+(bD (t.2.2.1.drop n.toNat)).length<=k;omega;show((t.2.2.1.take n.toNat).map (·.1)).length<=16;rw[cI,aS];omega
theorem FO {t:CT}{l q:ax t.D}(z:dw n (.sl t) l)(hq:∀y∈q,dw n t y)(hk:q.length<=k):dw (n+k) (.sl t) (l++q):=by refine⟨?_,λy hy=>?_⟩;show(l++q).length<=n+k;have:=z.1;rw[ai];omega;rcases aw.1 hy with h|h;exact(z.2 y h).mono;exact(hq y h).mono
def dM (h:Host):Host:=bif eZ h then
    (h.1,h.2.1,(ky ((qi h.2.1 h.1 0 h.2.2.1.1).1,h.2.2.1.2) (if(h.2.2.1.2.2.1.length:Int)<aq ((qi h.2.1 h.1 0 h.2.2.1.1).2.2.1+(qi h.2.1 h.1 0 h.2.2.1.1).2.2.2) then(h.2.2.1.2.2.1.length:Int) else aq ((qi h.2.1 h.1 0 h.2.2.1.1).2.2.1+(qi h.2.1 h.1 0 h.2.2.1.1).2.2.2))).1,
      h.2.2.2.1,h.2.2.2.2.1,h.2.2.2.2.2.1,h.2.2.2.2.2.2.1,h.2.2.2.2.2.2.2.1,h.2.2.2.2.2.2.2.2.1,h.2.2.2.2.2.2.2.2.2.1,h.2.2.2.2.2.2.2.2.2.2.1,h.2.2.2.2.2.2.2.2.2.2.2.1++(qi h.2.1 h.1 0 h.2.2.1.1).2.1,
      h.2.2.2.2.2.2.2.2.2.2.2.2.1++(ky ((qi h.2.1 h.1 0 h.2.2.1.1).1,h.2.2.1.2) (if(h.2.2.1.2.2.1.length:Int)<aq ((qi h.2.1 h.1 0 h.2.2.1.1).2.2.1+(qi h.2.1 h.1 0 h.2.2.1.1).2.2.2) then(h.2.2.1.2.2.1.length:Int) else aq ((qi h.2.1 h.1 0 h.2.2.1.1).2.2.1+(qi h.2.1 h.1 0 h.2.2.1.1).2.2.2))).2,h.2.2.2.2.2.2.2.2.2.2.2.2.2) else h
theorem EC (h:Host)(k:zj 900000000 h):lE h=some (dM h):=by
 have z:dw 1000000000 dY h:=k.z.mono;have hz:=k.sz (by omega);have hm:h.1.length<=900000000:=k.z.1.1;have hl:h.2.1.length<=900000000:=k.z.2.1.1;have hw:h.2.2.1.2.2.1.length<=900000000:=k.z.2.2.1.2.2.1.1;have hwi:h.2.2.2.2.2.2.2.2.2.2.2.1.length<=900000000:=k.z.2.2.2.2.2.2.2.2.2.2.2.1.1;have hco:h.2.2.2.2.2.2.2.2.2.2.2.2.1.length<=900000000:=k.z.2.2.2.2.2.2.2.2.2.2.2.2.1.1;have hA:=CI h.2.1 h.1 0 17 [] 0 0 h.2.2.1.1 (λx hx=>by cases hx);unfold lE dM;rw[lA h z,ab,rr h hz,ab];cases eZ h with|false=>rfl|true=>?_
 simp only[aj,af,ah,WO h.2.1 h.1 0 _ (show h.2.1.length<=1000000000 by omega) (show h.1.length<=1000000000 by omega),ab];rw[show mf h.2.1 h.1 0 17 [] 0 0 h.2.2.1.1=qi h.2.1 h.1 0 h.2.2.1.1 from rfl]at hA;generalize qi h.2.1 h.1 0 h.2.2.1.1=x at hA⊢;simp only[eD]at hA;have hC:=Ea (k:=900000000) (t:=(x.1,h.2.2.1.2)) (if(h.2.2.1.2.2.1.length:Int)<aq (x.2.2.1+x.2.2.2) then(h.2.2.1.2.2.1.length:Int) else aq (x.2.2.1+x.2.2.2)) ⟨⟨cC,cC,cC,cC⟩,k.z.2.2.1.2⟩ k.t;rw[aZ,N2 (x.1,h.2.2.1.2) _ (by show h.2.2.1.2.2.1.length<=_;omega) (bE k.t (by omega)),ab,aZ]
theorem AM (hn:400<=n)(k:zj n h):zj (n+5440) (dM h):=by
 have k':zj (n+5440) h:=k.mono;have hA:=CI h.2.1 h.1 0 17 [] 0 0 h.2.2.1.1 (λx hx=>by cases hx);unfold dM;cases eZ h with|false=>exact k'|true=>?_
 rw[show mf h.2.1 h.1 0 17 [] 0 0 h.2.2.1.1=qi h.2.1 h.1 0 h.2.2.1.1 from rfl]at hA;generalize qi h.2.1 h.1 0 h.2.2.1.1=x at hA⊢;simp only[eD]at hA;generalize (if(h.2.2.1.2.2.1.length:Int)<aq (x.2.2.1+x.2.2.2) then(h.2.2.1.2.2.1.length:Int) else aq (x.2.2.1+x.2.2.2))=q;have hC:=Ea (k:=n) (t:=(x.1,h.2.2.1.2)) q ⟨⟨cC,cC,cC,cC⟩,k.z.2.2.1.2⟩ k.t;have z:=k'.z;refine⟨⟨z.1,z.2.1,hC.1.mono,z.2.2.2.1,z.2.2.2.2.1,z.2.2.2.2.2.1,z.2.2.2.2.2.2.1,z.2.2.2.2.2.2.2.1,z.2.2.2.2.2.2.2.2.1,z.2.2.2.2.2.2.2.2.2.1,cC,?_,?_,z.2.2.2.2.2.2.2.2.2.2.2.2.2⟩,bE hC.2.1 (by omega)⟩;exact FO (t:=.str) (n:=n) (k:=5440) k.z.2.2.2.2.2.2.2.2.2.2.2.1 (λy hy=>by show y.length<=_;have:=hA.2.1 y hy;omega) (by omega);exact(FO (t:=.int .i64) (n:=n) (k:=16) k.z.2.2.2.2.2.2.2.2.2.2.2.2.1 (λ_ _=>trivial) hC.2.2).mono
def sN (l:ax aC)(d:Int)(p:de)(z:Nat):dC->Bytes->bW->ax gD->aB (ax gD×bW)
 |[],_,m,a=>some (a,m)
 |b::q,s,m,a=>bif (gA l m d (mm p b) (s.take z) false).2 then sN l d p z q (s.drop z) (gA l m d (mm p b) (s.take z) false).1 (a++[(mm p b,((s.take z).length:Int))]) else none
theorem Bx (l:ax aC)(d:Int)(p:de)(z:Nat):∀(q:dC)(s:Bytes)(m:bW)(a:ax gD){x},sN l d p z q s m a=some x->
 x.2.length=m.length/\x.1.length=a.length+q.length/\∀y∈x.1,y∈a\/((∃b∈q,y.1=mm p b)/\0<=y.2/\y.2<=(z:Int))
 |[],s,m,a,x,h=>by cases h;exact⟨rfl,rfl,λy hy=>Or.inl hy⟩
 |b::q,s,m,a,x,h=>by rw[sN]at h;cases hq:(gA l m d (mm p b) (s.take z) false).2 with|false=>rw[hq]at h;cases h|true=>rw[hq]at h;obtain⟨h1,h2,h3⟩:=Bx l d p z q _ _ _ h;rw[jX]at h1;rw[ai,br]at h2;refine⟨h1,by rw[bc];omega,λy hy=>?_⟩;rcases h3 y hy with g|⟨⟨b',hb',g⟩,g2⟩;rcases aw.1 g with g|g;exact Or.inl g;rw[bG.1 g];refine Or.inr ⟨⟨b,List.mem_cons_self ..,rfl⟩,?_,?_⟩;show(0:Int)<=((s.take z).length:Int);omega;show((s.take z).length:Int)<=(z:Int);rw[aS];omega;exact Or.inr ⟨⟨b',fD _ hb',g⟩,g2⟩
theorem MX (p:de)(i:Int): -1<=mm p i/\mm p i<=139136:=by unfold mm;cases hb: !dh p|| !dp i 0 (p.2.2.1-1)with|true=>exact⟨eo _,show(-1:Int)<=139136 by omega⟩|false=>simp only[cj,dN]at hb;have h:=xc hb.1;have h2:=aX.1 hb.2;have h3:0<=i*p.2.1:=Int.mul_nonneg h2.1 (by omega);have h4:i*p.2.1<=16*512:=Int.mul_le_mul (by omega) (by omega) (by omega) (by omega);simp only[af];omega
theorem YM {p:de}(hp:dh p=true)(hb:b∈p.2.2.2):0<=mm p b:=by obtain⟨i,hi,rfl⟩:=fN hb;have hq:=hp;simp only[dh,ae]at hq;have:=aJ.1 hq.2.2.2 i (cp.2 hi);simp only[zA,ae,cS hi]at this;have hn:=this.1;have h:=xc hp;have h2:=aX.1 hn;have h3:0<=p.2.2.2[i]*p.2.1:=Int.mul_nonneg h2.1 (by omega);unfold mm;rw[hp,hn];show 0<=p.1+p.2.2.2[i]*p.2.1;omega
theorem R1 (s:Bytes)(z:Nat):sub s 0 (if(s.length:Int)<(z:Int) then(s.length:Int) else(z:Int))=some (s.take z):=by by_cases h:(s.length:Int)<(z:Int);rw[aH h,xx,ay,eS,bP (by omega)];rw[aI h,xx,ay]
theorem PF (s:Bytes)(z:Nat):sub s ((s.take z).length:Int) (s.length:Int)=some (s.drop z):=by rw[RV _ _ (by rw[aS];omega),aS];by_cases h:z<=s.length;rw[ig h];rw[Nat.min_eq_right (by omega),gX,List.drop_eq_nil_of_le (by omega)]
def Yy:aB (ax gD×bW)->aB (Bool×bW×ax gD×Bool)->Prop
 |some x,r=>r=some (true,x.2,x.1,true)
 |none,r=>∃c m,r=some (c,m,[],false)
theorem C3 (l:ax aC)(d:Int)(p:de)(z:Nat)(B:bW)(hp:p.2.2.2.length<=1000000000)(hl:l.length<=1000000000):∀(rest pre:dC)(s:Bytes)(m:bW)(a:ax gD)(f:Nat),rest.length<f->(pre++rest).length<=1000000->a.length+rest.length<=1000000->m.length<=1000000000->
 Yy (sN l d p z rest s m a) (bm (jW (λ_ y14 _ y16=>some (true,y16,y14,true)) (λ_ y18 y19 _ _ _ y23=>some (true,y23,y18,y19)) l d (z:Int) ([]:ax gD) false (pre++rest) ((pre++rest).length:Int) p B) f (s,a,(pre.length:Int),m))
 |rest,pre,s,m,a,0,hf,_,_,_=>by omega
 |[],pre,s,m,a,f+1,_,_,_,_=>by rw[bm];simp only[jW];rw[ar (by simp),af];rfl
 |b::q,pre,s,m,a,f+1,hf,hn,ha,hm=>by
  simp only[bc,ai]at hf hn ha;have hi:pre.length<(pre++b::q).length:=by simp
  have hb:(pre++b::q)[pre.length]=b:=by simp
  have hA:=MX p b;rw[bm];simp only[jW];rw[au (by simp;omega),bK hi,hb];simp only[ah,ab,R1,PF,Eo p b hp,yU l m d (mm p b) (s.take z) hl hm];rw[sN];cases hq:(gA l m d (mm p b) (s.take z) false).2 with
  |false=>exact⟨_,_,rfl⟩
  |true=>
   simp only[aj,af,ah];rw[ak (n:=(pre.length:Int)+1),aZ (by simp only[br];omega)];have key:=C3 l d p z B hp hl q (pre++[b]) (s.drop z) (gA l m d (mm p b) (s.take z) false).1 (a++[(mm p b,((s.take z).length:Int))]) f (by omega) (by simp;omega) (by simp;omega) (by rw[jX];exact hm);have el:((pre++[b]).length:Int)=(pre.length:Int)+1:=by simp
   rw[aN,fQ,el]at key;exact key
theorem Wv (l:ax aC)(m:bW)(d:Int)(p:de)(q:dC)(s:Bytes)(z:Nat)(hp:p.2.2.2.length<=1000000000)(hl:l.length<=1000000000)(hm:m.length<=1000000000)(hq:q.length<=1000)(h0:0<q.length): Yy (sN l d p z q s m []) (mV l m d p q s (z:Int)):=by have hfu:=eO;cases q with|nil=>cases h0|cons b q=>simp only[bc]at hq;have hA:=MX p b;have hi:idx (b::q) 0=some b:=rfl;unfold mV;rw[au (by simp),ah,hi];simp only[ab,R1,PF,Eo p b hp,yU l m d (mm p b) (s.take z) hl hm];rw[sN];cases hq':(gA l m d (mm p b) (s.take z) false).2 with|false=>exact⟨_,_,rfl⟩|true=>simp only[aj,af,ah];rw[aZ (by simp),show aq (0+1)=1 from rfl];exact C3 l d p z _ hp hl q [b] (s.drop z) (gA l m d (mm p b) (s.take z) false).1 [(mm p b,((s.take z).length:Int))] fuel (by omega) (by simp;omega) (by simp;omega) (by rw[jX];exact hm)
theorem PB {ps:ax gD}{z:Int}(h0:0<ps.length)(h16:ps.length<=16)(hp:∀x∈ps,0<=x.1/\x.1<=200000/\0<=x.2/\x.2<=4096)(hz:dp z 1 128=true)(hc:dp c 0 65535=true):(ju ps z c).length=ps.length+1:=by
 have hz2:=aX.1 hz;have hc2:=aX.1 hc;have e1:mF ps=true:=by unfold mF;rw[ae,aL,aD];refine⟨List.any_eq_false.2 λx hx=>?_,by omega⟩;have:=hp x hx;unfold yf;rw[jJ,cz,aL,Bool.eq_false_iff];intro h;exact h (aX.2 (by omega))
 have e2:([((2:Int),(0:Int),(0:Int),(0:Int),z,c)]++mN ps c ps.length).all nA=true:=by rw[List.all_append,ae];constructor;simp only[cr,List.all_nil,iq,nA,ae,aX];omega;rw[Fw];refine aJ.2 λj hj=>?_;have hj:=cp.1 hj;have:=hp _ (bz hj);simp only[dsc,cS hj,nA,ae,aX];refine⟨by omega,?_,by omega,by omega,by omega,by omega⟩;by_cases hq:j+1=ps.length;rw[aH hq];omega;rw[aI hq];omega
 unfold ju;rw[e1,hz,e2,show((ps.length:Int)==0)=false from by rw[bT];omega];simp only[aj,bQ,af,ah,ai,br,zv];omega
theorem Qg (K:bW->Int->aB R)(l:ax aC)(d:Int)(q:dC)(ds ds2:ax oT)(t1 t2 t3 t4:dZ)(m1 m2 m3:bW)(h:ds.length<=1000): bm (gy K l d q ds2 ds (ds.length:Int) t1 m1 t2 m2 t3 t4 m3) fuel (([]:bW),0)=K (ds.map jj) (ds.length:Int):=by
 have hfu:=eO;refine eV (λi=>((ds.take i).map jj,(i:Int))) ds.length (by omega) (λi nx hi=>?_) (λnx=>?_);have e:((ds.take i).map jj).length<=1000:=by simp;omega
 rw[cb hi,cY];simp only[gy];rw[lT,ah,bK hi,ab,N4,ab,aZ (by simp only[br];omega),ak];rfl;simp only[gy];rw[jJ,af,eS]
def vP (p:aQ)(z:Nat):Nat:=((jQ p).1.length+z-1)/z
def G5 (l:ax aC)(m:bW)(d:Int)(t:dZ)(c:Int)(n:Nat)(x:ax gD×bW):bW×dZ×Bool:=
 bif (qK l x.2 d t.1 ((ju x.1 c t.2.2.2).map jj)).2.2 then
  ((qK l x.2 d t.1 ((ju x.1 c t.2.2.2).map jj)).1,((qK l x.2 d t.1 ((ju x.1 c t.2.2.2).map jj)).2.1,(jg t.2.1 (n:Int)).1,t.2.2.1++[(t.2.2.2,(n:Int)+1,(jg t.2.1 (n:Int)).2.1)],Int.tmod (t.2.2.2+1) 65536),true)
 else(m,t,false)
def CV (t:dZ)(n:Nat):Bool:=(jg t.2.1 (n:Int)).2.2&&(!decide ((n:Int)>16)&&(!decide ((n:Int)+1>ly t.1)&& !decide (dW t.2.2.1+(n:Int)+1>t.1.2.1)))
def qc (l:ax aC)(m:bW)(d:Int)(t:dZ)(p:aQ)(c z:Int):bW×dZ×Bool:=
 bif KH t&&(dG p&&(dp z 1 t.2.1.2.1&&dp c 1 128)) then
  bif CV t (vP p z.toNat) then
   match sN l d t.2.1 z.toNat (jg t.2.1 (vP p z.toNat:Int)).2.1 (jQ p).1 m []with
   |some x=>G5 l m d t c (vP p z.toNat) x
   |none=>(m,t,false)
  else(m,t,false)
 else(m,t,false)
theorem KD (h:dG p=true):0<(jQ p).1.length/\(jQ p).1.length<=378:=by have hl:=uB p;have hs:=Qa h;unfold jQ;rw[h];show 0<(lL (dj p).1 (bV 0) (bV 0)).length/\(lL (dj p).1 (bV 0) (bV 0)).length<=378;rw[BS];omega
theorem aer (len z:Nat)(h:len<=1000)(hz:z<=1000)(h0:0<z):aq (Int.tdiv (aq (aq ((len:Int)+(z:Int))-1)) (z:Int))=(((len+z-1)/z:Nat):Int):=by have hd:(len+z-1)/z<=len+z-1:=Nat.div_le_self ..;rw[ak (n:=(len:Int)+(z:Int)),ak (n:=(len:Int)+(z:Int)-1),show(len:Int)+(z:Int)-1=((len+z-1:Nat):Int) by omega,show Int.tdiv ((len+z-1:Nat):Int) (z:Int)=(((len+z-1)/z:Nat):Int) from rfl];generalize (len+z-1)/z=N at hd⊢;rw[ak]
theorem RY {p:de}(h:(jg p (n:Int)).2.2=true):dh p=true/\n<=p.2.2.2.length/\(jg p (n:Int)).2.1=p.2.2.2.take n:=by unfold jg at h⊢;cases hq:dh p&&dp (n:Int) 0 (p.2.2.2.length:Int)with|false=>rw[hq]at h;cases h|true=>simp only[ae,aX]at hq;exact⟨hq.1,by omega,rfl⟩
theorem We {z:Nat}{x:ax gD×bW}(ht:KH t=true)(hz:z<=512)(hc:dp c 1 128=true)(h0:0<n)(h16:n<=16)(hk:(jg t.2.1 (n:Int)).2.2=true)(hx:sN l d t.2.1 z (jg t.2.1 (n:Int)).2.1 s m []=some x):x.2.length=m.length/\(ju x.1 c t.2.2.2).length=n+1:=by
 obtain⟨hp,hn,hb⟩:=RY hk;rw[hb]at hx;obtain⟨h1,h2,h3⟩:=Bx l d t.2.1 z _ _ _ _ hx;simp only[eD,aS,cD]at h2;have e:x.1.length=n:=by omega
 refine⟨h1,?_⟩;rw[PB (by omega) (by omega) (λy hy=>?_) hc (by simp only[KH,ae]at ht;exact ht.2.2.1),e];rcases h3 y hy with g|⟨⟨b,hb',g⟩,g2⟩;cases g;have q1:=YM hp (List.mem_of_mem_take hb');have q2:=MX t.2.1 b;rw[g];omega
theorem WG (l:ax aC)(m:bW)(d:Int)(t:dZ)(p:aQ)(c z:Int)(hl:l.length<=1000000000)(hm:m.length<=1000000000)(ht:abM t)(h1:t.2.2.1.length<=1000000000)(h2:t.2.1.2.2.2.length+(bD t.2.2.1).length<=1000000000):sg l m d t p c z=some (qc l m d t p c z):=by
 have hfu:=eO;unfold sg qc;rw[gu m,ab,DF t ht,ab,Tb t h1 h2,ab,oM,di,di];simp only[ab];cases hb:KH t with|false=>rfl|true=>?_
 cases hp:dG p with|false=>rfl|true=>?_
 cases hz:dp z 1 t.2.1.2.1 with|false=>rfl|true=>?_
 cases hc:dp c 1 128 with|false=>rfl|true=>?_
 have hT:=KD hp;have hz2:=aX.1 hz;have hq:=hb;simp only[KH,ae]at hq;have hpl:=xc hq.2.1;have h16:=DW hb;have hrg:=kV hq.1;have hnx:=aX.1 hq.2.2.1;obtain⟨z,rfl⟩:=aG (by omega:0<=z);have hzn:¬(z:Int)=0:=by omega
 have hS:∀x∈t.2.2.1,0<=x.2.1/\x.2.1<=16:=λx hx=>by have:=aJ.1 hq.2.2.2.1 x hx;simp only[nX,ae,aX]at this;omega
 have hcb:=Bo _ hS;have hN:vP p z<=1000:=by have:vP p z<=(jQ p).1.length+z-1:=Nat.div_le_self ..;omega
 have hN0:0<vP p z:=Nat.div_pos (by omega) (by omega);have hce:=aer (jQ p).1.length z (by omega) (by omega) (by omega);rw[show((jQ p).1.length+z-1)/z=vP p z from rfl]at hce;simp only[aj,af,ab,dL,ah,ay,L4,aI hzn,hce,WL _ _ (show t.2.1.2.2.2.length<=1000000000 by omega),LW,WH t (by omega) hS,CV];rw[ak (n:=(vP p z:Int)+1),ak (n:=dW t.2.2.1+(vP p z:Int)),ak (n:=dW t.2.2.1+(vP p z:Int)+1)];by_cases g1:(vP p z:Int)>16;rw[au g1];simp only[ah,ab,aj,fi,eM,af];rw[ar g1];simp only[cd,af,bB];cases decide ((vP p z:Int)+1>ly t.1)with|true=>simp only[ah,ab,aj,fi,eM,af]|false=> ?_
 simp only[cd,af,bB,ab];cases decide (dW t.2.2.1+(vP p z:Int)+1>t.1.2.1)with|true=>simp only[ah,ab,aj,fi,eM,af]|false=> ?_
 simp only[cd,af,iq,ab];cases hk:(jg t.2.1 (vP p z:Int)).2.2 with|false=>rfl|true=>?_
 simp only[aj,af,ah,gu m (show m.length<=1073741824 by omega),ab];obtain⟨_,hkn,hkb⟩:=RY hk;have hkl:(jg t.2.1 (vP p z:Int)).2.1.length=vP p z:=by rw[hkb,aS];omega
 have key:=Wv l m d t.2.1 (jg t.2.1 (vP p z:Int)).2.1 (jQ p).1 z (by omega) hl hm (by omega) (by omega);cases hx:sN l d t.2.1 z (jg t.2.1 (vP p z:Int)).2.1 (jQ p).1 m []with
 |none=>rw[hx]at key;obtain⟨a,b,e⟩:=key;obtain⟨f,g,_⟩:=Ah [] c t.2.2.2 (by simp);rw[e,ab];simp only[g,ab];cases a<;>cases f<;>rfl
 |some x=>
  rw[hx]at key;have key:mV _ _ _ _ _ _ _=_:=key;obtain⟨x1,x2⟩:=We hb (by omega) hc hN0 (by omega) hk hx;obtain⟨_,x3,_⟩:=Bx l d t.2.1 z _ _ _ _ hx;simp only[eD]at x3;obtain⟨f,g,hf⟩:=Ah x.1 c t.2.2.2;have hft:f=true:=by cases f with|true=>rfl|false=>have:=hf rfl;rw[this]at x2;cases x2
  subst hft;simp only[key,g,ab,ah,aj,af,aI (show¬(ju x.1 c t.2.2.2).length=0 by omega),G5];rw[Qg _ _ _ _ _ _ _ _ _ _ _ _ _ (by omega)];simp only[S8 l x.2 d t.1 _ hl (by omega) (show((ju x.1 c t.2.2.2).map jj).length<=1000000000 by rw[cI];omega),ab];cases (qK l x.2 d t.1 ((ju x.1 c t.2.2.2).map jj)).2.2 with|false=>rfl|true=>simp only[aj,af,ab,ah];rw[aZ (by simp only[br];omega),jR,ak,x2];rfl
def OK (g:Nat->Host->Host):Nat->Host->Host
 |0,h=>h
 |k+1,h=>g k (OK g k h)
structure yo (a b:Host):Prop where
 maps:b.2.1=a.2.1
 tx:b.2.2.1=a.2.2.1
 rx:b.2.2.2.1.length=a.2.2.2.1.length
 pl:b.2.2.2.2.1.length=a.2.2.2.2.1.length
 vec:b.2.2.2.2.2.1=a.2.2.2.2.2.1
 pol:b.2.2.2.2.2.2.1=a.2.2.2.2.2.2.1
 ret:b.2.2.2.2.2.2.2.2.2.2.2.2.2.1=a.2.2.2.2.2.2.2.2.2.2.2.2.2.1
theorem yo.refl (a:Host):yo a a:=⟨rfl,rfl,rfl,rfl,rfl,rfl,rfl⟩
theorem yo.trans {a b c:Host}(h:yo a b)(k:yo b c):yo a c:=⟨k.1.trans h.1,k.2.trans h.2,k.3.trans h.3,k.4.trans h.4,k.5.trans h.5,k.6.trans h.6,k.7.trans h.7⟩
theorem GY (h:Host)(i:Nat)(c:Int):yo h (uF h i c).2:=by
 unfold uF;cases h1:h.2.2.2.1[i]? with|none=>exact yo.refl h|some rx=>?_
 cases h2:h.2.2.2.2.1[i]? with|none=>exact yo.refl h|some pl=>?_
 exact⟨rfl,rfl,az ..,az ..,rfl,rfl,rfl⟩
def lK (h:Host)(k:Nat):Host:=OK (λi s=>(uF s i 1000).2) k h
theorem Ax {n:Nat}(hn:128<=n){h:Host}(z:dw n dY h):∀k,yo h (lK h k)/\dw (n+322000*k) dY (lK h k)
 |0=>⟨yo.refl h,z⟩
 |k+1=>by have i:=Ax hn z k;exact⟨i.1.trans (GY ..),(TO (by omega) k 1000 i.2).mono⟩
def Vw (h:Host)(l:dC):Host:=(h.1,h.2.1,h.2.2.1,h.2.2.2.1,h.2.2.2.2.1,h.2.2.2.2.2.1,h.2.2.2.2.2.2.1,h.2.2.2.2.2.2.2.1,h.2.2.2.2.2.2.2.2.1,h.2.2.2.2.2.2.2.2.2.1,h.2.2.2.2.2.2.2.2.2.2.1,h.2.2.2.2.2.2.2.2.2.2.2.1,h.2.2.2.2.2.2.2.2.2.2.2.2.1,h.2.2.2.2.2.2.2.2.2.2.2.2.2.1++l,h.2.2.2.2.2.2.2.2.2.2.2.2.2.2)
def OU (h:Host):Host:=(h.1,h.2.1,(yO.1,yO.2.1,yO.2.2.1,h.2.2.1.2.2.2),h.2.2.2)
def BN (h:Host)(i:Nat)(dr:Int):Host:=
 ((kM h.2.1 h.1 i).1,h.2.1,h.2.2.1,h.2.2.2.1.set i ((kM h.2.1 h.1 i).2.1,(Bg i).2.1,(Bg i).2.2.1,(Bg i).2.2.2.1,(Bg i).2.2.2.2.1,dr),h.2.2.2.2.1.set i (kM h.2.1 h.1 i).2.2.1,h.2.2.2.2.2)
def Bb (x:bF):Int:=bif x.2.2.2.2.1 then aq (x.2.2.2.2.2+x.2.2.2.1.2.2) else x.2.2.2.2.2
def uI (i:Nat)(h:Host):Host:=
 match h.2.2.2.1[i]?,h.2.2.2.2.2.1[i]? with
 |some x,some v=>((BN h i (Bb x)).1,h.2.1,h.2.2.1,(BN h i (Bb x)).2.2.2.1,(BN h i (Bb x)).2.2.2.2.1,h.2.2.2.2.2.1.set i (v.1,v.2.1,0,0,false,false),h.2.2.2.2.2.2.1.set i false,h.2.2.2.2.2.2.2)
 |_,_=>h
structure ads (k:Nat) (a b:Host):Prop where
 mem:b.1.length=a.1.length
 maps:b.2.1=a.2.1
 rx:b.2.2.2.1.length=a.2.2.2.1.length
 pl:b.2.2.2.2.1.length=a.2.2.2.2.1.length
 vec:b.2.2.2.2.2.1.length=a.2.2.2.2.2.1.length
 vecs:∀j,k<=j->b.2.2.2.2.2.1[j]?=a.2.2.2.2.2.1[j]?
 pol:b.2.2.2.2.2.2.1.length=a.2.2.2.2.2.2.1.length
theorem Mi (l:ax aC)(m:bW)(i:Nat):(kM l m i).1.length=m.length:=by unfold kM;rw[U3,jX]
theorem Ru (i:Nat)(h:Host):ads (i+1) h (uI i h):=by
 unfold uI;cases h1:h.2.2.2.1[i]? with|none=>exact⟨rfl,rfl,rfl,rfl,rfl,λ_ _=>rfl,rfl⟩|some x=>?_
 cases h2:h.2.2.2.2.2.1[i]? with|none=>exact⟨rfl,rfl,rfl,rfl,rfl,λ_ _=>rfl,rfl⟩|some v=>?_
 have e1:(BN h i (Bb x)).1.length=h.1.length:=Mi h.2.1 h.1 i;exact⟨e1,rfl,az ..,az ..,az ..,λj hj=>aF (by omega),az ..⟩
def ia (h:Host)(k:Nat):Host:=OK uI k h
theorem oQ (h:Host):∀k,ads k h (ia h k)
 |0=>⟨rfl,rfl,rfl,rfl,rfl,λ_ _=>rfl,rfl⟩
 |k+1=>by have a:=oQ h k;have b:=Ru k (ia h k);exact⟨b.mem.trans a.mem,b.maps.trans a.maps,b.rx.trans a.rx,b.pl.trans a.pl,b.vec.trans a.vec,λj hj=>(b.vecs j hj).trans (a.vecs j (by omega)),b.pol.trans a.pol⟩
theorem Xt (hn:1000<=n)(i:Nat)(d:Int)(z:dw n dY h):dw n dY (BN h i d):=by unfold BN kM;have h4:=nV (gq i+128) 384 4;have hf:=Dz h.2.1 (gA h.2.1 h.1 0 (gq i) (rb 128) false).1 0 (gq i,4,0,0) (ga (gq i+128) 384 4).1;refine⟨LH (by omega) (BR (by omega) z.1 ..) ..,z.2.1,z.2.2.1,ox z.2.2.2.1 ?_,ox z.2.2.2.2.1 ?_,z.2.2.2.2.2⟩;refine⟨⟨cC,cC,cC,cC⟩,⟨cC,cC,cC⟩,⟨cC,cC,cC⟩,⟨⟨cC,cC,cC,cC,cC,cC,cC,cC,cC,cC,cC,cC,cC,cC,cC,?_⟩,cC,cC⟩,cC,cC⟩;exact bX _;exact⟨cC,cC,cC,by show List.length _<=_;omega,λ_ _=>trivial⟩
theorem TV (hn:1000<=n)(i:Nat)(z:dw n dY h):dw n dY (uI i h):=by
 unfold uI;cases h1:h.2.2.2.1[i]? with|none=>exact z|some x=>?_
 cases h2:h.2.2.2.2.2.1[i]? with|none=>exact z|some v=>?_
 have zo:=Xt hn i (Bb x) z;exact⟨zo.1,z.2.1,z.2.2.1,zo.2.2.2.1,zo.2.2.2.2.1,ox z.2.2.2.2.2.1 ⟨cC,cC,cC,cC,cC,cC⟩,ox z.2.2.2.2.2.2.1 trivial,z.2.2.2.2.2.2.2⟩
theorem AB {n:Nat}(hn:1000<=n){h:Host}(z:dw n dY h):∀k,dw n dY (ia h k)
 |0=>z
 |k+1=>TV hn k (AB hn z k)
def Ke (W:ax nG)(i:Nat)(s:Host):Host:=match W[i]? with|some x=>Vw s [x.1]|none=>s
def jd (h:Host):Host:=lK h h.2.2.2.1.length
def returned (h:Host)(k:Nat):Host:=OK (Ke h.2.2.1.2.2.1) k (jd h)
structure adt (a b:Host):Prop where
 e:b=(a.1,a.2.1,a.2.2.1,a.2.2.2.1,a.2.2.2.2.1,a.2.2.2.2.2.1,a.2.2.2.2.2.2.1,a.2.2.2.2.2.2.2.1,a.2.2.2.2.2.2.2.2.1,a.2.2.2.2.2.2.2.2.2.1,a.2.2.2.2.2.2.2.2.2.2.1,a.2.2.2.2.2.2.2.2.2.2.2.1,a.2.2.2.2.2.2.2.2.2.2.2.2.1,b.2.2.2.2.2.2.2.2.2.2.2.2.2.1,a.2.2.2.2.2.2.2.2.2.2.2.2.2.2)
theorem wi {n:Nat}{h:Host}(z:dw n dY (jd h)):∀k,adt (jd h) (returned h k)/\(returned h k).2.2.2.2.2.2.2.2.2.2.2.2.2.1.length<=n+k
 |0=>⟨⟨rfl⟩,by have:=z.2.2.2.2.2.2.2.2.2.2.2.2.2.1.1;exact bE this (by omega)⟩
 |k+1=>by have i:=wi z k;have e:returned h (k+1)=Ke h.2.2.1.2.2.1 k (returned h k):=rfl;rw[e];unfold Ke;cases h.2.2.1.2.2.1[k]? with|none=>exact⟨i.1,bE i.2 (by omega)⟩|some x=>refine⟨⟨?_⟩,?_⟩;show Vw _ _=_;have e:=i.1.e;generalize returned h k=r at e⊢;rw[e];rfl;show(_++[_]).length<=_;rw[ai,br];omega
theorem Ou (z:dw n dY (jd h))(k:Nat):dw (n+k) dY (returned h k):=by have i:=wi z k;have z':dw (n+k) dY (jd h):=z.mono;rw[i.1.e];exact⟨z'.1,z'.2.1,z'.2.2.1,z'.2.2.2.1,z'.2.2.2.2.1,z'.2.2.2.2.2.1,z'.2.2.2.2.2.2.1,z'.2.2.2.2.2.2.2.1,z'.2.2.2.2.2.2.2.2.1,z'.2.2.2.2.2.2.2.2.2.1,z'.2.2.2.2.2.2.2.2.2.2.1,z'.2.2.2.2.2.2.2.2.2.2.2.1,z'.2.2.2.2.2.2.2.2.2.2.2.2.1,⟨i.2,λ_ _=>trivial⟩,z'.2.2.2.2.2.2.2.2.2.2.2.2.2.2⟩
theorem R3 (hn:1000<=n)(z:dw n dY h):dw n dY (OU h):=by have h4:=nV 256 128 8;exact⟨z.1,z.2.1,⟨⟨cC,cC,cC,cC⟩,⟨cC,cC,cC,by show List.length (ga 256 128 8).1.2.2.2<=n;omega,λ_ _=>trivial⟩,⟨bX _,λx hx=>by cases hx⟩,cC⟩,z.2.2.2⟩
def iH (h:Host):Host:=OU (returned h h.2.2.1.2.2.1.length)
def tV (h:Host):Host:=bif eZ h then ia (iH h) h.2.2.2.1.length else h
theorem Jm (hb:eZ h=true):pX h=true:=by simp only[eZ,ae]at hb;exact hb.2.2.2.2.1
theorem GA (hn:1000<=n)(z:dw n dY h)(hl:h.2.2.2.1.length<=2):dw (n+644000+h.2.2.1.2.2.1.length) dY (iH h):=by have hp:=Ax (by omega) z h.2.2.2.1.length;exact R3 (by omega) (Ou (hp.2.mono) _)
theorem amH (l:ax aC)(X:bW)(q:bF)(P:de)(o:bW×lb×de×Int)(k:bF×de->bW×lb×de×Int->aB R)(h:iz l X 0 q.1 P=some o):(aa (iz l X 0 (q,P).1.1 (q,P).2) λr17=>k (q,P) r17)=k (q,P) o:=by show aa (iz l X 0 q.1 P) (λr17=>k (q,P) r17)=k (q,P) o;rw[h,ab]
theorem LX (l:ax aC)(m:bW)(i:Nat)(hi:i<=8)(hl:l.length<=1000000000)(hm:m.length<=1000000000)(k:bF×de->bW×lb×de×Int->aB R): (aa (pU (i:Int)) λr13=>aa (nC 0 128) λr14=>aa (jy l m 0 r13 r14) λr15=>aa (uD (i:Int)) λr16=>aa (iz l r15.1 0 r16.1.1 r16.2) λr17=>k r16 r17)=k (Bg i,(ga (gq i+128) 384 4).1) (kM l m i):=by
 have hb:gq i=1280+(i:Int)*1792:=rfl;have hb2:gq i<=9223372036854775807:=by omega
 have hz:nC 0 128=some (rb 128):=Ve 128;have hf:=Qh l (gA l m 0 (gq i) (rb 128) false).1 0 (gq i,4,0,0) (ga (gq i+128) 384 4).1 hl (by rw[jX];exact hm) (bE (nV (gq i+128) 384 4) (by omega));rw[Qd i hi,ab,hz,ab,yU l m 0 (gq i) (rb 128) hl hm hb2,ab,WD i hi,ab];exact amH l _ (Bg i) _ (kM l m i) k hf
theorem KY (K:Int->Host->aB Host)(s0 B:Host)(N:Nat)(hN:N<=2)(h1:s0.2.2.2.1.length=N)(h2:s0.2.2.2.2.1.length=N)(h3:s0.2.2.2.2.2.1.length=N)(h4:s0.2.2.2.2.2.2.1.length=N)(z:dw 900000000 dY s0): bm (kH K (N:Int) B) fuel (0,s0)=K (N:Int) (ia s0 N):=by
 refine eV (λi=>((i:Int),ia s0 i)) N (by omega) (λi nx hi=>?_) (λnx=>?_);have kr:=oQ s0 i;have zr:=AB (by omega) z i;have z1:(ia s0 i).1.length<=1000000000:=bE zr.1.1 (by omega);have z2:(ia s0 i).2.1.length<=1000000000:=bE zr.2.1.1 (by omega);have i1:i<(ia s0 i).2.2.2.1.length:=by rw[kr.rx,h1];exact hi
 have i2:i<(ia s0 i).2.2.2.2.1.length:=by rw[kr.pl,h2];exact hi
 have i3:i<(ia s0 i).2.2.2.2.2.1.length:=by rw[kr.vec,h3];exact hi
 have i4:i<(ia s0 i).2.2.2.2.2.2.1.length:=by rw[kr.pol,h4];exact hi
 rw[show ia s0 (i+1)=uI i (ia s0 i) from rfl];generalize ia s0 i=s at z1 z2 i1 i2 i3 i4⊢;unfold uI Bb BN;simp only[al i1,al i3];simp only[kH];rw[lT,ah];simp only[bK i1,ab];rw[LX s.2.1 s.1 i (by omega) z2 z1,LX s.2.1 s.1 i (by omega) z2 z1];generalize Bg i=q;generalize kM s.2.1 s.1 i=o;simp only[bK i1,bK i2,bK i3,bK i4,ab];rw[ak (n:=(i:Int)+1),ay];cases s.2.2.2.1[i].2.2.2.2.1<;>rfl;simp only[kH];rw[jJ,af]
theorem NR (hq:yo h (jd h))(hz:dw n dY (jd h)):(iH h).2.2.2.1.length=h.2.2.2.1.length/\(iH h).2.2.2.2.1.length=h.2.2.2.2.1.length/\(iH h).2.2.2.2.2.1=h.2.2.2.2.2.1/\(iH h).2.2.2.2.2.2.1=h.2.2.2.2.2.2.1:=by have er:=(wi hz h.2.2.1.2.2.1.length).1.e;refine⟨?_,?_,?_,?_⟩;show(returned h h.2.2.1.2.2.1.length).2.2.2.1.length=_;rw[er];exact hq.rx;show(returned h h.2.2.1.2.2.1.length).2.2.2.2.1.length=_;rw[er];exact hq.pl;show(returned h h.2.2.1.2.2.1.length).2.2.2.2.2.1=_;rw[er];exact hq.vec;show(returned h h.2.2.1.2.2.1.length).2.2.2.2.2.2.1=_;rw[er];exact hq.pol
theorem C5 (h:Host)(k:H2 h)(z:dw 100000000 dY h):pQ h=some (tV h):=by
 have hfu:=eO;unfold pQ tV;rw[lA h (z.mono),ab,rr h k,ab];cases hb:eZ h with|false=>rfl|true=>?_
 have hl:=mD (Jm hb);have hw:h.2.2.1.2.2.1.length<=100000000:=z.2.2.1.2.2.1.1;have hp:=Ax (n:=100000000) (by omega) z;simp only[aj,af,ah];refine eV (λi=>((i:Int),lK h i)) h.2.2.2.1.length (by omega) (λi nx hi=>?_) (λnx=>?_);simp only[pn];rw[lT,ah,N8 (lK h i) i 1000 (by rw[(hp i).1.rx];exact hi) (by rw[(hp i).1.pl];omega) ((hp i).2.mono),ab,ak];rfl;simp only[pn];rw[jJ,af];have hq:=hp h.2.2.2.1.length;have hr:=wi (n:=100000000+322000*h.2.2.2.1.length) hq.2;have e1:(lK h h.2.2.2.1.length).2.2.1.2.2.1=h.2.2.1.2.2.1:=by rw[hq.1.tx]
 rw[e1];refine eV (λi=>((i:Int),returned h i)) h.2.2.1.2.2.1.length (by omega) (λi nx hi=>?_) (λnx=>?_);have hri:=(hr i).2;simp only[nK];rw[lT,ah,bK hi,ab,aZ (by rw[br];omega),ak];rw[show returned h (i+1)=Ke h.2.2.1.2.2.1 i (returned h i) from rfl,Ke,al hi];rfl;simp only[nK];rw[jJ,af];simp only[WQ,ab];have hE:=GA (n:=100000000) (by omega) z hl.1;have hk:=NR hq.1 hq.2;have eN:((List.length (returned h h.2.2.1.2.2.1.length).2.2.2.1:Nat):Int)=(h.2.2.2.1.length:Int):=congrArg Nat.cast hk.1;rw[eN];exact KY _ (iH h) _ h.2.2.2.1.length hl.1 hk.1 (hk.2.1.trans hl.2.1) (by rw[hk.2.2.1];exact hl.2.2.1) (by rw[hk.2.2.2];exact hl.2.2.2) (hE.mono)
def rf (x:CL):Bool:=dp x.1 0 65535&&(dp x.2.1 0 65535&&(dp x.2.2.1 0 65535&&(dp x.2.2.2.1 0 65535&&dp x.2.2.2.2 0 4294967295)))
theorem LU (x:CL):lC x=some (rf x):=by simp only[lC,di,ab,cu,cF,rf]
def Ee (x:CL)(p:Int):Bytes:=bif rf x&&dp p 0 1 then((((bV x.1++bV x.2.1)++bV x.2.2.1)++bV x.2.2.2.1)++il x.2.2.2.2)++il p else []
theorem Zp (x:CL)(p:Int):kR x p=some (Ee x p):=by
 have h1:=bL x.1;have h2:=bL x.2.1;have h3:=bL x.2.2.1;have h4:=bL x.2.2.2.1;have h5:=eH x.2.2.2.2;have h6:=eH p;unfold kR Ee;simp only[LU,di,ab,kG,ya];cases rf x with|false=>rfl|true=>?_
 cases dp p 0 1 with|false=>rfl|true=>?_
 simp only[aj,af,ab,dL,ah];rw[aZ,aZ (by simp only[ai];omega),aZ (by simp only[ai];omega),aZ (by simp only[ai];omega),aZ (by simp only[ai];omega)]
def qZ (l:ax aC)(m:bW)(d:Int)(q:HI)(x:CL):bW×HI×Bool:=
 bif !fV q|| !rf x then(m,q,false) else
 bif !(gA l m d (qe q) (Ee x (wC q)) true).2 then(m,q,false) else
 ((gA l m d (qe q) (Ee x (wC q)) true).1,(q.1,q.2.1,Int.tmod (q.2.2+1) (2*q.2.1)),true)
theorem Zw (l:ax aC)(m:bW)(d:Int)(q:HI)(x:CL)(hl:l.length<=1000000000)(hm:m.length<=1000000000):nN l m d q x=some (qZ l m d q x):=by
 unfold nN qZ;simp only[FH,LU,ab,gu m (show m.length<=1073741824 by omega),LY,Zp];cases hq:fV q with|false=>rfl|true=>?_
 have h:=tT hq;have hs:=OB hq;cases rf x with|false=>rfl|true=>?_
 simp only[aj,af,ab,bQ,L2 q hq,Ai l m d _ _ hl hm (show qe q<=9223372036854775807 by unfold qe;omega)];cases hp:(gA l m d (qe q) (Ee x (wC q)) true).2 with|false=>simp only[cd,ah,F9 hp]|true=>simp only[aj,af];rw[ak (n:=2*q.2.1),jR,ak (n:=q.2.2+1)]
theorem XI (hn:128<=n)(z:dw n (.sl .str) m)(l:ax aC)(d:Int)(q:HI)(x:CL):dw n (.sl .str) (qZ l m d q x).1/\(qZ l m d q x).1.length=m.length:=by
 unfold qZ;cases !fV q|| !rf x with|true=>exact⟨z,rfl⟩|false=>?_
 cases (gA l m d (qe q) (Ee x (wC q)) true).2 with|false=>exact⟨z,rfl⟩|true=>exact⟨BR hn z ..,jX ..⟩
theorem Vs {q:HI}{x:CL}(h:fV q=true):fV (qZ l m d q x).2.1=true/\(qZ l m d q x).2.1.1=q.1/\(qZ l m d q x).2.1.2.1=q.2.1:=by
 have hq:=tT h;unfold qZ;cases !fV q|| !rf x with|true=>exact⟨h,rfl,rfl⟩|false=>?_
 cases (gA l m d (qe q) (Ee x (wC q)) true).2 with|false=>exact⟨h,rfl,rfl⟩|true=>refine⟨?_,rfl,rfl⟩;have e:=OT (a:=q.2.2+1) (b:=2*q.2.1);simp only[af,aj,fV,ae,aX]at h⊢;refine⟨h.1,h.2.1,?_⟩;rw[uL h.2.1];omega
def gC (l:ax aC)(m:bW)(d:Int)(q:bF)(k:Bytes)(s:Bytes):bW×HI×Bool:=
 bif !(cB s).2||(((cB s).1.1 !=3)||decide ((cB s).1.2.2.1<((dj q.2.2.2.1.1).1.length:Int))) then(m,q.2.1,false) else
 bif !(gA l m d (cB s).1.2.2.2.1 (dj q.2.2.2.1.1).1 true).2 then(m,q.2.1,false) else
 qZ l (gA l m d (cB s).1.2.2.2.1 (dj q.2.2.2.1.1).1 true).1 d q.2.1 ((cB s).1.2.2.2.2.2,((dj q.2.2.2.1.1).1.length:Int),q.2.2.2.1.2.1,q.2.2.2.1.2.2,sP k (oU (jM q.2.2.2.1.1)))
theorem WK (l:ax aC)(m:bW)(d:Int)(q:bF)(k s:Bytes)(hl:l.length<=1000000000)(hm:m.length<=1000000000)(hs:s.length<=1000000000)(hh:dG q.2.2.2.1.1=true):∃b,tP l m d q k s=some (b,gC l m d q k s)/\(b=false->gC l m d q k s=(m,q.2.1,false)):=by
 unfold tP gC;have hok:=SI (s:=s);simp only[Qe s hs,Cw,ab,Cv hh];generalize cB s=x at hok⊢;cases hx:x.2 with|false=>exact⟨false,rfl,λ_=>rfl⟩|true=>?_
 have hd:=hok hx;simp only[nA,ae,aX]at hd;cases x.1.1 !=3 with|true=>exact⟨false,rfl,λ_=>rfl⟩|false=>?_
 cases decide (x.1.2.2.1<((dj q.2.2.2.1.1).1.length:Int))with|true=>exact⟨false,rfl,λ_=>rfl⟩|false=>?_
 simp only[aj,af,ab,bQ,Ai l m d _ _ hl hm (show x.1.2.2.2.1<=9223372036854775807 by omega)];cases (gA l m d x.1.2.2.2.1 (dj q.2.2.2.1.1).1 true).2 with|false=>exact⟨false,rfl,λ_=>rfl⟩|true=>?_
 simp only[aj,af,Jr,ab,Es,Zw l _ d _ _ hl (show(gA l m d x.1.2.2.2.1 (dj q.2.2.2.1.1).1 true).1.length<=1000000000 by rw[jX];exact hm)];exact⟨true,rfl,λh=>by cases h⟩
theorem MF (hn:128<=n){k:Bytes}(z:dw n (.sl .str) m)(hq:fV q.2.1=true): dw n (.sl .str) (gC l m d q k s).1/\(gC l m d q k s).1.length=m.length/\fV (gC l m d q k s).2.1=true/\(gC l m d q k s).2.1.1=q.2.1.1/\(gC l m d q k s).2.1.2.1=q.2.1.2.1:=by
 unfold gC;cases !(cB s).2||(((cB s).1.1 !=3)||decide ((cB s).1.2.2.1<((dj q.2.2.2.1.1).1.length:Int)))with|true=>exact⟨z,rfl,hq,rfl,rfl⟩|false=>?_
 cases (gA l m d (cB s).1.2.2.2.1 (dj q.2.2.2.1.1).1 true).2 with|false=>exact⟨z,rfl,hq,rfl,rfl⟩|true=>?_
 have h1:=BR hn z l d (cB s).1.2.2.2.1 (dj q.2.2.2.1.1).1 true;have h2:=jX l m d (cB s).1.2.2.2.1 (dj q.2.2.2.1.1).1 true;generalize (gA l m d (cB s).1.2.2.2.1 (dj q.2.2.2.1.1).1 true).1=w at h1 h2;have h3:=XI hn h1 l d q.2.1 ((cB s).1.2.2.2.2.2,((dj q.2.2.2.1.1).1.length:Int),q.2.2.2.1.2.1,q.2.2.2.1.2.2,sP k (oU (jM q.2.2.2.1.1)));have h4:=Vs (l:=l) (m:=w) (d:=d) (x:=((cB s).1.2.2.2.2.2,((dj q.2.2.2.1.1).1.length:Int),q.2.2.2.1.2.1,q.2.2.2.1.2.2,sP k (oU (jM q.2.2.2.1.1)))) hq;exact⟨h3.1,h3.2.trans h2,h4⟩
def gP (l:ax aC)(m:bW)(d:Int)(q:bF)(k:Bytes):bW×bF:=
 bif !Bl q||(!q.2.2.2.2.1||((k.length:Int) !=16)) then(m,q) else
 bif (bn l m d q.1).2.2&&(gC l m d q k (bn l m d q.1).1).2.2 then
  ((gC l m d q k (bn l m d q.1).1).1,(bn l m d q.1).2.1,(gC l m d q k (bn l m d q.1).1).2.1,q.2.2.1,Yh,false,q.2.2.2.2.2)
 else(m,(bn l m d q.1).2.1,q.2.1,q.2.2.1,Yh,false,aq (q.2.2.2.2.2+q.2.2.2.1.2.2))
theorem RZ (h:(bn l m d r).2.2=false):(bn l m d r).2.1=r:=by
 unfold bn at h⊢;cases hc: !dg r||(bI r==0)with|true=>rfl|false=>?_
 cases hd:(oo l m d (ku r r.2.2.1) 16).2 with|false=>rfl|true=>rw[hc,hd]at h;cases h
theorem zO (h:Bl q=true):fV q.2.1=true/\(q.2.2.2.2.1=true->dG q.2.2.2.1.1=true):=by unfold Bl at h;simp only[ae]at h;refine⟨h.1.2.1,λhh=>?_⟩;have h2:=h.2;rw[hh]at h2;simp only[ah,ae]at h2;exact h2.1
theorem FG (l:ax aC)(m:bW)(d:Int)(q:bF)(k:Bytes)(hl:l.length<=1000000000)(hm:m.length<=1000000000):mQ l m d q k=some (gP l m d q k):=by
 have ht:=Dl l m d q.1;have hno:=RZ (l:=l) (m:=m) (d:=d) (r:=q.1);unfold mQ gP;simp only[Jw,ab,gu m (show m.length<=1073741824 by omega),EB l m d q.1 hl hm];cases hr:Bl q with|false=>rfl|true=>?_
 cases hh:q.2.2.2.2.1 with|false=>rfl|true=>?_
 cases (k.length:Int) !=16 with|true=>rfl|false=>?_
 obtain⟨b,hb,hb2⟩:=WK l m d q k (bn l m d q.1).1 hl hm (by omega) ((zO hr).2 hh);simp only[aj,af,ab,bQ,hb];generalize gC l m d q k (bn l m d q.1).1=s at hb hb2⊢;cases hk:(bn l m d q.1).2.2 with|false=>rw[hno hk];rfl|true=>?_
 cases b with|true=>cases hs:s.2.2<;>rfl|false=>rw[hb2 rfl];rfl
theorem Cs (hn:128<=n){k:Bytes}(z:dw n (.sl .str) m)(zq:dw n ef q): dw n (.sl .str) (gP l m d q k).1/\(gP l m d q k).1.length=m.length/\dw n ef (gP l m d q k).2/\(Bl q=true->fV (gP l m d q k).2.2.1=true/\(gP l m d q k).2.2.1.2.1=q.2.1.2.1):=by
 unfold gP;cases hc: !Bl q||(!q.2.2.2.2.1||((k.length:Int) !=16))with|true=>exact⟨z,rfl,zq,λh=>⟨(zO h).1,rfl⟩⟩|false=>?_
 simp only[cj,dN]at hc;have hq:=(zO hc.1).1;have hs:=MF hn (l:=l) (d:=d) (k:=k) (s:=(bn l m d q.1).1) z hq;have e0:dw n ef ((bn l m d q.1).2.1,(gC l m d q k (bn l m d q.1).1).2.1,q.2.2.1,Yh,false,q.2.2.2.2.2):=⟨⟨cC,cC,cC,cC⟩,⟨cC,cC,cC⟩,⟨cC,cC,cC⟩,⟨⟨cC,cC,cC,cC,cC,cC,cC,cC,cC,cC,cC,cC,cC,cC,cC,bX _⟩,cC,cC⟩,cC,cC⟩
 cases (bn l m d q.1).2.2&&(gC l m d q k (bn l m d q.1).1).2.2 with|true=>exact⟨hs.1,hs.2.1,e0,λ_=>⟨hs.2.2.1,hs.2.2.2.2⟩⟩|false=>exact⟨z,rfl,⟨⟨cC,cC,cC,cC⟩,⟨cC,cC,cC⟩,⟨cC,cC,cC⟩,⟨⟨cC,cC,cC,cC,cC,cC,cC,cC,cC,cC,cC,cC,cC,cC,cC,bX _⟩,cC,cC⟩,cC,cC⟩,λ_=>⟨hq,rfl⟩⟩
def Yu (k:Nat)(h:Host):Host:=
 match h.2.2.2.2.2.1[k]? with
 |some v=>(h.1,h.2.1,h.2.2.1,h.2.2.2.1,h.2.2.2.2.1,h.2.2.2.2.2.1.set k (evV v),h.2.2.2.2.2.2)
 |none=>h
def OZ (k:Nat):Nat->Host->Host
 |0,h=>h
 |i+1,h=>Yu k (OZ k i h)
theorem YZ (k:Nat)(h:Host):kX (k+1) h (Yu k h):=by unfold Yu;cases h.2.2.2.2.2.1[k]? with|none=>exact kX.refl _ _|some v=>exact⟨rfl,rfl,rfl,rfl,λ_ _=>rfl,rfl,az ..,λj hj=>aF (by omega),rfl,rfl,rfl⟩
theorem IY (k:Nat)(h:Host):∀i,kX (k+1) h (OZ k i h)
 |0=>kX.refl _ _
 |i+1=>(IY k h i).trans (YZ k _)
theorem ab3 (k:Nat)(z:dw n dY h):dw n dY (Yu k h):=by unfold Yu;cases h.2.2.2.2.2.1[k]? with|none=>exact z|some v=>exact⟨z.1,z.2.1,z.2.2.1,z.2.2.2.1,z.2.2.2.2.1,HZ z.2.2.2.2.2.1,z.2.2.2.2.2.2⟩
theorem U0 {n:Nat}(k:Nat){h:Host}(z:dw n dY h):∀i,dw n dY (OZ k i h)
 |0=>z
 |i+1=>ab3 k (U0 k z i)
theorem SY (h:Host)(k:Nat)(b:Int)(h1:k<h.2.2.2.1.length)(h2:k<h.2.2.2.2.2.1.length)(hq:fV h.2.2.2.1[k].2.1=true)(hb:0<=b/\b<=31):kK h (k:Int) b=some ((),OZ k ((h.2.2.2.1[k].2.1.2.2-b)%(2*h.2.2.2.1[k].2.1.2.1)).toNat h):=by
 have hfu:=eO;have q:=tT hq;unfold kK;rw[bK h1,ab];generalize h.2.2.2.1[k]=x at q⊢;rw[ak (n:=x.2.1.2.2-b),ak (n:=2*x.2.1.2.1),FW _ _,ab];have hm:0<=(x.2.1.2.2-b)%(2*x.2.1.2.1)/\(x.2.1.2.2-b)%(2*x.2.1.2.1)<32:=by have g1:=fy (x.2.1.2.2-b) (show 2*x.2.1.2.1≠0 by omega);have g2:=fA (x.2.1.2.2-b) (show 0<2*x.2.1.2.1 by omega);omega
 generalize (x.2.1.2.2-b)%(2*x.2.1.2.1)=c at hm⊢;obtain⟨c,rfl⟩:=aG hm.1;rw[ay];have e0:((c:Int),h)=(((c:Int)-((0:Nat):Int)),OZ k 0 h):=by simp[OZ]
 rw[e0];refine eV (λi=>((c:Int)-(i:Int),OZ k i h)) c (by omega) (λi nx hi=>?_) (λnx=>?_);have kk:=IY k h i;have i1:k<(OZ k i h).2.2.2.2.2.1.length:=by rw[kk.vec];exact h2
 rw[show OZ k (i+1) h=Yu k (OZ k i h) from rfl];generalize OZ k i h=s at i1⊢;simp only[px,Yu];rw[lT,ah,al i1];simp only[bK i1,ab,Wr,ay];rw[ak,show(c:Int)-(i:Int)-1=(c:Int)-((i+1:Nat):Int) by omega];simp only[px];rw[jJ,af]
def Dc (h:Host)(k:Nat)(f:bW×bF):Host:=(f.1,h.2.1,h.2.2.1,h.2.2.2.1.set k f.2,h.2.2.2.2)
def zh (h:Host)(k:Nat)(b:Int)(f:bW×bF):Host:=OZ k ((f.2.2.1.2.2-b)%(2*f.2.2.1.2.1)).toNat (Dc h k f)
def iI (k:Nat)(h:Host):Host:=
 match h.2.2.2.1[k]? with
 |some x=>zh h k x.2.1.2.2 (gP h.2.1 h.1 0 x h.2.2.2.2.2.2.2.2.1.2.2.1)
 |none=>h
theorem Cg (hf:f.1.length=h.1.length):kX (k+1) h (zh h k b f):=by
 have a:kX (k+1) h (Dc h k f):=⟨hf,rfl,rfl,az ..,λj hj=>aF (by omega),rfl,rfl,λ_ _=>rfl,rfl,rfl,rfl⟩
 exact a.trans (IY k (Dc h k f) _)
theorem KM (z:dw n dY h)(h1:dw n (.sl .str) f.1)(h2:dw n ef f.2):dw n dY (zh h k b f):=by
 have a:dw n dY (Dc h k f):=⟨h1,z.2.1,z.2.2.1,ox z.2.2.2.1 h2,z.2.2.2.2⟩
 exact U0 k a _
theorem PU {k:Bytes}:(gP l m d q k).1.length=m.length:=by
 have hs:(gC l m d q k (bn l m d q.1).1).1.length=m.length:=by
  unfold gC;cases !(cB (bn l m d q.1).1).2||(((cB (bn l m d q.1).1).1.1 !=3)||decide ((cB (bn l m d q.1).1).1.2.2.1<((dj q.2.2.2.1.1).1.length:Int)))with|true=>rfl|false=>?_
  cases (gA l m d (cB (bn l m d q.1).1).1.2.2.2.1 (dj q.2.2.2.1.1).1 true).2 with|false=>rfl|true=>?_
  have h2:=jX l m d (cB (bn l m d q.1).1).1.2.2.2.1 (dj q.2.2.2.1.1).1 true;simp only[af,aj];unfold qZ;cases !fV q.2.1|| !rf ((cB (bn l m d q.1).1).1.2.2.2.2.2,((dj q.2.2.2.1.1).1.length:Int),q.2.2.2.1.2.1,q.2.2.2.1.2.2,sP k (oU (jM q.2.2.2.1.1)))with|true=>exact h2|false=>?_
  cases (gA l (gA l m d (cB (bn l m d q.1).1).1.2.2.2.1 (dj q.2.2.2.1.1).1 true).1 d (qe q.2.1) (Ee ((cB (bn l m d q.1).1).1.2.2.2.2.2,((dj q.2.2.2.1.1).1.length:Int),q.2.2.2.1.2.1,q.2.2.2.1.2.2,sP k (oU (jM q.2.2.2.1.1))) (wC q.2.1)) true).2 with|false=>exact h2|true=>exact(jX ..).trans h2
 unfold gP;cases !Bl q||(!q.2.2.2.2.1||((k.length:Int) !=16))with|true=>rfl|false=>?_
 cases (bn l m d q.1).2.2&&(gC l m d q k (bn l m d q.1).1).2.2 with|true=>exact hs|false=>rfl
theorem vR (k:Nat)(h:Host):kX (k+1) h (iI k h):=by unfold iI;cases h.2.2.2.1[k]? with|none=>exact kX.refl _ _|some x=>exact Cg PU
theorem Ja (k:Nat)(h:Host)(n:Nat)(hn:1000<=n)(z:dw n dY h):dw (n+0) dY (iI k h):=by unfold iI;cases hx:h.2.2.2.1[k]? with|none=>exact z|some x=>have hf:=Cs (show 128<=n by omega) (l:=h.2.1) (d:=0) (k:=h.2.2.2.2.2.2.2.2.1.2.2.1) z.1 (z.2.2.2.1.2 _ (aW hx));exact KM z hf.1 hf.2.2.1
def lV (h:Host):Host:=bif eZ h then ik iI h.2.2.2.1.length h else h
theorem FB (hn:1000<=n)(k:zj n h):zj n (lV h):=by unfold lV;cases eZ h with|false=>exact k|true=>refine⟨(AH hn Ja k.z _).mono,?_⟩;simp only[ah];rw[(qW vR h _).tx];exact k.t
theorem DE (hb:eZ h=true):∀i (hi:i<h.2.2.2.1.length),Bl h.2.2.2.1[i]=true:=by simp only[eZ,Ry,ae]at hb;exact λi hi=>aJ.1 hb.2.2.2.2.2.2.1.1 _ (bz hi)
theorem Hu (h1:k<h.2.2.2.1.length)(h2:k<h.2.2.2.2.2.1.length)(hq:fV f.2.2.1=true)(hb:0<=b/\b<=31:=by omega): kK (f.1,h.2.1,h.2.2.1,h.2.2.2.1.set k f.2,h.2.2.2.2) (k:Int) b=some ((),zh h k b f):=by
 have h3:k<(Dc h k f).2.2.2.1.length:=by show k<(h.2.2.2.1.set k f.2).length;rw[az];exact h1
 have e:(Dc h k f).2.2.2.1[k]=f.2:=List.getElem_set_self _;have a:=SY (Dc h k f) k b h3 h2 (by rw[e];exact hq) hb;rw[e]at a;exact a
theorem Js (h:Host)(k:zj 900000000 h):pP h=some (lV h):=by
 have hfu:=eO;unfold pP lV;rw[lA h (k.z.mono),ab,rr h (k.sz (by omega)),ab];cases hb:eZ h with|false=>rfl|true=>?_
 have hl:=mD (by simp only[eZ,ae]at hb;exact hb.2.2.2.2.1:pX h=true);have hr:=DE hb;simp only[aj,af,ah];refine eV (λi=>((i:Int),ik iI i h)) h.2.2.2.1.length (by omega) (λi nx hi=>?_) (λnx=>?_);have kk:=qW vR h i;have zz:dw 900000000 dY (ik iI i h):=(AH (by omega) Ja k.z i).mono;have i1:i<(ik iI i h).2.2.2.1.length:=by rw[kk.rx];exact hi
 have i2:i<(ik iI i h).2.2.2.2.2.1.length:=by rw[kk.vec];omega
 have e1:(ik iI i h).2.2.2.1[i]=h.2.2.2.1[i]:=by have:=kk.rxs i (aR _);rw[al i1,al hi]at this;exact cZ this
 rw[show ik iI (i+1) h=iI i (ik iI i h) from rfl];generalize ik iI i h=s at zz i1 i2 e1⊢;have z1:s.1.length<=900000000:=zz.1.1;have z2:s.2.1.length<=900000000:=zz.2.1.1;have hrx:=hr i hi;rw[<-e1]at hrx;have hqd:=tT (zO hrx).1;have hf:=Cs (show 128<=900000000 by omega) (l:=s.2.1) (d:=0) (k:=s.2.2.2.2.2.2.2.2.1.2.2.1) zz.1 (zz.2.2.2.1.2 _ (bz i1));have ev:=Hu (h:=s) (k:=i) (b:=s.2.2.2.1[i].2.1.2.2) (f:=gP s.2.1 s.1 0 s.2.2.2.1[i] s.2.2.2.2.2.2.2.2.1.2.2.1) i1 i2 (hf.2.2.2 hrx).1;simp only[pk,iI];rw[lT,ah,al i1];simp only[bK i1,bK hi,ab,FG s.2.1 s.1 0 _ _ (show s.2.1.length<=1000000000 by omega) (show s.1.length<=1000000000 by omega),ay,<-e1,ev];rw[ak];rfl;simp only[pk];rw[jJ,af]
def Re (a b:aQ):Bool:=(a.1==b.1)&&((a.2.1==b.2.1)&&((a.2.2.1==b.2.2.1)&&((a.2.2.2.1==b.2.2.2.1)&&((a.2.2.2.2.2.1==b.2.2.2.2.2.1)&&((a.2.2.2.2.2.2.1==b.2.2.2.2.2.2.1)&&((a.2.2.2.2.2.2.2.1==b.2.2.2.2.2.2.2.1)&&((a.2.2.2.2.2.2.2.2.1==b.2.2.2.2.2.2.2.2.1)&&((a.2.2.2.2.2.2.2.2.2.1==b.2.2.2.2.2.2.2.2.2.1)&&((a.2.2.2.2.2.2.2.2.2.2.1==b.2.2.2.2.2.2.2.2.2.2.1)&&((a.2.2.2.2.2.2.2.2.2.2.2.2.1==b.2.2.2.2.2.2.2.2.2.2.2.2.1)&&((a.2.2.2.2.2.2.2.2.2.2.2.2.2.2.1==b.2.2.2.2.2.2.2.2.2.2.2.2.2.2.1))))))))))))
theorem Zv (a b:aQ):vp a b=some (Re a b):=by unfold vp Re;simp only[gY,bB,iq]
def ahz (s:om)(p:aQ):Bool:=(p.2.2.2.2.2.2.2.2.2.2.2.1==Int.tmod (aq (s.1.2.2.2.2.2.2.2.2.2.2.2.1+(s.1.2.2.2.2.2.2.2.2.2.2.2.2.2.2.2.length:Int))) 4294967296)&&(p.2.2.2.2.1==Int.tmod (aq (s.1.2.2.2.2.1+s.2.2)) 65536)
def VA (s:om)(p:aQ):Bool:=decide (1<=s.2.1)&&(dp s.2.2 1 320&&(decide ((s.1.2.2.2.2.2.2.2.2.2.2.2.2.2.2.2.length:Int)=s.2.1*s.2.2)&&(dp (p.2.2.2.2.2.2.2.2.2.2.2.2.2.2.2.length:Int) 1 s.2.1&&decide ((s.1.2.2.2.2.2.2.2.2.2.2.2.2.2.2.2.length:Int)+(p.2.2.2.2.2.2.2.2.2.2.2.2.2.2.2.length:Int)<=320))))
def Zj (s:om)(p:aQ):Bool:=dG s.1&&(gF p&&(Re s.1 p&&((p.2.2.2.2.2.2.2.2.1==6)&&((s.1.2.2.2.2.2.2.2.2.2.2.2.2.2.1==16)&&Ab p.2.2.2.2.2.2.2.2.2.2.2.2.2.1))))
def D8 (s:om)(p:aQ):Bool:=Zj s p&&(VA s p&&ahz s p)
theorem ET (h:gF p=true)(h6:(p.2.2.2.2.2.2.2.2.1==6)=true):dp p.2.2.2.2.2.2.2.2.2.2.2.2.2.1 0 31=true:=by simp only[gF,dG,ae]at h;exact CF (xX h.1.1) h6
theorem DN (h:gF p=true):p.2.2.2.2.2.2.2.2.2.2.2.2.2.2.2.length<=128:=by simp only[gF,ae,aD]at h;omega
theorem Vc (s:om)(p:aQ):tt s p=some (D8 s p):=by
 unfold tt D8 Zj;rw[oM,ab,Aj,ab,Zv,ab];cases hs:dG s.1 with|false=>rfl|true=>?_
 cases hp:gF p with|false=>rfl|true=>?_
 cases Re s.1 p with|false=>rfl|true=>?_
 cases h6:p.2.2.2.2.2.2.2.2.1==6 with|false=>simp only[bne,h6];rfl|true=>?_
 cases h16:s.1.2.2.2.2.2.2.2.2.2.2.2.2.2.1==16 with|false=>simp only[bne,h6,h16];rfl|true=>?_
 have hf:=ET hp h6;have hsl:=AJ hs;have hpl:=DN hp;simp only[bne,h6,h16,aj,af,ab,I4 _ hf,bB];cases Ab p.2.2.2.2.2.2.2.2.2.2.2.2.2.1 with|false=>rfl|true=>?_
 simp only[aj,af,di,ab,bB];rw[aI (show¬(4294967296:Nat)=0 by omega),aI (show¬(65536:Nat)=0 by omega)];simp only[cu,cF];rw[show((p.2.2.2.2.2.2.2.2.2.2.2.1==Int.tmod (aq (s.1.2.2.2.2.2.2.2.2.2.2.2.1+(s.1.2.2.2.2.2.2.2.2.2.2.2.2.2.2.2.length:Int))) 4294967296)&&(p.2.2.2.2.1==Int.tmod (aq (s.1.2.2.2.2.1+s.2.2)) 65536))=ahz s p from rfl];unfold VA;generalize ahz s p=q;generalize s.1.2.2.2.2.2.2.2.2.2.2.2.2.2.2.2.length=n at hsl⊢;generalize p.2.2.2.2.2.2.2.2.2.2.2.2.2.2.2.length=m at hpl⊢;rw[ak (n:=(n:Int)+(m:Int))];by_cases h1:s.2.1<1;rw[au h1,ar (show¬1<=s.2.1 by omega)];rfl;rw[ar h1,au (show 1<=s.2.1 by omega)];cases h2:dp s.2.2 1 320 with|false=>rfl|true=>?_
 have h2':=aX.1 h2;simp only[aj,af,ab,bB];rw[jR,jR];have e1:Int.tmod (n:Int) s.2.2=(n:Int)%s.2.2:=dB (by omega);have e2:Int.tdiv (n:Int) s.2.2=(n:Int)/s.2.2:=Int.tdiv_eq_ediv_of_nonneg (by omega);have hdm:=Int.emod_add_mul_ediv (n:Int) s.2.2;have hq0:0<=(n:Int)/s.2.2:=Int.ediv_nonneg (by omega) (by omega);have hq1:(n:Int)/s.2.2<=(n:Int):=Int.ediv_le_self _ (by omega);rw[e1,e2,ak (n:=(n:Int)/s.2.2)];by_cases h3:(n:Int)=s.2.1*s.2.2;have h4:(n:Int)%s.2.2=0:=by rw[h3];exact Int.mul_emod_left ..
 have h5:(n:Int)/s.2.2=s.2.1:=by rw[h3];exact Int.mul_ediv_cancel _ (by omega)
 rw[h4,h5,au h3];simp only[gY,aj,af,ab,bB];cases dp (m:Int) 1 s.2.1 with|false=>rfl|true=>?_
 cases decide ((n:Int)+(m:Int)<=320)<;>rfl;rw[ar h3];cases h4:(n:Int)%s.2.2==0 with
 |false=>rfl
 |true=>
  have h4':(n:Int)%s.2.2=0:=by simpa using h4
  have h5:((n:Int)/s.2.2==s.2.1)=false:=by rw[bT];intro h5;rw[h4',h5]at hdm;exact h3 (by rw[Int.mul_comm];omega)
  simp only[aj,af,h5,cd,ab,ah];rfl
def C7 (s:om)(p:aQ):om:=bif D8 s p then((s.1.1,s.1.2.1,s.1.2.2.1,s.1.2.2.2.1,s.1.2.2.2.2.1,s.1.2.2.2.2.2.1,s.1.2.2.2.2.2.2.1,s.1.2.2.2.2.2.2.2.1,s.1.2.2.2.2.2.2.2.2.1,s.1.2.2.2.2.2.2.2.2.2.1,s.1.2.2.2.2.2.2.2.2.2.2.1,s.1.2.2.2.2.2.2.2.2.2.2.2.1,s.1.2.2.2.2.2.2.2.2.2.2.2.2.1,p.2.2.2.2.2.2.2.2.2.2.2.2.2.1,s.1.2.2.2.2.2.2.2.2.2.2.2.2.2.2.1,s.1.2.2.2.2.2.2.2.2.2.2.2.2.2.2.2++p.2.2.2.2.2.2.2.2.2.2.2.2.2.2.2),s.2.1,aq (s.2.2+1)) else s
theorem MY {s:om}(h:D8 s p=true):s.1.2.2.2.2.2.2.2.2.2.2.2.2.2.2.2.length+p.2.2.2.2.2.2.2.2.2.2.2.2.2.2.2.length<=320:=by simp only[D8,VA,ae,aD]at h;have:=h.2.1.2.2.2.2;omega
theorem Zu (s:om)(p:aQ):Cy s p=some (C7 s p):=by
 unfold Cy C7;rw[Vc,ab];cases h:D8 s p with|false=>rfl|true=>?_
 have:=MY h;simp only[aj,af,ah];rw[aZ]
def jS (p:aQ):om:=(p,(p.2.2.2.2.2.2.2.2.2.2.2.2.2.2.2.length:Int),1)
theorem S9 (p:aQ):BJ p=some (jS p):=rfl
def Em (q:bF)(s:om):bF:=(q.1,q.2.1,q.2.2.1,s,true,q.2.2.2.2.2)
def kc (l:ax aC)(m:bW)(d:Int)(q:bF)(k:Bytes)(p:aQ)(c:Bool):bW×bF:=
 bif !Bl q||(!gF p||((k.length:Int) !=16)) then(m,q) else
 bif c&&(q.2.2.2.2.1&&D8 q.2.2.2.1 p) then(m,q.1,q.2.1,q.2.2.1,C7 q.2.2.2.1 p,q.2.2.2.2) else
 bif c then((gP l m d q k).1,Em (gP l m d q k).2 (jS p)) else gP l (gP l m d q k).1 d (Em (gP l m d q k).2 (jS p)) k
theorem SZ (l:ax aC)(m:bW)(d:Int)(q:bF)(k:Bytes)(p:aQ)(c:Bool)(hl:l.length<=1000000000)(hm:m.length<=1000000000):nP l m d q k p c=some (kc l m d q k p c):=by
 unfold nP kc Em;simp only[Jw,Aj,ab,gu m (show m.length<=1073741824 by omega),Vc,Zu,FG l m d q k hl hm,S9,FG l (gP l m d q k).1 d _ k hl (show(gP l m d q k).1.length<=1000000000 by rw[PU];exact hm)];cases Bl q with|false=>rfl|true=>?_
 cases gF p with|false=>rfl|true=>?_
 cases (k.length:Int) !=16 with|true=>rfl|false=>?_
 cases c with|false=>rfl|true=>?_
 cases q.2.2.2.2.1 with|false=>rfl|true=>?_
 cases D8 q.2.2.2.1 p<;>rfl
theorem PV {k:Bytes}(h:fV q.2.1=true):fV (gP l m d q k).2.2.1=true:=by
 unfold gP;cases !Bl q||(!q.2.2.2.2.1||((k.length:Int) !=16))with|true=>exact h|false=>?_
 have hs:fV (gC l m d q k (bn l m d q.1).1).2.1=true:=by
  unfold gC;cases !(cB (bn l m d q.1).1).2||(((cB (bn l m d q.1).1).1.1 !=3)||decide ((cB (bn l m d q.1).1).1.2.2.1<((dj q.2.2.2.1.1).1.length:Int)))with|true=>exact h|false=>?_
  cases (gA l m d (cB (bn l m d q.1).1).1.2.2.2.1 (dj q.2.2.2.1.1).1 true).2 with|false=>exact h|true=>?_
  exact(Vs h).1
 cases (bn l m d q.1).2.2&&(gC l m d q k (bn l m d q.1).1).2.2 with|true=>exact hs|false=>exact h
theorem Wn {s:om}(h:s.1.2.2.2.2.2.2.2.2.2.2.2.2.2.2.2.length<=n):dw n ef (Em q s):=⟨⟨cC,cC,cC,cC⟩,⟨cC,cC,cC⟩,⟨cC,cC,cC⟩,⟨⟨cC,cC,cC,cC,cC,cC,cC,cC,cC,cC,cC,cC,cC,cC,cC,h⟩,cC,cC⟩,cC,cC⟩
theorem H6 (hn:1000<=n){k:Bytes}{c:Bool}(z:dw n (.sl .str) m)(zq:dw n ef q)(hq:fV q.2.1=true): dw n (.sl .str) (kc l m d q k p c).1/\(kc l m d q k p c).1.length=m.length/\dw n ef (kc l m d q k p c).2/\fV (kc l m d q k p c).2.2.1=true:=by
 unfold kc;cases hc: !Bl q||(!gF p||((k.length:Int) !=16))with|true=>exact⟨z,rfl,zq,hq⟩|false=>?_
 simp only[cj,dN]at hc;have hp:=DN hc.2.1;cases hj:c&&(q.2.2.2.2.1&&D8 q.2.2.2.1 p)with|true=>simp only[ae]at hj;have:=MY hj.2.2;refine⟨z,rfl,⟨⟨cC,cC,cC,cC⟩,⟨cC,cC,cC⟩,⟨cC,cC,cC⟩,⟨?_,cC,cC⟩,cC,cC⟩,hq⟩;refine⟨cC,cC,cC,cC,cC,cC,cC,cC,cC,cC,cC,cC,cC,cC,cC,?_⟩;unfold C7;rw[hj.2.2];show List.length (q.2.2.2.1.1.2.2.2.2.2.2.2.2.2.2.2.2.2.2.2++p.2.2.2.2.2.2.2.2.2.2.2.2.2.2.2)<=n;rw[ai];omega|false=>have hf:=Cs (show 128<=n by omega) (l:=l) (d:=d) (k:=k) z zq;have hfq:=PV (l:=l) (m:=m) (d:=d) (k:=k) hq;have hh:dw n ef (Em (gP l m d q k).2 (jS p)):=Wn (by show p.2.2.2.2.2.2.2.2.2.2.2.2.2.2.2.length<=n;omega);cases c with|true=>exact⟨hf.1,hf.2.1,hh,hfq⟩|false=>have hf2:=Cs (show 128<=n by omega) (l:=l) (d:=d) (k:=k) hf.1 hh;exact⟨hf2.1,hf2.2.1.trans hf.2.1,hf2.2.2.1,PV (q:=Em (gP l m d q k).2 (jS p)) hfq⟩
theorem RA {r:kb}(h:yJ r=true):0<=r.2.2.2.2.2.2.2.2:=by
 by_cases h0:0<=r.2.2.2.2.2.2.2.2;exact h0;exfalso;have e:∀b:Int,dp r.2.2.2.2.2.2.2.2 0 b=false:=λb=>by rw[Bool.eq_false_iff];intro hc;have:=aX.1 hc;omega
 have e1:(r.2.2.2.2.2.2.2.2==0)=false:=by rw[bT];omega
 revert h;unfold yJ;have z:∀c:Bool,(bif c then false else false)=false:=by intro c;cases c<;>rfl
 simp only[lO,eI,ab,cu,e,e1,fX,z,af];intro h;cases h
theorem Yd {s:dm}{q:Int}:ri s q p= -1\/∃n:Nat,ri s q p=(n:Int)/\(n:Int)<q:=by
 unfold ri;cases hb: !fL s q|| !dG p with|true=>exact .inl rfl|false=>?_
 simp only[cj,dN]at hb;have hs:=hb.1;simp only[fL,ae]at hs;simp only[af];cases hd:decide (CU s.1 p>=0)with
 |true=>obtain⟨n,hn,hl⟩:=PM s.1 p (bu hd);simp only[ah,hn,ay,cS hl];cases s.1[n].2.2.2.2.2.2.2.1==1 with|true=>exact .inl rfl|false=>have h1:=aJ.1 hs.1.2 _ (bz hl);have h2:=hs.1.1.1.1;simp only[wD,ae]at h2;have h3:=RA (aJ.1 h2.1 _ (bz hl));simp only[aL,cR]at h1;exact .inr ⟨s.1[n].2.2.2.2.2.2.2.2.toNat,by simp only[af];omega,by omega⟩
 |false=>
  simp only[af];cases hd2:decide (findF s.2.1 (jM p)>=0)with
  |true=>obtain⟨n,hn,hl⟩:=PL s.2.1 (jM p) (bu hd2);simp only[ah,hn,ay,cS hl];have h1:=aJ.1 hs.2 _ (bz hl);have h2:=hs.1.1.1.2;simp only[og,ae,bq]at h2;have h3:=aJ.1 h2.2 n (cp.2 (by omega));unfold nk MC at h3;rw[uN hl]at h3;simp only[ae,aX]at h3;simp only[aL,cR]at h1;exact .inr ⟨s.2.1[n].2.2.toNat,by omega,by omega⟩
  |false=>
   simp only[af];unfold HV;cases hc: !pE s.2.2 q||decide (Aa s.2.2 (jM p)<0)with|true=>exact .inl rfl|false=>?_
   simp only[cj,dN,cR]at hc;obtain⟨n,hn,hl⟩:=LD s.2.2 (jM p) hc.2;have h1:=hc.1;simp only[pE,ae]at h1;have h2:=aX.1 (aJ.1 h1.2 _ (bz hl));simp only[af,hn,ay,cS hl];exact .inr ⟨s.2.2.2[n].toNat,by omega,by omega⟩
def wy (h:Host)(a b c d:Int):Host:=(h.1,h.2.1,h.2.2.1,h.2.2.2.1,h.2.2.2.2.1,h.2.2.2.2.2.1,h.2.2.2.2.2.2.1,h.2.2.2.2.2.2.2.1,h.2.2.2.2.2.2.2.2.1,h.2.2.2.2.2.2.2.2.2.1,h.2.2.2.2.2.2.2.2.2.2.1,h.2.2.2.2.2.2.2.2.2.2.2.1,h.2.2.2.2.2.2.2.2.2.2.2.2.1,h.2.2.2.2.2.2.2.2.2.2.2.2.2.1,aq (h.2.2.2.2.2.2.2.2.2.2.2.2.2.2.1+1),a,b,c,d)
def nh (h:Host)(x:Bytes):Host:=
 bif !eZ h then h else
 bif (nD x).2 !=0 then wy h (aq (h.2.2.2.2.2.2.2.2.2.2.2.2.2.2.2.1+1)) h.2.2.2.2.2.2.2.2.2.2.2.2.2.2.2.2.1 h.2.2.2.2.2.2.2.2.2.2.2.2.2.2.2.2.2.1 h.2.2.2.2.2.2.2.2.2.2.2.2.2.2.2.2.2.2 else
 bif !vO h.2.2.2.2.2.2.2.1 (nD x).1 then wy h h.2.2.2.2.2.2.2.2.2.2.2.2.2.2.2.1 (aq (h.2.2.2.2.2.2.2.2.2.2.2.2.2.2.2.2.1+1)) h.2.2.2.2.2.2.2.2.2.2.2.2.2.2.2.2.2.1 h.2.2.2.2.2.2.2.2.2.2.2.2.2.2.2.2.2.2 else
 bif ri h.2.2.2.2.2.2.2.2.1 (h.2.2.2.1.length:Int) (nD x).1== -1 then wy h h.2.2.2.2.2.2.2.2.2.2.2.2.2.2.2.1 h.2.2.2.2.2.2.2.2.2.2.2.2.2.2.2.2.1 (aq (h.2.2.2.2.2.2.2.2.2.2.2.2.2.2.2.2.2.1+1)) h.2.2.2.2.2.2.2.2.2.2.2.2.2.2.2.2.2.2 else
 match h.2.2.2.1[(ri h.2.2.2.2.2.2.2.2.1 (h.2.2.2.1.length:Int) (nD x).1).toNat]? with
 |some q=>zh (wy h h.2.2.2.2.2.2.2.2.2.2.2.2.2.2.2.1 h.2.2.2.2.2.2.2.2.2.2.2.2.2.2.2.2.1 h.2.2.2.2.2.2.2.2.2.2.2.2.2.2.2.2.2.1 (aq (h.2.2.2.2.2.2.2.2.2.2.2.2.2.2.2.2.2.2+1))) (ri h.2.2.2.2.2.2.2.2.1 (h.2.2.2.1.length:Int) (nD x).1).toNat q.2.1.2.2 (kc h.2.1 h.1 0 q h.2.2.2.2.2.2.2.2.1.2.2.1 (nD x).1 h.2.2.2.2.2.2.2.2.2.2.1)
 |none=>h
theorem N9 (h:Host)(x:Bytes)(k:zj 900000000 h)(hx:x.length<=1000000000):qu h x=some (nh h x):=by
 have z:=k.z;have z1:h.1.length<=900000000:=z.1.1;have z2:h.2.1.length<=900000000:=z.2.1.1;have zf:h.2.2.2.2.2.2.2.1.2.2.length<=900000000:=z.2.2.2.2.2.2.2.1.2.2.1;have s1:h.2.2.2.2.2.2.2.2.1.1.length<=900000000:=z.2.2.2.2.2.2.2.2.1.1.1;have s2:h.2.2.2.2.2.2.2.2.1.2.1.length<=900000000:=z.2.2.2.2.2.2.2.2.1.2.1.1;have s3:h.2.2.2.2.2.2.2.2.1.2.2.2.length<=900000000:=z.2.2.2.2.2.2.2.2.1.2.2.2.1;unfold qu nh;rw[lA h (z.mono),ab,rr h (k.sz (by omega)),ab];cases hb:eZ h with|false=>rfl|true=>?_
 have hl:=mD (by simp only[eZ,ae]at hb;exact hb.2.2.2.2.1:pX h=true);have hr:=DE hb;simp only[aj,af,WC x hx,ab,Qb h.2.2.2.2.2.2.2.1 _ (show h.2.2.2.2.2.2.2.1.2.2.length<=1000000000 by omega),WJ h.2.2.2.2.2.2.2.2.1 _ _ (show h.2.2.2.2.2.2.2.2.1.1.length<=1000000000 by omega) (show h.2.2.2.2.2.2.2.2.1.2.1.length<=1000000000 by omega) (show h.2.2.2.2.2.2.2.2.1.2.2.2.length<=1000000000 by omega)];generalize nD x=f;cases f.2 !=0 with|true=>rfl|false=>?_
 cases vO h.2.2.2.2.2.2.2.1 f.1 with|false=>rfl|true=>?_
 simp only[aj,af];have hst:=Yd (s:=h.2.2.2.2.2.2.2.2.1) (q:=(h.2.2.2.1.length:Int)) (p:=f.1);generalize ri h.2.2.2.2.2.2.2.2.1 (h.2.2.2.1.length:Int) f.1=r at hst⊢;rcases hst with rfl|⟨n,rfl,hn⟩;rfl;have i1:n<h.2.2.2.1.length:=by omega
 have i2:n<h.2.2.2.2.2.1.length:=by omega
 have hq:=(zO (hr n i1)).1;have hqi:=tT hq;have ha:=H6 (show 1000<=900000000 by omega) (l:=h.2.1) (d:=0) (k:=h.2.2.2.2.2.2.2.2.1.2.2.1) (p:=f.1) (c:=h.2.2.2.2.2.2.2.2.2.2.1) z.1 (z.2.2.2.1.2 _ (bz i1)) hq;have ev:=Hu (h:=wy h h.2.2.2.2.2.2.2.2.2.2.2.2.2.2.2.1 h.2.2.2.2.2.2.2.2.2.2.2.2.2.2.2.2.1 h.2.2.2.2.2.2.2.2.2.2.2.2.2.2.2.2.2.1 (aq (h.2.2.2.2.2.2.2.2.2.2.2.2.2.2.2.2.2.2+1))) (k:=n) (b:=h.2.2.2.1[n].2.1.2.2) (f:=kc h.2.1 h.1 0 h.2.2.2.1[n] h.2.2.2.2.2.2.2.2.1.2.2.1 f.1 h.2.2.2.2.2.2.2.2.2.2.1) i1 i2 ha.2.2.2;rw[show((n:Int)== -1)=false from by rw[bT];omega,ay,al i1];simp only[af,bK i1,ab,SZ h.2.1 h.1 0 _ _ _ _ (show h.2.1.length<=1000000000 by omega) (show h.1.length<=1000000000 by omega)];rw[show(kK ((kc h.2.1 h.1 0 h.2.2.2.1[n] h.2.2.2.2.2.2.2.2.1.2.2.1 f.1 h.2.2.2.2.2.2.2.2.2.2.1).1,h.2.1,h.2.2.1,h.2.2.2.1.set n (kc h.2.1 h.1 0 h.2.2.2.1[n] h.2.2.2.2.2.2.2.2.1.2.2.1 f.1 h.2.2.2.2.2.2.2.2.2.2.1).2,h.2.2.2.2.1,h.2.2.2.2.2.1,h.2.2.2.2.2.2.1,h.2.2.2.2.2.2.2.1,h.2.2.2.2.2.2.2.2.1,h.2.2.2.2.2.2.2.2.2.1,h.2.2.2.2.2.2.2.2.2.2.1,h.2.2.2.2.2.2.2.2.2.2.2.1,h.2.2.2.2.2.2.2.2.2.2.2.2.1,h.2.2.2.2.2.2.2.2.2.2.2.2.2.1,aq (h.2.2.2.2.2.2.2.2.2.2.2.2.2.2.1+1),h.2.2.2.2.2.2.2.2.2.2.2.2.2.2.2.1,h.2.2.2.2.2.2.2.2.2.2.2.2.2.2.2.2.1,h.2.2.2.2.2.2.2.2.2.2.2.2.2.2.2.2.2.1,aq (h.2.2.2.2.2.2.2.2.2.2.2.2.2.2.2.2.2.2+1)) (n:Int) h.2.2.2.1[n].2.1.2.2)=_ from ev,ab]
theorem Rt (hn:1000<=n)(x:Bytes)(k:zj n h):zj n (nh h x)/\(nh h x).2.2.1=h.2.2.1/\(nh h x).2.2.2.2.1.length=h.2.2.2.2.1.length:=by
 have z:=k.z;have zc:∀a b c d,zj n (wy h a b c d):=λa b c d=>⟨⟨z.1,z.2.1,z.2.2.1,z.2.2.2.1,z.2.2.2.2.1,z.2.2.2.2.2.1,z.2.2.2.2.2.2.1,z.2.2.2.2.2.2.2.1,z.2.2.2.2.2.2.2.2.1,z.2.2.2.2.2.2.2.2.2.1,z.2.2.2.2.2.2.2.2.2.2.1,z.2.2.2.2.2.2.2.2.2.2.2.1,z.2.2.2.2.2.2.2.2.2.2.2.2.1,z.2.2.2.2.2.2.2.2.2.2.2.2.2.1,cC,cC,cC,cC,cC⟩,k.t⟩
 unfold nh;cases hb:eZ h with|false=>exact⟨k,rfl,rfl⟩|true=>?_
 have hr:=DE hb;generalize nD x=f;cases f.2 !=0 with|true=>exact⟨zc ..,rfl,rfl⟩|false=>?_
 cases vO h.2.2.2.2.2.2.2.1 f.1 with|false=>exact⟨zc ..,rfl,rfl⟩|true=>?_
 simp only[aj,af];generalize ri h.2.2.2.2.2.2.2.2.1 (h.2.2.2.1.length:Int) f.1=r;cases r== -1 with|true=>exact⟨zc ..,rfl,rfl⟩|false=>?_
 simp only[af];cases hq:h.2.2.2.1[r.toNat]? with|none=>exact⟨k,rfl,rfl⟩|some q=>?_
 obtain⟨hi,hqe⟩:=aA.1 hq;have hqd:=(zO (hr _ hi)).1;rw[hqe]at hqd;have ha:=H6 hn (l:=h.2.1) (d:=0) (k:=h.2.2.2.2.2.2.2.2.1.2.2.1) (p:=f.1) (c:=h.2.2.2.2.2.2.2.2.2.2.1) z.1 (z.2.2.2.1.2 _ (aW hq)) hqd;have zc':=zc h.2.2.2.2.2.2.2.2.2.2.2.2.2.2.2.1 h.2.2.2.2.2.2.2.2.2.2.2.2.2.2.2.2.1 h.2.2.2.2.2.2.2.2.2.2.2.2.2.2.2.2.2.1 (aq (h.2.2.2.2.2.2.2.2.2.2.2.2.2.2.2.2.2.2+1));have kk:=Cg (h:=wy h h.2.2.2.2.2.2.2.2.2.2.2.2.2.2.2.1 h.2.2.2.2.2.2.2.2.2.2.2.2.2.2.2.2.1 h.2.2.2.2.2.2.2.2.2.2.2.2.2.2.2.2.2.1 (aq (h.2.2.2.2.2.2.2.2.2.2.2.2.2.2.2.2.2.2+1))) (k:=r.toNat) (b:=q.2.1.2.2) (f:=kc h.2.1 h.1 0 q h.2.2.2.2.2.2.2.2.1.2.2.1 f.1 h.2.2.2.2.2.2.2.2.2.2.1) ha.2.1;exact⟨⟨KM zc'.z ha.1 ha.2.2.1,by rw[kk.tx];exact k.t⟩,kk.tx,kk.pl⟩
theorem Om (l:ax aC)(m:bW)(d:Int)(rx:bF)(pl:de)(st:ax Stream)(c:Int):(hZ l m d rx pl st c).1.length=m.length:=by unfold hZ;cases !Bl rx||(!dh pl|| !dp c 0 1000)with|true=>rfl|false=>exact U3 ..
def uK (b:Int)(k:Nat)(s:Int×Host):Int×Host:=
 match s.2.2.2.2.2.2.1[k]?,s.2.2.2.2.2.2.2.1[k]?,s.2.2.2.2.1[k]?,s.2.2.2.2.2.1[k]? with
 |some v,some p,some x,some pl=>
  bif p||(pF v).2 then
   (aq (s.1+(hZ s.2.2.1 s.2.1 0 x pl s.2.2.2.2.2.2.2.2.2.2.1 b).2.2.2.2),
    (hZ s.2.2.1 s.2.1 0 x pl s.2.2.2.2.2.2.2.2.2.2.1 b).1,s.2.2.1,s.2.2.2.1,s.2.2.2.2.1.set k (hZ s.2.2.1 s.2.1 0 x pl s.2.2.2.2.2.2.2.2.2.2.1 b).2.1,s.2.2.2.2.2.1.set k (hZ s.2.2.1 s.2.1 0 x pl s.2.2.2.2.2.2.2.2.2.2.1 b).2.2.1,
    s.2.2.2.2.2.2.1.set k (bif decide ((hZ s.2.2.1 s.2.1 0 x pl s.2.2.2.2.2.2.2.2.2.2.1 b).2.2.2.2<b) then xA (pF v).1 else(pF v).1),
    s.2.2.2.2.2.2.2.1.set k (!decide ((hZ s.2.2.1 s.2.1 0 x pl s.2.2.2.2.2.2.2.2.2.2.1 b).2.2.2.2<b)),s.2.2.2.2.2.2.2.2.1,s.2.2.2.2.2.2.2.2.2.1,(hZ s.2.2.1 s.2.1 0 x pl s.2.2.2.2.2.2.2.2.2.2.1 b).2.2.2.1,s.2.2.2.2.2.2.2.2.2.2.2)
  else(s.1,s.2.1,s.2.2.1,s.2.2.2.1,s.2.2.2.2.1,s.2.2.2.2.2.1,s.2.2.2.2.2.2.1.set k (pF v).1,s.2.2.2.2.2.2.2.1.set k false,s.2.2.2.2.2.2.2.2)
 |_,_,_,_=>s
theorem G6 (b:Int)(k:Nat)(s:Int×Host):kX (k+1) s.2 (uK b k s).2:=by
 unfold uK;cases s.2.2.2.2.2.2.1[k]? with|none=>exact kX.refl _ _|some v=>?_
 cases s.2.2.2.2.2.2.2.1[k]? with|none=>exact kX.refl _ _|some p=>?_
 cases s.2.2.2.2.1[k]? with|none=>exact kX.refl _ _|some x=>?_
 cases s.2.2.2.2.2.1[k]? with|none=>exact kX.refl _ _|some pl=>?_
 simp only;cases p||(pF v).2 with|true=>exact⟨Om ..,rfl,rfl,az ..,λj hj=>aF (by omega),az ..,az ..,λj hj=>aF (by omega),az ..,rfl,rfl⟩|false=>exact⟨rfl,rfl,rfl,rfl,λ_ _=>rfl,rfl,az ..,λj hj=>aF (by omega),az ..,rfl,rfl⟩
theorem T0 (b:Int)(k:Nat)(s:Int×Host)(hn:1000<=n)(z:dw n dY s.2):dw (n+322000) dY (uK b k s).2:=by
 have z':dw (n+322000) dY s.2:=z.mono;unfold uK;cases s.2.2.2.2.2.2.1[k]? with|none=>exact z'|some v=>?_
 cases s.2.2.2.2.2.2.2.1[k]? with|none=>exact z'|some p=>?_
 cases h1:s.2.2.2.2.1[k]? with|none=>exact z'|some x=>?_
 cases h2:s.2.2.2.2.2.1[k]? with|none=>exact z'|some pl=>?_
 simp only;cases p||(pF v).2 with|true=>have hp:=Mr (by omega) (l:=s.2.2.1) (d:=0) b z.1 (z.2.2.2.1.2 _ (aW h1)) (z.2.2.2.2.1.2 _ (aW h2)) z.2.2.2.2.2.2.2.2.2.1;exact⟨hp.1.mono,z'.2.1,z'.2.2.1,ox z'.2.2.2.1 (hp.2.1.mono),ox z'.2.2.2.2.1 hp.2.2.1,HZ z'.2.2.2.2.2.1,ox z'.2.2.2.2.2.2.1 trivial,z'.2.2.2.2.2.2.2.1,z'.2.2.2.2.2.2.2.2.1,hp.2.2.2.1,z'.2.2.2.2.2.2.2.2.2.2⟩|false=>exact⟨z'.1,z'.2.1,z'.2.2.1,z'.2.2.2.1,z'.2.2.2.2.1,HZ z'.2.2.2.2.2.1,ox z'.2.2.2.2.2.2.1 trivial,z'.2.2.2.2.2.2.2⟩
def mc (b:Int):Nat->Host->Int×Host
 |0,h=>(0,h)
 |k+1,h=>uK b k (mc b k h)
theorem zP (b:Int)(h:Host):∀k,kX k h (mc b k h).2
 |0=>kX.refl 0 h
 |k+1=>((zP b h k).up (by omega)).trans (G6 b k _)
theorem DP (b:Int){n:Nat}(hn:1000<=n){h:Host}(z:dw n dY h):∀k,dw (n+322000*k) dY (mc b k h).2
 |0=>z
 |k+1=>(T0 b k _ (by omega) (DP b hn z k)).mono
def iO (h:Host)(b:Int):Host×Int:=bif eZ h&&dp b 1 1000 then((mc b h.2.2.2.1.length h).2,(mc b h.2.2.2.1.length h).1) else(h,0)
theorem G7 (hn:1000<=n)(b:Int)(k:zj n h):zj (n+644000) (iO h b).1:=by unfold iO;cases hb:eZ h&&dp b 1 1000 with|false=>exact k.mono|true=>simp only[ae]at hb;have hl:=mD (by have:=hb.1;simp only[eZ,ae]at this;exact this.2.2.2.2.1:pX h=true);refine⟨(DP b hn k.z _).mono,?_⟩;simp only[ah];rw[(zP b h _).tx];exact bE k.t (by omega)
theorem GN (h:Host)(b:Int)(k:zj 400000000 h):mT h b=some (iO h b):=by
 have hfu:=eO;unfold mT iO;rw[lA h (k.z.mono),ab,rr h (k.sz (by omega)),ab,di];cases hb:eZ h with|false=>rfl|true=>?_
 cases hi0:dp b 1 1000 with|false=>rfl|true=>?_
 have hl:=mD (by simp only[eZ,ae]at hb;exact hb.2.2.2.2.1:pX h=true);simp only[aj,af,ab,dL,ah];refine eV (λi=>((mc b i h).1,(i:Int),(mc b i h).2)) h.2.2.2.1.length (by omega) (λi nx hi=>?_) (λnx=>?_);have kk:=zP b h i;have zz:dw 500000000 dY (mc b i h).2:=(DP b (by omega) k.z i).mono;have i1:i<(mc b i h).2.2.2.2.1.length:=by rw[kk.rx];exact hi
 have i2:i<(mc b i h).2.2.2.2.2.1.length:=by rw[kk.pl];omega
 have i3:i<(mc b i h).2.2.2.2.2.2.1.length:=by rw[kk.vec];omega
 have i4:i<(mc b i h).2.2.2.2.2.2.2.1.length:=by rw[kk.pol];omega
 rw[show mc b (i+1) h=uK b i (mc b i h) from rfl];generalize mc b i h=s at zz i1 i2 i3 i4⊢;have gp:∀(V:ax Vector)(P:ax Bool),ks (s.2.1,s.2.2.1,s.2.2.2.1,s.2.2.2.2.1,s.2.2.2.2.2.1,V,P,s.2.2.2.2.2.2.2.2) (i:Int) b=some ((hZ s.2.2.1 s.2.1 0 s.2.2.2.2.1[i] s.2.2.2.2.2.1[i] s.2.2.2.2.2.2.2.2.2.2.1 b).2.2.2.2,(hZ s.2.2.1 s.2.1 0 s.2.2.2.2.1[i] s.2.2.2.2.2.1[i] s.2.2.2.2.2.2.2.2.2.2.1 b).1,s.2.2.1,s.2.2.2.1,s.2.2.2.2.1.set i (hZ s.2.2.1 s.2.1 0 s.2.2.2.2.1[i] s.2.2.2.2.2.1[i] s.2.2.2.2.2.2.2.2.2.2.1 b).2.1,s.2.2.2.2.2.1.set i (hZ s.2.2.1 s.2.1 0 s.2.2.2.2.1[i] s.2.2.2.2.2.1[i] s.2.2.2.2.2.2.2.2.2.2.1 b).2.2.1,V,P,s.2.2.2.2.2.2.2.2.1,s.2.2.2.2.2.2.2.2.2.1,(hZ s.2.2.1 s.2.1 0 s.2.2.2.2.1[i] s.2.2.2.2.2.1[i] s.2.2.2.2.2.2.2.2.2.2.1 b).2.2.2.1,s.2.2.2.2.2.2.2.2.2.2.2):=by intro V P;have hpl:s.2.2.2.2.2.1[i].2.2.2.length<=500000000:=(zz.2.2.2.2.1.2 _ (bz i2)).2.2.2.1;have hm:s.2.1.length<=500000000:=zz.1.1;have hp:s.2.2.1.length<=500000000:=zz.2.1.1;unfold ks;simp only[bK i1,bK i2,ab,Ql s.2.2.1 s.2.1 0 _ _ _ b (show s.2.2.1.length<=1000000000 by omega) (show s.2.1.length<=1000000000 by omega) hpl zz.2.2.2.2.2.2.2.2.2.1,ay]
 have hset:∀V:Vector,s.2.2.2.2.2.2.1.set i V=s.2.2.2.2.2.2.1.set i V:=λ_=>rfl;unfold uK;rw[al i1,al i2,al i3,al i4];simp only[mw];rw[lT,ah];simp only[bK i3,bK i4,ab,WM,ay,gp];generalize pF s.2.2.2.2.2.2.1[i]=w;generalize hZ s.2.2.1 s.2.1 0 s.2.2.2.2.1[i] s.2.2.2.2.2.1[i] s.2.2.2.2.2.2.2.2.2.2.1 b=pr;have i5:∀V:Vector,i<(s.2.2.2.2.2.2.1.set i V).length:=λV=>by rw[az];exact i3
 have i6:∀q:Bool,i<(s.2.2.2.2.2.2.2.1.set i q).length:=λq=>by rw[az];exact i4
 have e5:∀V:Vector,idx (s.2.2.2.2.2.2.1.set i V) (i:Int)=some V:=λV=>by rw[bK (i5 V),List.getElem_set_self]
 have e6:∀q:Bool,idx (s.2.2.2.2.2.2.2.1.set i q) (i:Int)=some q:=λq=>by rw[bK (i6 q),List.getElem_set_self]
 rw[ak (n:=(i:Int)+1)];have hself:s.2.2.2.2.2.2.2.1.set i (s.2.2.2.2.2.2.2.1[i])=s.2.2.2.2.2.2.2.1:=List.set_getElem_self ..;generalize hp:s.2.2.2.2.2.2.2.1[i]=p at hself⊢;cases hw:w.2 with
 |true=>simp only[jL,ah,e6,e5,ab,aj,af,Jy,List.set_set];cases decide (pr.2.2.2.2<b)<;>rfl
 |false=>
  simp only[Bool.or_false,af];cases p with
  |false=>rw[hself];rfl
  |true=>
   have e7:idx s.2.2.2.2.2.2.2.1 (i:Int)=some true:=by rw[bK i4,hp]
   simp only[ah,aj,af,e5,e7,ab,Jy,List.set_set];cases decide (pr.2.2.2.2<b)with|true=>rfl|false=>simp only[af,cd,hself];rfl
 simp only[mw];rw[jJ,af]
def xO (b:Int):Nat->Host->Host
 |0,h=>h
 |k+1,h=>(iO (ta (xO b k h)) b).1
theorem KE (hn:1000<=n)(k:zj n h):zj n (ta h):=by have:=abC hn k.z;exact⟨this.1,by rw[this.2];exact k.t⟩
theorem Fy (b:Int){n:Nat}(hn:1000<=n){h:Host}(z:zj n h):∀k,zj (n+644000*k) (xO b k h)
 |0=>z
 |k+1=>(G7 (by omega) b (KE (by omega) (Fy b hn z k))).mono
def tj (h:Host)(b r:Int):Host:=bif eZ h&&(dp b 1 1000&&dp r 0 200) then xO b r.toNat (lV (dM h)) else h
theorem V9 (hn:1000<=n)(b r:Int)(z:zj n h):zj (n+128805440) (tj h b r):=by unfold tj;cases hb:eZ h&&(dp b 1 1000&&dp r 0 200)with|false=>exact z.mono|true=>simp only[ae]at hb;have hr:=aX.1 hb.2.2;exact(Fy b (by omega) (FB (by omega) (AM (by omega) z)) r.toNat).mono
theorem Wt (h:Host)(b r:Int)(k:zj 200000000 h):mO h b r=some (tj h b r):=by
 have hfu:=eO;unfold mO tj;rw[lA h (k.z.mono),ab,rr h (k.sz (by omega)),di,di];simp only[ab];cases hb:eZ h with|false=>rfl|true=>?_
 cases hi0:dp b 1 1000 with|false=>rfl|true=>?_
 cases hi1:dp r 0 200 with|false=>rfl|true=>?_
 have hr:=aX.1 hi1;obtain⟨r,rfl⟩:=aG hr.1;have zt:=AM (by omega) k;have zf:=FB (by omega) zt;simp only[aj,af,ab,dL,ah,EC h (k.mono),Js _ (zt.mono),ay];refine eV (λi=>((i:Int),xO b i (lV (dM h)))) r (by omega) (λi nx hi=>?_) (λnx=>?_);have zi:=Fy b (by omega) zf i;have z2:=KE (by omega) zi;simp only[pe];rw[lT,ah,Qq _ (zi.sz (by omega)) (zi.z.mono),ab,GN _ b (z2.mono),ab,ak];rfl;simp only[pe];rw[jJ,af]
def txt (_:Int):Bytes:=[]
def zu:(t:CT)->t.D->Nat
 | .int _,_=>1
 | .bool,_=>1
 | .str,_=>1
 | .sl e,xs=>(xs.map (zu e)).sum
 | .pair a b,x=>zu a x.1+zu b x.2
def mkL {α:Type}(f:α->Int->α)(c:α->Nat):ax α->Int->ax α
 |[],_=>[]
 |x::xs,k=>f x k::mkL f c xs (k+c x)
def mk:(t:CT)->t.D->Int->t.D
 | .int _,_,k=>k
 | .bool,_,k=>Int.tmod k 3==0
 | .str,_,k=>txt k
 | .sl e,xs,k=>mkL (mk e) (zu e) xs k
 | .pair a b,x,k=>(mk a x.1 k,mk b x.2 (k+zu a x.1))
def wt:CT->Nat
 | .sl e=>wt e
 | .pair a b=>wt a+wt b
 |_=>1
structure Few (h:Host):Prop where
 pl:h.2.2.2.2.1.length<=2
 w:h.2.2.1.2.2.1.length<=16
theorem aeI (hb:eZ h=true):Few h:=by have hl:=mD (by have:=hb;simp only[eZ,ae]at this;exact this.2.2.2.2.1:pX h=true);have ht:=DW (t:=h.2.2.1) (by simp only[eZ,ae]at hb;exact hb.2.2.1);exact⟨by omega,ht⟩
theorem zj.tx (k:zj n h)(hn:n<=1000000000):abM h.2.2.1:=
 have z:dw 1000000000 dY h:=k.z.mono hn
 ⟨z.2.2.1.2.1.2.2.2.1,z.2.2.1.2.2.1.1,λx hx=>(z.2.2.1.2.2.1.2 x hx).2.2.1⟩
def Bi (h:Host)(p:aQ)(c z:Int):Host×Bool:=
 bif eZ h then(((qc h.2.1 h.1 0 h.2.2.1 p c z).1,h.2.1,(qc h.2.1 h.1 0 h.2.2.1 p c z).2.1,h.2.2.2),(qc h.2.1 h.1 0 h.2.2.1 p c z).2.2) else(h,false)
theorem WE (h:Host)(p:aQ)(c z:Int)(k:zj 900000000 h):vm h p c z=some (Bi h p c z):=by
 have zz:dw 1000000000 dY h:=k.z.mono;unfold vm Bi;rw[lA h zz,ab,rr h (k.sz (by omega)),ab];cases eZ h with|false=>rfl|true=>?_
 simp only[aj,af,ah,WG _ _ _ _ _ _ _ zz.2.1.1 zz.1.1 (k.tx (by omega)) zz.2.2.1.2.2.1.1 (bE k.t (by omega)),ab]
theorem LI {n:Nat}(hn:128<=n)(l:ax aC)(d:Int)(p:de)(z:Nat):∀(q:dC)(s:Bytes)(m:bW)(a:ax gD){x},dw n (.sl .str) m->sN l d p z q s m a=some x->dw n (.sl .str) x.2
 |[],s,m,a,x,hm,h=>by cases h;exact hm
 |b::q,s,m,a,x,hm,h=>by rw[sN]at h;cases hq:(gA l m d (mm p b) (s.take z) false).2 with|false=>rw[hq]at h;cases h|true=>rw[hq]at h;exact LI hn l d p z q _ _ _ (BR hn hm ..) h
theorem G0 {n:Nat}(hn:128<=n)(l:ax aC)(d:Int):∀(q:bW)(m:bW)(r:lb){x},dw n (.sl .str) m->nW l d q m r=some x->dw n (.sl .str) x.1
 |[],m,r,x,hm,h=>by cases h;exact hm
 |s::q,m,r,x,hm,h=>by rw[nW]at h;cases hq:(cL l m d r s).2.2 with|false=>rw[hq]at h;cases h|true=>rw[hq]at h;exact G0 hn l d q _ _ (EW hn hm ..) h
theorem Rl (hn:128<=n){q:bW}(hm:dw n (.sl .str) m):dw n (.sl .str) (qK l m d r q).1:=by unfold qK;cases hx:nW l d q m r with|none=>exact hm|some x=>exact G0 hn l d q m r hm hx
theorem Yj (p:de)(n:Int):(jg p n).1.2.2.2.length+(jg p n).2.1.length=p.2.2.2.length:=by unfold jg;cases dh p&&dp n 0 (p.2.2.2.length:Int)with|false=>rfl|true=>simp only[ah,aO,aS];omega
theorem V1 (a:ax nG)(x:nG):(bD (a++[x])).length=(bD a).length+x.2.2.length:=by simp[bD]
theorem RG:∀l:ax nG,(∀x∈l,1<=x.2.1)->(l.length:Int)<=dW l
 |[],_=>by simp[dW]
 |y::l,h=>by have h1:=RG l (λx hx=>h x (fD _ hx));have h2:=h y (List.mem_cons_self ..);simp only[dW,cU,List.sum_cons,bc]at h1⊢;omega
structure adv (n:Nat) (m:List Bytes) (t:dZ) (r:List Bytes×dZ×Bool):Prop where
 mem:dw n (.sl .str) r.1
 tx:dw (n+1) lj r.2.1
 sum:r.2.1.2.1.2.2.2.length+(bD r.2.1.2.2.1).length<=n
 w:r.2.1.2.2.1.length<=16\/r.2.1.2.2.1=t.2.2.1
theorem XU (hn:128<=n){z:Int}(d:Int)(hm:dw n (.sl .str) m)(ht:dw n lj t)(hs:t.2.1.2.2.2.length+(bD t.2.2.1).length<=n):adv n m t (qc l m d t p c z):=by
 have old:adv n m t (m,t,false):=⟨hm,ht.mono,hs,Or.inr rfl⟩
 unfold qc;cases hg:KH t&&(dG p&&(dp z 1 t.2.1.2.1&&dp c 1 128))with|false=>exact old|true=>?_
 simp only[ae]at hg;simp only[ah];generalize vP p z.toNat=k;cases hk:CV t k with|false=>exact old|true=>?_
 simp only[ah];cases hx:sN l d t.2.1 z.toNat (jg t.2.1 (k:Int)).2.1 (jQ p).1 m []with|none=>exact old|some x=>?_
 simp only;unfold G5;have hpm:=Rl (n:=n) hn (l:=l) (d:=d) (q:=(ju x.1 c t.2.2.2).map jj) (r:=t.1) (LI hn l d t.2.1 z.toNat _ _ _ _ hm hx);generalize qK l x.2 d t.1 ((ju x.1 c t.2.2.2).map jj)=w at hpm⊢;cases w.2.2 with|false=>exact old|true=>?_
 have hl:=Yj t.2.1 (k:Int);have hb:=V1 t.2.2.1 (t.2.2.2,(k:Int)+1,(jg t.2.1 (k:Int)).2.1);have hb:(bD (t.2.2.1++[(t.2.2.2,(k:Int)+1,(jg t.2.1 (k:Int)).2.1)])).length=(bD t.2.2.1).length+(jg t.2.1 (k:Int)).2.1.length:=hb;refine⟨hpm,⟨⟨cC,cC,cC,cC⟩,⟨cC,cC,cC,?_,λ_ _=>trivial⟩,?_,cC⟩,?_,Or.inl ?_⟩;show(jg t.2.1 (k:Int)).1.2.2.2.length<=n+1;omega;exact FO (t:=jq) (k:=1) ht.2.2.1 (λy hy=>by rw[bG.1 hy];exact⟨cC,cC,by show(jg t.2.1 (k:Int)).2.1.length<=n;omega,λ_ _=>trivial⟩) (by simp);show(jg t.2.1 (k:Int)).1.2.2.2.length+(bD (t.2.2.1++[(t.2.2.2,(k:Int)+1,(jg t.2.1 (k:Int)).2.1)])).length<=n;omega;show(t.2.2.1++[_]).length<=16;have hq:=hg.1;simp only[KH,ae]at hq;have hrg:=kV hq.1;have hc:=RG t.2.2.1 (λx hx=>by have:=aJ.1 hq.2.2.2.1 x hx;simp only[nX,ae,aX]at this;omega);unfold CV at hk;simp only[ae,aL,cR]at hk;rw[ai,br];omega
theorem aak (hn:1000<=n)(p:aQ)(c z:Int)(k:zj n h):zj (n+1) (Bi h p c z).1:=by
 unfold Bi;cases eZ h with|false=>exact k.mono|true=>?_
 have zz:=k.z;have s:=XU (by omega) (l:=h.2.1) (p:=p) (c:=c) (z:=z) 0 zz.1 zz.2.2.1 k.t;have z1:dw (n+1) dY h:=zz.mono;exact⟨⟨s.mem.mono,z1.2.1,s.tx,z1.2.2.2⟩,bE s.sum (by omega)⟩
theorem G2 (h:Host):∀k,(ia h k).2.2.1=h.2.2.1
 |0=>rfl
 |k+1=>by
  show(uI k (ia h k)).2.2.1=_;rw[<-G2 h k];generalize ia h k=s;unfold uI;cases h1:s.2.2.2.1[k]? with|none=>rfl|some x=>?_
  cases h2:s.2.2.2.2.2.1[k]? with|none=>rfl|some v=>rfl
theorem XN (hn:1000<=n)(k:zj n h)(f:Few h):zj (n+645000) (tV h)/\Few (tV h):=by
 unfold tV;cases hb:eZ h with|false=>exact⟨k.mono,f⟩|true=>?_
 have hl:=mD (Jm hb);have e:=GA hn k.z hl.1;have hw:=f.w;have hp:=Ax (n:=n) (by omega) k.z h.2.2.2.1.length;have ht:=(wi (n:=n+322000*h.2.2.2.1.length) (h:=h) hp.2 h.2.2.1.2.2.1.length).1.e;have h4:=nV 256 128 8;simp only[ah];have hx:=G2 (iH h) h.2.2.2.1.length;have hk:=(oQ (iH h) h.2.2.2.1.length).pl;have hpl:(iH h).2.2.2.2.1.length=h.2.2.2.2.1.length:=by show(returned h h.2.2.1.2.2.1.length).2.2.2.2.1.length=_;rw[ht];exact hp.1.pl
 refine⟨⟨(AB (by omega) e _).mono,?_⟩,?_,?_⟩;rw[hx];show(ga 256 128 8).1.2.2.2.length+0<=_;omega;rw[hk,hpl];exact f.pl;rw[hx];show 0<=16;omega
def Zb (f:iY):ax Stream->Int->Int
 |[],_=> -1
 |s::r,i=>if s.1=f then i else Zb f r (i+1)
def YE (a b:ax Stream)(f:iY):Bool:=
 match idx a (Zb f a 0),idx b (Zb f b 0)with
 |some x,some y=>decide (x=y)
 |_,_=>false
def aho (b:Bool):Int:=bif b then 1 else 0
theorem Tx (h:cP m=true)(a:Int)(s:Bytes):cP (lS m a s).1=true:=by
 unfold lS;cases hw:gV m a (s.length:Int)with|false=>exact h|true=>?_
 simp only[gV,ae,aD]at hw;exact nf.2 (xC s.length (nf.1 hw.1) (by omega)).1
theorem Q0:∀(q:ax (Int×Int)){m:bW}(s:Bytes),cP m=true->cP (CQ q m s)=true
 |[],_,_,h=>h
 |p::q,m,s,h=>by rw[CQ];exact Q0 q _ (Tx h _ _)
theorem BM (h:cP m=true)(l:ax aC)(d a:Int)(s:Bytes)(w:Bool):cP (gA l m d a s w).1=true:=by unfold gA;cases (jZ l m d a (s.length:Int) w).2 with|false=>exact h|true=>exact Q0 _ _ h
theorem GP (h:cP m=true)(l:ax aC)(d:Int)(r:lb)(s:Bytes):cP (cL l m d r s).1=true:=by
 unfold cL;cases (ly r==0)||((s.length:Int) !=16)with|true=>exact h|false=>?_
 cases (gA l m d (ku r r.2.2.2) s true).2 with|false=>exact h|true=>exact BM h ..
theorem BU {n x y:Int}(hb:0<=b/\b<=130944:=by omega)(hn:n=2\/n=4\/n=8\/n=16:=by omega)(hx:0<=x/\x<=2*n-1:=by omega)(hy:0<=y/\y<=2*n-1:=by omega)(hu:(y-x)%(2*n)<=n:=by omega):dg (b,n,x,y)=true:=by have hs:iv n=true:=gM.2 hn;simp only[dg,bI,hs,aX.2 hb,aX.2 hx,aX.2 hy,bU,bB,aD];exact hu
theorem CD (h:dg r=true):bI r=(r.2.2.2-r.2.2.1)%(2*r.2.1)/\0<=bI r/\bI r<=r.2.1:=by
 have k:=kV h;have e:bI r=(r.2.2.2-r.2.2.1)%(2*r.2.1):=by unfold bI;rw[aH (gM.2 k.2.2.1)]
 simp only[dg,ae,aD]at h;exact⟨e,by rw[e];exact fy _ (by omega),h.2.2.2.2⟩
theorem Gr {x n:Int}(hn:0<n:=by omega)(hx:0<=x/\x<=n-1:=by omega):Int.tmod (x+1) n=if x+1=n then 0 else x+1:=by rw[dB (by omega)];split;rename_i h;rw[h];exact Int.emod_self;exact Int.emod_eq_of_lt (by omega) (by omega)
theorem XO (h:dg r=true)(hf:bI r<r.2.1):dg (r.1,r.2.1,r.2.2.1,Int.tmod (r.2.2.2+1) (2*r.2.1))=true/\bI (r.1,r.2.1,r.2.2.1,Int.tmod (r.2.2.2+1) (2*r.2.1))=bI r+1:=by
 have k:=kV h;have u:=CD h;have e:=Gr (x:=r.2.2.2) (n:=2*r.2.1);have u2:(Int.tmod (r.2.2.2+1) (2*r.2.1)-r.2.2.1)%(2*r.2.1)=bI r+1:=by
  have h1:(Int.tmod (r.2.2.2+1) (2*r.2.1)-r.2.2.1)%(2*r.2.1)=(r.2.2.2+1-r.2.2.1)%(2*r.2.1):=by rw[e];split;rename_i hh;rw[<-hh,show(r.2.2.2+1-r.2.2.1)=(0-r.2.2.1)+(r.2.2.2+1) by omega,Int.add_emod_right];rfl
  rw[h1,show r.2.2.2+1-r.2.2.1=(r.2.2.2-r.2.2.1)+1 by omega];have h0:=u.1;generalize r.2.2.2-r.2.2.1=d at h0⊢;rw[Int.add_emod,<-h0,Int.emod_eq_of_lt (a:=1) (by omega) (by omega),Int.emod_eq_of_lt (by omega) (by omega)]
 refine⟨BU ⟨k.1,k.2.1⟩ k.2.2.1 ⟨k.2.2.2.1,k.2.2.2.2.1⟩ (by rw[e];split<;>omega) (by rw[u2];omega),?_⟩;unfold bI;rw[aH (gM.2 k.2.2.1)];exact u2
theorem aac (h:dg r=true)(hf:bI r≠0):dg (r.1,r.2.1,Int.tmod (r.2.2.1+1) (2*r.2.1),r.2.2.2)=true/\bI (r.1,r.2.1,Int.tmod (r.2.2.1+1) (2*r.2.1),r.2.2.2)=bI r-1:=by
 have k:=kV h;have u:=CD h;have e:=Gr (x:=r.2.2.1) (n:=2*r.2.1);have u2:(r.2.2.2-Int.tmod (r.2.2.1+1) (2*r.2.1))%(2*r.2.1)=bI r-1:=by
  have h1:(r.2.2.2-Int.tmod (r.2.2.1+1) (2*r.2.1))%(2*r.2.1)=(r.2.2.2-(r.2.2.1+1))%(2*r.2.1):=by rw[e];split;rename_i hh;rw[<-hh,show(r.2.2.2-0)=(r.2.2.2-(r.2.2.1+1))+(r.2.2.1+1) by omega,Int.add_emod_right];rfl
  rw[h1,show r.2.2.2-(r.2.2.1+1)=(r.2.2.2-r.2.2.1)-1 by omega];have h0:=u.1;generalize r.2.2.2-r.2.2.1=d at h0⊢;rw[Int.sub_emod,<-h0,Int.emod_eq_of_lt (a:=1) (by omega) (by omega),Int.emod_eq_of_lt (by omega) (by omega)]
 refine⟨BU ⟨k.1,k.2.1⟩ k.2.2.1 (by rw[e];split<;>omega) ⟨k.2.2.2.2.2.1,k.2.2.2.2.2.2⟩ (by rw[u2];omega),?_⟩;unfold bI;rw[aH (gM.2 k.2.2.1)];exact u2
theorem Wi (h:dg r=true):ly r=r.2.1-bI r:=by have k:=kV h;have u:=CD h;unfold ly;rw[h,ah,ak]
theorem Rv (h:dg r=true)(l:ax aC)(m:bW)(d:Int)(s:Bytes):dg (cL l m d r s).2.1=true/\(cL l m d r s).2.1.2.1=r.2.1:=by
 unfold cL;cases hc:(ly r==0)||((s.length:Int) !=16)with|true=>exact⟨h,rfl⟩|false=>?_
 cases (gA l m d (ku r r.2.2.2) s true).2 with
 |false=>exact⟨h,rfl⟩
 |true=>
  simp only[cj]at hc;have h1:ly r≠0:=by simpa using hc.1
  rw[Wi h]at h1;have u:=CD h;exact⟨(XO h (by omega)).1,rfl⟩
theorem Mw (h:dg r=true)(l:ax aC)(m:bW)(d:Int):dg (bn l m d r).2.1=true/\(bn l m d r).2.1.2.1=r.2.1:=by
 unfold bn;cases hc: !dg r||(bI r==0)with|true=>exact⟨h,rfl⟩|false=>?_
 cases (oo l m d (ku r r.2.2.1) 16).2 with|false=>exact⟨h,rfl⟩|true=>simp only[cj]at hc;exact⟨(aac h (by simpa using hc.2)).1,rfl⟩
theorem Ze {n:Int}{l:dC}:(List.range l.length).all (zA n l)=true↔(∀x∈l,0<=x/\x<=n-1)/\l.Nodup:=by
 rw[aJ];constructor;intro h;have k:∀i (hi:i<l.length),(0<=l[i]/\l[i]<=n-1)/\l[i]∉l.take i:=by intro i hi;have:=h i (cp.2 hi);unfold zA at this;rw[cS hi,ae,aX]at this;exact⟨this.1,by simpa using this.2⟩
 refine⟨λx hx=>?_,?_⟩;obtain⟨i,hi,rfl⟩:=fN hx;exact(k i hi).1;rw[List.Nodup,List.pairwise_iff_getElem];intro i j hi hj hij he;refine(k j hj).2 ?_;rw[<-he];exact List.mem_take_iff_getElem.2 ⟨i,by omega,rfl⟩;rintro⟨h1,h2⟩ i hi;have hi:=cp.1 hi;unfold zA;rw[cS hi,ae,aX];refine⟨h1 _ (bz hi),?_⟩;have:l[i]∉l.take i:=by intro hm;obtain⟨j,hj,he⟩:=List.mem_take_iff_getElem.1 hm;rw[List.Nodup,List.pairwise_iff_getElem]at h2;exact h2 j i (by omega) hi (by omega) he
 simpa using this
theorem zM {p:de}:dh p=true↔(0<=p.1/\p.1<=130944)/\(1<=p.2.1/\p.2.1<=512)/\(0<=p.2.2.1/\p.2.2.1<=16)/\(∀x∈p.2.2.2,0<=x/\x<=p.2.2.1-1)/\p.2.2.2.Nodup:=by unfold dh;simp only[ae,aX,Ze]
theorem BQ {p:de}(h:dh p=true){l:dC}(hl:l.Sublist p.2.2.2):dh (p.1,p.2.1,p.2.2.1,l)=true:=by have k:=zM.1 h;exact zM.2 ⟨k.1,k.2.1,k.2.2.1,λx hx=>k.2.2.2.1 x (hl.subset hx),k.2.2.2.2.sublist hl⟩
theorem XG {p:de}(h:dh p=true)(l:dC):dh (xT p l).1=true:=by unfold xT;cases hg:xU p l with|false=>exact h|true=>unfold xU at hg;simp only[ae]at hg;exact hg.2
theorem E1 {n:Int}{s:nG}:nX n s=true↔(1<=s.2.1/\s.2.1<=n)/\0<=s.1/\s.1<=65535:=by unfold nX;simp only[ae,aX]
structure CM (t:dZ):Prop where
 ring:dg t.1=true
 next:0<=t.2.2.2/\t.2.2.2<=65535
 sent:∀x∈t.2.2.1,(1<=x.2.1/\x.2.1<=t.1.2.1)/\0<=x.1/\x.1<=65535
 pool:dh (gG t.2.1 (bD t.2.2.1))=true
 zu:dW t.2.2.1<=t.1.2.1
theorem CM.free (h:CM t):dh t.2.1=true:=BQ h.pool (List.sublist_append_left _ _)
theorem abE:KH t=true↔CM t:=by constructor;intro h;unfold KH at h;simp only[ae,aX,aJ,E1,aD]at h;obtain⟨h1,h2,h3,h4,h5,h6⟩:=h;unfold xU at h5;simp only[ae]at h5;exact⟨h1,h3,h4,h5.2,h6⟩;·intro h;unfold KH xU;simp only[ae,aX,aJ,E1,aD];exact⟨h.ring,h.free,h.next,h.sent,⟨h.free,h.pool⟩,h.zu⟩
theorem Gw (a b:ax nG):bD (a++b)=bD a++bD b:=by simp[bD]
theorem Lx (a b:ax nG):dW (a++b)=dW a+dW b:=by simp[dW]
theorem LR:∀(l:ax nG)(p:de),dh (gG p (bD l))=true->mi p l=gG p (bD l)
 |[],p,_=>by simp[mi,bD,gG]
 |x::l,p,h=>by
  have e:bD (x::l)=x.2.2++bD l:=by simp[bD]
  rw[e]at h;have h1:dh (gG p x.2.2)=true:=BQ (p:=gG p (x.2.2++bD l)) h (by show(p.2.2.2++x.2.2).Sublist (p.2.2.2++(x.2.2++bD l));rw[<-aN];exact List.sublist_append_left _ _);have h0:dh p=true:=BQ (p:=gG p x.2.2) h1 (List.sublist_append_left _ _);have hg:(xT p x.2.2).1=gG p x.2.2:=by unfold xT xU;rw[h0,h1];rfl
  have ea:gG (gG p x.2.2) (bD l)=gG p (x.2.2++bD l):=by simp[gG]
  rw[mi,hg,LR l _ (by rw[ea];exact h),ea,e]
theorem adm (h:CM t)(hr:dg r=true)(hn:r.2.1=t.1.2.1):CM (r,t.2):=
 ⟨hr,h.next,λx hx=>by show(1<=x.2.1/\x.2.1<=r.2.1)/\_;rw[hn];exact h.sent x hx,h.pool,by show dW t.2.2.1<=r.2.1;rw[hn];exact h.zu⟩
theorem R4 (h:CM t)(n:Int):CM (ky t n).1:=by
 unfold ky;cases hc:KH t&&dp n 0 (t.2.2.1.length:Int)with|false=>exact h|true=>?_
 simp only[ae,aX]at hc;have hs:t.2.2.1.take n.toNat++t.2.2.1.drop n.toNat=t.2.2.1:=cy _ _;have hb:bD t.2.2.1=bD (t.2.2.1.take n.toNat)++bD (t.2.2.1.drop n.toNat):=by rw[<-Gw,hs]
 have hp:dh (gG t.2.1 (bD (t.2.2.1.take n.toNat)))=true:=BQ (p:=gG t.2.1 (bD t.2.2.1)) h.pool (by show(t.2.1.2.2.2++_).Sublist (t.2.1.2.2.2++_);rw[hb];exact(List.sublist_append_left _ _).append_left _);have hg:=LR _ _ hp;refine⟨h.ring,h.next,λx hx=>h.sent x (List.mem_of_mem_drop hx),?_,?_⟩;show dh (gG (mi t.2.1 (t.2.2.1.take n.toNat)) (bD (t.2.2.1.drop n.toNat)))=true;rw[hg,show gG (gG t.2.1 (bD (t.2.2.1.take n.toNat))) (bD (t.2.2.1.drop n.toNat))=gG t.2.1 (bD t.2.2.1) by rw[hb];simp[gG]];exact h.pool;show dW (t.2.2.1.drop n.toNat)<=t.1.2.1;have h1:dW t.2.2.1=dW (t.2.2.1.take n.toNat)+dW (t.2.2.1.drop n.toNat):=by rw[<-Lx,hs]
 have h2:0<=dW (t.2.2.1.take n.toNat):=wS t.1.2.1 _ (by rw[aJ];exact λx hx=>E1.2 (h.sent x (List.mem_of_mem_take hx)));have:=h.zu;omega
theorem Ik (l:ax aC)(m:bW)(d:Int):∀(n:Nat)(acc:ax AQ)(r:lb),dg r=true->dg (pK l m d n acc r).2.1=true/\(pK l m d n acc r).2.1.2.1=r.2.1
 |0,acc,r,h=>⟨h,rfl⟩
 |n+1,acc,r,h=>by have k:=kV h;have ht:=Mw h l m d;rw[pK];cases !(bn l m d r).2.2|| !(cB (bn l m d r).1).2 with|true=>exact⟨BU ⟨k.1,k.2.1⟩ k.2.2.1 ⟨k.2.2.2.2.2.1,k.2.2.2.2.2.2⟩ ⟨k.2.2.2.2.2.1,k.2.2.2.2.2.2⟩ (by rw[Int.sub_self,Int.zero_emod];omega),rfl⟩|false=>cases CP (cB (bn l m d r).1).1 with|true=>exact ht|false=>have:=Ik l m d n (acc++[(cB (bn l m d r).1).1]) _ ht.1;exact⟨this.1,this.2.trans ht.2⟩
theorem Sz (h:dg r=true)(l:ax aC)(m:bW)(d:Int):dg (cQ l m d r).2.1=true/\(cQ l m d r).2.1.2.1=r.2.1:=by unfold cQ;cases !dg r||(bI r==0)with|true=>exact⟨h,rfl⟩|false=>exact Ik l m d _ _ _ h
theorem Rb (h:dg r=true)(l:ax aC)(m:bW)(d:Int):dg (gH l m d r).1=true/\(gH l m d r).1.2.1=r.2.1:=by
 have hc:=Sz h l m d;unfold gH;cases !dg r||(bI r==0)with|true=>exact⟨h,rfl⟩|false=>?_
 cases !(cQ l m d r).2.2|| !(fe (cQ l m d r).1).2.2.2 with|true=>exact hc|false=>?_
 cases !(kg l m d (fe (cQ l m d r).1).1).2||(!(uy (kg l m d (fe (cQ l m d r).1).1).1).2||((jG (uy (kg l m d (fe (cQ l m d r).1).1).1).1).2 !=0))with|true=>exact hc|false=>exact hc
theorem Ce (l:ax aC)(m:bW)(d:Int):∀(n:Nat)(fr:bW)(dn bd:Nat)(r:lb),dg r=true->dg (mf l m d n fr dn bd r).1=true/\(mf l m d n fr dn bd r).1.2.1=r.2.1
 |0,fr,dn,bd,r,h=>⟨h,rfl⟩
 |n+1,fr,dn,bd,r,h=>by
  have k:=Rb h l m d;rw[mf];cases (gH l m d r).2.2==0 with|true=>exact⟨h,rfl⟩|false=>?_
  cases (gH l m d r).2.2==1 with|true=>have:=Ce l m d n (fr++(gH l m d r).2.1) (dn+1) bd _ k.1;exact⟨this.1,this.2.trans k.2⟩|false=>have:=Ce l m d n (fr++(gH l m d r).2.1) dn (bd+1) _ k.1;exact⟨this.1,this.2.trans k.2⟩
theorem EV (l:ax aC)(d:Int):∀(q:bW)(m:bW)(r:lb){x},nW l d q m r=some x->(dg r=true->dg x.2=true/\x.2.2.1=r.2.1)/\(cP m=true->cP x.1=true)
 |[],m,r,x,h=>by cases h;exact⟨λh=>⟨h,rfl⟩,λh=>h⟩
 |s::q,m,r,x,h=>by rw[nW]at h;cases hq:(cL l m d r s).2.2 with|false=>rw[hq]at h;cases h|true=>rw[hq]at h;have k:=EV l d q _ _ h;refine⟨λhr=>?_,λhm=>k.2 (GP hm ..)⟩;have hp:=Rv hr l m d s;have:=k.1 hp.1;exact⟨this.1,this.2.trans hp.2⟩
theorem Mc (l:ax aC)(d:Int)(p:de)(z:Nat):∀(q:dC)(s:Bytes)(m:bW)(a:ax gD){x},sN l d p z q s m a=some x->cP m=true->cP x.2=true
 |[],s,m,a,x,h,hm=>by cases h;exact hm
 |b::q,s,m,a,x,h,hm=>by rw[sN]at h;cases hq:(gA l m d (mm p b) (s.take z) false).2 with|false=>rw[hq]at h;cases h|true=>rw[hq]at h;exact Mc l d p z q _ _ _ h (BM hm ..)
theorem XH {p:de}(h:dh p=true){l:dC}(hl:l.Perm p.2.2.2):dh (p.1,p.2.1,p.2.2.1,l)=true:=by have k:=zM.1 h;exact zM.2 ⟨k.1,k.2.1,k.2.2.1,λx hx=>k.2.2.2.1 x (hl.mem_iff.1 hx),hl.nodup_iff.2 k.2.2.2.2⟩
theorem XY (h:CM t)(hm:cP m=true)(l:ax aC)(d c:Int)(hf:CV t n=true)(x:ax gD×bW)(hx:cP x.2=true):cP (G5 l m d t c n x).1=true/\CM (G5 l m d t c n x).2.1:=by
 unfold G5 qK;cases hp:nW l d ((ju x.1 c t.2.2.2).map jj) x.2 t.1 with
 |none=>exact⟨hm,h⟩
 |some y=>
  have k:=EV l d _ _ _ hp;have kr:=k.1 h.ring;refine⟨k.2 hx,?_⟩;unfold CV at hf;simp only[ae,aL,cR]at hf;have ht:jg t.2.1 (n:Int)=((t.2.1.1,t.2.1.2.1,t.2.1.2.2.1,t.2.1.2.2.2.drop n),t.2.1.2.2.2.take n,true):=by have h1:=hf.1;unfold jg at h1⊢;cases hc:dh t.2.1&&dp (n:Int) 0 (t.2.1.2.2.2.length:Int)with|false=>rw[hc]at h1;cases h1|true=>simp only[ah,ay]
  have h0:0<=dW t.2.2.1:=wS t.1.2.1 _ (by rw[aJ];exact λx hx=>E1.2 (h.sent x hx));show CM (y.2,(jg t.2.1 (n:Int)).1,t.2.2.1++[(t.2.2.2,(n:Int)+1,(jg t.2.1 (n:Int)).2.1)],Int.tmod (t.2.2.2+1) 65536);rw[ht];have hn:=h.next
  refine⟨kr.1,?_,?_,?_,?_⟩;have:=Gr (x:=t.2.2.2) (n:=65536);show 0<=Int.tmod (t.2.2.2+1) 65536/\Int.tmod (t.2.2.2+1) 65536<=65535;rw[this];split<;>omega;intro s hs;show(1<=s.2.1/\s.2.1<=y.2.2.1)/\0<=s.1/\s.1<=65535;rw[kr.2];rcases aw.1 hs with hs|hs;exact h.sent s hs;rw[bG.1 hs];show(1<=(n:Int)+1/\(n:Int)+1<=t.1.2.1)/\0<=t.2.2.2/\t.2.2.2<=65535;omega;refine XH (p:=gG t.2.1 (bD t.2.2.1)) h.pool ?_;show(t.2.1.2.2.2.drop n++bD (t.2.2.1++[_])).Perm (t.2.1.2.2.2++bD t.2.2.1);rw[Gw,show bD [(t.2.2.2,(n:Int)+1,t.2.1.2.2.2.take n)]=t.2.1.2.2.2.take n by simp[bD]];refine(List.perm_append_comm_assoc _ _ _).trans ?_;refine(List.perm_append_comm).trans ?_;exact((List.perm_append_comm.trans (by rw[cy])).append_right _);show dW (t.2.2.1++[_])<=y.2.2.1;rw[Lx,kr.2,show dW [(t.2.2.2,(n:Int)+1,t.2.1.2.2.2.take n)]=(n:Int)+1 by simp[dW]];omega
theorem XX (h:CM t)(hm:cP m=true)(l:ax aC)(d:Int)(p:aQ)(c z:Int):cP (qc l m d t p c z).1=true/\CM (qc l m d t p c z).2.1:=by
 unfold qc;cases KH t&&(dG p&&(dp z 1 t.2.1.2.1&&dp c 1 128))with|false=>exact⟨hm,h⟩|true=>?_
 cases hf:CV t (vP p z.toNat)with|false=>exact⟨hm,h⟩|true=>?_
 simp only[ah];cases hw:sN l d t.2.1 z.toNat (jg t.2.1 (vP p z.toNat:Int)).2.1 (jQ p).1 m []with|none=>exact⟨hm,h⟩|some x=>exact XY h hm l d c hf x (Mc l d _ _ _ _ _ _ hw hm)
theorem RE {s k f w:Int}(h1:0<=a/\a<=65535)(h2:0<=b/\b<=65535)(h3:0<=s/\s<=4294967295)(h4:0<=k/\k<=4294967295)(h5:0<=f/\f<=31)(h6:0<=w/\w<=65535)(hx:x.length<=320):rM (6,a,b,s,k,f,w,x)=true:=by have hx':decide ((x.length:Int)>320)=false:=jJ;simp only[rM,aX.2 h1,aX.2 h2,aX.2 h3,aX.2 h4,aX.2 h5,aX.2 h6,hx'];rfl
theorem aai (h1:0<=a/\a<=65535)(h2:0<=b/\b<=65535)(hx:x.length<=320):rM (17,a,b,0,0,0,0,x)=true:=by have hx':decide ((x.length:Int)>320)=false:=jJ;simp only[rM,aX.2 h1,aX.2 h2,hx'];rfl
theorem XT (h:rM g=true)(hx:x.length<=320):rM (g.1,g.2.1,g.2.2.1,g.2.2.2.1,g.2.2.2.2.1,g.2.2.2.2.2.1,g.2.2.2.2.2.2.1,x)=true:=by have e:decide ((x.length:Int)>320)=false:=jJ;unfold rM at h⊢;simp only[ae]at h⊢;exact⟨h.1,h.2.1,by rw[e];rfl,h.2.2.2⟩
theorem Zi {v t i l s:Int}(h1:0<=a/\a<=281474976710655)(h2:0<=b/\b<=281474976710655)(h3: -1<=v/\v<=4095)(h4:0<=t/\t<=255)(h5:0<=i/\i<=65535)(h6:0<=l/\l<=255)(h7:0<=s/\s<=4294967295)(h8:0<=d/\d<=4294967295)(hg:rM g=true):pb (a,b,v,t,i,l,s,d,g)=true:=by simp only[pb,aX.2 h1,aX.2 h2,aX.2 h3,aX.2 h4,aX.2 h5,aX.2 h6,aX.2 h7,aX.2 h8,hg];rfl
theorem Rc (p:aQ):gF p=true↔pb p=true/\p.2.2.2.2.2.2.2.2.2.2.2.2.2.2.2.length<=128:=by unfold gF dG;rw[ae,ae,cG,aD];constructor;rintro⟨⟨h1,_⟩,h2⟩;exact⟨h1,by omega⟩;rintro⟨h1,h2⟩;exact⟨⟨h1,Or.inl (by omega)⟩,by omega⟩
theorem Vx (h:rM g=true)(h6:g.1=6):(0<=g.2.1/\g.2.1<=65535)/\(0<=g.2.2.1/\g.2.2.1<=65535)/\(0<=g.2.2.2.1/\g.2.2.2.1<=4294967295)/\(0<=g.2.2.2.2.1/\g.2.2.2.2.1<=4294967295)/\(0<=g.2.2.2.2.2.1/\g.2.2.2.2.2.1<=31)/\(0<=g.2.2.2.2.2.2.1/\g.2.2.2.2.2.2.1<=65535)/\g.2.2.2.2.2.2.2.length<=320:=by have hl:=BW h;unfold rM at h;rw[h6]at h;simp only[ae,aX,show((6:Int)==17)=false from rfl,af]at h;exact⟨h.1,h.2.1,h.2.2.2.2.1,h.2.2.2.2.2.1,h.2.2.2.2.2.2.1,h.2.2.2.2.2.2.2,hl⟩
theorem Kh (h:rM g=true)(h6:g.1=6){s f:Int}(hs:0<=s/\s<=4294967295)(hf:0<=f/\f<=31)(hx:x.length<=320):rM (g.1,g.2.1,g.2.2.1,s,g.2.2.2.2.1,f,g.2.2.2.2.2.2.1,x)=true:=by have k:=Vx h h6;rw[h6];exact RE k.1 k.2.1 hs k.2.2.2.1 hf k.2.2.2.2.2.1 hx
theorem zC (h:pb p=true){i:Int}(hi:0<=i/\i<=65535)(hg:rM g=true):pb (p.1,p.2.1,p.2.2.1,p.2.2.2.1,i,p.2.2.2.2.2.1,p.2.2.2.2.2.2.1,p.2.2.2.2.2.2.2.1,g)=true:=by unfold pb at h⊢;simp only[ae]at h⊢;exact⟨h.1,h.2.1,h.2.2.1,h.2.2.2.1,h.2.2.2.2.1,aX.2 hi,h.2.2.2.2.2.2.1,h.2.2.2.2.2.2.2.1,hg⟩
theorem Jj (h:pb p=true):0<=p.2.2.2.2.1/\p.2.2.2.2.1<=65535:=by unfold pb at h;simp only[ae]at h;exact aX.1 h.2.2.2.2.2.1
theorem acK {i:Int}(h:0<=i/\i<=65535):0<=Int.tmod (aq (i+1)) 65536/\Int.tmod (aq (i+1)) 65536<=65535:=by rw[ak];have h1:=Int.tmod_nonneg 65536 (a:=i+1) (by omega);have h2:=Int.tmod_lt_of_pos (i+1) (b:=65536) (by omega);omega
theorem ZR {s:Int}(h:0<=s/\s<=4294967295)(hn:n<=320):0<=Int.tmod (aq (s+(n:Int))) 4294967296/\Int.tmod (aq (s+(n:Int))) 4294967296<=4294967295:=by rw[ak];have h1:=Int.tmod_nonneg 4294967296 (a:=s+(n:Int)) (by omega);have h2:=Int.tmod_lt_of_pos (s+(n:Int)) (b:=4294967296) (by omega);omega
end
end Go.Pu
