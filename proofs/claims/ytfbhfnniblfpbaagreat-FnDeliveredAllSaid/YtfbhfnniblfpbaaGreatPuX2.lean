import Derived.KernelRfl
import Derived.Test.YtfbhfnniblfpbaaGreatPuX1
namespace Go.Pu
open Go.Dn
open Int (tmod)
set_option linter.unusedSimpArgs false
set_option linter.unusedVariables false
noncomputable section
variable {s:Bytes} {h:Host} {d:Int} {k:Nat} {g:Nat->Host->Host} {p:aD} {t:bX} {R:Type} {l:au ay} {m:bD} {f:bD×bm} {r:kg}
/- Descriptors, rings, and the host's own writes. -/
def wrM (x:ay):ay:=(x.1,x.2.1,x.2.2.1,true)
theorem getD_map {i:Nat}(hi:i<l.length):(l.map wrM).getD i SO=wrM (l.getD i SO):=by grind
theorem SP (l:au ay):eX (l.map wrM)=eX l:=by
 unfold eX;rw[cA];congr 1;rw[fe,aL,aL];have key:∀i,i<l.length->SM (l.map wrM) i=SM l i:=by
  intro i hi;unfold SM;rw[getD_map hi];congr 1;rw[fe,aL,aL];constructor;intro h j hj;have hjl:j<l.length:=by have:=cW.1 hj;omega
  have:=h j hj;rw[getD_map hjl]at this;exact this;intro h j hj;have hjl:j<l.length:=by have:=cW.1 hj;omega
  rw[getD_map hjl];exact h j hj
 constructor;intro h i hi;rw[<-key i (cW.1 hi)];exact h i hi;intro h i hi;rw[key i (cW.1 hi)];exact h i hi
theorem aef (l:au ay)(d p:Int):vx (l.map wrM) d p true=vx l d p false:=by grind[vx,SN,wrM,vu,List.findIdx?_eq_some_iff_getElem]
theorem Ra (l:au ay)(m:bD)(d:Int):∀n a r,lJ (l.map wrM) m d true n a r=lJ l m d false n a r
 |0,a,r=>rfl
 |n+1,a,r=>by simp only[lJ,aef,Ra l m d n]
theorem afU (l:au ay)(m:bD)(d a:Int)(s:Bytes):lF (l.map wrM) m d a s true=lF l m d a s false:=by
 have e:nP (l.map wrM) m d a (s.length:Int) true=nP l m d a (s.length:Int) false:=by simp only[nP,SP,Ra]
 simp only[lF,e]
theorem Hn (l:au ay)(m:bD)(d a:Int)(s:Bytes)(hl:l.length<=10^9)(hm:m.length<=10^9)(ha:a<=9223372036854775807):rR l m d a s=some (lF l m d a s false):=by unfold rR;refine cq (λi=>((l.take i).map wrM,(i:Int))) l.length (by omega) (λi nx hi=>?_) (λnx=>?_);simp only[qS];rw[jy,aW hi,ai (by omega) (by omega)];simp only[af,ab];rw[aQ (by simp;omega),bg hi,List.map_append];rfl;simp only[qS];rw[fT,ae,cI,AH _ m d a s (by rw[cA];exact hl) hm ha,afU];rfl
theorem CK (l:au ay)(m:bD)(d a:Int)(s:Bytes)(hl:l.length<=10^9)(hm:m.length<=10^9)(ha:a<=9223372036854775807:=by omega):jC l m d a s=some (lF l m d a s false):=by simp_all[jC,UW]
def rn (d:CY):Bool:=dy d.1 0 3&&(dy d.2.1 0 3&&(dy d.2.2.1 0 65535&&(dy d.2.2.2.2.1 0 65535&&(dy d.2.2.2.2.2 0 65535&&dy d.2.2.2.1 0 4294967295))))
theorem UP (d:CY):zh d=some (rn d):=by simp only[zh,da,ab,rn];cases dy d.1 0 3<;>cases dy d.2.1 0 3<;>cases dy d.2.2.1 0 65535<;>cases dy d.2.2.2.2.1 0 65535<;>cases dy d.2.2.2.2.2 0 65535<;>rfl
theorem JC (d:CY):rO d=some (rn d):=by simp only[rO,cx,ab,rn];cases dy d.1 0 3<;>cases dy d.2.1 0 3<;>cases dy d.2.2.1 0 65535<;>cases dy d.2.2.2.2.1 0 65535<;>cases dy d.2.2.2.2.2 0 65535<;>rfl
def za (d:CY):Bytes:=
 bif rn d then((((aK [gh d.1,gh d.2.1]++cb d.2.2.1)++jk d.2.2.2.1)++cb d.2.2.2.2.1)++cb d.2.2.2.2.2)++jk 0 else []
theorem S9 (d:CY):lN d=some (za d):=by have h1:=bC d.2.2.1;have h2:=dQ d.2.2.2.1;have h3:=bC d.2.2.2.2.1;have h4:=bC d.2.2.2.2.2;have h5:=dQ 0;have h0:(aK [gh d.1,gh d.2.1]).length=2:=rfl;unfold lN za;rw[JC,ab];cases rn d;all_goals simp(disch:=omega)[gU,mI,aQ]
theorem Sy (d:CY):lK d=some (za d):=by have h1:=bC d.2.2.1;have h2:=dQ d.2.2.2.1;have h3:=bC d.2.2.2.2.1;have h4:=bC d.2.2.2.2.2;have h5:=dQ 0;have h0:(aK [gh d.1,gh d.2.1]).length=2:=rfl;unfold lK za;rw[UP,ab];cases rn d;all_goals simp(disch:=omega)[kT,BG,aQ]
def tt (r:kg):Int:=bif du r then ak (r.2.1-cj r) else 0
def Al (r:kg)(c:Int):Int:=bif !du r||decide (c<0) then-1 else r.1+tmod c r.2.1*16
theorem lz (h:du r=true):0<=r.1/\r.1<=130944/\(r.2.1=2\/r.2.1=4\/r.2.1=8\/r.2.1=16)/\0<=r.2.2.1/\r.2.2.1<=2*r.2.1-1/\0<=r.2.2.2/\r.2.2.2<=2*r.2.1-1:=by grind[du,bl,gH]
theorem Dx (r:kg)(c:Int): -1<=Al r c/\Al r c<=200000:=by unfold Al;cases hc: !du r||decide (c<0)with|true=>grind|false=>simp only[cX,dL,cP]at hc;have h:=lz hc.1;grind
def db (l:au ay)(m:bD)(d:Int)(r:kg)(s:Bytes):bD×kg×Bool:=
 bif (tt r==0)||((s.length:Int) !=16) then(m,r,false) else
 bif !(lF l m d (Al r r.2.2.2) s true).2 then(m,r,false) else
 ((lF l m d (Al r r.2.2.2) s true).1,(r.1,r.2.1,r.2.2.1,tmod (r.2.2.2+1) (2*r.2.1)),true)
theorem Rd {a:Int}{w:Bool}(h:(lF l m d a s w).2=false):(lF l m d a s w).1=m:=by grind[lF]
theorem GD (r:kg):qq r=some (tt r):=by grind[qq,tt,zB,ab,BS]
theorem Ry (r:kg)(c:Int):og r c=some (Al r c):=by
 have vS:=Dx r c;unfold og;rw[zB,ab];unfold Al at vS⊢;cases hb:du r;rfl;have h:=lz hb;by_cases hc:c<0;rw[aw hc];rfl;rw[hb,ar hc]at vS;rw[ar hc];have h2:0<=tmod c r.2.1/\tmod c r.2.1<r.2.1:=by rw[dU (by omega)];exact⟨Int.emod_nonneg _ (by omega),fQ _ (by omega)⟩
 simp only[aj,ae,ab,bF]at vS⊢;rw[mQ,ai (n:=16*tmod c r.2.1) (by omega) (by omega),ai (by omega) (by omega)];congr 1;omega
theorem LR (l:au ay)(m:bD)(d:Int)(r:kg)(s:Bytes)(hl:l.length<=10^9)(hm:m.length<=10^9):wY l m d r s=some (db l m d r s):=by
 have hA:=Dx r r.2.2.2;unfold wY db;simp only[GD,ab,Ry,AH l m d _ s hl hm (show Al r r.2.2.2<=9223372036854775807 by omega),gR m (show m.length<=1073741824 by omega)];cases hf:tt r==0;case true=>rfl
 cases (s.length:Int) !=16;case true=>rfl
 have hb:du r=true:=by grind[tt]
 have h:=lz hb;grind[ab,ai]
theorem QI (r:kg):tP r=some (tt r):=by grind[tP,tt,zg,ab,BE]
theorem QP (r:kg)(c:Int):nG r c=some (Al r c):=by
 have vS:=Dx r c;unfold nG;rw[zg,ab];unfold Al at vS⊢;cases hb:du r;rfl;have h:=lz hb;by_cases hc:c<0;rw[aw hc];rfl;rw[hb,ar hc]at vS;rw[ar hc];have h2:0<=tmod c r.2.1/\tmod c r.2.1<r.2.1:=by rw[dU (by omega)];exact⟨Int.emod_nonneg _ (by omega),fQ _ (by omega)⟩
 simp only[aj,ae,ab,bF]at vS⊢;rw[mQ,ai (n:=tmod c r.2.1*16) (by omega) (by omega),ai (by omega) (by omega)]
theorem Lq (l:au ay)(m:bD)(d:Int)(r:kg)(s:Bytes)(hl:l.length<=10^9)(hm:m.length<=10^9):wk l m d r s=some (db l m d r s):=by
 have hA:=Dx r r.2.2.2;unfold wk db;simp only[QI,ab,QP,DV l m d _ s hl hm (show Al r r.2.2.2<=9223372036854775807 by omega),fK m (show m.length<=1073741824 by omega)];cases hf:tt r==0;case true=>rfl
 cases (s.length:Int) !=16;case true=>rfl
 have hb:du r=true:=by grind[tt]
 have h:=lz hb;grind[ab,Rd,ai]
theorem Co {p:cM}(h:dH p=true):0<=p.1/\p.1<=130944/\1<=p.2.1/\p.2.1<=512/\0<=p.2.2.1/\p.2.2.1<=16:=by grind[dH,bl]
def lD (p:cM)(i:Int):Int:=bif !dH p|| !dy i 0 (p.2.2.1-1) then-1 else p.1+i*p.2.1
theorem Zb {p:cM}{i:Int}(hp:dH p=true)(hi:dy i 0 (p.2.2.1-1)=true):ak (p.1+ak (i*p.2.1))=p.1+i*p.2.1:=by have h:=Co hp;have h2:=bl.1 hi;have h3:0<=i*p.2.1:=Int.mul_nonneg h2.1 (by omega);have h4:i*p.2.1<=16*512:=Int.mul_le_mul (by omega) (by omega) (by omega) (by omega);grind[ai]
theorem OG (p:cM)(i:Int)(h:p.2.2.2.length<=10^9):jj p i=some (lD p i):=by grind[jj,lD,tX,ab,dH,ai,cx,dy,Zb]
theorem IQ (p:cM)(i:Int)(h:p.2.2.2.length<=10^9):fH p i=some (lD p i):=by grind[fH,lD,vU,ab,dH,ai,da,dy,Zb]
def upto (n:Nat):cL:=(List.range n).map Int.ofNat
theorem RK (n:Nat):upto (n+1)=upto n++[(n:Int)]:=by simp[upto,List.range_succ]
theorem aeY {n i:Nat}(h:i<n):(upto n).getD i 0=(i:Int):=by grind[upto]
theorem Yf (a b:Int)(n:Nat)(hn:n<=16):dH (a,b,(n:Int),upto n)=dH (a,b,(n:Int),[]):=by
 unfold dH;congr 3;have h1:(List.range (upto n).length).all (Fj (n:Int) (upto n))=true:=by
  rw[aL];intro i hi;have hi:i<n:=by simpa[upto]using hi
  simp only[Fj,aeY hi,ah,bl,aN];refine⟨by omega,?_⟩;rw[Bool.eq_false_iff,ne_eq,List.contains_iff_mem];intro hm;simp only[upto,<-List.map_take,List.mem_map]at hm;grind
 rw[h1];rfl
def iy (a b n:Int):cM×Bool:=bif dH (a,b,n,[]) then((a,b,n,upto n.toNat),true) else((0,0,0,[]),false)
theorem Lo (a b n:Int):wh a b n=some (iy a b n):=by
 unfold wh iy;rw[vU _ (by simp),ab];cases hp:dH (a,b,n,[]);rfl;have vS:=Co hp;obtain⟨n,rfl⟩:=aG (show 0<=n from vS.2.2.2.2.1);have Us:n<=16:=by have:=vS.2.2.2.2.2;simp only at this;omega
 simp only[aj,ae,af,az];refine cq (λi=>((i:Int),a,b,(n:Int),upto i)) n (by omega) (λi nx hi=>?_) (λnx=>?_);simp only[uz];rw[jy,aQ (by simp[upto];omega),ai (by omega) (by omega),RK];rfl;simp only[uz];rw[fT];rfl
theorem LP (a b n:Int):wV a b n=some (iy a b n):=by
 have xq:=cU;unfold wV iy;by_cases hn:0<=n/\n<=16;obtain⟨n,rfl⟩:=aG hn.1;have Us:n<=16:=by omega
 refine cq (λi=>((i:Int),a,b,(n:Int),upto i)) n (by omega) (λi nx hi=>?_) (λnx=>?_);simp only[pP];rw[aw (show(i:Int)<n by omega),aw (show(n:Int)<=16 by omega)];simp only[af,ab];rw[aQ (by simp[upto];omega),ai (by omega) (by omega),RK];rfl;simp only[pP];rw[ar (show¬(n:Int)<n by omega)];simp only[ae,ab,tX (a,b,(n:Int),upto n) (show(upto n).length<=10^9 by simp[upto];omega),Yf a b n Us,az];cases dH (a,b,(n:Int),[])<;>rfl;have hb:dH (a,b,n,[])=false:=by cases hp:dH (a,b,n,[])with|false=>rfl|true=>have:=Co hp;exact absurd ⟨this.2.2.2.2.1,this.2.2.2.2.2⟩ hn
 obtain⟨f,hf⟩:∃f,fuel=f+1:=⟨fuel-1,by omega⟩
 rw[hf,aM];simp only[pP];have hc:(cond (decide ((0:Int)<n)) (some (decide (n<=16))) (some false))=some false:=by by_cases h0:(0:Int)<n;rw[aw h0,fT];rfl;rw[ar h0];rfl
 rw[hc];simp only[ab,ae,tX (a,b,n,[]) (show([]:cL).length<=10^9 by simp),hb];rfl
def fE (p:cM)(b:Int):Bytes:=za (3,0,p.2.1,lD p b,0,b)
def oD (l:au ay)(d:Int)(p:cM):cL->bD->kg->Nat×bD×kg
 |[],m,r=>(0,m,r)
 |b::q,m,r=>bif (db l m d r (fE p b)).2.2 then
   ((oD l d p q (db l m d r (fE p b)).1 (db l m d r (fE p b)).2.1).1+1,(oD l d p q (db l m d r (fE p b)).1 (db l m d r (fE p b)).2.1).2)
  else(0,m,r)
theorem sK (l:au ay)(m:bD)(d:Int)(r:kg)(s:Bytes):(db l m d r s).1.length=m.length:=by grind[db,kZ]
theorem Kg (l:au ay)(d:Int)(p:cM):∀(q:cL)(m:bD)(r:kg),(oD l d p q m r).2.1.length=m.length/\(oD l d p q m r).1<=q.length
 |[],m,r=>⟨rfl,aU _⟩
 |b::q,m,r=>by rw[oD];cases (db l m d r (fE p b)).2.2 with|false=>grind|true=>have:=Kg l d p q (db l m d r (fE p b)).1 (db l m d r (fE p b)).2.1;grind[sK]
theorem Uh (r:kg):0<=tt r:=by unfold tt;cases hb:du r with|false=>exact il _|true=>have h:=lz hb;grind[du,cj,ai]
theorem SZ (h:¬tt r>0):db l m d r s=(m,r,false):=by have h0:=Uh r;grind[db]
theorem IU (K:Int->Int->kg->bD->ax R)(K':Nat->kg->bD->ax R)(hK:∀(c:Nat) i r m,K (c:Int) i r m=K' c r m)(l:au ay)(d:Int)(p p2 p3:cM)(hp:p.2.2.2.length<=10^9)(hl:l.length<=10^9):∀(rest pre:cL)(m:bD)(r:kg)(f:Nat),rest.length<f->pre.length+rest.length<=10^9->m.length<=10^9->
 aM (nA K l d (pre++rest) ((pre++rest).length:Int) p ([]:bD) (0,0,0,0) p2 p3) f ((pre.length:Int),(pre.length:Int),r,m)=K' (pre.length+(oD l d p rest m r).1) (oD l d p rest m r).2.2 (oD l d p rest m r).2.1
 |rest,pre,m,r,0,hf,_,_=>by omega
 |[],pre,m,r,f+1,_,_,_=>by rw[aM];simp only[nA];rw[ar (by simp),ae,hK];rfl
 |b::q,pre,m,r,f+1,hf,hn,hm=>by
  simp only[bZ]at hf hn;have hi:pre.length<(pre++b::q).length:=by simp
  have hb:(pre++b::q)[pre.length]=b:=by simp
  rw[aM];simp only[nA];rw[aw (by simp;omega),aW hi,hb];simp only[af,ab,IQ p b hp,Sy,Lq l m d r _ hl hm];rw[show za (3,0,p.2.1,lD p b,0,b)=fE p b from rfl,oD];cases hq:(db l m d r (fE p b)).2.2 with|false=>grind|true=>simp only[aj,ae,af];rw[ai (n:=(pre.length:Int)+1) (by omega) (by omega)];have key:=IU K K' hK l d p p2 p3 hp hl q (pre++[b]) (db l m d r (fE p b)).1 (db l m d r (fE p b)).2.1 f (by omega) (by simp;omega) (by rw[sK];exact hm);grind
theorem JE (K:Int->kg->bD->cM->ax R)(l:au ay)(d:Int)(p p2:cM)(hp:p.2.2.2.length<=10^9)(hl:l.length<=10^9)(A B C:Int):∀(rest:cL)(c:Nat)(m:bD)(r:kg)(f:Nat),rest.length<f->c+rest.length<=10^9->m.length<=10^9->
 aM (nU K l d p ([]:bD) (0,0,0,0) p2) f ((c:Int),r,m,A,B,C,rest)=K ((c+(oD l d p rest m r).1:Nat):Int) (oD l d p rest m r).2.2 (oD l d p rest m r).2.1 (A,B,C,rest.drop (oD l d p rest m r).1)
 |rest,c,m,r,0,hf,_,_=>by omega
 |[],c,m,r,f+1,_,_,_=>by
  rw[aM];simp only[nU,GD,ab];have hc:(cond (decide (tt r>0)) (some (decide ((([]:cL).length:Int)>0))) (some false))=some false:=by cases decide (tt r>0)<;>rfl
  rw[hc];rfl
 |b::q,c,m,r,f+1,hf,hn,hm=>by
  simp only[bZ]at hf hn;rw[aM];simp only[nU,GD,ab];by_cases hr:tt r>0;rw[aw hr,aw (show(((b::q).length:Nat):Int)>0 by simp)];have hi:idx (b::q) 0=some b:=rfl;have hs:sub (b::q) 1 ((b::q).length:Int)=some q:=by unfold sub;rw[aF (by simp;omega)];simp
  simp only[af,ab,hi,OG p b hp,S9,LR l m d r _ hl hm];rw[show za (3,0,p.2.1,lD p b,0,b)=fE p b from rfl,oD];cases hq:(db l m d r (fE p b)).2.2 with|false=>rfl|true=>simp only[aj,ae,af,hs,ab];rw[fw (by omega),ai (n:=(c:Int)+1) (by omega) (by omega),bO];have key:=JE K l d p p2 hp hl A B C q (c+1) (db l m d r (fE p b)).1 (db l m d r (fE p b)).2.1 f (by omega) (by omega) (by rw[sK];exact hm);rw[show((c+1:Nat):Int)=(c:Int)+1 by omega]at key;refine Eq.trans key ?_;rw[show c+1+(oD l d p q (db l m d r (fE p b)).1 (db l m d r (fE p b)).2.1).1=c+((oD l d p q (db l m d r (fE p b)).1 (db l m d r (fE p b)).2.1).1+1) by omega];rfl
  rw[ar hr,oD,SZ hr];rfl
def vO (l:au ay)(m:bD)(d:Int)(r:kg)(p:cM):bD×kg×cM×Int:=
 bif !du r|| !dH p then(m,r,p,0) else
 ((oD l d p p.2.2.2 m r).2.1,(oD l d p p.2.2.2 m r).2.2,(p.1,p.2.1,p.2.2.1,p.2.2.2.drop (oD l d p p.2.2.2 m r).1),((oD l d p p.2.2.2 m r).1:Int))
theorem UR (l:au ay)(m:bD)(d:Int)(r:kg)(p:cM)(hl:l.length<=10^9)(hm:m.length<=10^9)(hp:p.2.2.2.length<=10^9):jr l m d r p=some (vO l m d r p):=by have xq:=cU;unfold jr vO;simp only[fK m (show m.length<=1073741824 by omega),vk p hp,zg,vU p hp,ab];cases du r;rfl;cases dH p;rfl;simp only[aj,ae,ab,bF];have hlen:=(Kg l d p p.2.2.2 m r).2;refine(IU _ (λc r m=>aa (sub p.2.2.2 (c:Int) (p.2.2.2.length:Int)) λx14=>aa (fN x14) λxM=>some (m,r,(p.1,p.2.1,p.2.2.1,xM),(c:Int))) (λ_ _ _ _=>rfl) l d p _ p hp hl p.2.2.2 [] m r fuel (by omega) (by simp;omega) hm).trans ?_;grind[MA,ab,oC]
theorem VX (l:au ay)(m:bD)(d:Int)(r:kg)(p:cM)(hl:l.length<=10^9)(hm:m.length<=10^9)(hp:p.2.2.2.length<=10^9):tZ l m d r p=some (vO l m d r p):=by have xq:=cU;unfold tZ vO;simp only[gR m (show m.length<=1073741824 by omega),xI p hp,zB,tX p hp,ab];cases du r;rfl;cases dH p;rfl;simp only[aj,ae,ab,bF];refine(JE _ l d p _ hp hl p.1 p.2.1 p.2.2.1 p.2.2.2 0 m r fuel (by omega) (by omega) hm).trans ?_;rw[cl]
def iO (p:cM)(n:Int):cM×cL×Bool:=bif dH p&&dy n 0 (p.2.2.2.length:Int) then((p.1,p.2.1,p.2.2.1,p.2.2.2.drop n.toNat),p.2.2.2.take n.toNat,true) else(p,[],false)
theorem acf (p:cM)(n:Int)(h:p.2.2.2.length<=10^9):ta p n=some (iO p n):=by unfold ta iO;rw[xI p h,ab,tX p h,ab,cx];grind[bl,ab,CB,aQ,We]
theorem aa1 (p:cM)(n:Int)(h:p.2.2.2.length<=10^9):sC p n=some (iO p n):=by unfold sC iO;rw[vk p h,ab,vU p h,ab,da];cases dH p;rfl;cases hi:dy n 0 (p.2.2.2.length:Int);rfl;have hn:=bl.1 hi;obtain⟨n,rfl⟩:=aG hn.1;simp only[aj,ae,ab,dE,af,az];grind[ab,oC,sub]
theorem yZ:∀l:au oJ,(∀x∈l,0<=x.2.1/\x.2.1<=16)->0<=dc l/\dc l<=16*(l.length:Int)
 |[],_=>by simp[dc]
 |y::l,h=>by have h1:=yZ l (λx hx=>h x (dK _ hx));grind[dc]
theorem M3 (l:au oJ)(i:Nat)(hi:i<l.length):dc (l.take (i+1))=dc (l.take i)+l[i].2.1:=by grind[bg,dc]
theorem acb (t:bX)(h:t.2.2.1.length<=1000000)(hs:∀x∈t.2.2.1,0<=x.2.1/\x.2.1<=16):yU t=some (dc t.2.2.1):=by
 have xq:=cU;unfold yU;refine cq (λi=>(dc (t.2.2.1.take i),(i:Int))) t.2.2.1.length (by omega) (λi nx hi=>?_) (λnx=>?_);have hb:=yZ (t.2.2.1.take i) (λx hx=>hs x (List.mem_of_mem_take hx));have hc:=hs _ (aY hi);have hl:(t.2.2.1.take i).length<=1000000:=by rw[bq];omega
 rw[M3 _ _ hi];simp only[tj];rw[jy,af,aW hi,ab,ai (n:=(i:Int)+1) (by omega) (by omega),ai (by omega) (by omega)];rfl;simp only[tj];rw[fT,ae,cI]
theorem aaY (t:bX)(h:t.2.2.1.length<=1000000)(hs:∀x∈t.2.2.1,0<=x.2.1/\x.2.1<=16):qL t=some (dc t.2.2.1):=by
 have xq:=cU;unfold qL;refine cq (λi=>(dc (t.2.2.1.take i),(i:Int))) t.2.2.1.length (by omega) (λi nx hi=>?_) (λnx=>?_);have hb:=yZ (t.2.2.1.take i) (λx hx=>hs x (List.mem_of_mem_take hx));have hc:=hs _ (aY hi);have hl:(t.2.2.1.take i).length<=1000000:=by rw[bq];omega
 rw[M3 _ _ hi];simp only[ma];rw[jy,af,aW hi,ab,ai (n:=(i:Int)+1) (by omega) (by omega),ai (by omega) (by omega)];rfl;simp only[ma];rw[fT,ae,cI]
def oY (l:au ay)(d:Int):bD->bD->kg->ax (bD×kg)
 |[],m,r=>some (m,r)
 |s::q,m,r=>bif (db l m d r s).2.2 then oY l d q (db l m d r s).1 (db l m d r s).2.1 else none
def aeb (m:bD)(r:kg):ax (bD×kg)->bD×kg×Bool
 |some x=>(x.1,x.2,true)
 |none=>(m,r,false)
def sJ (l:au ay)(m:bD)(d:Int)(r:kg)(q:bD):bD×kg×Bool:=aeb m r (oY l d q m r)
theorem LC (l:au ay)(d:Int):∀(q:bD)(m:bD)(r:kg){x},oY l d q m r=some x->x.1.length=m.length
 |[],m,r,x,h=>by cases h;rfl
 |s::q,m,r,x,h=>by rw[oY]at h;cases hq:(db l m d r s).2.2 with|false=>grind|true=>rw[hq]at h;exact(LC l d q _ _ h).trans (sK ..)
theorem Fy (l:au ay)(d:Int)(M:bD)(A B2:kg)(B1:bD)(hl:l.length<=10^9)(hM:M.length<=10^9):∀(rest pre:bD)(m:bD)(r:kg)(f:Nat),rest.length<f->(pre++rest).length<=10^9->m.length<=10^9->
 aM (kW (λ_ y6 y7=>some (y6,y7,true)) (λy8 _ xo zZ _ _=>some (xo,zZ,y8)) l d false (pre++rest) ((pre++rest).length:Int) M A B1 B2) f ((pre.length:Int),m,r)=some (aeb M A (oY l d rest m r))
 |rest,pre,m,r,0,hf,_,_=>by omega
 |[],pre,m,r,f+1,_,_,_=>by rw[aM];simp only[kW];rw[ar (by simp),ae];rfl
 |s::q,pre,m,r,f+1,hf,hn,hm=>by
  simp only[bZ,aq]at hf hn;have hi:pre.length<(pre++s::q).length:=by simp
  have hb:(pre++s::q)[pre.length]=s:=by simp
  rw[aM];simp only[kW];rw[aw (by simp;omega),aW hi,hb];simp only[af,ab,Lq l m d r _ hl hm];rw[oY];cases hq:(db l m d r s).2.2 with|false=>simp only[bS,af,ae,fK M,ab];rfl|true=>simp only[aj,ae,af];rw[ai (n:=(pre.length:Int)+1) (by omega) (by omega)];have key:=Fy l d M A B2 B1 hl hM q (pre++[s]) (db l m d r s).1 (db l m d r s).2.1 f (by omega) (by simp;omega) (by rw[sK];exact hm);grind
theorem FV (l:au ay)(d:Int)(M:bD)(A B2:kg)(B1:bD)(hl:l.length<=10^9)(hM:M.length<=10^9):∀(rest pre:bD)(m:bD)(r:kg)(f:Nat),rest.length<f->(pre++rest).length<=10^9->m.length<=10^9->
 aM (lg (λ_ y6 y7=>some (y6,y7,true)) (λy8 _ xo zZ _ _=>some (xo,zZ,y8)) l d (pre++rest) false M A B1 B2) f ((pre.length:Int),m,r)=some (aeb M A (oY l d rest m r))
 |rest,pre,m,r,0,hf,_,_=>by omega
 |[],pre,m,r,f+1,_,_,_=>by rw[aM];simp only[lg];rw[ar (by simp),ae];rfl
 |s::q,pre,m,r,f+1,hf,hn,hm=>by
  simp only[bZ,aq]at hf hn;have hi:pre.length<(pre++s::q).length:=by simp
  have hb:(pre++s::q)[pre.length]=s:=by simp
  rw[aM];simp only[lg];rw[aw (by simp;omega),aW hi,hb];simp only[af,ab,LR l m d r _ hl hm];rw[oY];cases hq:(db l m d r s).2.2 with|false=>simp only[bS,af,ae,gR M,ab];rfl|true=>simp only[aj,ae,af];rw[ai (n:=(pre.length:Int)+1) (by omega) (by omega)];have key:=FV l d M A B2 B1 hl hM q (pre++[s]) (db l m d r s).1 (db l m d r s).2.1 f (by omega) (by simp;omega) (by rw[sK];exact hm);grind
theorem XD (l:au ay)(m:bD)(d:Int)(r:kg)(q:bD)(hl:l.length<=10^9)(hm:m.length<=10^9)(hq:q.length<=10^9):jZ l m d r q=some (sJ l m d r q):=by have xq:=cU;unfold jZ sJ;rw[fK m,ab];exact Fy l d m r _ _ hl hm q [] m r fuel (by omega) (by simpa using hq) hm
theorem YC (l:au ay)(m:bD)(d:Int)(r:kg)(q:bD)(hl:l.length<=10^9)(hm:m.length<=10^9)(hq:q.length<=10^9):uI l m d r q=some (sJ l m d r q):=by have xq:=cU;unfold uI sJ;rw[gR m,ab];exact FV l d m r _ _ hl hm q [] m r fuel (by omega) (by simpa using hq) hm
theorem Og (l:au ay)(m:bD)(d:Int)(w:Bool):∀(n a r:Nat)(q:au (Int×Int)),lJ l m d w n a r=some q->q.length<=n
 |0,a,r,q,h=>by simp only[lJ,ba]at h;subst h;simp
 |n+1,a,r,q,h=>by simp only[lJ]at h;split at h;simp only[ba]at h;subst h;simp;split at h;simp only[Option.map_eq_some_iff]at h;obtain⟨q',h1,rfl⟩:=h;have:=Og l m d w n _ _ q' h1;simp only[bZ];omega;cases h
theorem Gz (l:au ay)(m:bD)(d a n:Int)(w:Bool):(nP l m d a n w).1.length<=4096:=by
 unfold nP;cases hB:eX l&&(cG m&&dy n 0 4096);simp;simp only[ah,bl]at hB;simp only[af];cases n==0;case true=>simp
 cases decide (a<0);case true=>simp
 simp only[ae];split;rename_i q hq;have:=Og _ _ _ _ _ _ _ _ hq;show q.length<=4096;omega;simp
def ql (m:bD)(p:Int×Int):Bytes:=bif fX m p.1 p.2 then Aj m p.1.toNat p.2.toNat else []
theorem CP (m:bD)(p:Int×Int):(ql m p).length<=8192:=by grind[ql,fX,aeo,mem_iff]
theorem rM (m:bD):∀q:au (Int×Int),(q.flatMap (ql m)).length<=8192*q.length
 |[]=>by simp
 |p::q=>by have:=rM m q;grind[CP]
def rh (l:au ay)(m:bD)(d a n:Int):Bytes×Bool:=
 bif (nP l m d a n false).2 then((nP l m d a n false).1.flatMap (ql m),true) else([],false)
theorem IA {α β:Type}(g:α->au β)(l:au α)(i:Nat)(hi:i<l.length):(l.take (i+1)).flatMap g=(l.take i).flatMap g++g l[i]:=by grind[bg]
theorem Ch (l:au ay)(m:bD)(d a n:Int)(hl:l.length<=10^9)(hm:m.length<=10^9)(ha:a<=9223372036854775807):oM l m d a n=some (rh l m d a n):=by
 unfold oM rh;rw[UZ l m d a n false hl hm ha,ab];have hL:=Gz l m d a n false;generalize nP l m d a n false=r at hL⊢;cases hr:r.2;rfl;simp only[aj,ae,af];refine(cq (λi=>((r.1.take i).flatMap (ql m),(i:Int))) r.1.length (by omega) (λi nx hi=>?_) (λnx=>?_));simp only[ux];rw[jy,aW hi,ai (by omega) (by omega)];have e:pE m r.1[i].1 r.1[i].2=some (ql m r.1[i],fX m r.1[i].1 r.1[i].2):=by rw[adK m _ _ hm,ql];cases fX m r.1[i].1 r.1[i].2<;>rfl
 have h1:=rM m (r.1.take i);have h2:=CP m r.1[i];simp only[af,ab,e];rw[aQ (by rw[bq]at h1;omega),<-IA];rfl;simp only[ux];rw[fT,cI];rfl
theorem Cs (l:au ay)(m:bD)(d a n:Int)(hl:l.length<=10^9)(hm:m.length<=10^9)(ha:a<=9223372036854775807):pb l m d a n=some (rh l m d a n):=by
 unfold pb rh;rw[Ru l m d a n false hl hm ha,ab];have hL:=Gz l m d a n false;generalize nP l m d a n false=r at hL⊢;cases hr:r.2;rfl;simp only[aj,ae,af];refine(cq (λi=>((r.1.take i).flatMap (ql m),(i:Int))) r.1.length (by omega) (λi nx hi=>?_) (λnx=>?_));simp only[uG];have i1:idx (r.1.map (·.1)) (i:Int)=some r.1[i].1:=by rw[aW (by simpa using hi),List.getElem_map]
 have i2:idx (r.1.map (·.2)) (i:Int)=some r.1[i].2:=by rw[aW (by simpa using hi),List.getElem_map]
 rw[aw (by rw[cA];omega),i1,i2,ai (by omega) (by omega)];have e:pQ m r.1[i].1 r.1[i].2=some (ql m r.1[i],fX m r.1[i].1 r.1[i].2):=by rw[aeK m _ _ hm,ql];cases fX m r.1[i].1 r.1[i].2<;>rfl
 have h1:=rM m (r.1.take i);have h2:=CP m r.1[i];simp only[af,ab,e];rw[aQ (by rw[bq]at h1;omega),<-IA];rfl;simp only[uG];rw[ar (by rw[cA];omega),cI];rfl
theorem E7 (l:au ay)(m:bD)(d a n:Int):(rh l m d a n).1.length<=100000000:=by have hL:=Gz l m d a n false;have h1:=rM m (nP l m d a n false).1;grind[rh]
def vL (s:Bytes):DF×Int×Bool:=
 bif ((s.length:Int) !=16)||decide (fb s 12>1) then((0,0,0,0,0),0,false) else((cD s 0,cD s 2,cD s 4,cD s 6,fb s 8),fb s 12,true)
theorem Xx (s:Bytes)(h:s.length<=10^9):lp s=some (vL s):=by
 unfold lp vL;cases (s.length:Int) !=16;case true=>rfl
 simp only[xF s _ h,Bi s _ h,ab,ae,cJ];grind
theorem Yu (s:Bytes)(h:s.length<=10^9):lA s=some (vL s):=by
 unfold lA vL;cases (s.length:Int) !=16;case true=>rfl
 simp only[sM s _ h,Bm s _ h,ab,ae,cJ];grind
def CN (q:K0):Int:=bif decide (q.2.2<q.2.1) then 1 else 0
theorem QL (q:K0):wA q=some (CN q):=by grind[wA,CN]
theorem la {q:K0}(h:fB q=true):0<=q.1/\q.1<=130944/\(q.2.1=2\/q.2.1=4\/q.2.1=8\/q.2.1=16)/\0<=q.2.2/\q.2.2<=2*q.2.1-1:=by grind[fB,bl,Dw,gH]
theorem Rv (q:K0)(h:fB q=true):ui q=some (CN q):=by
 obtain⟨_,_,h3,h4,h5⟩:=la h;have e:Int.tdiv q.2.2 q.2.1=if q.2.2<q.2.1 then 0 else 1:=by grind
 unfold ui CN;rw[mQ,e];by_cases hq:q.2.2<q.2.1;rw[aF hq,aw hq];rfl;rw[aH hq,ar hq];rfl
def mj (q:K0):Int:=q.1+tmod q.2.2 q.2.1*16
theorem My {q:K0}(h:fB q=true):0<=tmod q.2.2 q.2.1/\tmod q.2.2 q.2.1<16:=by obtain⟨_,_,h3,h4,h5⟩:=la h;grind
theorem QQ (q:K0)(h:fB q=true):nL q=some (mj q):=by obtain⟨h1,h2,h3,h4,h5⟩:=la h;grind[nL,mj,ai]
def agI (q:K0):K0:=(q.1,q.2.1,tmod (q.2.2+1) (2*q.2.1))
def Mv (l:au ay)(m:bD)(d:Int)(q:K0):Bool:=
 fB q&&((rh l m d (mj q) 16).2&&((vL (rh l m d (mj q) 16).1).2.2&&((vL (rh l m d (mj q) 16).1).2.1==CN q)))
def oG (l:au ay)(m:bD)(d:Int)(q:K0):DF×K0×Bool:=
 bif Mv l m d q then((vL (rh l m d (mj q) 16).1).1,agI q,true) else((0,0,0,0,0),q,false)
theorem adH (l:au ay)(m:bD)(d:Int)(q:K0)(hl:l.length<=10^9)(hm:m.length<=10^9):nd l m d q=some (oG l m d q):=by unfold nd oG Mv;rw[Kq q,ab];cases hq:fB q;rfl;obtain⟨h1,h2,h3,h4,h5⟩:=la hq;have hs:=My hq;have hd:=E7 l m d (mj q) 16;simp only[aj,ae,QQ q hq,ab,Ch l m d (mj q) 16 hl hm (by unfold mj;omega),bB];cases (rh l m d (mj q) 16).2;rfl;simp only[aj,ae,Xx _ (aP hd (by omega)),ab,bB];cases (vL (rh l m d (mj q) 16).1).2.2;rfl;simp only[aj,ae,QL,ab,bB,bne];cases (vL (rh l m d (mj q) 16).1).2.1==CN q;rfl;simp only[aj,ae,af];rw[ai (n:=2*q.2.1) (by omega) (by omega),mQ,ai (n:=q.2.2+1) (by omega) (by omega)];rfl
theorem aeG (l:au ay)(m:bD)(d:Int)(q:K0)(hl:l.length<=10^9)(hm:m.length<=10^9):nn l m d q=some (oG l m d q):=by
 unfold nn oG Mv;rw[KU q,ab];cases hq:fB q;rfl;obtain⟨h1,h2,h3,h4,h5⟩:=la hq;have hs:=My hq;have hd:=E7 l m d (mj q) 16;have es:ak (q.1+ak (16*tmod q.2.2 q.2.1))=mj q:=by grind[ai,mj]
 simp only[aj,ae];rw[mQ,es];simp only[Cs l m d (mj q) 16 hl hm (by unfold mj;omega),ab,bB,Yu _ (aP hd (by omega)),Rv q hq,bne];cases (rh l m d (mj q) 16).2;rfl;cases (vL (rh l m d (mj q) 16).1).2.2;rfl;cases (vL (rh l m d (mj q) 16).1).2.1==CN q;rfl;simp only[aj,ae,af,ab,bB];rw[ai (n:=2*q.2.1) (by omega) (by omega),mQ,ai (n:=q.2.2+1) (by omega) (by omega)];rfl
theorem Zc (p:cM)(i:Int):lD p i= -1\/(0<=lD p i/\lD p i<=200000):=by unfold lD;cases hp:dH p;exact .inl rfl;cases hi:dy i 0 (p.2.2.1-1);exact .inl rfl;have h:=Co hp;have h2:=bl.1 hi;have h3:0<=i*p.2.1:=Int.mul_nonneg h2.1 (by omega);have h4:i*p.2.1<=16*512:=Int.mul_le_mul (by omega) (by omega) (by omega) (by omega);grind
def aaz (l:au ay)(m:bD)(d a n:Int):Bool:=(rh l m d a n).2&&((vA (rh l m d a n).1).2==0)
theorem afo {n:Int}:aaz l m d (-1) n=false:=by unfold aaz rh nP;cases eX l&&(cG m&&dy n 0 4096);rfl;simp only[af];cases n==0 with|true=>rfl|false=>rfl
def BM (l:au ay)(m:bD)(d:Int)(s:au Stream×bm×cM):au Stream×bm×cM:=
 ((bif aaz l m d (lD s.2.2 (oG l m d s.2.1.2.2.1).1.1) (oG l m d s.2.1.2.2.1).1.2.1 then tE s.1 (vA (rh l m d (lD s.2.2 (oG l m d s.2.1.2.2.1).1.1) (oG l m d s.2.1.2.2.1).1.2.1).1).1 else s.1),
   (s.2.1.1,s.2.1.2.1,(oG l m d s.2.1.2.2.1).2.1,s.2.1.2.2.2),(HL s.2.2 [(oG l m d s.2.1.2.2.1).1.1]).1)
def hG (l:au ay)(m:bD)(d:Int):Nat->au Stream×bm×cM->Nat×(au Stream×bm×cM)
 |0,s=>(0,s)
 |k+1,s=>bif !(oG l m d s.2.1.2.2.1).2.2 then(0,s) else((hG l m d k (BM l m d s)).1+1,(hG l m d k (BM l m d s)).2)
structure E3 (n:Nat) (s:List Stream×bm×cM):Prop where
 st:cn n (.sl jo) s.1
 pl:s.2.2.2.2.2.length<=n
theorem Uk (p:cM)(l:cL):(HL p l).1.2.2.2.length<=p.2.2.2.length+l.length:=by grind[HL,iA]
theorem FH {s:au Stream×bm×cM}{n:Nat}(h:E3 n s):E3 (n+322) (BM l m d s):=by
 refine⟨?_,?_⟩;unfold BM;cases aaz l m d (lD s.2.2 (oG l m d s.2.1.2.2.1).1.1) (oG l m d s.2.1.2.2.1).1.2.1 with|false=>exact h.st.mono|true=>exact Is h.st
 have:=Uk s.2.2 [(oG l m d s.2.1.2.2.1).1.1];have h2:=h.pl;show(HL s.2.2 [(oG l m d s.2.1.2.2.1).1.1]).1.2.2.2.length<=_;simp only[bf]at this;omega
theorem IY (K:au Stream->Int->bm->cM->ax R)(l:au ay)(m:bD)(d:Int)(N:Nat)(hN:N<=1000)(B1:bD)(B2:bm)(B3:cM)(hl:l.length<=10^9)(hm:m.length<=10^9):∀(k i:Nat)(s:au Stream×bm×cM)(f:Nat),i+k=N->k<f->E3 (500000000+322*i) s->
 aM (lX K l d (N:Int) B1 B2 B3 m) f (s.1,(i:Int),s.2.1,s.2.2)=K (hG l m d k s).2.1 ((i+(hG l m d k s).1:Nat):Int) (hG l m d k s).2.2.1 (hG l m d k s).2.2.2
 |k,i,s,0,_,hf,_=>by omega
 |0,i,s,f+1,hi,hf,z=>by rw[aM];simp only[lX];rw[fT,ae];rfl
 |k+1,i,s,f+1,hi,hf,z=>by have lE:cn 900000000 (.sl jo) s.1:=z.st.mono;have BD:s.2.2.2.2.2.length<=900000000:=aP z.pl (by omega);rw[aM];simp only[lX];rw[jy];simp only[af,adH l m d _ hl hm,ab,hG];cases hnx:(oG l m d s.2.1.2.2.1).2.2 with|false=>rfl|true=>have key:=IY K l m d N hN B1 B2 B3 hl hm k (i+1) (BM l m d s) f (by omega) (by omega) ((FH z).st.mono|>λa=>⟨a,aP (FH z).pl (by omega)⟩);rw[show i+1+(hG l m d k (BM l m d s)).1=i+((hG l m d k (BM l m d s)).1+1) by omega]at key;simp only[aj,ae];rw[<-key];unfold BM;generalize oG l m d s.2.1.2.2.1=c;have ha:=Zc s.2.2 c.1.1;have hd:=E7 l m d (lD s.2.2 c.1.1) c.1.2.1;simp only[IQ _ _ (show s.2.2.2.2.2.length<=10^9 by omega),Ch l m d _ c.1.2.1 hl hm (show lD s.2.2 c.1.1<=9223372036854775807 by omega),ab,Gu _ (aP hd (by omega)),IT _ _ lE,NN s.2.2 [c.1.1] (show s.2.2.2.2.2.length+1<=10^9 by omega)];rw[ai (n:=(i:Int)+1) (by omega) (by omega),show((i+1:Nat):Int)=(i:Int)+1 by omega];grind[aaz]
theorem JI (K:au Stream->Int->bm->cM->ax R)(l:au ay)(m:bD)(d:Int)(N:Nat)(hN:N<=1000)(B1:bD)(B2:bm)(B3:cM)(hl:l.length<=10^9)(hm:m.length<=10^9):∀(k i:Nat)(s:au Stream×bm×cM)(f:Nat),i+k=N->k<f->E3 (500000000+322*i) s->
 aM (mx K l d (N:Int) m B1 B2 B3) f (s.1,(i:Int),s.2.1,s.2.2)=K (hG l m d k s).2.1 ((i+(hG l m d k s).1:Nat):Int) (hG l m d k s).2.2.1 (hG l m d k s).2.2.2
 |k,i,s,0,_,hf,_=>by omega
 |0,i,s,f+1,hi,hf,z=>by rw[aM];simp only[mx];rw[fT,ae];rfl
 |k+1,i,s,f+1,hi,hf,z=>by have lE:cn 900000000 (.sl jo) s.1:=z.st.mono;have BD:s.2.2.2.2.2.length<=900000000:=aP z.pl (by omega);rw[aM];simp only[mx];rw[jy];simp only[af,aeG l m d _ hl hm,ab,hG];cases hnx:(oG l m d s.2.1.2.2.1).2.2 with|false=>rfl|true=>have key:=JI K l m d N hN B1 B2 B3 hl hm k (i+1) (BM l m d s) f (by omega) (by omega) ((FH z).st.mono|>λa=>⟨a,aP (FH z).pl (by omega)⟩);rw[show i+1+(hG l m d k (BM l m d s)).1=i+((hG l m d k (BM l m d s)).1+1) by omega]at key;simp only[aj,ae];rw[<-key];unfold BM;generalize oG l m d s.2.1.2.2.1=c;have ha:=Zc s.2.2 c.1.1;have hd:=E7 l m d (lD s.2.2 c.1.1) c.1.2.1;simp only[OG _ _ (show s.2.2.2.2.2.length<=10^9 by omega),Cs l m d _ c.1.2.1 hl hm (show lD s.2.2 c.1.1<=9223372036854775807 by omega),ab,GG _ (aP hd (by omega)),JB _ _ lE,OJ s.2.2 [c.1.1] (show s.2.2.2.2.2.length+1<=10^9 by omega)];rw[ai (n:=(i:Int)+1) (by omega) (by omega),show((i+1:Nat):Int)=(i:Int)+1 by omega];rcases ha with ha|ha;rw[ha,afo];rfl;rw[aw (show lD s.2.2 c.1.1>=0 by omega)];unfold aaz;cases (rh l m d (lD s.2.2 c.1.1) c.1.2.1).2<;>cases (vA (rh l m d (lD s.2.2 c.1.1) c.1.2.1).1).2==0<;>rfl
theorem Jk {l:au ay}{m:bD}{d:Int}:∀(k:Nat){s:au Stream×bm×cM}{n:Nat},E3 n s->E3 (n+322*k) (hG l m d k s).2
 |0,s,n,h=>h
 |k+1,s,n,h=>by rw[hG];cases (oG l m d s.2.1.2.2.1).2.2 with|false=>exact⟨h.st.mono,aP h.pl (by omega)⟩|true=>have:=Jk (l:=l) (m:=m) (d:=d) k (FH (l:=l) (m:=m) (d:=d) h);grind
def iZ (l:au ay)(m:bD)(d:Int)(rx:bm)(pl:cM)(st:au Stream)(n:Int):bD×bm×cM×au Stream×Int:=
 bif !Hj rx||(!dH pl|| !dy n 0 1000) then(m,rx,pl,st,0) else
 ((vO l m d (hG l m d n.toNat (st,rx,pl)).2.2.1.1 (hG l m d n.toNat (st,rx,pl)).2.2.2).1,
   ((vO l m d (hG l m d n.toNat (st,rx,pl)).2.2.1.1 (hG l m d n.toNat (st,rx,pl)).2.2.2).2.1,(hG l m d n.toNat (st,rx,pl)).2.2.1.2),
   (vO l m d (hG l m d n.toNat (st,rx,pl)).2.2.1.1 (hG l m d n.toNat (st,rx,pl)).2.2.2).2.2.1,(hG l m d n.toNat (st,rx,pl)).2.1,((hG l m d n.toNat (st,rx,pl)).1:Int))
theorem UU (l:au ay)(m:bD)(d:Int)(rx:bm)(pl:cM)(st:au Stream)(n:Int)(hl:l.length<=10^9)(hm:m.length<=10^9)(hp:pl.2.2.2.length<=500000000)(hs:cn 500000000 (.sl jo) st):wi l m d rx pl st n=some (iZ l m d rx pl st n):=by
 have xq:=cU;have Zp:st.length<=500000000:=hs.1;unfold wi iZ;simp only[fK m (show m.length<=1073741824 by omega),vk pl (show pl.2.2.2.length<=10^9 by omega),uu st,SH,vU pl (show pl.2.2.2.length<=10^9 by omega),da,ab];cases Hj rx;rfl;cases dH pl;rfl;cases hn:dy n 0 1000;rfl;have h:=bl.1 hn;obtain⟨n,rfl⟩:=aG h.1;simp only[aj,ae,ab,bF,az];have z:E3 (500000000+322*0) (st,rx,pl):=⟨hs,hp⟩
 have hz:=Jk (l:=l) (m:=m) (d:=d) n z;refine(IY _ l m d n (by omega) _ _ _ hl hm n 0 (st,rx,pl) fuel (by omega) (by omega) z).trans ?_;rw[cl];simp only[UR l m d _ _ hl hm (show(hG l m d n (st,rx,pl)).2.2.2.2.2.2.length<=10^9 from aP hz.pl (by omega)),ab]
theorem V1 (l:au ay)(m:bD)(d:Int)(rx:bm)(pl:cM)(st:au Stream)(n:Int)(hl:l.length<=10^9)(hm:m.length<=10^9)(hp:pl.2.2.2.length<=500000000)(hs:cn 500000000 (.sl jo) st):od l m d rx pl st n=some (iZ l m d rx pl st n):=by
 have xq:=cU;have Zp:st.length<=500000000:=hs.1;unfold od iZ;rw[fw (by omega)];simp only[bO,xI pl (show pl.2.2.2.length<=10^9 by omega),gR m (show m.length<=1073741824 by omega),Tg,tX pl (show pl.2.2.2.length<=10^9 by omega),cx,ab];cases Hj rx;rfl;cases dH pl;rfl;cases hn:dy n 0 1000;rfl;have h:=bl.1 hn;obtain⟨n,rfl⟩:=aG h.1;simp only[aj,ae,ab,bF,az];have z:E3 (500000000+322*0) (st,rx,pl):=⟨hs,hp⟩
 have hz:=Jk (l:=l) (m:=m) (d:=d) n z;refine(JI _ l m d n (by omega) _ _ _ hl hm n 0 (st,rx,pl) fuel (by omega) (by omega) z).trans ?_;rw[cl];simp only[VX l m d _ _ hl hm (show(hG l m d n (st,rx,pl)).2.2.2.2.2.2.length<=10^9 from aP hz.pl (by omega)),ab]
def gX (i:Nat):Int:=1280+(i:Int)*1792
theorem Y7 {i:Nat}(h:i<=8):ak (1280+ak ((i:Int)*1792))=gX i:=by rw[ai (n:=(i:Int)*1792) (by omega) (by omega),ai (by omega) (by omega)];rfl
theorem UM (i:Nat)(h:i<=8):rE (i:Int)=some (gX i):=by rw[rE,Y7 h]
theorem oX (a b n:Int)(h:n<=1000:=by omega):(iy a b n).1.2.2.2.length<=1000:=by grind[iy,upto]
def Oy (i:Nat):bm:=((gX i,4,0,0),(gX i+64,4,0),(gX i+64,4,0),((0,0,0,0,0,0,0,0,0,0,0,0,0,0,0,([]:Bytes)),0,0),false,0)
theorem aaV (i:Nat)(h:i<=8):xH (i:Int)=some (Oy i,(iy (gX i+128) 384 4).1):=by have hb:gX i=1280+(i:Int)*1792:=rfl;simp only[xH,UM i h,ab];rw[ai (n:=gX i+128) (by omega) (by omega),ai (n:=gX i+64) (by omega) (by omega),Lo];rfl
def DC:bX:=((0,16,0,0),(iy 256 128 8).1,([]:au oJ),0)
theorem aa5:D2=some DC:=by rw[D2,Lo];rfl
theorem RB:uj=some DC:=by rw[uj,LP];rfl
def wF (l:au ay)(m:bD)(i:Nat):bD×kg×cM×Int:=
 vO l (lF l m 0 (gX i) (Ao 128) false).1 0 (gX i,4,0,0) (iy (gX i+128) 384 4).1
def Jf (h:Host)(i:Nat):Host:=
 ((wF h.2.1 h.1 i).1,h.2.1,h.2.2.1,h.2.2.2.1.set i ((wF h.2.1 h.1 i).2.1,(gX i+64,4,0),(gX i+64,4,0),((0,0,0,0,0,0,0,0,0,0,0,0,0,0,0,([]:Bytes)),0,0),false,(match h.2.2.2.1[i]? with|some x=>x.2.2.2.2.2|none=>0)),h.2.2.2.2.1.set i (wF h.2.1 h.1 i).2.2.1,h.2.2.2.2.2)
theorem OM (h:Host)(i:Nat)(hi:i<=8)(h1:i<h.2.2.2.1.length)(h2:i<h.2.2.2.2.1.length)(hl:h.2.1.length<=10^9)(hm:h.1.length<=10^9):py h (i:Int)=some ((),Jf h i):=by have hb:gX i=1280+(i:Int)*1792:=rfl;have hz:iD 128 0=some (Ao 128):=OL 128;have hf:=VX h.2.1 (lF h.2.1 h.1 0 (gX i) (Ao 128) false).1 0 (gX i,4,0,0) (iy (gX i+128) 384 4).1 hl (by rw[kZ];exact hm) (aP (oX (gX i+128) 384 4) (by omega));unfold py;simp only[Y7 hi];rw[ai (n:=gX i+128) (by omega) (by omega),ai (n:=gX i+64) (by omega) (by omega),LP,hz];simp only[aW h1,aW h2,ab,Hn h.2.1 h.1 0 (gX i) (Ao 128) hl hm (by omega),hf,az,Jf,wF,al h1]
def xK (h:Host)(i:Nat)(n:Int):Int×Host:=
 match h.2.2.2.1[i]?,h.2.2.2.2.1[i]? with
 |some rx,some pl=>
  ((iZ h.2.1 h.1 0 rx pl h.2.2.2.2.2.2.2.2.2.1 n).2.2.2.2,(iZ h.2.1 h.1 0 rx pl h.2.2.2.2.2.2.2.2.2.1 n).1,h.2.1,h.2.2.1,h.2.2.2.1.set i (iZ h.2.1 h.1 0 rx pl h.2.2.2.2.2.2.2.2.2.1 n).2.1,h.2.2.2.2.1.set i (iZ h.2.1 h.1 0 rx pl h.2.2.2.2.2.2.2.2.2.1 n).2.2.1,h.2.2.2.2.2.1,h.2.2.2.2.2.2.1,h.2.2.2.2.2.2.2.1,h.2.2.2.2.2.2.2.2.1,(iZ h.2.1 h.1 0 rx pl h.2.2.2.2.2.2.2.2.2.1 n).2.2.2.1,h.2.2.2.2.2.2.2.2.2.2)
 |_,_=>(0,h)
theorem SE (h:Host)(i:Nat)(n:Int)(h1:i<h.2.2.2.1.length)(h2:i<h.2.2.2.2.1.length)(z:cn 500000000 dF h):kI h (i:Int) n=some (xK h i n):=by have hl:h.2.1.length<=500000000:=z.2.1.1;have hm:h.1.length<=500000000:=z.1.1;have hp:h.2.2.2.2.1[i].2.2.2.length<=500000000:=(z.2.2.2.2.1.2 _ (aY h2)).2.2.2.1;unfold kI;simp only[aW h1,aW h2,ab,UU h.2.1 h.1 0 _ _ _ n (show h.2.1.length<=10^9 by omega) (show h.1.length<=10^9 by omega) hp z.2.2.2.2.2.2.2.2.2.1,az,xK,al h1,al h2]
theorem pJ {n:Nat}{t:CT}{l:au t.D}{i:Nat}{x:t.D}(z:cn n (.sl t) l)(hx:cn n t x):cn n (.sl t) (l.set i x):=by refine⟨?_,λy hy=>?_⟩;show(l.set i x).length<=n;rw[aB];exact z.1;rcases List.mem_or_eq_of_mem_set hy with h|h;exact z.2 y h;rw[h];exact hx
theorem Q8 {n:Nat}(hn:128<=n)(h:D8 m):cn n (.sl .str) m:=⟨aP h.2 (by omega),λx hx=>aP (Nat.le_of_eq (h.1 x hx)) hn⟩
theorem Wt {n:Nat}(hn:128<=n)(z:cn n (.sl .str) m)(a:Int)(s:Bytes):cn n (.sl .str) (tq m a s).1:=by grind[tq,fX,Q8,Be,vy]
theorem Vy {n:Nat}(hn:128<=n):∀(q:au (Int×Int)){m:bD}(s:Bytes),cn n (.sl .str) m->cn n (.sl .str) (Oo q m s)
 |[],m,s,z=>z
 |p::q,m,s,z=>Vy hn q _ (Wt hn z _ _)
theorem FJ {n:Nat}(hn:128<=n)(z:cn n (.sl .str) m)(l:au ay)(d a:Int)(s:Bytes)(w:Bool):cn n (.sl .str) (lF l m d a s w).1:=by grind[lF,Vy]
theorem Jo {n:Nat}(hn:128<=n)(z:cn n (.sl .str) m)(l:au ay)(d:Int)(r:kg)(s:Bytes):cn n (.sl .str) (db l m d r s).1:=by grind[db,FJ]
theorem Qm {n:Nat}(hn:128<=n)(l:au ay)(d:Int)(p:cM):∀(q:cL){m:bD}(r:kg),cn n (.sl .str) m->cn n (.sl .str) (oD l d p q m r).2.1
 |[],m,r,z=>z
 |b::q,m,r,z=>by rw[oD];cases (db l m d r (fE p b)).2.2 with|false=>exact z|true=>exact Qm hn l d p q _ (Jo hn z ..)
theorem Qn {n:Nat}(hn:128<=n)(z:cn n (.sl .str) m)(l:au ay)(d:Int)(r:kg)(p:cM):cn n (.sl .str) (vO l m d r p).1:=by unfold vO;cases !du r|| !dH p with|true=>exact z|false=>exact Qm hn _ _ _ _ _ z
theorem Zi (l:au ay)(m:bD)(d:Int)(r:kg)(p:cM):(vO l m d r p).1.length=m.length:=by grind[vO,Kg]
theorem HE (l:au ay)(m:bD)(d:Int)(r:kg)(p:cM):(vO l m d r p).2.2.1.2.2.2.length<=p.2.2.2.length:=by grind[vO]
theorem Vt (l:au ay)(m:bD)(d:Int):∀(k:Nat)(s:au Stream×bm×cM),(hG l m d k s).2.2.1.2.2.2=s.2.1.2.2.2/\(hG l m d k s).1<=k
 |0,s=>⟨rfl,aU _⟩
 |k+1,s=>by rw[hG];cases (oG l m d s.2.1.2.2.1).2.2 with|false=>grind|true=>have:=Vt l m d k (BM l m d s);simp only[aj,ae];exact⟨this.1,by omega⟩
theorem Rb {n:Nat}(hn:128<=n){rx:bm}{pl:cM}{st:au Stream}(c:Int)(zm:cn n (.sl .str) m)(zr:cn n lO rx)(zp:cn n K3 pl)(zs:cn n (.sl jo) st): cn n (.sl .str) (iZ l m d rx pl st c).1/\cn n lO (iZ l m d rx pl st c).2.1/\cn (n+322000) K3 (iZ l m d rx pl st c).2.2.1/\cn (n+322000) (.sl jo) (iZ l m d rx pl st c).2.2.2.1/\0<=(iZ l m d rx pl st c).2.2.2.2/\(iZ l m d rx pl st c).2.2.2.2<=1000:=by
 unfold iZ;cases hc: !Hj rx||(!dH pl|| !dy c 0 1000)with
 |true=>exact⟨zm,zr,zp.mono,zs.mono,il _,by show(0:Int)<=1000;omega⟩
 |false=>
  have hi:dy c 0 1000=true:=by cases h:dy c 0 1000 with|true=>rfl|false=>rw[h]at hc;simp at hc
  have h:=bl.1 hi;have z:=Jk (l:=l) (m:=m) (d:=d) c.toNat (s:=(st,rx,pl)) (n:=n) ⟨zs,zp.2.2.2.1⟩;have hx:=Vt l m d c.toNat (st,rx,pl);refine⟨Qn hn zm ..,⟨?_,?_,?_,?_⟩,⟨cv,cv,cv,?_,λ_ _=>trivial⟩,z.st.mono,by show(0:Int)<=((hG l m d c.toNat (st,rx,pl)).1:Int);omega,by show((hG l m d c.toNat (st,rx,pl)).1:Int)<=1000;omega⟩;exact⟨cv,cv,cv,cv⟩;exact⟨cv,cv,cv⟩;exact⟨cv,cv,cv⟩;have e:=congrArg (λq=>cn n lO (rx.1,rx.2.1,rx.2.2.1,q)) hx.1;exact(e.mpr zr).2.2.2;have:=HE l m d (hG l m d c.toNat (st,rx,pl)).2.2.1.1 (hG l m d c.toNat (st,rx,pl)).2.2.2;have h2:=z.pl;show(vO l m d (hG l m d c.toNat (st,rx,pl)).2.2.1.1 (hG l m d c.toNat (st,rx,pl)).2.2.2).2.2.1.2.2.2.length<=_;omega
theorem Yd {n:Nat}(hn:128<=n)(i:Nat)(c:Int)(z:cn n dF h):cn (n+322000) dF (xK h i c).2:=by unfold xK;rcases h1:h.2.2.2.1[i]? with _|rx;exact z.mono;rcases h2:h.2.2.2.2.1[i]? with _|pl;exact z.mono;have zr:=z.2.2.2.1.2 _ (bn h1);have zp:=z.2.2.2.2.1.2 _ (bn h2);have hp:=Rb hn (l:=h.2.1) (d:=0) c z.1 zr zp z.2.2.2.2.2.2.2.2.2.1;have z':cn (n+322000) dF h:=z.mono;exact⟨hp.1.mono,z'.2.1,z'.2.2.1,pJ z'.2.2.2.1 (hp.2.1.mono),pJ z'.2.2.2.2.1 hp.2.2.1,z'.2.2.2.2.2.1,z'.2.2.2.2.2.2.1,z'.2.2.2.2.2.2.2.1,z'.2.2.2.2.2.2.2.2.1,hp.2.2.2.1,z'.2.2.2.2.2.2.2.2.2.2⟩
def bu (l:au ay)(m:bD)(d:Int)(r:kg):Bytes×kg×Bool:=
 bif !du r||(cj r==0) then([],r,false) else
 bif !(rh l m d (Al r r.2.2.1) 16).2 then([],r,false) else
 ((rh l m d (Al r r.2.2.1) 16).1,(r.1,r.2.1,tmod (r.2.2.1+1) (2*r.2.1),r.2.2.2),true)
theorem JL (l:au ay)(m:bD)(d:Int)(r:kg)(hl:l.length<=10^9)(hm:m.length<=10^9):ue l m d r=some (bu l m d r):=by have hA:=Dx r r.2.2.1;unfold ue bu;simp only[zB,BS,ab,Ry,Cs l m d _ 16 hl hm (show Al r r.2.2.1<=9223372036854775807 by omega)];cases hb:du r;rfl;have h:=lz hb;grind[ab,ai]
theorem I2 (l:au ay)(m:bD)(d:Int)(r:kg)(hl:l.length<=10^9)(hm:m.length<=10^9):tQ l m d r=some (bu l m d r):=by have hA:=Dx r r.2.2.1;unfold tQ bu;simp only[zg,BE,ab,QP,Ch l m d _ 16 hl hm (show Al r r.2.2.1<=9223372036854775807 by omega)];cases hb:du r;rfl;have h:=lz hb;grind[ab,ai]
theorem yX (l:au ay)(m:bD)(d:Int)(r:kg):(bu l m d r).1.length<=100000000:=by grind[bu,E7]
theorem BW (h:(bu l m d r).2.2=true): du (bu l m d r).2.1=true/\cj (bu l m d r).2.1=cj r-1/\(bu l m d r).2.1.1=r.1/\(bu l m d r).2.1.2.1=r.2.1/\(bu l m d r).2.1.2.2.2=r.2.2.2:=by
 unfold bu at h⊢;cases hb:du r with|false=>grind|true=>?_
 cases hu:cj r==0 with|true=>grind|false=>?_
 cases hd:(rh l m d (Al r r.2.2.1) 16).2 with|false=>grind|true=>?_
 grind[lz,du,cj,bl]
theorem mh (h:du r=true):0<=cj r/\cj r<=16:=by have hr:=lz h;grind[du,cj]
def EF:CY:=(0,0,0,0,0,0)
def E6 (s:Bytes):CY:=((bK s 0:Int),(bK s 1:Int),cD s 2,fb s 4,cD s 8,cD s 10)
def dB (s:Bytes):CY×Bool:=
 bif ((s.length:Int) !=16) then(EF,false) else bif !(za (E6 s)==s) then(EF,false) else(E6 s,true)
theorem VU (s:Bytes)(h:s.length<=10^9):pN s=some (dB s):=by
 unfold pN dB;cases hn:(s.length:Int) !=16;case true=>rfl
 have hl:s.length=16:=by grind
 have b0:=kx (s[0]'(by omega));have b1:=kx (s[1]'(by omega));have i0:idx s 0=some (s[0]'(by omega)):=aW (i:=0) (by omega);have i1:idx s 1=some (s[1]'(by omega)):=aW (i:=1) (by omega);have e:(((s[0]'(by omega)).toNat:Int),((s[1]'(by omega)).toNat:Int),cD s 2,fb s 4,cD s 8,cD s 10)=E6 s:=by grind[E6,bK]
 simp only[ae,i0,i1,ab,sM s _ h,Bm s _ h];rw[fJ (n:=(s[0]'(by omega)).toNat) (by omega),fJ (n:=(s[1]'(by omega)).toNat) (by omega),e,S9,ab];cases za (E6 s)==s<;>rfl
theorem UN (s:Bytes)(h:s.length<=10^9):pC s=some (dB s):=by
 unfold pC dB;cases hn:(s.length:Int) !=16;case true=>rfl
 have hl:s.length=16:=by grind
 have b0:=kx (s[0]'(by omega));have b1:=kx (s[1]'(by omega));have i0:idx s 0=some (s[0]'(by omega)):=aW (i:=0) (by omega);have i1:idx s 1=some (s[1]'(by omega)):=aW (i:=1) (by omega);have e:(((s[0]'(by omega)).toNat:Int),((s[1]'(by omega)).toNat:Int),cD s 2,fb s 4,cD s 8,cD s 10)=E6 s:=by grind[E6,bK]
 simp only[ae,i0,i1,ab,xF s _ h,Bi s _ h];rw[fJ (n:=(s[0]'(by omega)).toNat) (by omega),fJ (n:=(s[1]'(by omega)).toNat) (by omega),e,Sy,ab];cases za (E6 s)==s<;>rfl
theorem M4 (h:(dB s).2=true):rn (dB s).1=true:=by grind[dB,za]
def Pp (x:CY):Bool:=bif x.1==1 then(ak (BitVec.toNat (fa x.2.1&&&fa 1))) !=0 else false
def uX (l:au ay)(m:bD)(d:Int):Nat->au CY->kg->au CY×kg×Bool
 |0,acc,r=>(acc,r,true)
 |n+1,acc,r=>
  bif !(bu l m d r).2.2|| !(dB (bu l m d r).1).2 then([],(r.1,r.2.1,r.2.2.2,r.2.2.2),false) else
  bif Pp (dB (bu l m d r).1).1 then(acc++[(dB (bu l m d r).1).1],(bu l m d r).2.1,true) else
  uX l m d n (acc++[(dB (bu l m d r).1).1]) (bu l m d r).2.1
def dW (l:au ay)(m:bD)(d:Int)(r:kg):au CY×kg×Bool:=
 bif !du r||(cj r==0) then([],r,false) else uX l m d (cj r).toNat [] r
theorem Ha (k0:au CY->kg->ax R)(k1:au CY->Bool->au CY->kg->kg->ax R)(K:au CY×kg×Bool->ax R)
 (h0:∀a r,k0 a r=K (a,r,true)) (l:au ay) (m:bD) (d:Int) (B E:kg) (h1:∀a r,k1 [] false a r E=K ([],E,false)) (hl:l.length<=10^9) (hm:m.length<=10^9):∀(n:Nat)(acc:au CY)(r:kg)(f:Nat),
 n<f->du r=true->(cj r).toNat=n->acc.length+n<=1000->E=(r.1,r.2.1,r.2.2.2,r.2.2.2)->aM (lY k0 k1 l d ([]:au CY) false m B E) f (acc,r)=K (uX l m d n acc r)
 |n,acc,r,0,hf,_,_,_,_=>by omega
 |0,acc,r,f+1,hf,hb,hu,ha,hE=>by rw[aM];simp only[lY,BE,ab];rw[fT,ae,h0];rfl
 |n+1,acc,r,f+1,hf,hb,hu,ha,hE=>by
  have hlen:=yX l m d r;have hk:=BW (l:=l) (m:=m) (d:=d) (r:=r);rw[aM];simp only[lY,BE,ab];rw[jy,af,I2 l m d r hl hm,ab,uX];generalize bu l m d r=t at hlen hk⊢;cases ht:t.2.2 with
  |false=>grind
  |true=>
   have hk:=hk ht;simp only[aj,ae,cJ];rw[UN _ (show t.1.length<=10^9 by omega),ab];generalize dB t.1=x;cases x.2 with
   |false=>grind
   |true=>
    simp only[aj,ae];rw[aQ (by rw[bf];omega)];have e:(aa (cond (x.1.1==1) (some ((ak (BitVec.toNat (fa x.1.2.1&&&fa 1))) !=0)) (some false)):(Bool->ax R)->ax R)=λK=>K (Pp x.1):=by funext K;simp_all[Pp]
    rw[e];cases Pp x.1 with|true=>simp only[af,h0]|false=>simp only[ae];exact Ha k0 k1 K h0 l m d B E h1 hl hm n _ _ f (by omega) hk.1 (by omega) (by simp;omega) (by grind)
theorem Hk (k0:au CY->kg->ax R)(k1:au CY->Bool->au CY->kg->kg->ax R)(K:au CY×kg×Bool->ax R)
 (h0:∀a r,k0 a r=K (a,r,true)) (l:au ay) (m:bD) (d:Int) (B:kg) (h1:∀a r,k1 [] false a r r=K ([],r,false)) (hl:l.length<=10^9) (hm:m.length<=10^9):∀(n:Nat)(acc:au CY)(r:kg)(f:Nat),
 n<f->du r=true->(cj r).toNat=n->acc.length+n<=1000->aM (mz k0 k1 l d ([]:au CY) false m B) f (acc,r)=K (uX l m d n acc r)
 |n,acc,r,0,hf,_,_,_=>by omega
 |0,acc,r,f+1,hf,hb,hu,ha=>by rw[aM];simp only[mz,BS,ab];rw[fT,ae,h0];rfl
 |n+1,acc,r,f+1,hf,hb,hu,ha=>by
  have hlen:=yX l m d r;have hk:=BW (l:=l) (m:=m) (d:=d) (r:=r);rw[aM];simp only[mz,BS,ab];rw[jy,af,JL l m d r hl hm,ab,uX];generalize bu l m d r=t at hlen hk⊢;rw[VU _ (show t.1.length<=10^9 by omega),ab];generalize dB t.1=x;cases ht:t.2.2 with
  |false=>simp_all
  |true=>
   have hk:=hk ht;simp only[aj,ae,ab,cJ];cases x.2 with
   |false=>grind
   |true=>
    simp only[aj,ae];rw[aQ (by rw[bf];omega)];have e:(aa (cond (x.1.1==1) (some ((ak (BitVec.toNat (fa x.1.2.1&&&fa 1))) !=0)) (some false)):(Bool->ax R)->ax R)=λK=>K (Pp x.1):=by funext K;simp_all[Pp]
    rw[e];cases Pp x.1 with|true=>simp only[af,h0]|false=>simp only[ae];exact Hk k0 k1 K h0 l m d B h1 hl hm n _ _ f (by omega) hk.1 (by omega) (by simp;omega)
theorem PE (l:au ay)(m:bD)(d:Int)(r:kg)(hl:l.length<=10^9)(hm:m.length<=10^9):wq l m d r=some (dW l m d r):=by
 have xq:=cU;unfold wq dW;simp only[zg,BE,ab];cases hb:du r;rfl;cases cj r==0;case true=>rfl
 have hu:=mh hb;simp only[aj,ae,ab,bF];exact Ha _ _ (λx=>some x) (λ_ _=>rfl) l m d _ _ (λ_ _=>rfl) hl hm _ [] r fuel (by omega) hb rfl (by simp;omega) rfl
theorem PY (l:au ay)(m:bD)(d:Int)(r:kg)(hl:l.length<=10^9)(hm:m.length<=10^9):xa l m d r=some (dW l m d r):=by
 have xq:=cU;unfold xa dW;simp only[zB,BS,ab];cases hb:du r;rfl;cases cj r==0;case true=>rfl
 have hu:=mh hb;simp only[aj,ae,ab,bF];exact Hk _ _ (λx=>some x) (λ_ _=>rfl) l m d _ (λ_ _=>rfl) hl hm _ [] r fuel (by omega) hb rfl (by simp;omega)
def zx (x:Int×Int):Bool:=decide (x.1<0)|| !dy x.2 0 4096
def lv (l:au (Int×Int)):Bool:= !l.any zx&&decide ((l.length:Int)<=16)
theorem Oj (l:au (Int×Int)):(bif l.any zx then some false else some (decide ((l.length:Int)<=16)))=some (lv l):=by grind[lv]
theorem NO (l:au (Int×Int))(h:l.length<=10^9):yp l=some (lv l):=by
 rw[<-Oj];refine Bq zx l (by omega) (λi hi nx=>?_) (λnx=>?_);simp only[so];rw[jy,af,aW hi,ab,da,ai (by omega) (by omega)];unfold zx;cases decide (l[i].1<0)with|true=>rfl|false=>rfl
 simp only[so];rw[fT,ae]
theorem ON (l:au (Int×Int))(h:l.length<=10^9):yN l=some (lv l):=by
 rw[<-Oj];refine Bq zx l (by omega) (λi hi nx=>?_) (λnx=>?_);simp only[sT];rw[jy,af,aW hi,ab,ab,cx,ai (by omega) (by omega)];unfold zx;cases decide (l[i].1<0)with|true=>rfl|false=>rfl
 simp only[sT];rw[fT,ae]
theorem Dr {l:au (Int×Int)}(h:lv l=true):l.length<=16/\∀x∈l,0<=x.1/\0<=x.2/\x.2<=4096:=by grind[lv,zx,bl]
def dsc (n:Nat)(c:Int)(i:Nat)(x:Int×Int):CY:=(1,(if i+1=n then 1 else 0),x.2,x.1,0,c)
def tF (ps:au (Int×Int))(c:Int):Nat->au CY
 |0=>[]
 |i+1=>tF ps c i++[dsc ps.length c i (ps.getD i (0,0))]
theorem Bg (ps:au (Int×Int))(c:Int):∀i,(tF ps c i).length=i
 |0=>rfl
 |i+1=>by rw[tF,aq,Bg ps c i];rfl
theorem Gd (ps:au (Int×Int))(c:Int)(q:CY->Bool):∀i,(tF ps c i).all q=(List.range i).all (λj=>q (dsc ps.length c j (ps.getD j (0,0))))
 |0=>rfl
 |i+1=>by rw[tF,List.all_append,Gd ps c q i,List.range_succ,List.all_append];rfl
def mT (ps:au (Int×Int))(z c:Int):au CY:=
 bif ((ps.length:Int)==0)||(!lv ps|| !dy z 1 128) then [] else
 bif ([(2,0,0,0,z,c)]++tF ps c ps.length).all rn then [(2,0,0,0,z,c)]++tF ps c ps.length else []
theorem DU (ps:au (Int×Int))(z c:Int)(h:ps.length<=10^9:=by omega):∃b,iE ps z c=some (b,mT ps z c)/\(b=false->mT ps z c=[]):=by
 unfold iE mT;rw[NO ps h,da];cases ((ps.length:Int)==0);case true=>exact⟨false,rfl,λ_=>rfl⟩
 cases lv ps;exact⟨false,rfl,λ_=>rfl⟩;cases dy z 1 128;exact⟨false,rfl,λ_=>rfl⟩;refine⟨([(2,0,0,0,z,c)]++tF ps c ps.length).all rn,?_,λhb=>by rw[hb];rfl⟩;refine cq (λi=>(([(2,0,0,0,z,c)]++tF ps c i,(i:Int)))) ps.length (by omega) (λi nx hi=>?_) (λnx=>?_);have hl:=Bg ps c i;simp only[kA];rw[jy,af,aW hi,ab,ai (by omega) (by omega),ai (by omega) (by omega)];have e:[(2,0,0,0,z,c)]++tF ps c (i+1)=([(2,0,0,0,z,c)]++tF ps c i)++[dsc ps.length c i ps[i]]:=by rw[tF,eK hi,aZ]
 rw[e];unfold dsc;by_cases hc:i+1=ps.length;rw[show((i:Int)==(ps.length)-1)=true from by rw[bw];omega,aF hc];rw[aQ (by simp only[aq,bf];omega)];rfl;rw[show((i:Int)==(ps.length)-1)=false from by rw[cK];omega,aH hc];simp only[ae];rw[aQ (by simp only[aq,bf];omega)];rfl;simp only[kA];rw[fT,ae];have hl:=Bg ps c ps.length;generalize hq:[(2,0,0,0,z,c)]++tF ps c ps.length=q;have hn:q.length<=1000000001:=by rw[<-hq];simp only[aq,bf];omega
 rw[sc (fin:=some (true,q)) rn q (by omega) (λi hi nx=>?_) (λnx=>?_)];cases q.all rn<;>rfl;simp only[jO];rw[jy,af,aW hi,ab,UP,ab,ai (by omega) (by omega)];rfl;simp only[jO];rw[fT,ae]
theorem JD (ps:au (Int×Int))(z c:Int)(h:ps.length<=10^9):ko ps z c=some (mT ps z c):=by
 unfold ko mT;rw[ON ps h,cx];cases ((ps.length:Int)==0);case true=>rfl
 cases lv ps;rfl;cases dy z 1 128;rfl;have i0:idx [((2,0,0,0,z,c):CY)] 0=some (2,0,0,0,z,c):=rfl;simp only[aj,ae,ab,bF,i0,JC,List.all_append,bR,List.all_nil,gW];cases rn (2,0,0,0,z,c);rfl;rw[Gd];refine(J8 (fin:=some ([(2,0,0,0,z,c)]++tF ps c ps.length)) (hit:=some []) (λi=>(([(2,0,0,0,z,c)]++tF ps c i,(i:Int)))) (λj=>rn (dsc ps.length c j (ps.getD j (0,0)))) ps.length (by omega) (λi nx hi _=>?_) (λ_ nx=>?_)).trans ?_;have hl:=Bg ps c i;simp only[kD];rw[jy,af,aW hi,ab,ab,ai (by omega) (by omega),ai (by omega) (by omega)];have e:[(2,0,0,0,z,c)]++tF ps c (i+1)=([(2,0,0,0,z,c)]++tF ps c i)++[dsc ps.length c i ps[i]]:=by rw[tF,eK hi,aZ]
 rw[e,eK hi];unfold dsc;by_cases hc:i+1=ps.length;rw[show((i:Int)==(ps.length)-1)=true from by rw[bw];omega,aF hc];simp only[af,JC,ab];rw[aQ (by simp only[aq,bf];omega)];rfl;rw[show((i:Int)==(ps.length)-1)=false from by rw[cK];omega,aH hc];simp only[ae,JC,ab];rw[aQ (by simp only[aq,bf];omega)];rfl;simp only[kD];rw[fT,ae];cases (List.range ps.length).all (λj=>rn (dsc ps.length c j (ps.getD j (0,0))))<;>rfl
def FP (x y:CY):Bool:=(x.1==y.1)&&((x.2.1==y.2.1)&&((x.2.2.1==y.2.2.1)&&((x.2.2.2.1==y.2.2.2.1)&&((x.2.2.2.2.1==y.2.2.2.2.1)&&((x.2.2.2.2.2==y.2.2.2.2.2)&&true)))))
def Ee (a b:au CY):Bool:=((a.length:Int)==(b.length:Int))&&(List.range a.length).all λi=>FP (a.getD i EF) (b.getD i EF)
theorem ab8 (a b:au CY)(ha:a.length<=10^9):AY a b=some (Ee a b):=by
 unfold AY Ee;cases hl:((a.length:Int)==(b.length))with
 |false=>simp only[bne,hl,bS,af,gD]
 |true=>
  have hn:a.length=b.length:=by have:=bI hl;omega
  simp only[bne,hl,aj,ae,bB];rw[qc (λi=>FP (a.getD i EF) (b.getD i EF)) a.length (by omega) (λi nx hi=>?_) (λnx=>?_)];cases (List.range a.length).all (λi=>FP (a.getD i EF) (b.getD i EF))<;>rfl;have hi2:i<b.length:=by omega
  simp only[uS];rw[jy,af,aW hi,aW hi2,ab,ab,ai (by omega) (by omega),eK hi,eK hi2];rfl;simp only[uS];rw[fT,ae]
def gA (l:au CY):au (Int×Int):=(l.drop 1).map λx=>(x.2.2.2.1,x.2.2.1)
def jh (l:au CY):au (Int×Int)×Int×Int×Bool:=
 match l with
 |h::x::r=>bif Ee (mT (gA l) h.2.2.2.2.1 h.2.2.2.2.2) l then(gA l,h.2.2.2.2.1,h.2.2.2.2.2,true) else([],0,0,false)
 |_=>([],0,0,false)
theorem Qg (ps:au (Int×Int))(z c:Int):(mT ps z c).length<=ps.length+1:=by
 unfold mT;cases ((ps.length:Int)==0)||(!lv ps|| !dy z 1 128);case true=>simp
 cases ([(2,0,0,0,z,c)]++tF ps c ps.length).all rn with|false=>simp|true=>simp only[ae,af,aq,bf,Bg];omega
theorem Te (l:au CY)(hl:l.length<=10^9):pg l=some (jh l):=by
 unfold pg;match l,hl with
 |[],_=>
  obtain⟨g,hg⟩:∃g,fuel=g+1:=⟨fuel-1,by have:=cU;omega⟩
  rw[hg,aM];rfl
 |h::q,hl=>
  simp only[bZ]at hl;refine cq (λi=>(((q.take i).map (λx=>(x.2.2.2.1,x.2.2.1)),((i+1:Nat):Int)))) q.length (by omega) (λi nx hi=>?_) (λnx=>?_);have hi2:i+1<(h::q).length:=by simp;omega
  have e2:(h::q)[i+1]=q[i]:=rfl;simp only[lC];rw[jy,af,aW hi2,ab,ab,aQ (by simp only[cA,bq,bf];omega),ai (by omega) (by omega),e2,bg hi,List.map_append];rfl;have i0:idx (h::q) 0=some h:=rfl;simp only[lC];rw[ar (by simp only[bZ];omega),ae,cI];have hp:q.map (λx=>(x.2.2.2.1,x.2.2.1))=gA (h::q):=rfl;have BD:(gA (h::q)).length=q.length:=by rw[<-hp,cA]
  rw[hp];have hdl:=Qg (gA (h::q)) h.2.2.2.2.1 h.2.2.2.2.2;simp only[i0,ab,JD (gA (h::q)) _ _ (show(gA (h::q)).length<=10^9 by omega),ab8 _ (h::q) (show(mT (gA (h::q)) h.2.2.2.2.1 h.2.2.2.2.2).length<=10^9 by omega)];cases q with|nil=>rfl|cons x r=>simp only[ae,ab,jh];cases Ee (mT (gA (h::x::r)) h.2.2.2.2.1 h.2.2.2.2.2) (h::x::r)<;>rfl
theorem SC (l:au CY)(hl:l.length<=10^9):oP l=some (jh l):=by
 unfold oP;match l,hl with
 |[],_=>rfl
 |[h],_=>rfl
 |h::y::r,hl=>
  generalize hq:y::r=q;have hq1:1<=q.length:=by rw[<-hq];simp
  have hlen:q.length+1<=10^9:=by rw[<-hq];simpa using hl
  have i0:idx (h::q) 0=some h:=rfl;have s0:sub (h::q) 1 (((h::q).length))=some q:=tn 1 (by simp) rfl;rw[ar (by simp only[bZ];omega),ae,s0,ab];refine cq (λi=>(((q.take i).map (λx=>(x.2.2.2.1,x.2.2.1)),(i:Int)))) q.length (by omega) (λi nx hi=>?_) (λnx=>?_);simp only[lr];rw[jy,af,aW hi,ab,aQ (by simp only[cA,bq,bf];omega),ai (by omega) (by omega),bg hi,List.map_append];rfl;simp only[lr];rw[fT,ae,cI];have hp:q.map (λx=>(x.2.2.2.1,x.2.2.1))=gA (h::q):=rfl;have BD:(gA (h::q)).length=q.length:=by rw[<-hp,cA]
  rw[hp];have hdl:=Qg (gA (h::q)) h.2.2.2.2.1 h.2.2.2.2.2;obtain⟨b,hd,hb⟩:=DU (gA (h::q)) h.2.2.2.2.1 h.2.2.2.2.2;have hR:jh (h::q)=bif Ee (mT (gA (h::q)) h.2.2.2.2.1 h.2.2.2.2.2) (h::q) then(gA (h::q),h.2.2.2.2.1,h.2.2.2.2.2,true) else([],0,0,false):=by rw[<-hq];rfl
  rw[hR];simp only[i0,ab,hd];have hlc:(((h::q).length):Int)=(q.length)+1:=by simp only[bZ];omega
  generalize mT (gA (h::q)) h.2.2.2.2.1 h.2.2.2.2.2=w at hdl hb⊢
  have core:∀(K:ax (au (Int×Int)×Int×Int×Bool))(w':au CY),w'=w->(bif ((w'.length):Int) !=(((h::q).length)) then some (([]),(0),(0),false) else
   aM (gj (λxo=>some (gA (h::q),h.2.2.2.2.1,h.2.2.2.2.2,true)) (λzZ GU GV DE GW=>some (zZ,GU,GV,DE)) (h::q) (gA (h::q)) h.2.2.2.2.1 h.2.2.2.2.2 w' ((w'.length))) fuel 0)=some (bif Ee w (h::q) then(gA (h::q),h.2.2.2.2.1,h.2.2.2.2.2,true) else([],0,0,false)):=by
   intro K w' e
   subst e
   unfold Ee
   cases hl:((w'.length)==(((h::q).length):Int))with
   |false=>simp only[bne,hl,bS,af,gD,ae]
   |true=>
    simp only[bne,hl,aj,ae,bB]
    rw[qc (fin:=some (gA (h::q),h.2.2.2.2.1,h.2.2.2.2.2,true)) (λi=>FP (w'.getD i EF) ((h::q).getD i EF)) w'.length (by omega) (λi nx hi=>?_) (λnx=>?_)]
    ·cases (List.range w'.length).all (λi=>FP (w'.getD i EF) ((h::q).getD i EF))<;>rfl
    ·have hi2:i<(h::q).length:=by omega
     simp only[gj]
     rw[jy,af,aW hi,aW hi2,ab,ab,ai (by omega) (by omega),eK hi,eK hi2];rfl
    ·simp only[gj]
     rw[fT,ae]
  cases b with|true=>exact core none w rfl|false=>exact core none [] (hb rfl).symm
theorem LA {l:au CY}(h:(jh l).2.2.2=true):lv (jh l).1=true/\∀p∈(jh l).1,p.1<=4294967295:=by match l,h with|hd::x::r,h=>unfold jh at h⊢;simp only at h⊢;cases hs:Ee (mT (gA (hd::x::r)) hd.2.2.2.2.1 hd.2.2.2.2.2) (hd::x::r)with|false=>grind|true=>generalize hw:gA (hd::x::r)=ps at hs⊢;unfold Ee at hs;simp only[ah]at hs;have hn:=bI hs.1;unfold mT at hn;cases hc:((ps.length)==0)||(!lv ps|| !dy hd.2.2.2.2.1 1 128)with|true=>grind|false=>cases ha:([(2,0,0,0,hd.2.2.2.2.1,hd.2.2.2.2.2)]++tF ps hd.2.2.2.2.2 ps.length).all rn with|false=>grind|true=>simp only[cX,dL]at hc;refine⟨hc.2.1,λp hp=>?_⟩;rw[List.all_append,Gd,ah]at ha;obtain⟨i,hi,rfl⟩:=List.getElem_of_mem hp;simp_all[rn,dsc,bl]
theorem C1 (l:au ay)(m:bD)(d a n:Int):(rh l m d a n).1.length<=33554432:=by grind[Gz,rM,rh]
def DP (l:au ay)(m:bD)(d:Int):au (Int×Int)->Bytes->Bytes×Bool
 |[],acc=>(acc,true)
 |p::ps,acc=>bif (rh l m d p.1 p.2).2 then DP l m d ps (acc++(rh l m d p.1 p.2).1) else([],false)
def ye (l:au ay)(m:bD)(d:Int)(ps:au (Int×Int)):Bytes×Bool:=bif lv ps then DP l m d ps [] else([],false)
def Ce (l:au ay)(m:bD)(d:Int)(p:Int×Int)(s:Bytes):Except (ax (Bytes×Bool)) Bytes:=
 if(rh l m d p.1 p.2).2=true then .ok (s++(rh l m d p.1 p.2).1) else .error (some ([],false))
theorem HK (l:au ay)(m:bD)(d:Int):∀(ps:au (Int×Int))(s:Bytes),VK (Ce l m d) (λs=>some (s,true)) ps s=some (DP l m d ps s)
 |[],s=>rfl
 |p::ps,s=>by rw[VK,DP];unfold Ce;cases hd:(rh l m d p.1 p.2).2 with|false=>rfl|true=>exact HK l m d ps _
theorem Lc (l:au ay)(m:bD)(d:Int):∀(ps:au (Int×Int))(s:Bytes),(DP l m d ps s).1.length<=s.length+33554432*ps.length
 |[],s=>by simp[DP]
 |p::ps,s=>by have h1:=C1 l m d p.1 p.2;rw[DP];cases (rh l m d p.1 p.2).2 with|false=>simp|true=>have:=Lc l m d ps (s++(rh l m d p.1 p.2).1);grind
theorem Ld (l:au ay)(m:bD)(d:Int)(ps:au (Int×Int)):(ye l m d ps).1.length<=10^9:=by unfold ye;cases hp:lv ps with|false=>simp|true=>have:=(Dr hp).1;have:=Lc l m d ps [];grind
theorem Xz (l:au ay)(m:bD)(d:Int)(ps:au (Int×Int))(hl:l.length<=10^9)(hm:m.length<=10^9)(hn:ps.length<=10^9)(ha:∀p∈ps,p.1<=9223372036854775807):qC l m d ps=some (ye l m d ps):=by
 unfold qC ye;rw[NO ps hn,ab];cases hp:lv ps;rfl;have Us:=(Dr hp).1;simp only[aj,ae,af];rw[<-HK];refine Dv ps (λs i=>(s,(i:Int))) (λi s=>s.length<=33554432*i) (Ce l m d) _ (by omega) (λi hi s nx hI=>?_) (λi hi s s' hI he=>?_) (λs nx hI=>?_) [] (by simp);have h1:=C1 l m d ps[i].1 ps[i].2;simp only[lV];rw[jy,af,aW hi,ab,Ch l m d _ _ hl hm (ha _ (aY hi)),ab];unfold Ce;cases hd:(rh l m d ps[i].1 ps[i].2).2 with|false=>rfl|true=>rw[aF rfl,aQ (by omega),ai (by omega) (by omega)];rfl
 have h1:=C1 l m d ps[i].1 ps[i].2;unfold Ce at he;split at he;injection he with he;rw[<-he,aq];omega;cases he;simp only[lV];rw[fT,ae]
theorem Yw (l:au ay)(m:bD)(d:Int)(ps:au (Int×Int))(hl:l.length<=10^9)(hm:m.length<=10^9)(hn:ps.length<=10^9)(ha:∀p∈ps,p.1<=9223372036854775807):qP l m d ps=some (ye l m d ps):=by
 unfold qP ye;rw[ON ps hn,ab];cases hp:lv ps;rfl;have Us:=(Dr hp).1;simp only[aj,ae,af];rw[<-HK];refine Dv ps (λs i=>(s,(i:Int))) (λi s=>s.length<=33554432*i) (Ce l m d) _ (by omega) (λi hi s nx hI=>?_) (λi hi s s' hI he=>?_) (λs nx hI=>?_) [] (by simp);have h1:=C1 l m d ps[i].1 ps[i].2;simp only[mr];rw[jy,af,aW hi,ab,ab,Cs l m d _ _ hl hm (ha _ (aY hi)),ab];unfold Ce;cases hd:(rh l m d ps[i].1 ps[i].2).2 with|false=>rfl|true=>rw[aF rfl,aQ (by omega),ai (by omega) (by omega)];rfl
 have h1:=C1 l m d ps[i].1 ps[i].2;unfold Ce at he;split at he;injection he with he;rw[<-he,aq];omega;cases he;simp only[mr];rw[fT,ae]
def tU (t:Bytes):Int:=cD t ((cf t+2:Nat):Int)
def Mi (t:Bytes):Int:=RZ ((t.take (cf t+20)).drop (cf t))
def PR (t:Bytes):Bytes:=(t.take (cf t+(tU t).toNat)).drop (cf t+20)
def afp (t:Bytes):Bytes:=xL (fb t ((cf t+12:Nat):Int)) (fb t ((cf t+16:Nat):Int)) (iK t:Int) (tU t-20)
def JS (t:Bytes):Int:=bif ((iK t:Int)==17)&&(RZ (afp t++PR t)==0) then 65535 else RZ (afp t++PR t)
def Ua (t s:Bytes):Bytes×Bool:=bif ((vA s).2==0)&&((ic (vA s).1).1==t) then eD (vA s).1 else([],false)
def C5 (t:Bytes):Bytes×Bool:=Ua t (qM t (cb (Mi t)) (cb (JS t)))
theorem Ar {t:Bytes}(h:¬(TOk t/\cD t (xm t:Int)=0/\cD t (rY t:Int)=0)):C5 t=([],false):=by have ha:EA (qM t (cb (Mi t)) (cb (JS t))) t:=Hi t (bC _) (bC _);grind[C5,Ua,vA,ahP,acq]
theorem Tr (t:Bytes)(o n:Nat):(t.drop o).take n=(t.take (o+n)).drop o:=by grind[List.drop_take]
theorem LB {t:Bytes}(h1:cf t+20<=t.length)(h2:20<=tU t)(h3:tU t<=(t.length:Int))(h4:t.length<=10^9):AF (fb t ((cf t+12:Nat):Int)) (fb t ((cf t+16:Nat):Int)) (iK t:Int) (tU t-20)=true:=by have a1:=C7 (s:=t) (a:=((cf t+12:Nat):Int));have a2:=C7 (s:=t) (a:=((cf t+16:Nat):Int));have a3:=eV t (cf t+9);have a4:=C6 (s:=t) (a:=((cf t+2:Nat):Int));grind[AF,bl,iK,tU]
theorem ab5 (t:Bytes)(hl:t.length<=10^9):yG t=some (C5 t):=by
 have hp:=zy t
 have hk:=GK (iK t)
 have Uy:iK t<256:=eV t (cf t+9)
 unfold yG
 rw[OO t hl,ab]
 by_cases h1:t.length<cf t+46
 ·rw[aw h1,Ar λh=>by have:=h.1.l1;omega];rfl
 rw[ar h1]
 simp only[ae]
 rw[ar (show¬(xm t:Int)<0 by omega)]
 simp only[ae,sM t _ hl,ab]
 cases h2:cD t (xm t:Int) !=0 with
 |true=>simp_all[Ar]
 |false=>
 simp only[ae,ab]
 cases h3:cD t (rY t:Int) !=0 with
 |true=>grind[Ar]
 |false=>
 have w1:ak ((xm t:Int)-10)=(cf t:Int):=by grind[ai]
 have w2:ak ((cf t:Int)+2)=((cf t+2:Nat):Int):=by grind[ai]
 have w9:ak ((cf t:Int)+9)=((cf t+9:Nat):Int):=by grind[ai]
 have w12:ak ((cf t:Int)+12)=((cf t+12:Nat):Int):=by grind[ai]
 have w16:ak ((cf t:Int)+16)=((cf t+16:Nat):Int):=by grind[ai]
 have w20:ak ((cf t:Int)+20)=((cf t+20:Nat):Int):=by grind[ai]
 have wb:ak ((rY t:Int)+2)=(rY t:Int)+2:=by grind[ai]
 have wc:ak ((rY t:Int)+2-(cf t:Int))=(rY t:Int)+2-(cf t:Int):=by grind[ai]
 have wl:ak ((t.length:Int)-(cf t:Int))=(t.length:Int)-(cf t:Int):=by grind[ai]
 obtain⟨x,hx,ex⟩:=ki (s:=t) (i:=cf t+9)
 have a4:=C6 (s:=t) (a:=((cf t+2:Nat):Int))
 simp only[ae,ab,w1,w2,w9,hx,wb,wc,wl]
 rw[show cD t ((cf t+2:Nat):Int)=tU t from rfl]at a4⊢
 by_cases h4:tU t<(rY t:Int)+2-(cf t:Int)
 ·rw[aw h4,Ar λh=>by have:=h.1.n1;grind[tU]];rfl
 rw[ar h4]
 simp only[ae,ab]
 by_cases h5:tU t>(t.length:Int)-(cf t:Int)
 ·rw[aw h5,Ar λh=>by have:=h.1.n2;grind[tU]];rfl
 rw[ar h5]
 obtain⟨n,hn⟩:=aG a4.1
 have wn:ak ((cf t:Int)+tU t)=((cf t+n:Nat):Int):=by grind[ai]
 have wm:ak (tU t-20)=tU t-20:=by grind[ai]
 have s1:sub t (cf t:Int) ((cf t+20:Nat):Int)=some ((t.take (cf t+20)).drop (cf t)):=by grind[JR,az]
 have s2:sub t ((cf t+20:Nat):Int) ((cf t+n:Nat):Int)=some (PR t):=by grind[JR,az,PR]
 have hps:=Gx (fb t ((cf t+12:Nat):Int)) (fb t ((cf t+16:Nat):Int)) (iK t:Int) (tU t-20)
 have aaH:(PR t).length<=65535:=by unfold PR;grind
 have hk2:ak ((UInt8.toNat x:Int))=(iK t:Int):=by grind[fJ,iK]
 simp only[ae,ab,w12,w16,w20,wn,wm,s1,s2,Bm t _ hl,hk2,El,LB (show cf t+20<=t.length by omega) (show 20<=tU t by omega) (show tU t<=(t.length:Int) by omega) hl,af]
 rw[show xL (fb t ((cf t+12:Nat):Int)) (fb t ((cf t+16:Nat):Int)) (iK t:Int) (tU t-20)=afp t from rfl]at hps⊢
 rw[JA _ (by grind),ab,aQ (by omega),JA _ (by rw[aq];omega),ab]
 rw[show RZ ((t.take (cf t+20)).drop (cf t))=Mi t from rfl]
 have ri:∀y:Int,JS t=y->(aa (bU (Mi t)) λE2=>aa (ee t (xm t:Int) E2) λKL=>aa (bU y) λr18=>aa (ee KL (rY t:Int) r18) λVE=>aa (iC VE) λEb=>
  bif Eb.2 !=0 then some (([]:Bytes),false) else aa (mN Eb.1) λOt=>bif !(Ot.1==t) then some (([]:Bytes),false) else aa (gO Eb.1) λr22=>some r22)=some (C5 t):=by
  intro y hy
  subst hy
  rw[gU,ab,Cw t _ _ hl,ab,gU,ab,Cw _ _ _ (by rw[wI];exact hl),ab]
  have hlen:=Cr t (cb (Mi t)) (cb (JS t))
  unfold C5
  rw[show wH (wH t (xm t:Int) (cb (Mi t))) (rY t:Int) (cb (JS t))=qM t (cb (Mi t)) (cb (JS t)) from rfl]
  grind[GG,ab,RA,GF,Ua]
 grind[JS,ab]
theorem aaQ (t:Bytes)(hl:t.length<=10^9):yi t=some (C5 t):=by
 have hp:=zy t
 have hk:=GK (iK t)
 have Uy:iK t<256:=eV t (cf t+9)
 have Fo:=D9 t
 unfold yi
 rw[IX t hl,ab,xF _ _ (by omega),ab]
 cases h1:(fI t).2 with
 |false=>rw[Ar λh=>by have:=h.1.eth;grind];rfl
 |true=>
 have he:=KI h1
 rw[he.1]
 simp only[aj,ae,ab]
 have en:cD (t.drop (cf t)) 2=tU t:=Nq (a:=2)
 rw[en]
 by_cases h4:tU t<20
 ·rw[aw h4,Ar λh=>by have:=h.1.n1;grind[tU]];rfl
 rw[ar h4]
 simp only[ae,ab]
 by_cases h5:tU t>((t.drop (cf t)).length:Int)
 ·rw[aw h5,Ar λh=>by have:=h.1.n2;grind[tU]];rfl
 rw[ar h5]
 rw[bh]at h5
 have hdl:(t.drop (cf t)).length=t.length-cf t:=bh ..
 obtain⟨n,hn⟩:=aG (show 0<=tU t by omega)
 obtain⟨x,hx,ex⟩:=ki (s:=t.drop (cf t)) (i:=9)
 have hx9:idx (t.drop (cf t)) 9=some x:=hx
 have s1:sub (t.drop (cf t)) 0 20=some ((t.take (cf t+20)).drop (cf t)):=by grind[CB]
 have s2:sub (t.drop (cf t)) 20 (tU t)=some (PR t):=by rw[JR (l:=t.drop (cf t)) 20 (a:=20) rfl (by omega) (by omega),hn,az,Tr,ec];grind[PR]
 have hps:=Gx (fb t ((cf t+12:Nat):Int)) (fb t ((cf t+16:Nat):Int)) (iK t:Int) (tU t-20)
 have aaH:((PR t).length:Int)=tU t-20:=by grind[PR]
 have hk2:ak ((UInt8.toNat x:Int))=(iK t:Int):=by grind[fJ,bK,iK]
 have g12:fb (t.drop (cf t)) 12=fb t ((cf t+12:Nat):Int):=Nr (a:=12)
 have g16:fb (t.drop (cf t)) 16=fb t ((cf t+16:Nat):Int):=Nr (a:=16)
 have hw:ak ((Mf (iK t):Int)+2)=(Mf (iK t):Int)+2:=by grind[ai]
 simp only[ae,ab,I1 t hl,s1,s2,hx9,Bi _ _ (show(t.drop (cf t)).length<=10^9 by omega),hk2,NP,aaH,g12,g16,LB (show cf t+20<=t.length by omega) (show 20<=tU t by omega) (show tU t<=(t.length:Int) by omega) hl,af,aj,Kr _ Uy,hw]
 rw[show xL (fb t ((cf t+12:Nat):Int)) (fb t ((cf t+16:Nat):Int)) (iK t:Int) (tU t-20)=afp t from rfl]at hps⊢
 by_cases h6:(Mf (iK t):Int)+2>tU t-20
 ·rw[aw h6,Ar λh=>by have:=h.1.n1;grind[tU]];rfl
 rw[ar h6]
 simp only[ae]
 have hck:((t.take (cf t+20)).drop (cf t)).length<=10^9:=by grind
 rw[aQ (by omega),Mu _ (by rw[aq];omega),ab]
 have ri:∀y:Int,JS t=y->(aa (jq ((t.take (cf t+20)).drop (cf t))) λr25=>aa (ch r25) λr26=>aa (fz t (xm t:Int) r26) λVF=>aa (ch y) λRe=>aa (fz VF (rY t:Int) Re) λr29=>aa (ix r29) λZK=>aa (mD ZK.1) λYi=>
  aa (bif ZK.2 !=0 then some true else bif !Yi.2 then some true else some (!(Yi.1==t))) λq32=>bif q32 then some (([]:Bytes),false) else aa (gM ZK.1) λTE=>some TE)=some (C5 t):=by
  intro y hy
  subst hy
  have b1:=bC (Mi t)
  have b2:=bC (JS t)
  rw[Mu _ hck,ab,show RZ ((t.take (cf t+20)).drop (cf t))=Mi t from rfl]
  rw[kT,ab,DX t _ _ hl,ab,kT,ab,DX _ _ _ (by rw[wI];exact hl),ab]
  have hlen:=Cr t (cb (Mi t)) (cb (JS t))
  unfold C5
  rw[show wH (wH t (xm t:Int) (cb (Mi t))) (rY t:Int) (cb (JS t))=qM t (cb (Mi t)) (cb (JS t)) from rfl]
  grind[Gu,ab,QT,Gt,Ua,ic]
 cases h8:(iK t:Int)==17 with
 |false=>simp_all[JS]
 |true=>
  grind[ab,JS]
theorem Qo (t:Bytes):(C5 t).1.length<=378:=by grind[C5,Ua,xE]
theorem Hz (l:au ay)(m:bD)(d:Int):∀(n:Nat)(acc:au CY)(r:kg),(uX l m d n acc r).1.length<=acc.length+n
 |0,acc,r=>aU _
 |n+1,acc,r=>by
  rw[uX];cases !(bu l m d r).2.2|| !(dB (bu l m d r).1).2;case true=>exact cd _
  cases Pp (dB (bu l m d r).1).1 with|true=>grind|false=>have:=Hz l m d n (acc++[(dB (bu l m d r).1).1]) (bu l m d r).2.1;grind
theorem Yl (h:du r=true):du (r.1,r.2.1,r.2.2.2,r.2.2.2)=true/\cj (r.1,r.2.1,r.2.2.2,r.2.2.2)=0:=by grind[du,cj,Int.zero_emod,bl]
theorem K7 (l:au ay)(m:bD)(d:Int):∀(n:Nat)(acc:au CY)(r:kg),du r=true->(cj r).toNat=n->
 du (uX l m d n acc r).2.1=true/\cj (uX l m d n acc r).2.1<=cj r/\(0<cj r->cj (uX l m d n acc r).2.1<cj r)
 |0,acc,r,hb,hu=>⟨hb,il _,λh=>by omega⟩
 |n+1,acc,r,hb,hu=>by have hk:=BW (l:=l) (m:=m) (d:=d) (r:=r);have he:=Yl hb;rw[uX];cases hc: !(bu l m d r).2.2|| !(dB (bu l m d r).1).2 with|true=>grind|false=>simp only[cX,dL]at hc;have hk:=hk hc.1;cases Pp (dB (bu l m d r).1).1 with|true=>grind|false=>have:=K7 l m d n (acc++[(dB (bu l m d r).1).1]) (bu l m d r).2.1 hk.1 (by omega);grind
def gT (l:au ay)(m:bD)(d:Int)(r:kg):kg×bD×Int:=
 bif !du r||(cj r==0) then(r,[],0) else
 bif !(dW l m d r).2.2|| !(jh (dW l m d r).1).2.2.2 then((dW l m d r).2.1,[],2) else
 bif !(ye l m d (jh (dW l m d r).1).1).2||(!(C5 (ye l m d (jh (dW l m d r).1).1).1).2||((vA (C5 (ye l m d (jh (dW l m d r).1).1).1).1).2 !=0)) then((dW l m d r).2.1,[],2) else
 ((dW l m d r).2.1,LJ (vA (C5 (ye l m d (jh (dW l m d r).1).1).1).1).1 (jh (dW l m d r).1).2.1,1)
theorem XC (l:au ay)(m:bD)(d:Int)(r:kg)(hl:l.length<=10^9)(hm:m.length<=10^9):qJ l m d r=some (gT l m d r):=by
 unfold qJ gT;simp only[zg,BE,ab,PE l m d r hl hm];cases hb:du r;rfl;cases cj r==0;case true=>rfl
 have hu:=mh hb;have hcl:(dW l m d r).1.length<=16:=by unfold dW;cases !du r||(cj r==0)with|true=>exact cd _|false=>have:=Hz l m d (cj r).toNat [] r;grind
 simp only[aj,ae,ab,bF];generalize dW l m d r=c at hcl⊢;cases c.2.2;rfl;simp only[aj,ae,ab,cJ,SC c.1 (show c.1.length<=10^9 by omega)];have hpo:=LA (l:=c.1);grind[Dr,Ld,ab,Xz,Qo,aaQ,Gu,U0]
theorem YB (l:au ay)(m:bD)(d:Int)(r:kg)(hl:l.length<=10^9)(hm:m.length<=10^9):qW l m d r=some (gT l m d r):=by
 unfold qW gT;simp only[zB,BS,ab,PY l m d r hl hm];cases hb:du r;rfl;cases cj r==0;case true=>rfl
 have hu:=mh hb;have hcl:(dW l m d r).1.length<=16:=by unfold dW;cases !du r||(cj r==0)with|true=>exact cd _|false=>have:=Hz l m d (cj r).toNat [] r;grind
 simp only[aj,ae,ab,bF];generalize dW l m d r=c at hcl⊢;simp only[Te c.1 (show c.1.length<=10^9 by omega),ab];cases c.2.2;rfl;simp only[aj,ae,ab,cJ];have hpo:=LA (l:=c.1);generalize jh c.1=p at hpo⊢;cases hp:p.2.2.2;rfl;have hpo:=hpo hp;have Us:=(Dr hpo.1).1;have hg:=Ld l m d p.1;simp only[aj,ae,ab,cJ,Yw l m d p.1 hl hm (show p.1.length<=10^9 by omega) (λq hq=>Int.le_trans (hpo.2 q hq) (by omega))];grind[Qo,ab5,ab,GG,V5]
theorem KD (l:au ay)(m:bD)(d:Int)(r:kg): ((gT l m d r).2.2=0->(gT l m d r).1=r)/\((gT l m d r).2.2≠0->0<cj r/\du r=true/\du (gT l m d r).1=true/\cj (gT l m d r).1<cj r)/\(gT l m d r).2.1.length<=320/\(∀x∈(gT l m d r).2.1,x.length<=382)/\((gT l m d r).2.2=0\/(gT l m d r).2.2=1\/(gT l m d r).2.2=2):=by
 unfold gT;cases hc: !du r||(cj r==0)with
 |true=>grind
 |false=>
  simp only[cX,dL,cK]at hc;have hu:=mh hc.1;have hch:du (dW l m d r).2.1=true/\cj (dW l m d r).2.1<cj r:=by have:=K7 l m d (cj r).toNat [] r hc.1 rfl;grind[dW]
  grind[GC]
def ow (l:au ay)(m:bD)(d:Int):Nat->bD->Nat->Nat->kg->kg×bD×Int×Int
 |0,fr,dn,bd,r=>(r,fr,(dn:Int),(bd:Int))
 |n+1,fr,dn,bd,r=>
  bif (gT l m d r).2.2==0 then(r,fr,(dn:Int),(bd:Int)) else
  bif (gT l m d r).2.2==1 then ow l m d n (fr++(gT l m d r).2.1) (dn+1) bd (gT l m d r).1 else
  ow l m d n (fr++(gT l m d r).2.1) dn (bd+1) (gT l m d r).1
def kG (l:au ay)(m:bD)(d:Int)(r:kg):kg×bD×Int×Int:=ow l m d 17 [] 0 0 r
theorem HS (l:au ay)(m:bD)(d:Int)(hl:l.length<=10^9)(hm:m.length<=10^9):∀(n:Nat)(fr:bD)(dn bd:Nat)(r:kg)(f:Nat),n<f->(du r=true->cj r<n)->0<n->fr.length+320*n<=10000->dn+bd+n<=1000->
 aM (ng (λy2 y3 y4 _ _ _ _ y9=>some (y9,y2,y3,y4)) l d ([]:bD) 0 0 m (0,0,0,0)) f (fr,(dn:Int),(bd:Int),r)=some (ow l m d n fr dn bd r)
 |0,fr,dn,bd,r,f,_,_,h0,_,_=>by omega
 |n+1,fr,dn,bd,r,0,hf,_,_,_,_=>by omega
 |n+1,fr,dn,bd,r,f+1,hf,hr,_,jz,hc=>by have ok:=KD l m d r;rw[aM,ow];simp only[ng,XC l m d r hl hm,ab];generalize gT l m d r=x at ok⊢;cases h0:x.2.2==0 with|true=>grind|false=>have hk:=ok.2.1 (by simpa using h0);have hu:=hr hk.2.1;have hu2:=(mh hk.2.2.1).1;simp only[ae];cases x.2.2==1 with|true=>simp only[af];rw[aQ (by omega),ai (by omega) (by omega)];exact HS l m d hl hm n _ (dn+1) bd _ f (by omega) (λ_=>by omega) (by omega) (by rw[aq];omega) (by omega)|false=>simp only[ae];rw[aQ (by omega),ai (by omega) (by omega)];exact HS l m d hl hm n _ dn (bd+1) _ f (by omega) (λ_=>by omega) (by omega) (by rw[aq];omega) (by omega)
theorem HZ (l:au ay)(m:bD)(d:Int)(hl:l.length<=10^9)(hm:m.length<=10^9):∀(n:Nat)(fr:bD)(dn bd:Nat)(r:kg)(f:Nat),n<f->(du r=true->cj r<n)->0<n->fr.length+320*n<=10000->dn+bd+n<=1000->
 aM (np (λy2 y3 y4 _ _ _ _ y9=>some (y9,y2,y3,y4)) l d ([]:bD) 0 0 m (0,0,0,0)) f (fr,(dn:Int),(bd:Int),r)=some (ow l m d n fr dn bd r)
 |0,fr,dn,bd,r,f,_,_,h0,_,_=>by omega
 |n+1,fr,dn,bd,r,0,hf,_,_,_,_=>by omega
 |n+1,fr,dn,bd,r,f+1,hf,hr,_,jz,hc=>by have ok:=KD l m d r;rw[aM,ow];simp only[np,YB l m d r hl hm,ab];generalize gT l m d r=x at ok⊢;cases h0:x.2.2==0 with|true=>rfl|false=>have hk:=ok.2.1 (by simpa using h0);have hu:=hr hk.2.1;have hu2:=(mh hk.2.2.1).1;simp only[ae];rw[aQ (by omega)];cases x.2.2==1 with|true=>simp only[af];rw[ai (by omega) (by omega)];exact HZ l m d hl hm n _ (dn+1) bd _ f (by omega) (λ_=>by omega) (by omega) (by rw[aq];omega) (by omega)|false=>simp only[ae];rw[ai (by omega) (by omega)];exact HZ l m d hl hm n _ dn (bd+1) _ f (by omega) (λ_=>by omega) (by omega) (by rw[aq];omega) (by omega)
theorem aa4 (l:au ay)(m:bD)(d:Int)(r:kg)(hl:l.length<=10^9)(hm:m.length<=10^9):sD l m d r=some (kG l m d r):=by have xq:=cU;unfold sD;exact HS l m d hl hm 17 [] 0 0 r fuel (by omega) (λh=>by have:=(mh h).2;omega) (by omega) (by simp) (by omega)
theorem aci (l:au ay)(m:bD)(d:Int)(r:kg)(hl:l.length<=10^9)(hm:m.length<=10^9):tc l m d r=some (kG l m d r):=by have xq:=cU;unfold tc;exact HZ l m d hl hm 17 [] 0 0 r fuel (by omega) (λh=>by have:=(mh h).2;omega) (by omega) (by simp) (by omega)
theorem DA (l:au ay)(m:bD)(d:Int):∀(n:Nat)(fr:bD)(dn bd:Nat)(r:kg),(∀x∈fr,x.length<=382)->
 (ow l m d n fr dn bd r).2.1.length<=fr.length+320*n/\(∀x∈(ow l m d n fr dn bd r).2.1,x.length<=382)/\0<=(ow l m d n fr dn bd r).2.2.1/\(ow l m d n fr dn bd r).2.2.1<=(dn+n:Nat)/\0<=(ow l m d n fr dn bd r).2.2.2/\(ow l m d n fr dn bd r).2.2.2<=(bd+n:Nat)
 |0,fr,dn,bd,r,h=>⟨aU _,h,by show(0:Int)<=(dn:Int);omega,by show(dn:Int)<=_;omega,by show(0:Int)<=(bd:Int);omega,by show(bd:Int)<=_;omega⟩
 |n+1,fr,dn,bd,r,h=>by
  have ok:=KD l m d r;rw[ow];generalize gT l m d r=x at ok⊢;have h2:∀y∈fr++x.2.1,y.length<=382:=λy hy=>by grind
  cases x.2.2==0 with|true=>grind|false=>cases x.2.2==1 with|true=>have i:=DA l m d n (fr++x.2.1) (dn+1) bd x.1 h2;grind|false=>have i:=DA l m d n (fr++x.2.1) dn (bd+1) x.1 h2;grind
def Iv (v:Vector):Bool:=bif decide (v.2.2.1>=1) then(bif decide (v.2.2.1>=v.1) then true else decide (v.2.2.2.1>=v.2.1)) else false
theorem afx (v:Vector):Di v=some (Iv v):=by unfold Di Iv;cases decide (v.2.2.1>=1);all_goals simp_all
theorem ZU (v:Vector):rV v=some (Iv v):=by unfold rV Iv;cases decide (v.2.2.1>=1);all_goals simp_all
def CF (v:Vector):Vector:=bif Iv v&& !v.2.2.2.2.1 then(v.1,v.2.1,v.2.2.1,v.2.2.2.1,v.2.2.2.2.1,true) else v
theorem Kn (v:Vector):oV v=some (CF v):=by grind[oV,CF,afx,ab]
theorem KR (v:Vector):mO v=some (CF v):=by grind[mO,CF,ZU,ab]
def upM (n:Int):Int:=if 1000000<ak (n+1) then 1000000 else ak (n+1)
theorem Z4 (n:Int):(if ak (n+1)<1000000 then ak (n+1) else 1000000)=upM n:=by grind[upM]
def evV (v:Vector):Vector:=bif ft v then CF (v.1,v.2.1,upM v.2.2.1,v.2.2.2) else v
theorem aaL (v:Vector):yf v=some (evV v):=by unfold yf evV;rw[BF,ab,Kn,ab];cases ft v<;>rfl
theorem ab1 (v:Vector):yD v=some (evV v):=by grind[yD,evV,rN,ab,Z4,KR]
def O4 (v:Vector):Vector:=bif ft v then(bif decide (v.2.2.1>0) then CF (v.1,v.2.1,v.2.2.1,upM v.2.2.2.1,v.2.2.2.2) else CF v) else v
theorem aa3 (v:Vector):uE v=some (O4 v):=by unfold uE O4;simp only[BF,ab,Kn];cases ft v;rfl;cases decide (v.2.2.1>0)<;>rfl
theorem ach (v:Vector):uN v=some (O4 v):=by grind[uN,O4,rN,ab,Z4,KR]
def BX (v:Vector):Vector×Bool:=bif ft v&&v.2.2.2.2.2 then((v.1,v.2.1,0,0,true,false),true) else(v,false)
theorem aa2 (v:Vector):oU v=some (BX v):=by grind[oU,BX,BF,ab]
theorem acg (v:Vector):pt v=some (BX v):=by grind[pt,BX,rN,ab]
def Ev (v:Vector):Vector:=bif ft v then CF (v.1,v.2.1,v.2.2.1,v.2.2.2.1,false,v.2.2.2.2.2) else v
theorem NS (v:Vector):zj v=some (Ev v):=by grind[zj,Ev,BF,ab,Kn]
theorem OR (v:Vector):zC v=some (Ev v):=by grind[zC,Ev,rN,ab,KR]
structure kR (k:Nat) (a b:Host):Prop where
 mem:b.1.length=a.1.length
 maps:b.2.1=a.2.1
 tx:b.2.2.1=a.2.2.1
 rx:b.2.2.2.1.length=a.2.2.2.1.length
 rxs:∀j,k<=j->b.2.2.2.1[j]?=a.2.2.2.1[j]?
 pl:b.2.2.2.2.1.length=a.2.2.2.2.1.length
 vec:b.2.2.2.2.2.1.length=a.2.2.2.2.2.1.length
 P7:∀j,k<=j->b.2.2.2.2.2.1[j]?=a.2.2.2.2.2.1[j]?
 Vr:b.2.2.2.2.2.2.1.length=a.2.2.2.2.2.2.1.length
 IC:b.2.2.2.2.2.2.2.1=a.2.2.2.2.2.2.2.1
 RE:b.2.2.2.2.2.2.2.2.1=a.2.2.2.2.2.2.2.2.1
theorem kR.refl (k:Nat)(a:Host):kR k a a:=⟨rfl,rfl,rfl,rfl,λ_ _=>rfl,rfl,rfl,λ_ _=>rfl,rfl,rfl,rfl⟩
theorem kR.trans {a b c:Host}(h:kR k a b)(g:kR k b c):kR k a c:=⟨g.mem.trans h.mem,g.maps.trans h.maps,g.tx.trans h.tx,g.rx.trans h.rx,λj hj=>(g.rxs j hj).trans (h.rxs j hj),g.pl.trans h.pl,g.vec.trans h.vec,λj hj=>(g.P7 j hj).trans (h.P7 j hj),g.Vr.trans h.Vr,g.IC.trans h.IC,g.RE.trans h.RE⟩
theorem kR.up {m:Nat}{a b:Host}(h:kR k a b)(hk:k<=m):kR m a b:=⟨h.mem,h.maps,h.tx,h.rx,λj hj=>h.rxs j (by omega),h.pl,h.vec,λj hj=>h.P7 j (by omega),h.Vr,h.IC,h.RE⟩
def gb (g:Nat->Host->Host):Nat->Host->Host
 |0,h=>h
 |k+1,h=>g k (gb g k h)
theorem ov (hg:∀k h,kR (k+1) h (g k h))(h:Host):∀k,kR k h (gb g k h)
 |0=>kR.refl 0 h
 |k+1=>((ov hg h k).up (by omega)).trans (hg k _)
theorem BV {d n:Nat}(hn:1000<=n)(hg:∀k h m,1000<=m->cn m dF h->cn (m+d) dF (g k h))(z:cn n dF h):∀k,cn (n+d*k) dF (gb g k h)
 |0=>z
 |k+1=>(hg k _ _ (by omega) (BV hn hg z k)).mono (by rw[Nat.mul_add];omega)
def qZ (i:Nat)(h:Host):Host:=
 match h.2.2.2.2.2.1[i]? with
 |some v=>(h.1,h.2.1,h.2.2.1,h.2.2.2.1,h.2.2.2.2.1,h.2.2.2.2.2.1.set i (O4 v),h.2.2.2.2.2.2)
 |none=>h
theorem BZ (i:Nat)(h:Host):kR (i+1) h (qZ i h):=by unfold qZ;cases h.2.2.2.2.2.1[i]? with|none=>exact kR.refl _ _|some v=>exact⟨rfl,rfl,rfl,rfl,λ_ _=>rfl,rfl,aB ..,λj hj=>aR (by omega),rfl,rfl,rfl⟩
theorem MD {n:Nat}{l:au Vector}{i:Nat}{v:Vector}(z:cn n (.sl F9) l):cn n (.sl F9) (l.set i v):=pJ z ⟨cv,cv,cv,cv,cv,cv⟩
theorem acv (i:Nat)(h:Host)(n:Nat)(hn:1000<=n)(z:cn n dF h):cn (n+0) dF (qZ i h):=by unfold qZ;cases h.2.2.2.2.2.1[i]? with|none=>exact z|some v=>exact⟨z.1,z.2.1,z.2.2.1,z.2.2.2.1,z.2.2.2.2.1,MD z.2.2.2.2.2.1,z.2.2.2.2.2.2⟩
def Am (h:Host):Host:=bif dw h then gb qZ h.2.2.2.2.2.1.length h else h
theorem aeU {n:Nat}(hn:1000<=n)(z:cn n dF h):cn n dF (Am h)/\(Am h).2.2.1=h.2.2.1:=by unfold Am;cases dw h with|false=>exact⟨z,rfl⟩|true=>exact⟨(BV hn acv z _).mono,(ov BZ h _).tx⟩
theorem U3 (h:Host)(k:DG h)(z:cn 1000000000 dF h):tM h=some (Am h):=by
 have xq:=cU;unfold tM Am;rw[iu h z,ab,nz h k,ab];cases hb:dw h;rfl;have hv:h.2.2.2.2.2.1.length<=10^9:=z.2.2.2.2.2.1.1;simp only[aj,ae,af];refine cq (λi=>((i:Int),gb qZ i h)) h.2.2.2.2.2.1.length (by omega) (λi nx hi=>?_) (λnx=>?_);have kk:=ov BZ h i;have i1:i<(gb qZ i h).2.2.2.2.2.1.length:=by rw[kk.vec];exact hi
 rw[show gb qZ (i+1) h=qZ i (gb qZ i h) from rfl];generalize gb qZ i h=s at i1⊢;simp only[sn,qZ];rw[jy,af,al i1];simp only[aW i1,ab,aa3,az];rw[ai (by omega) (by omega)];rfl;simp only[sn];rw[fT,ae]
theorem V8 (h:Host)(k:DG h)(z:cn 1000000000 dF h):ud h=some (Am h):=by
 have xq:=cU;unfold ud Am;rw[iB h z,ab];have hv:h.2.2.2.2.2.1.length<=10^9:=z.2.2.2.2.2.1.1;cases hb:dw h with
 |false=>
  obtain⟨g,hg⟩:∃g,fuel=g+1:=⟨fuel-1,by omega⟩
  rw[hg,aM,oc,mm h k,hb];cases decide ((0:Int)<(h.2.2.2.2.2.1.length:Int))<;>rfl
 |true=>
  simp only[af];refine cq (λi=>((i:Int),gb qZ i h)) h.2.2.2.2.2.1.length (by omega) (λi nx hi=>?_) (λnx=>?_);have kk:=ov BZ h i;have i1:i<(gb qZ i h).2.2.2.2.2.1.length:=by rw[kk.vec];exact hi
  have e1:=kk.P7 i (aU _);rw[al i1,al hi]at e1;have e2:=cC e1;rw[show gb qZ (i+1) h=qZ i (gb qZ i h) from rfl];generalize gb qZ i h=s at i1 e2⊢;simp only[oc,qZ,mm h k,hb];rw[jy,af,al i1];simp only[aW i1,aW hi,ab,ach,az,af,e2];rw[ai (by omega) (by omega)];rfl;simp only[oc];rw[fT,ae,ab,ae]
structure xp (n:Nat) (h:Host):Prop where
 z:cn n dF h
 t:h.2.2.1.2.1.2.2.2.length+(bj h.2.2.1.2.2.1).length<=n
theorem xp.mono {n m:Nat}(k:xp n h)(hn:n<=m:=by omega):xp m h:=⟨k.z.mono hn,aP k.t hn⟩
theorem xp.sz {n:Nat}(k:xp n h)(hn:n<=10^9):DG h:=by have z:cn 1000000000 dF h:=k.z.mono hn;exact⟨z.1.1,z.2.1.1,z.2.2.1.2.2.1.1,aP k.t hn,z.2.2.2.2.2.2.2.1.2.2.1,z.2.2.2.2.2.2.2.2.1.1.1,z.2.2.2.2.2.2.2.2.1.2.1.1,z.2.2.2.2.2.2.2.2.1.2.2.2.1,λp hp=>(z.2.2.2.2.1.2 p hp).2.2.2.1⟩
theorem xp.of (k:szC dF h<=1048576):xp 1048576 h:=by refine⟨MB k,?_⟩;have hb:=Zd h.2.2.1.2.2.1;simp_all[szC];omega
def qz (p:cM):au oJ->cM
 |[]=>p
 |x::l=>qz (HL p x.2.2).1 l
theorem Gr:∀(l:au oJ)(p:cM),(qz p l).2.2.2.length<=p.2.2.2.length+(bj l).length
 |[],p=>by simp[qz]
 |x::l,p=>by have h1:=Uk p x.2.2;have h2:=Gr l (HL p x.2.2).1;grind[qz,bj]
theorem Kh:∀(l:au oJ)(p:cM)(x:oJ),qz p (l++[x])=(HL (qz p l) x.2.2).1
 |[],p,x=>rfl
 |y::l,p,x=>by rw[List.cons_append,qz,qz,Kh l]
theorem MV (a b:au oJ):(bj (a++b)).length=(bj a).length+(bj b).length:=by grind[bj]
theorem MW (l:au oJ)(n:Nat):(bj (l.take n)).length+(bj (l.drop n)).length=(bj l).length:=by rw[<-MV,bW]
def jK (t:bX)(n:Int):bX×cL:=
 bif JY t&&dy n 0 (t.2.2.1.length:Int) then((t.1,qz t.2.1 (t.2.2.1.take n.toNat),t.2.2.1.drop n.toNat,t.2.2.2),(t.2.2.1.take n.toNat).map (·.1)) else(t,[])
theorem ZP {l:au oJ}(h:(bj l).length<=10^9:=by omega):∀x∈l,x.2.2.length<=10^9:=by intro x hx;induction l with|nil=>cases hx|cons y l ih=>grind[bj]
theorem Sx (t:bX)(n:Int)(hw:t.2.2.1.length<=10^9)(hs:t.2.1.2.2.2.length+(bj t.2.2.1).length<=10^9):lT t n=some (jK t n):=by
 have hx:=ZP (l:=t.2.2.1);unfold lT jK;rw[HP t ⟨by omega,hw,hx⟩,ab,XH t hw hs];simp only[ab,da];cases JY t;rfl;cases hn:dy n 0 (t.2.2.1.length:Int);rfl;have h:=bl.1 hn;obtain⟨n,rfl⟩:=aG h.1;have hl:n<=t.2.2.1.length:=by omega
 simp only[aj,ae,ab,dE,af,az];rw[CB (by omega) (by omega),ab,az];have htl:(t.2.2.1.take n).length=n:=by rw[bq];omega
 rw[htl];refine cq (λi=>(((t.2.2.1.take i).map (·.1),(i:Int),t.1,qz t.2.1 (t.2.2.1.take i),t.2.2):cL×Int×bX)) n (by omega) (λi nx hi=>?_) (λnx=>?_);have hi2:i<(t.2.2.1.take n).length:=by omega
 have hi3:i<t.2.2.1.length:=by omega
 have e1:(t.2.2.1.take n)[i]=t.2.2.1[i]:=List.getElem_take ..;have g1:=Gr (t.2.2.1.take i) t.2.1;have g2:=MW t.2.2.1 (i+1);have g3:(bj (t.2.2.1.take (i+1))).length=(bj (t.2.2.1.take i)).length+t.2.2.1[i].2.2.length:=by rw[bg hi3,MV];simp[bj]
 simp only[jN];rw[jy,af,aW hi2,e1,ab,NN _ _ (by omega),ab,aQ (by simp only[cA,bq,bf];omega),ai (by omega) (by omega),bg hi3,Kh,List.map_append];rfl;simp only[jN];rw[fT,ae,tn (l:=t.2.2.1) n hl rfl,ab,IS _ (by rw[bh];omega) (λx B7=>hx x (List.mem_of_mem_drop B7)),ab]
theorem S8 (t:bX)(n:Int)(hw:t.2.2.1.length<=10^9)(hs:t.2.1.2.2.2.length+(bj t.2.2.1).length<=10^9):mn t n=some (jK t n):=by
 have hx:=ZP (l:=t.2.2.1);unfold mn jK;rw[BR t ⟨by omega,hw,hx⟩,ab,YF t hw hs];simp only[ab,cx];cases JY t;rfl;cases hn:dy n 0 (t.2.2.1.length:Int);rfl;have h:=bl.1 hn;obtain⟨n,rfl⟩:=aG h.1;have hl:n<=t.2.2.1.length:=by omega
 simp only[aj,ae,ab,dE,af,az];refine cq (λi=>(((t.2.2.1.take i).map (·.1),(i:Int),t.1,qz t.2.1 (t.2.2.1.take i),t.2.2):cL×Int×bX)) n (by omega) (λi nx hi=>?_) (λnx=>?_);have hi3:i<t.2.2.1.length:=by omega
 have g1:=Gr (t.2.2.1.take i) t.2.1;have g2:=MW t.2.2.1 (i+1);have g3:(bj (t.2.2.1.take (i+1))).length=(bj (t.2.2.1.take i)).length+t.2.2.1[i].2.2.length:=by rw[bg hi3,MV];simp[bj]
 simp only[jS];rw[jy,af,aW hi3,ab,aQ (by simp only[cA,bq,bf];omega),ab,OJ _ _ (by omega),ab,ai (by omega) (by omega),bg hi3,Kh,List.map_append];rfl;simp only[jS];rw[fT,ae,tn (l:=t.2.2.1) n hl rfl,ab]
theorem Qf (n:Int):∀l:au oJ,l.all (iV n)=true->(l.length:Int)<=dc l
 |[],_=>by simp[dc]
 |x::l,h=>by simp only[bR,ah]at h;have:=Qf n l h.2;grind[iV,bl,dc]
theorem Eu (h:JY t=true):t.2.2.1.length<=16:=by unfold JY at h;simp only[ah,bp]at h;have h1:=Qf _ _ h.2.2.2.1;have h2:=(lz h.1).2.2.1;omega
theorem DN (n:Int)(z:cn k CZ t)(hs:t.2.1.2.2.2.length+(bj t.2.2.1).length<=k): cn k CZ (jK t n).1/\(jK t n).1.2.1.2.2.2.length+(bj (jK t n).1.2.2.1).length<=k/\(jK t n).2.length<=16:=by unfold jK;cases h:JY t&&dy n 0 (t.2.2.1.length:Int)with|false=>exact⟨z,hs,cd _⟩|true=>simp only[ah]at h;have Us:=Eu h.1;have g1:=Gr (t.2.2.1.take n.toNat) t.2.1;have g2:=MW t.2.2.1 n.toNat;have hw:t.2.2.1.length<=k:=z.2.2.1.1;refine⟨⟨z.1,⟨cv,cv,cv,?_,λ_ _=>trivial⟩,⟨?_,λx hx=>z.2.2.1.2 x (List.mem_of_mem_drop hx)⟩,z.2.2.2⟩,?_,?_⟩;show(qz t.2.1 (t.2.2.1.take n.toNat)).2.2.2.length<=k;omega;show(t.2.2.1.drop n.toNat).length<=k;rw[bh];omega;show(qz t.2.1 (t.2.2.1.take n.toNat)).2.2.2.length+(bj (t.2.2.1.drop n.toNat)).length<=k;omega;show((t.2.2.1.take n.toNat).map (·.1)).length<=16;rw[cA,bq];omega
theorem Kw {n:Nat}{t:CT}{l q:au t.D}(z:cn n (.sl t) l)(hq:∀y∈q,cn n t y)(hk:q.length<=k):cn (n+k) (.sl t) (l++q):=by refine⟨?_,λy hy=>?_⟩;show(l++q).length<=n+k;have:=z.1;rw[aq];omega;rcases aA.1 hy with h|h;exact(z.2 y h).mono;exact(hq y h).mono
def iG (h:Host):Host:=bif dw h then
    (h.1,h.2.1,(jK ((kG h.2.1 h.1 0 h.2.2.1.1).1,h.2.2.1.2) (if(h.2.2.1.2.2.1.length:Int)<ak ((kG h.2.1 h.1 0 h.2.2.1.1).2.2.1+(kG h.2.1 h.1 0 h.2.2.1.1).2.2.2) then(h.2.2.1.2.2.1.length:Int) else ak ((kG h.2.1 h.1 0 h.2.2.1.1).2.2.1+(kG h.2.1 h.1 0 h.2.2.1.1).2.2.2))).1,
      h.2.2.2.1,h.2.2.2.2.1,h.2.2.2.2.2.1,h.2.2.2.2.2.2.1,h.2.2.2.2.2.2.2.1,h.2.2.2.2.2.2.2.2.1,h.2.2.2.2.2.2.2.2.2.1,h.2.2.2.2.2.2.2.2.2.2.1,h.2.2.2.2.2.2.2.2.2.2.2.1++(kG h.2.1 h.1 0 h.2.2.1.1).2.1,
      h.2.2.2.2.2.2.2.2.2.2.2.2.1++(jK ((kG h.2.1 h.1 0 h.2.2.1.1).1,h.2.2.1.2) (if(h.2.2.1.2.2.1.length:Int)<ak ((kG h.2.1 h.1 0 h.2.2.1.1).2.2.1+(kG h.2.1 h.1 0 h.2.2.1.1).2.2.2) then(h.2.2.1.2.2.1.length:Int) else ak ((kG h.2.1 h.1 0 h.2.2.1.1).2.2.1+(kG h.2.1 h.1 0 h.2.2.1.1).2.2.2))).2,h.2.2.2.2.2.2.2.2.2.2.2.2.2) else h
theorem I3 (h:Host)(k:xp 900000000 h):lW h=some (iG h):=by have z:cn 1000000000 dF h:=k.z.mono;have hz:=k.sz (by omega);have hm:h.1.length<=900000000:=k.z.1.1;have hl:h.2.1.length<=900000000:=k.z.2.1.1;have hw:h.2.2.1.2.2.1.length<=900000000:=k.z.2.2.1.2.2.1.1;have hwi:h.2.2.2.2.2.2.2.2.2.2.2.1.length<=900000000:=k.z.2.2.2.2.2.2.2.2.2.2.2.1.1;have hco:h.2.2.2.2.2.2.2.2.2.2.2.2.1.length<=900000000:=k.z.2.2.2.2.2.2.2.2.2.2.2.2.1.1;have hA:=DA h.2.1 h.1 0 17 [] 0 0 h.2.2.1.1 (λx hx=>by cases hx);unfold lW iG;rw[iu h z,ab,nz h hz,ab];cases dw h;rfl;simp only[aj,ae,af,aa4 h.2.1 h.1 0 _ (show h.2.1.length<=10^9 by omega) (show h.1.length<=10^9 by omega),ab];rw[show ow h.2.1 h.1 0 17 [] 0 0 h.2.2.1.1=kG h.2.1 h.1 0 h.2.2.1.1 from rfl]at hA;generalize kG h.2.1 h.1 0 h.2.2.1.1=x at hA⊢;simp only[ef]at hA;have hC:=DN (k:=900000000) (t:=(x.1,h.2.2.1.2)) (if(h.2.2.1.2.2.1.length:Int)<ak (x.2.2.1+x.2.2.2) then(h.2.2.1.2.2.1.length:Int) else ak (x.2.2.1+x.2.2.2)) ⟨⟨cv,cv,cv,cv⟩,k.z.2.2.1.2⟩ k.t;rw[aQ (by omega),Sx (x.1,h.2.2.1.2) _ (by grind) (aP k.t (by omega)),ab,aQ (by omega)]
theorem JM (h:Host)(k:xp 900000000 h):mw h=some (iG h):=by have z:cn 1000000000 dF h:=k.z.mono;have hz:=k.sz (by omega);have hm:h.1.length<=900000000:=k.z.1.1;have hl:h.2.1.length<=900000000:=k.z.2.1.1;have hw:h.2.2.1.2.2.1.length<=900000000:=k.z.2.2.1.2.2.1.1;have hwi:h.2.2.2.2.2.2.2.2.2.2.2.1.length<=900000000:=k.z.2.2.2.2.2.2.2.2.2.2.2.1.1;have hco:h.2.2.2.2.2.2.2.2.2.2.2.2.1.length<=900000000:=k.z.2.2.2.2.2.2.2.2.2.2.2.2.1.1;have hA:=DA h.2.1 h.1 0 17 [] 0 0 h.2.2.1.1 (λx hx=>by cases hx);unfold mw iG;rw[iB h z,ab,mm h hz,ab];cases dw h;rfl;simp only[aj,ae,af,aci h.2.1 h.1 0 _ (show h.2.1.length<=10^9 by omega) (show h.1.length<=10^9 by omega),ab];rw[show ow h.2.1 h.1 0 17 [] 0 0 h.2.2.1.1=kG h.2.1 h.1 0 h.2.2.1.1 from rfl]at hA;generalize kG h.2.1 h.1 0 h.2.2.1.1=x at hA⊢;simp only[ef]at hA;have hC:=DN (k:=900000000) (t:=(x.1,h.2.2.1.2)) (if(h.2.2.1.2.2.1.length:Int)<ak (x.2.2.1+x.2.2.2) then(h.2.2.1.2.2.1.length:Int) else ak (x.2.2.1+x.2.2.2)) ⟨⟨cv,cv,cv,cv⟩,k.z.2.2.1.2⟩ k.t;rw[aQ (by omega),S8 (x.1,h.2.2.1.2) _ (by grind) (aP k.t (by omega)),ab,aQ (by omega)]
theorem Bc {n:Nat}(hn:400<=n)(k:xp n h):xp (n+5440) (iG h):=by have k':xp (n+5440) h:=k.mono;have hA:=DA h.2.1 h.1 0 17 [] 0 0 h.2.2.1.1 (λx hx=>by cases hx);unfold iG;cases dw h;exact k';rw[show ow h.2.1 h.1 0 17 [] 0 0 h.2.2.1.1=kG h.2.1 h.1 0 h.2.2.1.1 from rfl]at hA;generalize kG h.2.1 h.1 0 h.2.2.1.1=x at hA⊢;simp only[ef]at hA;generalize (if(h.2.2.1.2.2.1.length:Int)<ak (x.2.2.1+x.2.2.2) then(h.2.2.1.2.2.1.length:Int) else ak (x.2.2.1+x.2.2.2))=q;have hC:=DN (k:=n) (t:=(x.1,h.2.2.1.2)) q ⟨⟨cv,cv,cv,cv⟩,k.z.2.2.1.2⟩ k.t;have z:=k'.z;refine⟨⟨z.1,z.2.1,hC.1.mono,z.2.2.2.1,z.2.2.2.2.1,z.2.2.2.2.2.1,z.2.2.2.2.2.2.1,z.2.2.2.2.2.2.2.1,z.2.2.2.2.2.2.2.2.1,z.2.2.2.2.2.2.2.2.2.1,cv,?_,?_,z.2.2.2.2.2.2.2.2.2.2.2.2.2⟩,aP hC.2.1 (by omega)⟩;exact Kw (t:=.str) (n:=n) (k:=5440) k.z.2.2.2.2.2.2.2.2.2.2.2.1 (λy hy=>by show y.length<=_;grind) (by omega);exact(Kw (t:=.int .i64) (n:=n) (k:=16) k.z.2.2.2.2.2.2.2.2.2.2.2.2.1 (λ_ _=>trivial) hC.2.2).mono
def vm (l:au ay)(d:Int)(p:cM)(z:Nat):cL->Bytes->bD->au eQ->ax (au eQ×bD)
 |[],_,m,a=>some (a,m)
 |b::q,s,m,a=>bif (lF l m d (lD p b) (s.take z) false).2 then vm l d p z q (s.drop z) (lF l m d (lD p b) (s.take z) false).1 (a++[(lD p b,((s.take z).length:Int))]) else none
theorem Fb (l:au ay)(d:Int)(p:cM)(z:Nat):∀(q:cL)(s:Bytes)(m:bD)(a:au eQ){x},vm l d p z q s m a=some x->
 x.2.length=m.length/\x.1.length=a.length+q.length/\∀y∈x.1,y∈a\/((∃b∈q,y.1=lD p b)/\0<=y.2/\y.2<=(z:Int))
 |[],s,m,a,x,h=>by cases h;exact⟨rfl,rfl,λy hy=>Or.inl hy⟩
 |b::q,s,m,a,x,h=>by rw[vm]at h;cases hq:(lF l m d (lD p b) (s.take z) false).2 with|false=>rw[hq]at h;cases h|true=>rw[hq]at h;obtain⟨h1,h2,h3⟩:=Fb l d p z q _ _ _ h;rw[kZ]at h1;rw[aq,bf]at h2;refine⟨h1,by rw[bZ];omega,λy hy=>?_⟩;rcases h3 y hy with g|⟨⟨b',gQ,g⟩,g2⟩;rcases aA.1 g with g|g;exact Or.inl g;rw[cH.1 g];refine Or.inr ⟨⟨b,List.mem_cons_self ..,rfl⟩,?_,?_⟩;show(0:Int)<=((s.take z).length:Int);omega;show((s.take z).length:Int)<=(z:Int);rw[bq];omega;exact Or.inr ⟨⟨b',dK _ gQ,g⟩,g2⟩
theorem Mm (p:cM)(i:Int): -1<=lD p i/\lD p i<=139136:=by unfold lD;cases hb: !dH p|| !dy i 0 (p.2.2.1-1)with|true=>grind|false=>simp only[cX,dL]at hb;have h:=Co hb.1;have h2:=bl.1 hb.2;have h3:0<=i*p.2.1:=Int.mul_nonneg h2.1 (by omega);have h4:i*p.2.1<=16*512:=Int.mul_le_mul (by omega) (by omega) (by omega) (by omega);simp only[ae];omega
theorem acQ {p:cM}(hp:dH p=true){b:Int}(hb:b∈p.2.2.2):0<=lD p b:=by obtain⟨i,hi,rfl⟩:=List.getElem_of_mem hb;have hq:=hp;simp only[dH,ah]at hq;have:=aL.1 hq.2.2.2 i (cW.2 hi);simp only[Fj,ah,eK hi]at this;have hn:=this.1;have h:=Co hp;have h2:=bl.1 hn;have h3:0<=p.2.2.2[i]*p.2.1:=Int.mul_nonneg h2.1 (by omega);grind[lD]
theorem Wi (s:Bytes)(z:Nat):sub s 0 (if(s.length:Int)<(z:Int) then(s.length:Int) else(z:Int))=some (s.take z):=by grind[CB,bL]
theorem T4 (s:Bytes)(z:Nat):sub s ((s.take z).length:Int) (s.length:Int)=some (s.drop z):=by grind[We,List.drop_eq_nil_of_le]
def acB:ax (au eQ×bD)->ax (Bool×bD×au eQ×Bool)->Prop
 |some x,r=>r=some (true,x.2,x.1,true)
 |none,r=>∃c m,r=some (c,m,[],false)
theorem Hc (l:au ay)(d:Int)(p:cM)(z:Nat)(B:bD)(hp:p.2.2.2.length<=10^9)(hl:l.length<=10^9):∀(rest pre:cL)(s:Bytes)(m:bD)(a:au eQ)(f:Nat),rest.length<f->(pre++rest).length<=1000000->a.length+rest.length<=1000000->m.length<=10^9->
 acB (vm l d p z rest s m a) (aM (kl (λ_ DE _ J2=>some (true,J2,DE,true)) (λ_ Pd Wv _ _ _ y23=>some (true,y23,Pd,Wv)) l d (z:Int) ([]:au eQ) false (pre++rest) ((pre++rest).length:Int) p B) f (s,a,(pre.length:Int),m))
 |rest,pre,s,m,a,0,hf,_,_,_=>by omega
 |[],pre,s,m,a,f+1,_,_,_,_=>by rw[aM];simp only[kl];rw[ar (by simp),ae];rfl
 |b::q,pre,s,m,a,f+1,hf,hn,ha,hm=>by
  simp only[bZ,aq]at hf hn ha;have hi:pre.length<(pre++b::q).length:=by simp
  have hb:(pre++b::q)[pre.length]=b:=by simp
  have hA:=Mm p b;rw[aM];simp only[kl];rw[aw (by simp;omega),aW hi,hb];simp only[af,ab,Wi,T4,IQ p b hp,CK l m d (lD p b) (s.take z) hl hm];rw[vm];cases hq:(lF l m d (lD p b) (s.take z) false).2 with|false=>exact⟨_,_,rfl⟩|true=>simp only[aj,ae,af];rw[ai (n:=(pre.length:Int)+1) (by omega) (by omega),aQ (by grind)];have key:=Hc l d p z B hp hl q (pre++[b]) (s.drop z) (lF l m d (lD p b) (s.take z) false).1 (a++[(lD p b,((s.take z).length:Int))]) f (by omega) (by simp;omega) (by simp;omega) (by rw[kZ];exact hm);grind
theorem aaP (l:au ay)(m:bD)(d:Int)(p:cM)(q:cL)(s:Bytes)(z:Nat)(hp:p.2.2.2.length<=10^9)(hl:l.length<=10^9)(hm:m.length<=10^9)(hq:q.length<=1000)(h0:0<q.length): acB (vm l d p z q s m []) (nJ l m d p q s (z:Int)):=by have xq:=cU;cases q with|nil=>cases h0|cons b q=>simp only[bZ]at hq;have hA:=Mm p b;have hi:idx (b::q) 0=some b:=rfl;unfold nJ;rw[aw (by simp),af,hi];simp only[ab,Wi,T4,IQ p b hp,CK l m d (lD p b) (s.take z) hl hm];rw[vm];cases hq':(lF l m d (lD p b) (s.take z) false).2 with|false=>exact⟨_,_,rfl⟩|true=>simp only[aj,ae,af];rw[aQ (by simp),show ak (0+1)=1 from rfl];exact Hc l d p z _ hp hl q [b] (s.drop z) (lF l m d (lD p b) (s.take z) false).1 [(lD p b,((s.take z).length:Int))] fuel (by omega) (by simp;omega) (by simp;omega) (by rw[kZ];exact hm)
theorem Hm (K:au eQ->Int->bD->ax (bD×bX×Bool))(l:au ay)(d c N:Int)(z:Nat)(t:Bytes)(M:bD)(A B2:bX)(B1:bD)(B3:cM)(hp:A.2.1.2.2.2.length<=10^9)(hl:l.length<=10^9)(hM:M.length<=10^9)(hA:WI A)(ht:t.length<=1000)(hz:z<=1000):∀(rest pre:cL)(m:bD)(a:au eQ)(f:Nat),rest.length<f->(pre++rest).length<=1000->a.length+rest.length<=1000000->m.length<=10^9->(∀i<(pre++rest).length,i*z<=t.length)->N=((pre++rest).length:Int)->
 aM (kq K (λy34 _ _ y37 y38 _=>some (y37,y38,y34)) l d c (z:Int) false t N (pre++rest) M A B1 B2 B3) f (a,(pre.length:Int),m)=
  (match vm l d A.2.1 z rest (t.drop (pre.length*z)) m a with|some x=>K x.1 N x.2|none=>some (M,A,false))
 |rest,pre,m,a,0,hf,_,_,_,_,_=>by omega
 |[],pre,m,a,f+1,_,_,_,_,_,hN=>by rw[aM];simp only[kq];rw[ar (by rw[hN];simp),ae,hN,bA];rfl
 |b::q,pre,m,a,f+1,hf,hn,ha,hm,hiz,hN=>by
  simp only[bZ]at hf ha;have hi:pre.length<(pre++b::q).length:=by simp
  have hb:(pre++b::q)[pre.length]=b:=by simp
  have hB:=Mm A.2.1 b;have h1:=hiz pre.length hi;have h2:(pre.length+1)*z=pre.length*z+z:=Nat.succ_mul ..;have hs:sub t (ak ((pre.length:Int)*(z:Int))) (if ak (ak ((pre.length:Int)+1)*(z:Int))<(t.length:Int) then ak (ak ((pre.length:Int)+1)*(z:Int)) else(t.length:Int))=some ((t.drop (pre.length*z)).take z):=by rw[ai (n:=(pre.length:Int)+1) (by omega) (by omega),show(pre.length:Int)*(z:Int)=((pre.length*z:Nat):Int) by simp,show((pre.length:Int)+1)*(z:Int)=((pre.length*z+z:Nat):Int) by rw[<-h2];simp];generalize pre.length*z=g at h1⊢;rw[ai (n:=(g:Int)) (by omega) (by omega),ai (n:=((g+z:Nat):Int)) (by omega) (by omega)];by_cases gB:((g+z:Nat):Int)<(t.length:Int);rw[aF gB];unfold sub;rw[zip];simp only[az,ba];rw[List.drop_take,Nat.add_sub_cancel_left];rw[aH gB];unfold sub;rw[zip];simp only[az,ba];rw[bL (aU _),bL (by rw[bh];omega)]
  rw[aM];simp only[kq];rw[jy,af,hs,aW hi,hb];simp only[ab,OG A.2.1 b hp,Hn l m d (lD A.2.1 b) _ hl hm (show lD A.2.1 b<=9223372036854775807 by omega)];rw[vm];cases hq:(lF l m d (lD A.2.1 b) ((t.drop (pre.length*z)).take z) false).2 with
  |false=>simp only[bS,af,ae,gR M,BR A hA,ab]
  |true=>
   simp only[aj,ae,af];rw[ai (n:=(pre.length:Int)+1) (by omega) (by omega),aQ (by simp only[bf];omega)];have key:=Hm K l d c N z t M A B2 B1 B3 hp hl hM hA ht hz q (pre++[b]) (lF l m d (lD A.2.1 b) ((t.drop (pre.length*z)).take z) false).1 (a++[(lD A.2.1 b,(((t.drop (pre.length*z)).take z).length:Int))]) f (by omega) (by simpa using hn) (by simp;omega) (by rw[kZ];exact hm) (by simpa using hiz) (by simpa using hN);have el:((pre++[b]).length:Int)=(pre.length:Int)+1:=by simp
   have el2:(pre++[b]).length=pre.length+1:=by simp
   rw[aZ,List.singleton_append,el,el2,h2,<-ec]at key;exact key
theorem acY {ps:au eQ}{z c:Int}(h0:0<ps.length)(Us:ps.length<=16)(hp:∀x∈ps,0<=x.1/\x.1<=200000/\0<=x.2/\x.2<=4096)(hz:dy z 1 128=true)(hc:dy c 0 65535=true):(mT ps z c).length=ps.length+1:=by
 have hz2:=bl.1 hz;have Xn:=bl.1 hc;have e1:lv ps=true:=by unfold lv;rw[ah,aN,bp];refine⟨List.any_eq_false.2 λx hx=>?_,by omega⟩;have:=hp x hx;unfold zx;rw[fT,cJ,aN,Bool.eq_false_iff];intro h;exact h (bl.2 (by omega))
 have e2:([((2:Int),(0:Int),(0:Int),(0:Int),z,c)]++tF ps c ps.length).all rn=true:=by rw[List.all_append,ah];constructor;simp only[bR,List.all_nil,gW,rn,ah,bl];omega;rw[Gd];refine aL.2 λj hj=>?_;have hj:=cW.1 hj;have:=hp _ (aY hj);simp only[dsc,eK hj,rn,ah,bl];refine⟨by omega,?_,by omega,by omega,by omega,by omega⟩;by_cases hq:j+1=ps.length;rw[aF hq];omega;rw[aH hq];omega
 unfold mT;rw[e1,hz,e2,show((ps.length:Int)==0)=false from by rw[cK];omega];simp only[aj,bF,ae,af,aq,bf,Bg];omega
theorem UQ (K:bD->Int->ax R)(l:au ay)(d:Int)(q:cL)(ds ds2:au ig)(t1 t2 t3 t4:bX)(m1 m2 m3:bD)(h:ds.length<=1000): aM (fO K l d q ds2 ds (ds.length:Int) t1 m1 t2 m2 t3 t4 m3) fuel (([]:bD),0)=K (ds.map za) (ds.length:Int):=by
 have xq:=cU;refine cq (λi=>((ds.take i).map za,(i:Int))) ds.length (by omega) (λi nx hi=>?_) (λnx=>?_);have e:((ds.take i).map za).length<=1000:=by simp;omega
 rw[bg hi,List.map_append];simp only[fO];rw[jy,af,aW hi,ab,Sy,ab,aQ (by simp only[bf];omega),ai (by omega) (by omega)];rfl;simp only[fO];rw[fT,ae,cI]
theorem VW (K:bD->Int->ax R)(l:au ay)(d n:Int)(q:cL)(ds:au ig)(t1 t2:bX)(p:cM)(m1 m2 m3:bD)(h:ds.length<=1000): aM (ks K l d n q ds m1 t1 m2 t2 p m3) fuel (([]:bD),0)=K (ds.map za) (ds.length:Int):=by
 have xq:=cU;refine cq (λi=>((ds.take i).map za,(i:Int))) ds.length (by omega) (λi nx hi=>?_) (λnx=>?_);have e:((ds.take i).map za).length<=1000:=by simp;omega
 rw[bg hi,List.map_append];simp only[ks];rw[jy,af,aW hi,ab,S9,ab,aQ (by simp only[bf];omega),ai (by omega) (by omega)];rfl;simp only[ks];rw[fT,ae,cI]
def oK (p:aD)(z:Nat):Nat:=((ic p).1.length+z-1)/z
def LM (l:au ay)(m:bD)(d:Int)(t:bX)(c:Int)(n:Nat)(x:au eQ×bD):bD×bX×Bool:=
 bif (sJ l x.2 d t.1 ((mT x.1 c t.2.2.2).map za)).2.2 then
  ((sJ l x.2 d t.1 ((mT x.1 c t.2.2.2).map za)).1,((sJ l x.2 d t.1 ((mT x.1 c t.2.2.2).map za)).2.1,(iO t.2.1 (n:Int)).1,t.2.2.1++[(t.2.2.2,(n:Int)+1,(iO t.2.1 (n:Int)).2.1)],tmod (t.2.2.2+1) 65536),true)
 else(m,t,false)
def Iz (t:bX)(n:Nat):Bool:=(iO t.2.1 (n:Int)).2.2&&(!decide ((n:Int)>16)&&(!decide ((n:Int)+1>tt t.1)&& !decide (dc t.2.2.1+(n:Int)+1>t.1.2.1)))
def vg (l:au ay)(m:bD)(d:Int)(t:bX)(p:aD)(c z:Int):bD×bX×Bool:=
 bif JY t&&(dm p&&(dy z 1 t.2.1.2.1&&dy c 1 128)) then
  bif Iz t (oK p z.toNat) then
   match vm l d t.2.1 z.toNat (iO t.2.1 (oK p z.toNat:Int)).2.1 (ic p).1 m []with
   |some x=>LM l m d t c (oK p z.toNat) x
   |none=>(m,t,false)
  else(m,t,false)
 else(m,t,false)
theorem O3 (h:dm p=true):0<(ic p).1.length/\(ic p).1.length<=378:=by grind[xE,Lm,ic,Cr]
theorem acR (len z:Nat)(h:len<=1000:=by omega)(hz:z<=1000:=by omega)(h0:0<z:=by omega):ak (Int.tdiv (ak (ak ((len:Int)+(z:Int))-1)) (z:Int))=(((len+z-1)/z:Nat):Int):=by have hd:(len+z-1)/z<=len+z-1:=Nat.div_le_self ..;grind[ai]
theorem OY {p:cM}{n:Nat}(h:(iO p (n:Int)).2.2=true):dH p=true/\n<=p.2.2.2.length/\(iO p (n:Int)).2.1=p.2.2.2.take n:=by grind[iO,bl]
theorem Qq {c:Int}{z n:Nat}{x:au eQ×bD}(ht:JY t=true)(hz:z<=512)(hc:dy c 1 128=true)(h0:0<n)(Us:n<=16)(hk:(iO t.2.1 (n:Int)).2.2=true)(hx:vm l d t.2.1 z (iO t.2.1 (n:Int)).2.1 s m []=some x):x.2.length=m.length/\(mT x.1 c t.2.2.2).length=n+1:=by
 obtain⟨hp,hn,hb⟩:=OY hk;rw[hb]at hx;obtain⟨h1,h2,h3⟩:=Fb l d t.2.1 z _ _ _ _ hx;simp only[ef,bq,cl]at h2;have e:x.1.length=n:=by omega
 refine⟨h1,?_⟩;rw[acY (by omega) (by omega) (λy hy=>?_) hc (by simp only[JY,ah]at ht;exact ht.2.2.1),e];rcases h3 y hy with g|⟨⟨b,gQ,g⟩,g2⟩;cases g;have q1:=acQ hp (List.mem_of_mem_take gQ);have q2:=Mm t.2.1 b;rw[g];omega
theorem aca (l:au ay)(m:bD)(d:Int)(t:bX)(p:aD)(c z:Int)(hl:l.length<=10^9)(hm:m.length<=10^9)(ht:WI t)(h1:t.2.2.1.length<=10^9)(h2:t.2.1.2.2.2.length+(bj t.2.2.1).length<=10^9):uL l m d t p c z=some (vg l m d t p c z):=by
 have xq:=cU;unfold uL vg;rw[RA,ab,YF t h1 h2,ab,cx,cx];have e0:(ic p).2=dm p:=by grind[ic]
 rw[e0];simp only[gR m,BR t ht,ab];cases hb:JY t;rfl;cases hp:dm p;rfl;cases hz:dy z 1 t.2.1.2.1;rfl;cases hc:dy c 1 128;rfl;have hT:=O3 hp;have hz2:=bl.1 hz;have hq:=hb;simp only[JY,ah]at hq;have BD:=Co hq.2.1;have Us:=Eu hb;have UF:=lz hq.1;have hnx:=bl.1 hq.2.2.1;obtain⟨z,rfl⟩:=aG (by omega:0<=z);have hzn:(z:Int)≠0:=by omega
 have hS:∀x∈t.2.2.1,0<=x.2.1/\x.2.1<=16:=λx hx=>by grind[iV,bl]
 have hcb:=yZ _ hS;have hN:oK p z<=1000:=by have:oK p z<=(ic p).1.length+z-1:=Nat.div_le_self ..;omega
 have hN0:0<oK p z:=Nat.div_pos (by omega) (by omega);have hce:=acR (ic p).1.length z;rw[show((ic p).1.length+z-1)/z=oK p z from rfl]at hce;have hfi: -1<=tt t.1:=by have:=Uh t.1;omega
 simp only[aj,ae,ab,dE,af,az,aH hzn,hce,acf _ _ (show t.2.1.2.2.2.length<=10^9 by omega),GD,acb t (by omega) hS,Iz];rw[ai (n:=(oK p z:Int)+1) (by omega) (by omega),ai (n:=dc t.2.2.1+(oK p z:Int)) (by omega) (by omega),ai (n:=dc t.2.2.1+(oK p z:Int)+1) (by omega) (by omega)];cases hk:(iO t.2.1 (oK p z:Int)).2.2;rfl;by_cases g1:(oK p z:Int)>16;rw[aw g1];rfl;rw[ar g1];simp only[aj,bS,ae,bB];cases decide ((oK p z:Int)+1>tt t.1);case true=>rfl
 simp only[aj,bS,ae,bB,ab];cases decide (dc t.2.2.1+(oK p z:Int)+1>t.1.2.1);case true=>rfl
 simp only[aj,bS,ae,af,ab];obtain⟨_,hkn,Uy⟩:=OY hk;have hkl:(iO t.2.1 (oK p z:Int)).2.1.length=oK p z:=by rw[Uy,bq];omega
 have hiz:∀i<oK p z,i*z<=(ic p).1.length:=λi hi=>by have:=(Nat.le_div_iff_mul_le (by omega:0<z)).1 (show i+1<=((ic p).1.length+z-1)/z from hi);grind
 refine(Hm _ l d c _ z (ic p).1 m t _ _ _ (by omega) hl hm ht (by omega) (by omega) (iO t.2.1 (oK p z:Int)).2.1 [] m [] fuel (by omega) (by rw[bO];omega) (by rw[ef];omega) hm (λi hi=>hiz i (by grind)) (by rw[bO,hkl])).trans ?_;simp only[ef,Nat.zero_mul,eG];cases hx:vm l d t.2.1 z (iO t.2.1 (oK p z:Int)).2.1 (ic p).1 m []with|none=>rfl|some x=>obtain⟨x1,x2⟩:=Qq hb (by omega) hc hN0 (by omega) hk hx;obtain⟨_,x3,_⟩:=Fb l d t.2.1 z _ _ _ _ hx;simp only[ef]at x3;simp only[JD x.1 c t.2.2.2 (by omega),ab,LM];rw[VW _ _ _ _ _ _ _ _ _ _ _ _ (by omega)];simp only[YC l x.2 d t.1 _ hl (by omega) (show((mT x.1 c t.2.2.2).map za).length<=10^9 by rw[cA];omega),ab,gR m (show m.length<=1073741824 by omega),BR t ht];cases (sJ l x.2 d t.1 ((mT x.1 c t.2.2.2).map za)).2.2 with|false=>rfl|true=>rw[show(((mT x.1 c t.2.2.2).length:Int)==0)=false from by rw[cK];omega];grind[ab,aQ,ai]
theorem aaX (l:au ay)(m:bD)(d:Int)(t:bX)(p:aD)(c z:Int)(hl:l.length<=10^9)(hm:m.length<=10^9)(ht:WI t)(h1:t.2.2.1.length<=10^9)(h2:t.2.1.2.2.2.length+(bj t.2.2.1).length<=10^9):uC l m d t p c z=some (vg l m d t p c z):=by
 have xq:=cU;unfold uC vg;rw[fK m,ab,HP t ht,ab,XH t h1 h2,ab,qf,da,da];simp only[ab];cases hb:JY t;rfl;cases hp:dm p;rfl;cases hz:dy z 1 t.2.1.2.1;rfl;cases hc:dy c 1 128;rfl;have hT:=O3 hp;have hz2:=bl.1 hz;have hq:=hb;simp only[JY,ah]at hq;have BD:=Co hq.2.1;have Us:=Eu hb;have UF:=lz hq.1;have hnx:=bl.1 hq.2.2.1;obtain⟨z,rfl⟩:=aG (by omega:0<=z);have hzn:¬(z:Int)=0:=by omega
 have hS:∀x∈t.2.2.1,0<=x.2.1/\x.2.1<=16:=λx hx=>by grind[iV,bl]
 have hcb:=yZ _ hS;have hN:oK p z<=1000:=by have:oK p z<=(ic p).1.length+z-1:=Nat.div_le_self ..;omega
 have hN0:0<oK p z:=Nat.div_pos (by omega) (by omega);have hce:=acR (ic p).1.length z;rw[show((ic p).1.length+z-1)/z=oK p z from rfl]at hce;simp only[aj,ae,ab,dE,af,az,QT,aH hzn,hce,aa1 _ _ (show t.2.1.2.2.2.length<=10^9 by omega),QI,aaY t (by omega) hS,Iz];rw[ai (n:=(oK p z:Int)+1) (by omega) (by omega),ai (n:=dc t.2.2.1+(oK p z:Int)) (by omega) (by omega),ai (n:=dc t.2.2.1+(oK p z:Int)+1) (by omega) (by omega)];by_cases g1:(oK p z:Int)>16;simp_all;rw[ar g1];simp only[bS,ae,bB];cases decide ((oK p z:Int)+1>tt t.1)with|true=>simp_all|false=> ?_
 simp only[bS,ae,bB,ab];cases decide (dc t.2.2.1+(oK p z:Int)+1>t.1.2.1)with|true=>grind|false=> ?_
 simp only[bS,ae,gW,ab];cases hk:(iO t.2.1 (oK p z:Int)).2.2;rfl;simp only[aj,ae,af,fK m (show m.length<=1073741824 by omega),ab];obtain⟨_,hkn,Uy⟩:=OY hk;have hkl:(iO t.2.1 (oK p z:Int)).2.1.length=oK p z:=by rw[Uy,bq];omega
 have key:=aaP l m d t.2.1 (iO t.2.1 (oK p z:Int)).2.1 (ic p).1 z (by omega) hl hm (by omega) (by omega);cases hx:vm l d t.2.1 z (iO t.2.1 (oK p z:Int)).2.1 (ic p).1 m []with
 |none=>rw[hx]at key;obtain⟨a,b,e⟩:=key;obtain⟨f,g,_⟩:=DU [] c t.2.2.2 (by simp);simp_all
 |some x=>
  rw[hx]at key;have key:nJ _ _ _ _ _ _ _=_:=key;obtain⟨x1,x2⟩:=Qq hb (by omega) hc hN0 (by omega) hk hx;obtain⟨_,x3,_⟩:=Fb l d t.2.1 z _ _ _ _ hx;simp only[ef]at x3;obtain⟨f,g,hf⟩:=DU x.1 c t.2.2.2;have hft:f=true:=by grind
  subst hft;simp only[key,g,ab,af,aj,ae,aH (show¬(mT x.1 c t.2.2.2).length=0 by omega),LM];grind[UQ,XD,ab,aQ,ai]
def Tl (g:Nat->Host->Host):Nat->Host->Host
 |0,h=>h
 |k+1,h=>g k (Tl g k h)
structure EB (a b:Host):Prop where
 maps:b.2.1=a.2.1
 tx:b.2.2.1=a.2.2.1
 rx:b.2.2.2.1.length=a.2.2.2.1.length
 pl:b.2.2.2.2.1.length=a.2.2.2.2.1.length
 vec:b.2.2.2.2.2.1=a.2.2.2.2.2.1
 Vr:b.2.2.2.2.2.2.1=a.2.2.2.2.2.2.1
 ret:b.2.2.2.2.2.2.2.2.2.2.2.2.2.1=a.2.2.2.2.2.2.2.2.2.2.2.2.2.1
theorem EB.refl (a:Host):EB a a:=⟨rfl,rfl,rfl,rfl,rfl,rfl,rfl⟩
theorem EB.trans {a b c:Host}(h:EB a b)(k:EB b c):EB a c:=⟨k.1.trans h.1,k.2.trans h.2,k.3.trans h.3,k.4.trans h.4,k.5.trans h.5,k.6.trans h.6,k.7.trans h.7⟩
theorem Vs (h:Host)(i:Nat)(c:Int):EB h (xK h i c).2:=by unfold xK;rcases h1:h.2.2.2.1[i]? with _|rx;exact EB.refl h;rcases h2:h.2.2.2.2.1[i]? with _|pl;exact EB.refl h;exact⟨rfl,rfl,aB ..,aB ..,rfl,rfl,rfl⟩
def ly (h:Host)(k:Nat):Host:=Tl (λi s=>(xK s i 1000).2) k h
theorem BL {n:Nat}(hn:128<=n)(z:cn n dF h):∀k,EB h (ly h k)/\cn (n+322000*k) dF (ly h k)
 |0=>⟨EB.refl h,z⟩
 |k+1=>by have i:=BL hn z k;exact⟨i.1.trans (Vs ..),(Yd (by omega) k 1000 i.2).mono⟩
def agJ (h:Host)(l:cL):Host:=(h.1,h.2.1,h.2.2.1,h.2.2.2.1,h.2.2.2.2.1,h.2.2.2.2.2.1,h.2.2.2.2.2.2.1,h.2.2.2.2.2.2.2.1,h.2.2.2.2.2.2.2.2.1,h.2.2.2.2.2.2.2.2.2.1,h.2.2.2.2.2.2.2.2.2.2.1,h.2.2.2.2.2.2.2.2.2.2.2.1,h.2.2.2.2.2.2.2.2.2.2.2.2.1,h.2.2.2.2.2.2.2.2.2.2.2.2.2.1++l,h.2.2.2.2.2.2.2.2.2.2.2.2.2.2)
def Tv (h:Host):Host:=(h.1,h.2.1,(DC.1,DC.2.1,DC.2.2.1,h.2.2.1.2.2.2),h.2.2.2)
def Cm (h:Host)(i:Nat)(dr:Int):Host:=
 ((wF h.2.1 h.1 i).1,h.2.1,h.2.2.1,h.2.2.2.1.set i ((wF h.2.1 h.1 i).2.1,(Oy i).2.1,(Oy i).2.2.1,(Oy i).2.2.2.1,(Oy i).2.2.2.2.1,dr),h.2.2.2.2.1.set i (wF h.2.1 h.1 i).2.2.1,h.2.2.2.2.2)
theorem afR {i:Nat}{x:bm}(hx:h.2.2.2.1[i]?=some x):Jf h i=Cm h i x.2.2.2.2.2:=by unfold Jf Cm;rw[hx];rfl
theorem abB (h:Host){i:Nat}(x:bm)(hi:i<h.2.2.2.1.length):Jf (h.1,h.2.1,h.2.2.1,h.2.2.2.1.set i x,h.2.2.2.2) i=Cm h i x.2.2.2.2.2:=by unfold Jf Cm;simp only[List.getElem?_set_self hi,List.set_set];rfl
def Iu (x:bm):Int:=bif x.2.2.2.2.1 then ak (x.2.2.2.2.2+x.2.2.2.1.2.2) else x.2.2.2.2.2
def xN (i:Nat)(h:Host):Host:=
 match h.2.2.2.1[i]?,h.2.2.2.2.2.1[i]? with
 |some x,some v=>((Cm h i (Iu x)).1,h.2.1,h.2.2.1,(Cm h i (Iu x)).2.2.2.1,(Cm h i (Iu x)).2.2.2.2.1,h.2.2.2.2.2.1.set i (v.1,v.2.1,0,0,false,false),h.2.2.2.2.2.2.1.set i false,h.2.2.2.2.2.2.2)
 |_,_=>h
structure ago (k:Nat) (a b:Host):Prop where
 mem:b.1.length=a.1.length
 maps:b.2.1=a.2.1
 rx:b.2.2.2.1.length=a.2.2.2.1.length
 pl:b.2.2.2.2.1.length=a.2.2.2.2.1.length
 vec:b.2.2.2.2.2.1.length=a.2.2.2.2.2.1.length
 P7:∀j,k<=j->b.2.2.2.2.2.1[j]?=a.2.2.2.2.2.1[j]?
 Vr:b.2.2.2.2.2.2.1.length=a.2.2.2.2.2.2.1.length
theorem Q4 (l:au ay)(m:bD)(i:Nat):(wF l m i).1.length=m.length:=by grind[wF,Zi,kZ]
theorem VG (i:Nat)(h:Host):ago (i+1) h (xN i h):=by unfold xN;rcases h1:h.2.2.2.1[i]? with _|x;exact⟨rfl,rfl,rfl,rfl,rfl,λ_ _=>rfl,rfl⟩;rcases h2:h.2.2.2.2.2.1[i]? with _|v;exact⟨rfl,rfl,rfl,rfl,rfl,λ_ _=>rfl,rfl⟩;have e1:=Q4 h.2.1 h.1 i;exact⟨e1,rfl,aB ..,aB ..,aB ..,λj hj=>aR (by omega),aB ..⟩
def eJ (h:Host)(k:Nat):Host:=Tl xN k h
theorem qm (h:Host):∀k,ago k h (eJ h k)
 |0=>⟨rfl,rfl,rfl,rfl,rfl,λ_ _=>rfl,rfl⟩
 |k+1=>by have a:=qm h k;have b:=VG k (eJ h k);exact⟨b.mem.trans a.mem,b.maps.trans a.maps,b.rx.trans a.rx,b.pl.trans a.pl,b.vec.trans a.vec,λj hj=>(b.P7 j hj).trans (a.P7 j (by omega)),b.Vr.trans a.Vr⟩
theorem abA {n:Nat}(hn:1000<=n)(i:Nat)(d:Int)(z:cn n dF h):cn n dF (Cm h i d):=by unfold Cm wF;have h4:=oX (gX i+128) 384 4;have hf:=HE h.2.1 (lF h.2.1 h.1 0 (gX i) (Ao 128) false).1 0 (gX i,4,0,0) (iy (gX i+128) 384 4).1;refine⟨Qn (by omega) (FJ (by omega) z.1 ..) ..,z.2.1,z.2.2.1,pJ z.2.2.2.1 ?_,pJ z.2.2.2.2.1 ?_,z.2.2.2.2.2⟩;refine⟨⟨cv,cv,cv,cv⟩,⟨cv,cv,cv⟩,⟨cv,cv,cv⟩,⟨⟨cv,cv,cv,cv,cv,cv,cv,cv,cv,cv,cv,cv,cv,cv,cv,?_⟩,cv,cv⟩,cv,cv⟩;exact cd _;exact⟨cv,cv,cv,by omega,λ_ _=>trivial⟩
theorem Yk {n:Nat}(hn:1000<=n)(i:Nat)(z:cn n dF h):cn n dF (xN i h):=by unfold xN;rcases h1:h.2.2.2.1[i]? with _|x;exact z;rcases h2:h.2.2.2.2.2.1[i]? with _|v;exact z;have zo:=abA hn i (Iu x) z;exact⟨zo.1,z.2.1,z.2.2.1,zo.2.2.2.1,zo.2.2.2.2.1,pJ z.2.2.2.2.2.1 ⟨cv,cv,cv,cv,cv,cv⟩,pJ z.2.2.2.2.2.2.1 trivial,z.2.2.2.2.2.2.2⟩
theorem AG {n:Nat}(hn:1000<=n)(z:cn n dF h):∀k,cn n dF (eJ h k)
 |0=>z
 |k+1=>Yk hn k (AG hn z k)
def Ox (W:au oJ)(i:Nat)(s:Host):Host:=match W[i]? with|some x=>agJ s [x.1]|none=>s
def polled (h:Host):Host:=ly h h.2.2.2.1.length
def returned (h:Host)(k:Nat):Host:=Tl (Ox h.2.2.1.2.2.1) k (polled h)
structure ahX (a b:Host):Prop where
 e:b=(a.1,a.2.1,a.2.2.1,a.2.2.2.1,a.2.2.2.2.1,a.2.2.2.2.2.1,a.2.2.2.2.2.2.1,a.2.2.2.2.2.2.2.1,a.2.2.2.2.2.2.2.2.1,a.2.2.2.2.2.2.2.2.2.1,a.2.2.2.2.2.2.2.2.2.2.1,a.2.2.2.2.2.2.2.2.2.2.2.1,a.2.2.2.2.2.2.2.2.2.2.2.2.1,b.2.2.2.2.2.2.2.2.2.2.2.2.2.1,a.2.2.2.2.2.2.2.2.2.2.2.2.2.2)
theorem vB {n:Nat}(z:cn n dF (polled h)):∀k,ahX (polled h) (returned h k)/\(returned h k).2.2.2.2.2.2.2.2.2.2.2.2.2.1.length<=n+k
 |0=>⟨⟨rfl⟩,by have:=z.2.2.2.2.2.2.2.2.2.2.2.2.2.1.1;exact aP this (by omega)⟩
 |k+1=>by have i:=vB z k;have e:returned h (k+1)=Ox h.2.2.1.2.2.1 k (returned h k):=rfl;rw[e];unfold Ox;cases h.2.2.1.2.2.1[k]? with|none=>exact⟨i.1,aP i.2 (by omega)⟩|some x=>refine⟨⟨?_⟩,?_⟩;have e:=i.1.e;rw[e];rfl;show(_++[_]).length<=_;rw[aq,bf];omega
theorem S3 {n:Nat}(z:cn n dF (polled h))(k:Nat):cn (n+k) dF (returned h k):=by have i:=vB z k;have z':cn (n+k) dF (polled h):=z.mono;rw[i.1.e];exact⟨z'.1,z'.2.1,z'.2.2.1,z'.2.2.2.1,z'.2.2.2.2.1,z'.2.2.2.2.2.1,z'.2.2.2.2.2.2.1,z'.2.2.2.2.2.2.2.1,z'.2.2.2.2.2.2.2.2.1,z'.2.2.2.2.2.2.2.2.2.1,z'.2.2.2.2.2.2.2.2.2.2.1,z'.2.2.2.2.2.2.2.2.2.2.2.1,z'.2.2.2.2.2.2.2.2.2.2.2.2.1,⟨i.2,λ_ _=>trivial⟩,z'.2.2.2.2.2.2.2.2.2.2.2.2.2.2⟩
theorem Wk {n:Nat}(hn:1000<=n)(z:cn n dF h):cn n dF (Tv h):=by have h4:=oX 256 128 8;exact⟨z.1,z.2.1,⟨⟨cv,cv,cv,cv⟩,⟨cv,cv,cv,by show List.length (iy 256 128 8).1.2.2.2<=n;omega,λ_ _=>trivial⟩,⟨cd _,λx hx=>by cases hx⟩,cv⟩,z.2.2.2⟩
def oL (h:Host):Host:=Tv (returned h h.2.2.1.2.2.1.length)
def zO (h:Host):Host:=bif dw h then eJ (oL h) h.2.2.2.1.length else h
theorem HN (hb:dw h=true):mV h=true:=by grind[dw]
theorem E8 {n:Nat}(hn:1000<=n)(z:cn n dF h)(hl:h.2.2.2.1.length<=2):cn (n+644000+h.2.2.1.2.2.1.length) dF (oL h):=by have hp:=BL (by omega) z h.2.2.2.1.length;exact Wk (by omega) (S3 (hp.2.mono) _)
theorem aiS (l:au ay)(X:bD)(q:bm)(P:cM)(o:bD×kg×cM×Int)(k:bm×cM->bD×kg×cM×Int->ax R)(h:jr l X 0 q.1 P=some o):(aa (jr l X 0 (q,P).1.1 (q,P).2) λKL=>k (q,P) KL)=k (q,P) o:=by simp_all
theorem QK (l:au ay)(m:bD)(i:Nat)(hi:i<=8)(hl:l.length<=10^9)(hm:m.length<=10^9)(k:bm×cM->bD×kg×cM×Int->ax R): (aa (rE (i:Int)) λyA=>aa (oF 0 128) λMb=>aa (jC l m 0 yA Mb) λxM=>aa (xH (i:Int)) λE2=>aa (jr l xM.1 0 E2.1.1 E2.2) λKL=>k E2 KL)=k (Oy i,(iy (gX i+128) 384 4).1) (wF l m i):=by
 have hb:gX i=1280+(i)*1792:=rfl;have Ms:gX i<=9223372036854775807:=by omega
 have hz:oF 0 128=some (Ao 128):=Zw 128;have hf:=UR l (lF l m 0 (gX i) (Ao 128) false).1 0 (gX i,4,0,0) (iy (gX i+128) 384 4).1 hl (by rw[kZ];exact hm) (aP (oX (gX i+128) 384 4) (by omega));rw[UM i hi,ab,hz,ab,CK l m 0 (gX i) (Ao 128) hl hm Ms,ab,aaV i hi,ab];exact aiS l _ (Oy i) _ (wF l m i) k hf
theorem PC (K:Int->Host->ax Host)(s0 B:Host)(N:Nat)(hN:N<=2)(h1:s0.2.2.2.1.length=N)(h2:s0.2.2.2.2.1.length=N)(h3:s0.2.2.2.2.2.1.length=N)(h4:s0.2.2.2.2.2.2.1.length=N)(z:cn 900000000 dF s0): aM (kU K (N:Int) B) fuel (0,s0)=K (N:Int) (eJ s0 N):=by
 refine cq (λi=>((i:Int),eJ s0 i)) N (by omega) (λi nx hi=>?_) (λnx=>?_);have kr:=qm s0 i;have zr:=AG (by omega) z i;have z1:(eJ s0 i).1.length<=10^9:=aP zr.1.1 (by omega);have z2:(eJ s0 i).2.1.length<=10^9:=aP zr.2.1.1 (by omega);have i1:i<(eJ s0 i).2.2.2.1.length:=by rw[kr.rx,h1];exact hi
 have i2:i<(eJ s0 i).2.2.2.2.1.length:=by rw[kr.pl,h2];exact hi
 have i3:i<(eJ s0 i).2.2.2.2.2.1.length:=by rw[kr.vec,h3];exact hi
 have i4:i<(eJ s0 i).2.2.2.2.2.2.1.length:=by rw[kr.Vr,h4];exact hi
 rw[show eJ s0 (i+1)=xN i (eJ s0 i) from rfl];generalize eJ s0 i=s at z1 z2 i1 i2 i3 i4⊢;unfold xN Iu Cm;simp only[al i1,al i3];simp only[kU];rw[jy,af];simp only[aW i1,ab];rw[QK s.2.1 s.1 i (by omega) z2 z1,QK s.2.1 s.1 i (by omega) z2 z1];simp only[aW i2,aW i3,aW i4,ab];rw[ai (by omega) (by omega),az];cases s.2.2.2.1[i].2.2.2.2.1<;>rfl;simp only[kU];rw[fT,ae]
theorem Iw {n:Nat}(hq:EB h (polled h))(hz:cn n dF (polled h)):(oL h).2.2.2.1.length=h.2.2.2.1.length/\(oL h).2.2.2.2.1.length=h.2.2.2.2.1.length/\(oL h).2.2.2.2.2.1=h.2.2.2.2.2.1/\(oL h).2.2.2.2.2.2.1=h.2.2.2.2.2.2.1:=by have er:=(vB hz h.2.2.1.2.2.1.length).1.e;refine⟨?_,?_,?_,?_⟩;show(returned h h.2.2.1.2.2.1.length).2.2.2.1.length=_;rw[er];exact hq.rx;show(returned h h.2.2.1.2.2.1.length).2.2.2.2.1.length=_;rw[er];exact hq.pl;show(returned h h.2.2.1.2.2.1.length).2.2.2.2.2.1=_;rw[er];exact hq.vec;show(returned h h.2.2.1.2.2.1.length).2.2.2.2.2.2.1=_;rw[er];exact hq.Vr
theorem PB (h:Host)(k:DG h)(z:cn 100000000 dF h):we h=some (zO h):=by
 unfold we zO;rw[iu h (z.mono),ab,nz h k,ab];cases hb:dw h;rfl;have hl:=lu (HN hb);have hw:=z.2.2.1.2.2.1.1;have hp:=BL (by omega) z;refine cq (λi=>((i:Int),ly h i)) h.2.2.2.1.length (by omega) (λi nx hi=>?_) (λnx=>?_);simp only[qF];rw[jy,af,SE (ly h i) i 1000 (by rw[(hp i).1.rx];exact hi) (by rw[(hp i).1.pl];omega) ((hp i).2.mono),ab,ai (by omega) (by omega)];rfl;simp only[qF];rw[fT,ae];have hq:=hp h.2.2.2.1.length;have hr:=vB hq.2;have e1:(ly h h.2.2.2.1.length).2.2.1.2.2.1=h.2.2.1.2.2.1:=by rw[hq.1.tx]
 rw[e1];refine cq (λi=>((i:Int),returned h i)) h.2.2.1.2.2.1.length (by omega) (λi nx hi=>?_) (λnx=>?_);have hri:=(hr i).2;simp only[oN];rw[jy,af,aW hi,ab,aQ (by rw[bf];omega),ai (by omega) (by omega)];rw[show returned h (i+1)=Ox h.2.2.1.2.2.1 i (returned h i) from rfl,Ox,al hi];rfl;simp only[oN];rw[fT,ae];simp only[aa5,ab];have hE:=E8 (by omega) z hl.1;have hk:=Iw hq.1 hq.2;have eN:((List.length (returned h h.2.2.1.2.2.1.length).2.2.2.1))=(h.2.2.2.1.length):=congrArg Nat.cast hk.1;rw[eN];exact PC _ (oL h) _ h.2.2.2.1.length hl.1 hk.1 (hk.2.1.trans hl.2.1) (by rw[hk.2.2.1];exact hl.2.2.1) (by rw[hk.2.2.2];exact hl.2.2.2) (hE.mono)
theorem PX (K:Int->Host->ax Host)(h s0 B:Host)(N:Nat)(hN:N<=2)(h1:s0.2.2.2.1.length=N)(h2:s0.2.2.2.2.1.length=N)(h3:s0.2.2.2.2.2.1=h.2.2.2.2.2.1)(h5:h.2.2.2.2.2.1.length=N)(h4:s0.2.2.2.2.2.2.1.length=N)(z:cn 900000000 dF s0): aM (lf K h B) fuel (0,s0)=K (N:Int) (eJ s0 N):=by
 refine cq (λi=>((i:Int),eJ s0 i)) N (by omega) (λi nx hi=>?_) (λnx=>?_);have kr:=qm s0 i;have zr:=AG (by omega) z i;have z1:(eJ s0 i).1.length<=10^9:=aP zr.1.1 (by omega);have z2:(eJ s0 i).2.1.length<=10^9:=aP zr.2.1.1 (by omega);have i1:i<(eJ s0 i).2.2.2.1.length:=by rw[kr.rx,h1];exact hi
 have iN:(eJ s0 i).2.2.2.1.length=N:=by rw[kr.rx,h1]
 have i2:i<(eJ s0 i).2.2.2.2.1.length:=by rw[kr.pl,h2];exact hi
 have i3:i<(eJ s0 i).2.2.2.2.2.1.length:=by rw[kr.vec,h3,h5];exact hi
 have i4:i<(eJ s0 i).2.2.2.2.2.2.1.length:=by rw[kr.Vr,h4];exact hi
 have i5:i<h.2.2.2.2.2.1.length:=by rw[h5];exact hi
 have iv:(eJ s0 i).2.2.2.2.2.1[i]=h.2.2.2.2.2.1[i]:=by have:=kr.P7 i (aU _);rw[al i3,h3,al i5]at this;exact cC this
 rw[show eJ s0 (i+1)=xN i (eJ s0 i) from rfl];generalize eJ s0 i=s at z1 z2 iN i1 i2 i3 i4 iv⊢;have g1:=al i1;unfold xN;rw[g1,al i3];simp only[lf];rw[jy,af];simp only[aW i1,ab];have o1:=OM s i (by omega) i1 i2 z2 z1;rw[afR g1]at o1;have o2:=λx:bm=>OM (s.1,s.2.1,s.2.2.1,s.2.2.2.1.set i x,s.2.2.2.2) i (by omega) (by rw[aB];exact i1) i2 z2 z1;simp only[abB s _ i1]at o2;rw[az,ai (n:=(i)+1) (by omega) (by omega),o1,o2,ab,ab];simp only[aW i5,ab,iv];have j3:∀d,i<(Cm s i d).2.2.2.2.2.1.length:=λd=>i3;have j4:∀d,i<(Cm s i d).2.2.2.2.2.2.1.length:=λd=>i4;simp only[aW (j3 _),aW (j4 _),ab];unfold Iu;cases s.2.2.2.1[i].2.2.2.2.1<;>rfl;have kN:=(qm s0 N).rx;simp only[lf];rw[fT,ae]
theorem PW (h:Host)(k:DG h)(z:cn 100000000 dF h):wS h=some (zO h):=by
 unfold wS zO;rw[iB h (z.mono),ab,mm h k,ab];cases hb:dw h;rfl;have hl:=lu (HN hb);have hw:=z.2.2.1.2.2.1.1;have hp:=BL (by omega) z;refine cq (λi=>((i:Int),ly h i)) h.2.2.2.1.length (by omega) (λi nx hi=>?_) (λnx=>?_);have h1:i<(ly h i).2.2.2.1.length:=by rw[(hp i).1.rx];exact hi
 have h2:i<(ly h i).2.2.2.2.1.length:=by rw[(hp i).1.pl];omega
 have zi:cn 500000000 dF (ly h i):=(hp i).2.mono;have hz2:=zi.2.1.1;have hz1:=zi.1.1;have em:=(hp i).1.maps;rw[show ly h (i+1)=(xK (ly h i) i 1000).2 from rfl];generalize ly h i=s at h1 h2 zi hz1 hz2 em⊢;have BD:=(zi.2.2.2.2.1.2 _ (aY h2)).2.2.2.1;simp only[qR];rw[jy,af,<-em];simp only[aW h1,aW h2,ab,V1 s.2.1 s.1 0 _ _ _ 1000 (show s.2.1.length<=10^9 by omega) (show s.1.length<=10^9 by omega) BD zi.2.2.2.2.2.2.2.2.2.1,az,xK,al h1,al h2];rw[ai (by omega) (by omega)];rfl;simp only[qR];rw[fT,ae];have hq:=hp h.2.2.2.1.length;have hr:=vB hq.2;refine cq (λi=>((i:Int),returned h i)) h.2.2.1.2.2.1.length (by omega) (λi nx hi=>?_) (λnx=>?_);have hri:=(hr i).2;simp only[pc];rw[jy,af,aW hi,ab,aQ (by rw[bf];omega),ai (by omega) (by omega)];rw[show returned h (i+1)=Ox h.2.2.1.2.2.1 i (returned h i) from rfl,Ox,al hi];rfl;simp only[pc];rw[fT,ae];simp only[RB,ab];have hE:=E8 (by omega) z hl.1;have hk:=Iw hq.1 hq.2;have ex:oL h=((returned h h.2.2.1.2.2.1.length).1,(returned h h.2.2.1.2.2.1.length).2.1,(DC.1,DC.2.1,DC.2.2.1,h.2.2.1.2.2.2),(returned h h.2.2.1.2.2.1.length).2.2.2):=by
  have et:(returned h h.2.2.1.2.2.1.length).2.2.1=h.2.2.1:=by rw[(hr h.2.2.1.2.2.1.length).1.e];exact hq.1.tx
  unfold oL Tv;rw[et]
 rw[<-ex];exact PX _ h (oL h) _ h.2.2.2.1.length hl.1 hk.1 (hk.2.1.trans hl.2.1) hk.2.2.1 hl.2.2.1 (by rw[hk.2.2.2];exact hl.2.2.2) (hE.mono)
def DM (x:DF):Bool:=dy x.1 0 65535&&(dy x.2.1 0 65535&&(dy x.2.2.1 0 65535&&(dy x.2.2.2.1 0 65535&&dy x.2.2.2.2 0 4294967295)))
theorem QF (x:DF):lU x=some (DM x):=by simp_all[lU,da,cw,DM]
theorem Rr (x:DF):mq x=some (DM x):=by simp_all[mq,cx,cw,DM]
def Xc (x:DF)(p:Int):Bytes:=bif DM x&&dy p 0 1 then((((cb x.1++cb x.2.1)++cb x.2.2.1)++cb x.2.2.2.1)++jk x.2.2.2.2)++jk p else []
theorem adB (x:DF)(p:Int):lq x p=some (Xc x p):=by have h1:=bC x.1;have h2:=bC x.2.1;have h3:=bC x.2.2.1;have h4:=bC x.2.2.2.1;have h5:=dQ x.2.2.2.2;have h6:=dQ p;unfold lq Xc;simp only[QF,da,ab,kT,BG];grind[ab,aQ]
theorem aeC (x:DF)(p:Int):lB x p=some (Xc x p):=by have h1:=bC x.1;have h2:=bC x.2.1;have h3:=bC x.2.2.1;have h4:=bC x.2.2.2.1;have h5:=dQ x.2.2.2.2;have h6:=dQ p;unfold lB Xc;simp only[Rr,cx,ab,gU,mI];grind[ab,aQ]
def Ai (l:au ay)(m:bD)(d:Int)(q:K0)(x:DF):bD×K0×Bool:=
 bif !fB q|| !DM x then(m,q,false) else
 bif !(lF l m d (mj q) (Xc x (CN q)) true).2 then(m,q,false) else
 ((lF l m d (mj q) (Xc x (CN q)) true).1,(q.1,q.2.1,tmod (q.2.2+1) (2*q.2.1)),true)
theorem adJ (l:au ay)(m:bD)(d:Int)(q:K0)(x:DF)(hl:l.length<=10^9)(hm:m.length<=10^9):oQ l m d q x=some (Ai l m d q x):=by unfold oQ Ai;simp only[Kq,QF,ab,fK m (show m.length<=1073741824 by omega),QL,adB];cases hq:fB q;rfl;have h:=la hq;have hs:=My hq;cases DM x;rfl;simp only[aj,ae,ab,bF,QQ q hq,DV l m d _ _ hl hm (show mj q<=9223372036854775807 by unfold mj;omega)];grind[Rd,ai]
theorem aeJ (l:au ay)(m:bD)(d:Int)(q:K0)(x:DF)(hl:l.length<=10^9)(hm:m.length<=10^9):ph l m d q x=some (Ai l m d q x):=by
 unfold ph Ai;simp only[KU,Rr,ab,gR m (show m.length<=1073741824 by omega),aeC];cases hq:fB q;rfl;have h:=la hq;have hs:=My hq;cases DM x;rfl;have e:ak (q.1+ak (16*tmod q.2.2 q.2.1))=mj q:=by grind[ai,mj]
 simp only[aj,ae,ab,bF,Rv q hq,e,AH l m d _ _ hl hm (show mj q<=9223372036854775807 by unfold mj;omega)];grind[ai]
theorem abP {n:Nat}(hn:128<=n)(z:cn n (.sl .str) m)(l:au ay)(d:Int)(q:K0)(x:DF):cn n (.sl .str) (Ai l m d q x).1/\(Ai l m d q x).1.length=m.length:=by grind[Ai,FJ,kZ]
theorem afT {q:K0}{x:DF}(h:fB q=true):fB (Ai l m d q x).2.1=true/\(Ai l m d q x).2.1.1=q.1/\(Ai l m d q x).2.1.2.1=q.2.1:=by have hq:=la h;grind[Ai,fB,bl,Dw]
def iR (l:au ay)(m:bD)(d:Int)(q:bm)(k:Bytes)(s:Bytes):bD×K0×Bool:=
 bif !(dB s).2||(((dB s).1.1 !=3)||decide ((dB s).1.2.2.1<((eD q.2.2.2.1.1).1.length:Int))) then(m,q.2.1,false) else
 bif !(lF l m d (dB s).1.2.2.2.1 (eD q.2.2.2.1.1).1 true).2 then(m,q.2.1,false) else
 Ai l (lF l m d (dB s).1.2.2.2.1 (eD q.2.2.2.1.1).1 true).1 d q.2.1 ((dB s).1.2.2.2.2.2,((eD q.2.2.2.1.1).1.length:Int),q.2.2.2.1.2.1,q.2.2.2.1.2.2,Cf k (zL (mB q.2.2.2.1.1)))
theorem ace (l:au ay)(m:bD)(d:Int)(q:bm)(k s:Bytes)(hl:l.length<=10^9)(hm:m.length<=10^9)(hs:s.length<=10^9):yV l m d q s k=some (iR l m d q k s):=by
 unfold yV iR;have jY:=M4 (s:=s);simp only[VU s hs,GF,ab,gR m (show m.length<=1073741824 by omega)];generalize dB s=x at jY⊢;cases hx:x.2;rfl;have hd:=jY hx;simp only[rn,ah,bl]at hd;cases x.1.1 !=3;case true=>rfl
 cases decide (x.1.2.2.1<((eD q.2.2.2.1.1).1.length:Int));all_goals grind[ab,AH,JF,JG,aeJ,kZ]
theorem aa0 (l:au ay)(m:bD)(d:Int)(q:bm)(k s:Bytes)(hl:l.length<=10^9)(hm:m.length<=10^9)(hs:s.length<=10^9)(hh:dm q.2.2.2.1.1=true):∃b,wD l m d q k s=some (b,iR l m d q k s)/\(b=false->iR l m d q k s=(m,q.2.1,false)):=by
 unfold wD iR;have jY:=M4 (s:=s);simp only[UN s hs,Gt,ab,Df hh];generalize dB s=x at jY⊢;cases hx:x.2;exact⟨false,rfl,λ_=>rfl⟩;have hd:=jY hx;simp only[rn,ah,bl]at hd;cases x.1.1 !=3;case true=>simp_all
 cases decide (x.1.2.2.1<((eD q.2.2.2.1.1).1.length:Int));case true=>simp_all
 simp only[aj,ae,ab,bF,DV l m d _ _ hl hm (show x.1.2.2.2.1<=9223372036854775807 by omega)];cases (lF l m d x.1.2.2.2.1 (eD q.2.2.2.1.1).1 true).2;exact⟨false,rfl,λ_=>rfl⟩;simp only[aj,ae,NL,ab,IV,adJ l _ d _ _ hl (show(lF l m d x.1.2.2.2.1 (eD q.2.2.2.1.1).1 true).1.length<=10^9 by rw[kZ];exact hm)];grind
theorem RG {n:Nat}(hn:128<=n){q:bm}{k:Bytes}(z:cn n (.sl .str) m)(hq:fB q.2.1=true): cn n (.sl .str) (iR l m d q k s).1/\(iR l m d q k s).1.length=m.length/\fB (iR l m d q k s).2.1=true/\(iR l m d q k s).2.1.1=q.2.1.1/\(iR l m d q k s).2.1.2.1=q.2.1.2.1:=by
 unfold iR;cases !(dB s).2||(((dB s).1.1 !=3)||decide ((dB s).1.2.2.1<((eD q.2.2.2.1.1).1.length:Int)));case true=>grind
 cases (lF l m d (dB s).1.2.2.2.1 (eD q.2.2.2.1.1).1 true).2;all_goals grind[FJ,kZ,abP,afT]
def ib (l:au ay)(m:bD)(d:Int)(q:bm)(k:Bytes):bD×bm:=
 bif !Hj q||(!q.2.2.2.2.1||((k.length:Int) !=16)) then(m,q) else
 bif (bu l m d q.1).2.2&&(iR l m d q k (bu l m d q.1).1).2.2 then
  ((iR l m d q k (bu l m d q.1).1).1,(bu l m d q.1).2.1,(iR l m d q k (bu l m d q.1).1).2.1,q.2.2.1,acr,false,q.2.2.2.2.2)
 else(m,(bu l m d q.1).2.1,q.2.1,q.2.2.1,acr,false,ak (q.2.2.2.2.2+q.2.2.2.1.2.2))
theorem Wh (h:(bu l m d r).2.2=false):(bu l m d r).2.1=r:=by grind[bu]
theorem zA {q:bm}(h:Hj q=true):fB q.2.1=true/\(q.2.2.2.2.1=true->dm q.2.2.2.1.1=true):=by grind[Hj]
theorem KT (l:au ay)(m:bD)(d:Int)(q:bm)(k:Bytes)(hl:l.length<=10^9)(hm:m.length<=10^9):nW l m d q k=some (ib l m d q k):=by
 have ht:=yX l m d q.1;unfold nW ib;simp only[Tg,ab,gR m (show m.length<=1073741824 by omega),JL l m d q.1 hl hm,ace l m d q k _ hl hm (show(bu l m d q.1).1.length<=10^9 by omega)];cases Hj q;rfl;cases q.2.2.2.2.1;rfl;cases (k.length:Int) !=16;case true=>rfl
 simp only[aj,ae,ab,bF];cases (bu l m d q.1).2.2;rfl;cases (iR l m d q k (bu l m d q.1).1).2.2<;>rfl
theorem Ko (l:au ay)(m:bD)(d:Int)(q:bm)(k:Bytes)(hl:l.length<=10^9)(hm:m.length<=10^9):nB l m d q k=some (ib l m d q k):=by
 have ht:=yX l m d q.1;have Ib:=Wh (l:=l) (m:=m) (d:=d) (r:=q.1);unfold nB ib;simp only[SH,ab,fK m (show m.length<=1073741824 by omega),I2 l m d q.1 hl hm];cases hr:Hj q;rfl;cases hh:q.2.2.2.2.1;rfl;cases (k.length:Int) !=16;case true=>rfl
 obtain⟨b,hb,Ms⟩:=aa0 l m d q k (bu l m d q.1).1 hl hm (by omega) ((zA hr).2 hh);simp only[aj,ae,ab,bF,hb];generalize iR l m d q k (bu l m d q.1).1=s at hb Ms⊢;cases hk:(bu l m d q.1).2.2 with|false=>rw[Ib hk];rfl|true=>?_
 cases b with|true=>cases hs:s.2.2<;>rfl|false=>rw[Ms rfl];rfl
theorem Gn {n:Nat}(hn:128<=n){q:bm}{k:Bytes}(z:cn n (.sl .str) m)(zq:cn n lO q): cn n (.sl .str) (ib l m d q k).1/\(ib l m d q k).1.length=m.length/\cn n lO (ib l m d q k).2/\(Hj q=true->fB (ib l m d q k).2.2.1=true/\(ib l m d q k).2.2.1.2.1=q.2.1.2.1):=by
 unfold ib;cases hc: !Hj q||(!q.2.2.2.2.1||((k.length:Int) !=16));case true=>grind[zA]
 simp only[cX,dL]at hc;have hq:=(zA hc.1).1;have hs:=RG hn (l:=l) (d:=d) (k:=k) (s:=(bu l m d q.1).1) z hq;have e0:cn n lO ((bu l m d q.1).2.1,(iR l m d q k (bu l m d q.1).1).2.1,q.2.2.1,acr,false,q.2.2.2.2.2):=⟨⟨cv,cv,cv,cv⟩,⟨cv,cv,cv⟩,⟨cv,cv,cv⟩,⟨⟨cv,cv,cv,cv,cv,cv,cv,cv,cv,cv,cv,cv,cv,cv,cv,cd _⟩,cv,cv⟩,cv,cv⟩
 cases (bu l m d q.1).2.2&&(iR l m d q k (bu l m d q.1).1).2.2 with|true=>grind|false=>exact⟨z,rfl,⟨⟨cv,cv,cv,cv⟩,⟨cv,cv,cv⟩,⟨cv,cv,cv⟩,⟨⟨cv,cv,cv,cv,cv,cv,cv,cv,cv,cv,cv,cv,cv,cv,cv,cd _⟩,cv,cv⟩,cv,cv⟩,λ_=>⟨hq,rfl⟩⟩
def evS (k:Nat)(h:Host):Host:=
 match h.2.2.2.2.2.1[k]? with
 |some v=>(h.1,h.2.1,h.2.2.1,h.2.2.2.1,h.2.2.2.2.1,h.2.2.2.2.2.1.set k (evV v),h.2.2.2.2.2.2)
 |none=>h
def R7 (k:Nat):Nat->Host->Host
 |0,h=>h
 |i+1,h=>evS k (R7 k i h)
theorem ac5 (k:Nat)(h:Host):kR (k+1) h (evS k h):=by unfold evS;cases h.2.2.2.2.2.1[k]? with|none=>exact kR.refl _ _|some v=>exact⟨rfl,rfl,rfl,rfl,λ_ _=>rfl,rfl,aB ..,λj hj=>aR (by omega),rfl,rfl,rfl⟩
theorem Ix (k:Nat)(h:Host):∀i,kR (k+1) h (R7 k i h)
 |0=>kR.refl _ _
 |i+1=>(Ix k h i).trans (ac5 k _)
theorem afk {n:Nat}(k:Nat)(z:cn n dF h):cn n dF (evS k h):=by unfold evS;cases h.2.2.2.2.2.1[k]? with|none=>exact z|some v=>exact⟨z.1,z.2.1,z.2.2.1,z.2.2.2.1,z.2.2.2.2.1,MD z.2.2.2.2.2.1,z.2.2.2.2.2.2⟩
theorem Zg {n:Nat}(k:Nat)(z:cn n dF h):∀i,cn n dF (R7 k i h)
 |0=>z
 |i+1=>afk k (Zg k z i)
theorem Xu (h:Host)(k:Nat)(b:Int)(h1:k<h.2.2.2.1.length)(h2:k<h.2.2.2.2.2.1.length)(hq:fB h.2.2.2.1[k].2.1=true)(hb:0<=b/\b<=31):kX h (k:Int) b=some ((),R7 k ((h.2.2.2.1[k].2.1.2.2-b)%(2*h.2.2.2.1[k].2.1.2.1)).toNat h):=by
 have xq:=cU;have q:=la hq;unfold kX;rw[aW h1,ab];generalize h.2.2.2.1[k]=x at q⊢;rw[ai (n:=x.2.1.2.2-b) (by omega) (by omega),ai (n:=2*x.2.1.2.1) (by omega) (by omega),KA _ _,ab];have hm:0<=(x.2.1.2.2-b)%(2*x.2.1.2.1)/\(x.2.1.2.2-b)%(2*x.2.1.2.1)<32:=by have g1:=Int.emod_nonneg (x.2.1.2.2-b) (show 2*x.2.1.2.1≠0 by omega);have g2:=fQ (x.2.1.2.2-b) (show 0<2*x.2.1.2.1 by omega);omega
 generalize (x.2.1.2.2-b)%(2*x.2.1.2.1)=c at hm⊢;obtain⟨c,rfl⟩:=aG hm.1;rw[az];have e0:((c:Int),h)=(((c:Int)-((0:Nat):Int)),R7 k 0 h):=by simp[R7]
 rw[e0];refine cq (λi=>((c:Int)-(i:Int),R7 k i h)) c (by omega) (λi nx hi=>?_) (λnx=>?_);have kk:=Ix k h i;have i1:k<(R7 k i h).2.2.2.2.2.1.length:=by rw[kk.vec];exact h2
 rw[show R7 k (i+1) h=evS k (R7 k i h) from rfl];generalize R7 k i h=s at i1⊢;simp only[qK,evS];rw[jy,af,al i1];simp only[aW i1,ab,aaL,az];rw[ai (by omega) (by omega),show(c:Int)-(i:Int)-1=(c:Int)-((i+1:Nat):Int) by omega];simp only[qK];rw[fT,ae]
theorem Yr (h:Host)(k:Nat)(b:Int)(h1:k<h.2.2.2.1.length)(h2:k<h.2.2.2.2.2.1.length)(hq:fB h.2.2.2.1[k].2.1=true)(hb:0<=b/\b<=31):ll h (k:Int) b=some ((),R7 k ((h.2.2.2.1[k].2.1.2.2-b)%(2*h.2.2.2.1[k].2.1.2.1)).toNat h):=by
 have xq:=cU;have q:=la hq;unfold ll;rw[aW h1,ab,ab];generalize h.2.2.2.1[k]=x at q⊢;have em:ak (BitVec.toNat (fa (x.2.1.2.2-b)&&&fa (2*x.2.1.2.1-1)))=(x.2.1.2.2-b)%(2*x.2.1.2.1):=by
  have key:∀j:Nat,j<63->2*x.2.1.2.1=2^j->ak (BitVec.toNat (fa (x.2.1.2.2-b)&&&fa (2*x.2.1.2.1-1)))=(x.2.1.2.2-b)%(2*x.2.1.2.1):=by intro j hj e;have:=C0 (x.2.1.2.2-b) j hj;rw[<-e]at this;rw[this];have g1:=Int.emod_nonneg (x.2.1.2.2-b) (show 2*x.2.1.2.1≠0 by omega);have g2:=fQ (x.2.1.2.2-b) (show 0<2*x.2.1.2.1 by omega);exact ai (by omega) (by omega)
  rcases q.2.2.1 with e|e|e|e;exact key 2 (by omega) (by rw[e];rfl);exact key 3 (by omega) (by rw[e];rfl);exact key 4 (by omega) (by rw[e];rfl);exact key 5 (by omega) (by rw[e];rfl)
 rw[ai (n:=x.2.1.2.2-b) (by omega) (by omega),ai (n:=2*x.2.1.2.1) (by omega) (by omega),ai (n:=2*x.2.1.2.1-1) (by omega) (by omega),em];have hm:0<=(x.2.1.2.2-b)%(2*x.2.1.2.1)/\(x.2.1.2.2-b)%(2*x.2.1.2.1)<32:=by have g1:=Int.emod_nonneg (x.2.1.2.2-b) (show 2*x.2.1.2.1≠0 by omega);have g2:=fQ (x.2.1.2.2-b) (show 0<2*x.2.1.2.1 by omega);omega
 generalize (x.2.1.2.2-b)%(2*x.2.1.2.1)=c at hm⊢;obtain⟨c,rfl⟩:=aG hm.1;rw[az];refine cq (λi=>((i:Int),R7 k i h)) c (by omega) (λi nx hi=>?_) (λnx=>?_);have kk:=Ix k h i;have i1:k<(R7 k i h).2.2.2.2.2.1.length:=by rw[kk.vec];exact h2
 rw[show R7 k (i+1) h=evS k (R7 k i h) from rfl];generalize R7 k i h=s at i1⊢;simp only[qX,evS];rw[jy,af,al i1];simp only[aW i1,ab,ab1,az];rw[ai (by omega) (by omega)];rfl;simp only[qX];rw[fT,ae]
def EP (h:Host)(k:Nat)(f:bD×bm):Host:=(f.1,h.2.1,h.2.2.1,h.2.2.2.1.set k f.2,h.2.2.2.2)
def H5 (h:Host)(k:Nat)(b:Int)(f:bD×bm):Host:=R7 k ((f.2.2.1.2.2-b)%(2*f.2.2.1.2.1)).toNat (EP h k f)
def iQ (k:Nat)(h:Host):Host:=
 match h.2.2.2.1[k]? with
 |some x=>H5 h k x.2.1.2.2 (ib h.2.1 h.1 0 x h.2.2.2.2.2.2.2.2.1.2.2.1)
 |none=>h
theorem F6 {b:Int}(hf:f.1.length=h.1.length):kR (k+1) h (H5 h k b f):=by
 have a:kR (k+1) h (EP h k f):=⟨hf,rfl,rfl,aB ..,λj hj=>aR (by omega),rfl,rfl,λ_ _=>rfl,rfl,rfl,rfl⟩
 exact a.trans (Ix k (EP h k f) _)
theorem Pb {n:Nat}{b:Int}(z:cn n dF h)(h1:cn n (.sl .str) f.1)(h2:cn n lO f.2):cn n dF (H5 h k b f):=by
 have a:cn n dF (EP h k f):=⟨h1,z.2.1,z.2.2.1,pJ z.2.2.2.1 h2,z.2.2.2.2⟩
 exact Zg k a _
theorem Np {q:bm}{k:Bytes}:(ib l m d q k).1.length=m.length:=by
 have hs:(iR l m d q k (bu l m d q.1).1).1.length=m.length:=by
  unfold iR;cases !(dB (bu l m d q.1).1).2||(((dB (bu l m d q.1).1).1.1 !=3)||decide ((dB (bu l m d q.1).1).1.2.2.1<((eD q.2.2.2.1.1).1.length:Int)));case true=>rfl
  cases (lF l m d (dB (bu l m d q.1).1).1.2.2.2.1 (eD q.2.2.2.1.1).1 true).2;rfl;have h2:=kZ l m d (dB (bu l m d q.1).1).1.2.2.2.1 (eD q.2.2.2.1.1).1 true;simp only[ae,aj];unfold Ai;cases !fB q.2.1|| !DM ((dB (bu l m d q.1).1).1.2.2.2.2.2,((eD q.2.2.2.1.1).1.length:Int),q.2.2.2.1.2.1,q.2.2.2.1.2.2,Cf k (zL (mB q.2.2.2.1.1)));case true=>exact h2
  cases (lF l (lF l m d (dB (bu l m d q.1).1).1.2.2.2.1 (eD q.2.2.2.1.1).1 true).1 d (mj q.2.1) (Xc ((dB (bu l m d q.1).1).1.2.2.2.2.2,((eD q.2.2.2.1.1).1.length:Int),q.2.2.2.1.2.1,q.2.2.2.1.2.2,Cf k (zL (mB q.2.2.2.1.1))) (CN q.2.1)) true).2 with|false=>exact h2|true=>exact(kZ ..).trans h2
 unfold ib;grind
theorem ze (k:Nat)(h:Host):kR (k+1) h (iQ k h):=by grind[iQ,kR.refl,F6,Np]
theorem HH (k:Nat)(h:Host)(n:Nat)(hn:1000<=n)(z:cn n dF h):cn (n+0) dF (iQ k h):=by unfold iQ;cases hx:h.2.2.2.1[k]? with|none=>exact z|some x=>have hf:=Gn (show 128<=n by omega) (l:=h.2.1) (d:=0) (k:=h.2.2.2.2.2.2.2.2.1.2.2.1) z.1 (z.2.2.2.1.2 _ (bn hx));exact Pb z hf.1 hf.2.2.1
def tu (h:Host):Host:=bif dw h then gb iQ h.2.2.2.1.length h else h
theorem Gm {n:Nat}(hn:1000<=n)(k:xp n h):xp n (tu h):=by unfold tu;cases dw h with|false=>exact k|true=>refine⟨(BV hn HH k.z _).mono,?_⟩;simp only[af];rw[(ov ze h _).tx];exact k.t
theorem BC (hb:dw h=true):∀i (hi:i<h.2.2.2.1.length),Hj h.2.2.2.1[i]=true:=by grind[dw,Rj]
theorem LZ {b:Int}(h1:k<h.2.2.2.1.length)(h2:k<h.2.2.2.2.2.1.length)(hq:fB f.2.2.1=true)(hb:0<=b/\b<=31:=by omega): kX (f.1,h.2.1,h.2.2.1,h.2.2.2.1.set k f.2,h.2.2.2.2) (k:Int) b=some ((),H5 h k b f):=by
 have h3:k<(EP h k f).2.2.2.1.length:=by show k<(h.2.2.2.1.set k f.2).length;rw[aB];exact h1
 have e:(EP h k f).2.2.2.1[k]=f.2:=List.getElem_set_self _;have a:=Xu (EP h k f) k b h3 h2 (by rw[e];exact hq) hb;rw[e]at a;exact a
theorem L0 {b:Int}(h1:k<h.2.2.2.1.length)(h2:k<h.2.2.2.2.2.1.length)(hq:fB f.2.2.1=true)(hb:0<=b/\b<=31:=by omega): ll (f.1,h.2.1,h.2.2.1,h.2.2.2.1.set k f.2,h.2.2.2.2) (k:Int) b=some ((),H5 h k b f):=by
 have h3:k<(EP h k f).2.2.2.1.length:=by show k<(h.2.2.2.1.set k f.2).length;rw[aB];exact h1
 have e:(EP h k f).2.2.2.1[k]=f.2:=List.getElem_set_self _;have c:=Yr (EP h k f) k b h3 h2 (by rw[e];exact hq) hb;rw[e]at c;exact c
theorem NM (h:Host)(k:xp 900000000 h):ru h=some (tu h):=by
 have xq:=cU;unfold ru tu;rw[iu h (k.z.mono),ab,nz h (k.sz (by omega)),ab];cases hb:dw h;rfl;have hl:=lu (by simp only[dw,ah]at hb;exact hb.2.2.2.2.1:mV h=true);have hr:=BC hb;simp only[aj,ae,af];refine cq (λi=>((i:Int),gb iQ i h)) h.2.2.2.1.length (by omega) (λi nx hi=>?_) (λnx=>?_);have kk:=ov ze h i;have zz:cn 900000000 dF (gb iQ i h):=(BV (by omega) HH k.z i).mono;have i1:i<(gb iQ i h).2.2.2.1.length:=by rw[kk.rx];exact hi
 have i2:i<(gb iQ i h).2.2.2.2.2.1.length:=by rw[kk.vec];omega
 have e1:(gb iQ i h).2.2.2.1[i]=h.2.2.2.1[i]:=by have:=kk.rxs i (aU _);rw[al i1,al hi]at this;exact cC this
 rw[show gb iQ (i+1) h=iQ i (gb iQ i h) from rfl];generalize gb iQ i h=s at zz i1 i2 e1⊢;have z1:s.1.length<=900000000:=zz.1.1;have z2:s.2.1.length<=900000000:=zz.2.1.1;have UH:=hr i hi;rw[<-e1]at UH;have hqd:=la (zA UH).1;have hf:=Gn (show 128<=900000000 by omega) (l:=s.2.1) (d:=0) (k:=s.2.2.2.2.2.2.2.2.1.2.2.1) zz.1 (zz.2.2.2.1.2 _ (aY i1));have ev:=LZ (h:=s) (k:=i) (b:=s.2.2.2.1[i].2.1.2.2) (f:=ib s.2.1 s.1 0 s.2.2.2.1[i] s.2.2.2.2.2.2.2.2.1.2.2.1) i1 i2 (hf.2.2.2 UH).1;simp only[qE,iQ];rw[jy,af,al i1];simp only[aW i1,aW hi,ab,Ko s.2.1 s.1 0 _ _ (show s.2.1.length<=10^9 by omega) (show s.1.length<=10^9 by omega),az,<-e1,ev];rw[ai (by omega) (by omega)];rfl;simp only[qE];rw[fT,ae]
theorem OI (h:Host)(k:xp 900000000 h):rQ h=some (tu h):=by
 have xq:=cU;unfold rQ tu;rw[iB h (k.z.mono),ab];have hv:h.2.2.2.1.length<=900000000:=k.z.2.2.2.1.1;cases hb:dw h with
 |false=>
  obtain⟨g,hg⟩:∃g,fuel=g+1:=⟨fuel-1,by omega⟩
  rw[hg,aM,mu,mm h (k.sz (by omega)),hb];cases decide ((0:Int)<(h.2.2.2.1.length:Int))<;>rfl
 |true=>
  have hl:=lu (by simp only[dw,ah]at hb;exact hb.2.2.2.2.1:mV h=true);have hr:=BC hb;simp only[af];refine cq (λi=>((i:Int),gb iQ i h)) h.2.2.2.1.length (by omega) (λi nx hi=>?_) (λnx=>?_);have kk:=ov ze h i;have zz:cn 900000000 dF (gb iQ i h):=(BV (by omega) HH k.z i).mono;have i1:i<(gb iQ i h).2.2.2.1.length:=by rw[kk.rx];exact hi
  have i2:i<(gb iQ i h).2.2.2.2.2.1.length:=by rw[kk.vec];omega
  have e1:(gb iQ i h).2.2.2.1[i]=h.2.2.2.1[i]:=by have:=kk.rxs i (aU _);rw[al i1,al hi]at this;exact cC this
  have em:=kk.maps;have es:=kk.RE;rw[show gb iQ (i+1) h=iQ i (gb iQ i h) from rfl];generalize gb iQ i h=s at zz i1 i2 e1 em es⊢;have z1:s.1.length<=900000000:=zz.1.1;have z2:s.2.1.length<=900000000:=zz.2.1.1;have UH:=hr i hi;rw[<-e1]at UH;have hqd:=la (zA UH).1;have hf:=Gn (show 128<=900000000 by omega) (l:=s.2.1) (d:=0) (k:=s.2.2.2.2.2.2.2.2.1.2.2.1) zz.1 (zz.2.2.2.1.2 _ (aY i1));have ev:=L0 (h:=s) (k:=i) (b:=s.2.2.2.1[i].2.1.2.2) (f:=ib s.2.1 s.1 0 s.2.2.2.1[i] s.2.2.2.2.2.2.2.2.1.2.2.1) i1 i2 (hf.2.2.2 UH).1;simp only[mu,iQ,mm h (k.sz (by omega)),hb];rw[jy,af,al i1];simp only[aW i1,aW hi,ab,af,<-em,<-es,<-e1,KT s.2.1 s.1 0 _ _ (show s.2.1.length<=10^9 by omega) (show s.1.length<=10^9 by omega),az,ev];rw[ai (by omega) (by omega)];rfl;simp only[mu];rw[fT,ae,ab,ae]
def Lz (a b:aD):Bool:=(a.1==b.1)&&((a.2.1==b.2.1)&&((a.2.2.1==b.2.2.1)&&((a.2.2.2.1==b.2.2.2.1)&&((a.2.2.2.2.2.1==b.2.2.2.2.2.1)&&((a.2.2.2.2.2.2.1==b.2.2.2.2.2.2.1)&&((a.2.2.2.2.2.2.2.1==b.2.2.2.2.2.2.2.1)&&((a.2.2.2.2.2.2.2.2.1==b.2.2.2.2.2.2.2.2.1)&&((a.2.2.2.2.2.2.2.2.2.1==b.2.2.2.2.2.2.2.2.2.1)&&((a.2.2.2.2.2.2.2.2.2.2.1==b.2.2.2.2.2.2.2.2.2.2.1)&&((a.2.2.2.2.2.2.2.2.2.2.2.2.1==b.2.2.2.2.2.2.2.2.2.2.2.2.1)&&((a.2.2.2.2.2.2.2.2.2.2.2.2.2.2.1==b.2.2.2.2.2.2.2.2.2.2.2.2.2.2.1))))))))))))
theorem aeI (a b:aD):yP a b=some (Lz a b):=by simp_all[yP,Lz]
theorem adI (a b:aD):yr a b=some (Lz a b):=by simp_all[yr,Lz]
def ahN (s:mS)(p:aD):Bool:=(p.2.2.2.2.2.2.2.2.2.2.2.1==tmod (ak (s.1.2.2.2.2.2.2.2.2.2.2.2.1+(s.1.2.2.2.2.2.2.2.2.2.2.2.2.2.2.2.length:Int))) 4294967296)&&(p.2.2.2.2.1==tmod (ak (s.1.2.2.2.2.1+s.2.2)) 65536)
def OE (s:mS)(p:aD):Bool:=decide (1<=s.2.1)&&(dy s.2.2 1 320&&(decide ((s.1.2.2.2.2.2.2.2.2.2.2.2.2.2.2.2.length:Int)=s.2.1*s.2.2)&&(dy (p.2.2.2.2.2.2.2.2.2.2.2.2.2.2.2.length:Int) 1 s.2.1&&decide ((s.1.2.2.2.2.2.2.2.2.2.2.2.2.2.2.2.length:Int)+(p.2.2.2.2.2.2.2.2.2.2.2.2.2.2.2.length:Int)<=320))))
def Zm (s:mS)(p:aD):Bool:=dm s.1&&(gn p&&(Lz s.1 p&&((p.2.2.2.2.2.2.2.2.1==6)&&((s.1.2.2.2.2.2.2.2.2.2.2.2.2.2.1==16)&&Ff p.2.2.2.2.2.2.2.2.2.2.2.2.2.1))))
def GR (s:mS)(p:aD):Bool:=Zm s p&&(OE s p&&ahN s p)
theorem D6 (h:gn p=true)(h6:(p.2.2.2.2.2.2.2.2.1==6)=true):dy p.2.2.2.2.2.2.2.2.2.2.2.2.2.1 0 31=true:=by grind[gn,dm,GB,Da]
theorem D7 (h:gn p=true):p.2.2.2.2.2.2.2.2.2.2.2.2.2.2.2.length<=128:=by grind[gn]
theorem ZT (s:mS)(p:aD):wN s p=some (GR s p):=by
 unfold wN GR Zm;rw[sN,ab,Ek,ab,aeI,ab];cases hs:dm s.1;rfl;cases hp:gn p;rfl;cases Lz s.1 p;rfl;cases h6:p.2.2.2.2.2.2.2.2.1==6 with|false=>simp only[bne,h6];rfl|true=>?_
 cases Us:s.1.2.2.2.2.2.2.2.2.2.2.2.2.2.1==16 with|false=>simp only[bne,h6,Us];rfl|true=>?_
 have hf:=D6 hp h6;have Zp:=ya hs;have BD:=D7 hp;simp only[bne,h6,Us,aj,ae,ab,HF _ hf,bB];cases Ff p.2.2.2.2.2.2.2.2.2.2.2.2.2.1;rfl;simp only[aj,ae,cx,ab,bB,cw];have uq:(bif !dy s.2.1 1 320 then some true else bif !dy s.2.2 1 320 then some true else bif !((s.1.2.2.2.2.2.2.2.2.2.2.2.2.2.2.2.length:Int)==ak (s.2.1*s.2.2)) then some true else bif !dy (p.2.2.2.2.2.2.2.2.2.2.2.2.2.2.2.length:Int) 1 s.2.1 then some true else some (decide (ak ((s.1.2.2.2.2.2.2.2.2.2.2.2.2.2.2.2.length:Int)+(p.2.2.2.2.2.2.2.2.2.2.2.2.2.2.2.length:Int))>320)))=some (!OE s p):=by
  unfold OE;generalize s.1.2.2.2.2.2.2.2.2.2.2.2.2.2.2.2.length=n at Zp⊢;generalize p.2.2.2.2.2.2.2.2.2.2.2.2.2.2.2.length=m at BD⊢;rw[ai (n:=(n:Int)+(m:Int)) (by omega) (by omega)];cases h2:dy s.2.2 1 320 with
  |false=>cases dy s.2.1 1 320<;>cases decide (1<=s.2.1)<;>rfl
  |true=>
   have TB:=bl.1 h2;by_cases h1:1<=s.2.1;rw[aw h1];by_cases h3:s.2.1<=320;have hb:s.2.1*s.2.2<=320*320:=Int.mul_le_mul h3 TB.2 (by omega) (by omega);have TD:0<=s.2.1*s.2.2:=Int.mul_nonneg (by omega) (by omega);rw[bl.2 ⟨h1,h3⟩,ai (n:=s.2.1*s.2.2) (by omega) (by omega)];by_cases h4:(n:Int)=s.2.1*s.2.2;rw[show((n:Int)==s.2.1*s.2.2)=true from by rw[bw];exact h4,aw h4];cases dy (m:Int) 1 s.2.1 with|false=>rfl|true=>by_cases h5:(n:Int)+(m:Int)<=320;rw[aw h5,ar (show¬(n:Int)+(m:Int)>320 by omega)];rfl;rw[ar h5,aw (show(n:Int)+(m:Int)>320 by omega)];rfl
   rw[show((n:Int)==s.2.1*s.2.2)=false from by rw[cK];exact h4,ar h4];rfl;have hb:321*1<=s.2.1*s.2.2:=Int.mul_le_mul (by omega) (by omega) (by omega) (by omega);rw[show dy s.2.1 1 320=false from by rw[Bool.eq_false_iff];intro hc;have:=bl.1 hc;omega,ar (show¬(n:Int)=s.2.1*s.2.2 by omega)];rfl;rw[ar h1,show dy s.2.1 1 320=false from by rw[Bool.eq_false_iff];intro hc;have:=bl.1 hc;omega];rfl
 simp only[bne,cw]at uq⊢;rw[cC uq];cases OE s p;rfl;rw[mQ,mQ];simp only[aj,ae,cw,ab,cF,bB];rfl
theorem Zu (s:mS)(p:aD):vX s p=some (GR s p):=by
 unfold vX GR Zm;rw[qf,ab,DW,ab,adI,ab];cases hs:dm s.1;rfl;cases hp:gn p;rfl;cases Lz s.1 p;rfl;cases h6:p.2.2.2.2.2.2.2.2.1==6 with|false=>simp only[bne,h6];rfl|true=>?_
 cases Us:s.1.2.2.2.2.2.2.2.2.2.2.2.2.2.1==16 with|false=>simp only[bne,h6,Us];rfl|true=>?_
 have hf:=D6 hp h6;have Zp:=ya hs;have BD:=D7 hp;simp only[bne,h6,Us,aj,ae,ab,Nk _ hf,bB];cases Ff p.2.2.2.2.2.2.2.2.2.2.2.2.2.1;rfl;simp only[aj,ae,da,ab,bB];rw[aH (show¬(4294967296:Nat)=0 by omega),aH (show¬(65536:Nat)=0 by omega)];simp only[cw,cF];rw[show((p.2.2.2.2.2.2.2.2.2.2.2.1==tmod (ak (s.1.2.2.2.2.2.2.2.2.2.2.2.1+(s.1.2.2.2.2.2.2.2.2.2.2.2.2.2.2.2.length:Int))) 4294967296)&&(p.2.2.2.2.1==tmod (ak (s.1.2.2.2.2.1+s.2.2)) 65536))=ahN s p from rfl];unfold OE;generalize ahN s p=q;generalize s.1.2.2.2.2.2.2.2.2.2.2.2.2.2.2.2.length=n at Zp⊢;generalize p.2.2.2.2.2.2.2.2.2.2.2.2.2.2.2.length=m at BD⊢;rw[ai (n:=(n:Int)+(m:Int)) (by omega) (by omega)];by_cases h1:s.2.1<1;rw[aw h1,ar (show¬1<=s.2.1 by omega)];rfl;rw[ar h1,aw (show 1<=s.2.1 by omega)];cases h2:dy s.2.2 1 320;rfl;have TB:=bl.1 h2;simp only[aj,ae,ab,bB];rw[mQ,mQ];have e1:tmod (n:Int) s.2.2=(n:Int)%s.2.2:=dU (by omega);have e2:Int.tdiv (n:Int) s.2.2=(n:Int)/s.2.2:=Int.tdiv_eq_ediv_of_nonneg (by omega);have hdm:=Int.emod_add_mul_ediv (n:Int) s.2.2;have hq0:0<=(n:Int)/s.2.2:=Int.ediv_nonneg (by omega) (by omega);have hq1:(n:Int)/s.2.2<=(n:Int):=Int.ediv_le_self _ (by omega);rw[e1,e2,ai (n:=(n:Int)/s.2.2) (by omega) (by omega)];by_cases h3:(n:Int)=s.2.1*s.2.2;have h4:(n:Int)%s.2.2=0:=by rw[h3];exact Int.mul_emod_left ..
 have h5:(n:Int)/s.2.2=s.2.1:=by rw[h3];exact Int.mul_ediv_cancel _ (by omega)
 rw[h4,h5,aw h3];simp only[beq_self_eq_true,aj,ae,ab,bB];cases dy (m:Int) 1 s.2.1;rfl;cases decide ((n:Int)+(m:Int)<=320)<;>rfl;rw[ar h3];cases h4:(n:Int)%s.2.2==0 with
 |false=>rfl
 |true=>
  have h4':(n:Int)%s.2.2=0:=by simpa using h4
  have h5:((n:Int)/s.2.2==s.2.1)=false:=by rw[cK];intro h5;rw[h4',h5]at hdm;exact h3 (by rw[Int.mul_comm];omega)
  simp only[aj,ae,h5,bS,ab,af];rfl
def EO (s:mS)(p:aD):mS:=bif GR s p then((s.1.1,s.1.2.1,s.1.2.2.1,s.1.2.2.2.1,s.1.2.2.2.2.1,s.1.2.2.2.2.2.1,s.1.2.2.2.2.2.2.1,s.1.2.2.2.2.2.2.2.1,s.1.2.2.2.2.2.2.2.2.1,s.1.2.2.2.2.2.2.2.2.2.1,s.1.2.2.2.2.2.2.2.2.2.2.1,s.1.2.2.2.2.2.2.2.2.2.2.2.1,s.1.2.2.2.2.2.2.2.2.2.2.2.2.1,p.2.2.2.2.2.2.2.2.2.2.2.2.2.1,s.1.2.2.2.2.2.2.2.2.2.2.2.2.2.2.1,s.1.2.2.2.2.2.2.2.2.2.2.2.2.2.2.2++p.2.2.2.2.2.2.2.2.2.2.2.2.2.2.2),s.2.1,ak (s.2.2+1)) else s
theorem Mn {s:mS}(h:GR s p=true):s.1.2.2.2.2.2.2.2.2.2.2.2.2.2.2.2.length+p.2.2.2.2.2.2.2.2.2.2.2.2.2.2.2.length<=320:=by grind[GR,OE]
theorem aeF (s:mS)(p:aD):GJ s p=some (EO s p):=by unfold GJ EO;rw[ZT,ab];cases h:GR s p;rfl;have:=Mn h;grind[aQ]
theorem adG (s:mS)(p:aD):Gv s p=some (EO s p):=by unfold Gv EO;rw[Zu,ab];cases h:GR s p;rfl;have:=Mn h;grind[aQ]
def mR (p:aD):mS:=(p,(p.2.2.2.2.2.2.2.2.2.2.2.2.2.2.2.length:Int),1)
theorem XE (p:aD):FB p=some (mR p):=rfl
theorem YD (p:aD):FZ p=some (mR p):=rfl
def Ny (q:bm)(s:mS):bm:=(q.1,q.2.1,q.2.2.1,s,true,q.2.2.2.2.2)
def iS (l:au ay)(m:bD)(d:Int)(q:bm)(k:Bytes)(p:aD)(c:Bool):bD×bm:=
 bif !Hj q||(!gn p||((k.length:Int) !=16)) then(m,q) else
 bif c&&(q.2.2.2.2.1&&GR q.2.2.2.1 p) then(m,q.1,q.2.1,q.2.2.1,EO q.2.2.2.1 p,q.2.2.2.2) else
 bif c then((ib l m d q k).1,Ny (ib l m d q k).2 (mR p)) else ib l (ib l m d q k).1 d (Ny (ib l m d q k).2 (mR p)) k
theorem Xv (l:au ay)(m:bD)(d:Int)(q:bm)(k:Bytes)(p:aD)(c:Bool)(hl:l.length<=10^9)(hm:m.length<=10^9):oS l m d q k p c=some (iS l m d q k p c):=by
 unfold oS iS Ny;simp only[SH,DW,ab,fK m (show m.length<=1073741824 by omega),Zu,adG,Ko l m d q k hl hm,XE,Ko l (ib l m d q k).1 d _ k hl (show(ib l m d q k).1.length<=10^9 by rw[Np];exact hm)];cases Hj q;rfl;cases gn p;rfl;cases (k.length:Int) !=16;case true=>rfl
 cases c;rfl;cases q.2.2.2.2.1;rfl;cases GR q.2.2.2.1 p<;>rfl
theorem Ys (l:au ay)(m:bD)(d:Int)(q:bm)(k:Bytes)(p:aD)(c:Bool)(hl:l.length<=10^9)(hm:m.length<=10^9):po l m d q k p c=some (iS l m d q k p c):=by
 unfold po iS Ny;simp only[Tg,Ek,ab,gR m (show m.length<=1073741824 by omega),ZT,aeF,KT l m d q k hl hm,YD,KT l (ib l m d q k).1 d _ k hl (show(ib l m d q k).1.length<=10^9 by rw[Np];exact hm)];cases Hj q;rfl;cases gn p;rfl;cases (k.length:Int) !=16;case true=>rfl
 cases c;rfl;cases q.2.2.2.2.1;rfl;cases GR q.2.2.2.1 p<;>rfl
theorem aaC {n:Nat}{q:bm}{s:mS}(h:s.1.2.2.2.2.2.2.2.2.2.2.2.2.2.2.2.length<=n):cn n lO (Ny q s):=⟨⟨cv,cv,cv,cv⟩,⟨cv,cv,cv⟩,⟨cv,cv,cv⟩,⟨⟨cv,cv,cv,cv,cv,cv,cv,cv,cv,cv,cv,cv,cv,cv,cv,h⟩,cv,cv⟩,cv,cv⟩
theorem Hw {n:Nat}(hn:1000<=n){q:bm}{k:Bytes}{c:Bool}(z:cn n (.sl .str) m)(zq:cn n lO q)(hq:fB q.2.1=true): cn n (.sl .str) (iS l m d q k p c).1/\(iS l m d q k p c).1.length=m.length/\cn n lO (iS l m d q k p c).2/\fB (iS l m d q k p c).2.2.1=true:=by
 unfold iS;cases hc: !Hj q||(!gn p||((k.length:Int) !=16));case true=>grind
 simp only[cX,dL]at hc;have hp:=D7 hc.2.1;cases hj:c&&(q.2.2.2.2.1&&GR q.2.2.2.1 p)with|true=>simp only[ah]at hj;have:=Mn hj.2.2;refine⟨z,rfl,⟨⟨cv,cv,cv,cv⟩,⟨cv,cv,cv⟩,⟨cv,cv,cv⟩,⟨?_,cv,cv⟩,cv,cv⟩,hq⟩;refine⟨cv,cv,cv,cv,cv,cv,cv,cv,cv,cv,cv,cv,cv,cv,cv,?_⟩;unfold EO;rw[hj.2.2];show List.length (q.2.2.2.1.1.2.2.2.2.2.2.2.2.2.2.2.2.2.2.2++p.2.2.2.2.2.2.2.2.2.2.2.2.2.2.2)<=n;rw[aq];omega|false=>grind[Gn,Ny,ib,mR,aaC]
theorem VJ {r:iX}(h:Du r=true):0<=r.2.2.2.2.2.2.2.2:=by
 by_cases h0:0<=r.2.2.2.2.2.2.2.2;exact h0;exfalso;have e:∀b:Int,dy r.2.2.2.2.2.2.2.2 0 b=false:=λb=>by rw[Bool.eq_false_iff];intro hc;have:=bl.1 hc;omega
 have e1:(r.2.2.2.2.2.2.2.2==0)=false:=by rw[cK];omega
 revert h;unfold Du;have z:∀c:Bool,(bif c then false else false)=false:=by intro c;cases c<;>rfl
 simp only[my,cx,ab,cw,e,e1,fj,z,ae];intro h;cases h
theorem RF {s:de}{q:Int}:ou s q p= -1\/∃n:Nat,ou s q p=(n:Int)/\(n:Int)<q:=by
 unfold ou;cases hb: !eF s q|| !dm p;case true=>exact .inl rfl
 simp only[cX,dL]at hb;have hs:=hb.1;simp only[eF,ah]at hs;simp only[ae];cases hd:decide (Fc s.1 p>=0)with
 |true=>obtain⟨n,hn,hl⟩:=Ni s.1 p (bI hd);simp only[af,hn,az,eK hl];cases s.1[n].2.2.2.2.2.2.2.1==1 with|true=>exact .inl rfl|false=>have h1:=aL.1 hs.1.2 _ (aY hl);have h2:=hs.1.1.1.1;simp only[zP,ah]at h2;have h3:=VJ (aL.1 h2.1 _ (aY hl));simp only[aN,cP]at h1;exact .inr ⟨s.1[n].2.2.2.2.2.2.2.2.toNat,by grind,by omega⟩
 |false=>
  simp only[ae];cases Wx:decide (findF s.2.1 (mB p)>=0)with
  |true=>obtain⟨n,hn,hl⟩:=Nh s.2.1 (mB p) (bI Wx);simp only[af,hn,az,eK hl];have h1:=aL.1 hs.2 _ (aY hl);have h2:=hs.1.1.1.2;simp only[qv,ah,bw]at h2;have h3:=aL.1 h2.2 n (cW.2 (by omega));unfold nR Rq at h3;rw[xQ hl]at h3;simp only[ah,bl]at h3;simp only[aN,cP]at h1;exact .inr ⟨s.2.1[n].2.2.toNat,by omega,by omega⟩
  |false=>
   simp only[ae];unfold GL;cases hc: !xk s.2.2 q||decide (CH s.2.2 (mB p)<0);case true=>exact .inl rfl
   simp only[cX,dL,cP]at hc;obtain⟨n,hn,hl⟩:=Ke s.2.2 (mB p) hc.2;have h1:=hc.1;simp only[xk,ah]at h1;have h2:=bl.1 (aL.1 h1.2 _ (aY hl));simp only[ae,hn,az,eK hl];exact .inr ⟨s.2.2.2[n].toNat,by omega,by omega⟩
def Br (h:Host)(a b c d:Int):Host:=(h.1,h.2.1,h.2.2.1,h.2.2.2.1,h.2.2.2.2.1,h.2.2.2.2.2.1,h.2.2.2.2.2.2.1,h.2.2.2.2.2.2.2.1,h.2.2.2.2.2.2.2.2.1,h.2.2.2.2.2.2.2.2.2.1,h.2.2.2.2.2.2.2.2.2.2.1,h.2.2.2.2.2.2.2.2.2.2.2.1,h.2.2.2.2.2.2.2.2.2.2.2.2.1,h.2.2.2.2.2.2.2.2.2.2.2.2.2.1,ak (h.2.2.2.2.2.2.2.2.2.2.2.2.2.2.1+1),a,b,c,d)
def mf (h:Host)(x:Bytes):Host:=
 bif !dw h then h else
 bif (kJ x).2 !=0 then Br h (ak (h.2.2.2.2.2.2.2.2.2.2.2.2.2.2.2.1+1)) h.2.2.2.2.2.2.2.2.2.2.2.2.2.2.2.2.1 h.2.2.2.2.2.2.2.2.2.2.2.2.2.2.2.2.2.1 h.2.2.2.2.2.2.2.2.2.2.2.2.2.2.2.2.2.2 else
 bif !nt h.2.2.2.2.2.2.2.1 (kJ x).1 then Br h h.2.2.2.2.2.2.2.2.2.2.2.2.2.2.2.1 (ak (h.2.2.2.2.2.2.2.2.2.2.2.2.2.2.2.2.1+1)) h.2.2.2.2.2.2.2.2.2.2.2.2.2.2.2.2.2.1 h.2.2.2.2.2.2.2.2.2.2.2.2.2.2.2.2.2.2 else
 bif ou h.2.2.2.2.2.2.2.2.1 (h.2.2.2.1.length:Int) (kJ x).1== -1 then Br h h.2.2.2.2.2.2.2.2.2.2.2.2.2.2.2.1 h.2.2.2.2.2.2.2.2.2.2.2.2.2.2.2.2.1 (ak (h.2.2.2.2.2.2.2.2.2.2.2.2.2.2.2.2.2.1+1)) h.2.2.2.2.2.2.2.2.2.2.2.2.2.2.2.2.2.2 else
 match h.2.2.2.1[(ou h.2.2.2.2.2.2.2.2.1 (h.2.2.2.1.length:Int) (kJ x).1).toNat]? with
 |some q=>H5 (Br h h.2.2.2.2.2.2.2.2.2.2.2.2.2.2.2.1 h.2.2.2.2.2.2.2.2.2.2.2.2.2.2.2.2.1 h.2.2.2.2.2.2.2.2.2.2.2.2.2.2.2.2.2.1 (ak (h.2.2.2.2.2.2.2.2.2.2.2.2.2.2.2.2.2.2+1))) (ou h.2.2.2.2.2.2.2.2.1 (h.2.2.2.1.length:Int) (kJ x).1).toNat q.2.1.2.2 (iS h.2.1 h.1 0 q h.2.2.2.2.2.2.2.2.1.2.2.1 (kJ x).1 h.2.2.2.2.2.2.2.2.2.2.1)
 |none=>h
theorem SF (h:Host)(x:Bytes)(k:xp 900000000 h)(hx:x.length<=10^9):sm h x=some (mf h x):=by
 have z:=k.z;have z1:h.1.length<=900000000:=z.1.1;have z2:h.2.1.length<=900000000:=z.2.1.1;have zf:h.2.2.2.2.2.2.2.1.2.2.length<=900000000:=z.2.2.2.2.2.2.2.1.2.2.1;have s1:h.2.2.2.2.2.2.2.2.1.1.length<=900000000:=z.2.2.2.2.2.2.2.2.1.1.1;have s2:h.2.2.2.2.2.2.2.2.1.2.1.length<=900000000:=z.2.2.2.2.2.2.2.2.1.2.1.1;have s3:h.2.2.2.2.2.2.2.2.1.2.2.2.length<=900000000:=z.2.2.2.2.2.2.2.2.1.2.2.2.1;unfold sm mf;rw[iu h (z.mono),ab,nz h (k.sz (by omega)),ab];cases hb:dw h;rfl;have hl:=lu (by grind[dw]:mV h=true);have hr:=BC hb;simp only[aj,ae,QM x hx,ab,Ln h.2.2.2.2.2.2.2.1 _ (show h.2.2.2.2.2.2.2.1.2.2.length<=10^9 by omega),QR h.2.2.2.2.2.2.2.2.1 _ _ (show h.2.2.2.2.2.2.2.2.1.1.length<=10^9 by omega) (show h.2.2.2.2.2.2.2.2.1.2.1.length<=10^9 by omega) (show h.2.2.2.2.2.2.2.2.1.2.2.2.length<=10^9 by omega)];generalize kJ x=f;cases f.2 !=0;case true=>rfl
 cases nt h.2.2.2.2.2.2.2.1 f.1;rfl;simp only[aj,ae];have lE:=RF (s:=h.2.2.2.2.2.2.2.2.1) (q:=(h.2.2.2.1.length:Int)) (p:=f.1);generalize ou h.2.2.2.2.2.2.2.2.1 (h.2.2.2.1.length:Int) f.1=r at lE⊢;rcases lE with rfl|⟨n,rfl,hn⟩;rfl;have i1:n<h.2.2.2.1.length:=by omega
 have i2:n<h.2.2.2.2.2.1.length:=by omega
 have hq:=(zA (hr n i1)).1;have hqi:=la hq;have ha:=Hw (show 1000<=900000000 by omega) (l:=h.2.1) (d:=0) (k:=h.2.2.2.2.2.2.2.2.1.2.2.1) (p:=f.1) (c:=h.2.2.2.2.2.2.2.2.2.2.1) z.1 (z.2.2.2.1.2 _ (aY i1)) hq;have ev:=LZ (h:=Br h h.2.2.2.2.2.2.2.2.2.2.2.2.2.2.2.1 h.2.2.2.2.2.2.2.2.2.2.2.2.2.2.2.2.1 h.2.2.2.2.2.2.2.2.2.2.2.2.2.2.2.2.2.1 (ak (h.2.2.2.2.2.2.2.2.2.2.2.2.2.2.2.2.2.2+1))) (k:=n) (b:=h.2.2.2.1[n].2.1.2.2) (f:=iS h.2.1 h.1 0 h.2.2.2.1[n] h.2.2.2.2.2.2.2.2.1.2.2.1 f.1 h.2.2.2.2.2.2.2.2.2.2.1) i1 i2 ha.2.2.2;rw[show((n:Int)== -1)=false from by rw[cK];omega,az,al i1];simp only[ae,aW i1,ab,Xv h.2.1 h.1 0 _ _ _ _ (show h.2.1.length<=10^9 by omega) (show h.1.length<=10^9 by omega)];rw[show(kX ((iS h.2.1 h.1 0 h.2.2.2.1[n] h.2.2.2.2.2.2.2.2.1.2.2.1 f.1 h.2.2.2.2.2.2.2.2.2.2.1).1,h.2.1,h.2.2.1,h.2.2.2.1.set n (iS h.2.1 h.1 0 h.2.2.2.1[n] h.2.2.2.2.2.2.2.2.1.2.2.1 f.1 h.2.2.2.2.2.2.2.2.2.2.1).2,h.2.2.2.2.1,h.2.2.2.2.2.1,h.2.2.2.2.2.2.1,h.2.2.2.2.2.2.2.1,h.2.2.2.2.2.2.2.2.1,h.2.2.2.2.2.2.2.2.2.1,h.2.2.2.2.2.2.2.2.2.2.1,h.2.2.2.2.2.2.2.2.2.2.2.1,h.2.2.2.2.2.2.2.2.2.2.2.2.1,h.2.2.2.2.2.2.2.2.2.2.2.2.2.1,ak (h.2.2.2.2.2.2.2.2.2.2.2.2.2.2.1+1),h.2.2.2.2.2.2.2.2.2.2.2.2.2.2.2.1,h.2.2.2.2.2.2.2.2.2.2.2.2.2.2.2.2.1,h.2.2.2.2.2.2.2.2.2.2.2.2.2.2.2.2.2.1,ak (h.2.2.2.2.2.2.2.2.2.2.2.2.2.2.2.2.2.2+1)) (n:Int) h.2.2.2.1[n].2.1.2.2)=_ from ev,ab]
theorem Tf (h:Host)(x:Bytes)(k:xp 900000000 h)(hx:x.length<=10^9):sR h x=some (mf h x):=by
 have z:=k.z;have z1:h.1.length<=900000000:=z.1.1;have z2:h.2.1.length<=900000000:=z.2.1.1;have zf:h.2.2.2.2.2.2.2.1.2.2.length<=900000000:=z.2.2.2.2.2.2.2.1.2.2.1;have s1:h.2.2.2.2.2.2.2.2.1.1.length<=900000000:=z.2.2.2.2.2.2.2.2.1.1.1;have s2:h.2.2.2.2.2.2.2.2.1.2.1.length<=900000000:=z.2.2.2.2.2.2.2.2.1.2.1.1;have s3:h.2.2.2.2.2.2.2.2.1.2.2.2.length<=900000000:=z.2.2.2.2.2.2.2.2.1.2.2.2.1;unfold sR mf;rw[iB h (z.mono),ab,mm h (k.sz (by omega)),ab];cases hb:dw h;rfl;have hl:=lu (by grind[dw]:mV h=true);have hr:=BC hb;simp only[aj,ae,KV x hx,ab,LO h.2.2.2.2.2.2.2.1 _ (show h.2.2.2.2.2.2.2.1.2.2.length<=10^9 by omega),Rz h.2.2.2.2.2.2.2.2.1 _ _ (show h.2.2.2.2.2.2.2.2.1.1.length<=10^9 by omega) (show h.2.2.2.2.2.2.2.2.1.2.1.length<=10^9 by omega) (show h.2.2.2.2.2.2.2.2.1.2.2.2.length<=10^9 by omega)];generalize kJ x=f;cases f.2 !=0;case true=>rfl
 cases nt h.2.2.2.2.2.2.2.1 f.1;rfl;simp only[aj,ae];have lE:=RF (s:=h.2.2.2.2.2.2.2.2.1) (q:=(h.2.2.2.1.length:Int)) (p:=f.1);generalize ou h.2.2.2.2.2.2.2.2.1 (h.2.2.2.1.length:Int) f.1=r at lE⊢;rcases lE with rfl|⟨n,rfl,hn⟩;rfl;have i1:n<h.2.2.2.1.length:=by omega
 have i2:n<h.2.2.2.2.2.1.length:=by omega
 have hq:=(zA (hr n i1)).1;have hqi:=la hq;have ha:=Hw (show 1000<=900000000 by omega) (l:=h.2.1) (d:=0) (k:=h.2.2.2.2.2.2.2.2.1.2.2.1) (p:=f.1) (c:=h.2.2.2.2.2.2.2.2.2.2.1) z.1 (z.2.2.2.1.2 _ (aY i1)) hq;have ev:=L0 (h:=Br h h.2.2.2.2.2.2.2.2.2.2.2.2.2.2.2.1 h.2.2.2.2.2.2.2.2.2.2.2.2.2.2.2.2.1 h.2.2.2.2.2.2.2.2.2.2.2.2.2.2.2.2.2.1 (ak (h.2.2.2.2.2.2.2.2.2.2.2.2.2.2.2.2.2.2+1))) (k:=n) (b:=h.2.2.2.1[n].2.1.2.2) (f:=iS h.2.1 h.1 0 h.2.2.2.1[n] h.2.2.2.2.2.2.2.2.1.2.2.1 f.1 h.2.2.2.2.2.2.2.2.2.2.1) i1 i2 ha.2.2.2;rw[show((n:Int)== -1)=false from by rw[cK];omega,ar (show¬(n:Int)<0 by omega),az,al i1];simp only[ae,aW i1,ab,Ys h.2.1 h.1 0 _ _ _ _ (show h.2.1.length<=10^9 by omega) (show h.1.length<=10^9 by omega)];rw[show(ll ((iS h.2.1 h.1 0 h.2.2.2.1[n] h.2.2.2.2.2.2.2.2.1.2.2.1 f.1 h.2.2.2.2.2.2.2.2.2.2.1).1,h.2.1,h.2.2.1,h.2.2.2.1.set n (iS h.2.1 h.1 0 h.2.2.2.1[n] h.2.2.2.2.2.2.2.2.1.2.2.1 f.1 h.2.2.2.2.2.2.2.2.2.2.1).2,h.2.2.2.2.1,h.2.2.2.2.2.1,h.2.2.2.2.2.2.1,h.2.2.2.2.2.2.2.1,h.2.2.2.2.2.2.2.2.1,h.2.2.2.2.2.2.2.2.2.1,h.2.2.2.2.2.2.2.2.2.2.1,h.2.2.2.2.2.2.2.2.2.2.2.1,h.2.2.2.2.2.2.2.2.2.2.2.2.1,h.2.2.2.2.2.2.2.2.2.2.2.2.2.1,ak (h.2.2.2.2.2.2.2.2.2.2.2.2.2.2.1+1),h.2.2.2.2.2.2.2.2.2.2.2.2.2.2.2.1,h.2.2.2.2.2.2.2.2.2.2.2.2.2.2.2.2.1,h.2.2.2.2.2.2.2.2.2.2.2.2.2.2.2.2.2.1,ak (h.2.2.2.2.2.2.2.2.2.2.2.2.2.2.2.2.2.2+1)) (n:Int) h.2.2.2.1[n].2.1.2.2)=_ from ev,ab]
theorem LF {n:Nat}(hn:1000<=n)(x:Bytes)(k:xp n h):xp n (mf h x)/\(mf h x).2.2.1=h.2.2.1/\(mf h x).2.2.2.2.1.length=h.2.2.2.2.1.length:=by
 have z:=k.z;have zc:∀a b c d,xp n (Br h a b c d):=λa b c d=>⟨⟨z.1,z.2.1,z.2.2.1,z.2.2.2.1,z.2.2.2.2.1,z.2.2.2.2.2.1,z.2.2.2.2.2.2.1,z.2.2.2.2.2.2.2.1,z.2.2.2.2.2.2.2.2.1,z.2.2.2.2.2.2.2.2.2.1,z.2.2.2.2.2.2.2.2.2.2.1,z.2.2.2.2.2.2.2.2.2.2.2.1,z.2.2.2.2.2.2.2.2.2.2.2.2.1,z.2.2.2.2.2.2.2.2.2.2.2.2.2.1,cv,cv,cv,cv,cv⟩,k.t⟩
 unfold mf;cases hb:dw h;exact⟨k,rfl,rfl⟩;have hr:=BC hb;generalize kJ x=f;cases f.2 !=0;case true=>exact⟨zc ..,rfl,rfl⟩
 cases nt h.2.2.2.2.2.2.2.1 f.1;exact⟨zc ..,rfl,rfl⟩;simp only[aj,ae];generalize ou h.2.2.2.2.2.2.2.2.1 (h.2.2.2.1.length:Int) f.1=r;cases r== -1;case true=>exact⟨zc ..,rfl,rfl⟩
 simp only[ae];rcases hq:h.2.2.2.1[r.toNat]? with _|q;exact⟨k,rfl,rfl⟩;obtain⟨hi,hqe⟩:=aE.1 hq;have hqd:=(zA (hr _ hi)).1;rw[hqe]at hqd;have ha:=Hw hn (l:=h.2.1) (d:=0) (k:=h.2.2.2.2.2.2.2.2.1.2.2.1) (p:=f.1) (c:=h.2.2.2.2.2.2.2.2.2.2.1) z.1 (z.2.2.2.1.2 _ (bn hq)) hqd;have zc':=zc h.2.2.2.2.2.2.2.2.2.2.2.2.2.2.2.1 h.2.2.2.2.2.2.2.2.2.2.2.2.2.2.2.2.1 h.2.2.2.2.2.2.2.2.2.2.2.2.2.2.2.2.2.1 (ak (h.2.2.2.2.2.2.2.2.2.2.2.2.2.2.2.2.2.2+1));have kk:=F6 (h:=Br h h.2.2.2.2.2.2.2.2.2.2.2.2.2.2.2.1 h.2.2.2.2.2.2.2.2.2.2.2.2.2.2.2.2.1 h.2.2.2.2.2.2.2.2.2.2.2.2.2.2.2.2.2.1 (ak (h.2.2.2.2.2.2.2.2.2.2.2.2.2.2.2.2.2.2+1))) (k:=r.toNat) (b:=q.2.1.2.2) (f:=iS h.2.1 h.1 0 q h.2.2.2.2.2.2.2.2.1.2.2.1 f.1 h.2.2.2.2.2.2.2.2.2.2.1) ha.2.1;exact⟨⟨Pb zc'.z ha.1 ha.2.2.1,by rw[kk.tx];exact k.t⟩,kk.tx,kk.pl⟩
theorem ZG (l:au ay)(m:bD)(d:Int)(rx:bm)(pl:cM)(st:au Stream)(c:Int):(iZ l m d rx pl st c).1.length=m.length:=by grind[iZ,Zi]
def BP (b:Int)(k:Nat)(s:Int×Host):Int×Host:=
 match s.2.2.2.2.2.2.1[k]?,s.2.2.2.2.2.2.2.1[k]?,s.2.2.2.2.1[k]?,s.2.2.2.2.2.1[k]? with
 |some v,some p,some x,some pl=>
  bif p||(BX v).2 then
   (ak (s.1+(iZ s.2.2.1 s.2.1 0 x pl s.2.2.2.2.2.2.2.2.2.2.1 b).2.2.2.2),
    (iZ s.2.2.1 s.2.1 0 x pl s.2.2.2.2.2.2.2.2.2.2.1 b).1,s.2.2.1,s.2.2.2.1,s.2.2.2.2.1.set k (iZ s.2.2.1 s.2.1 0 x pl s.2.2.2.2.2.2.2.2.2.2.1 b).2.1,s.2.2.2.2.2.1.set k (iZ s.2.2.1 s.2.1 0 x pl s.2.2.2.2.2.2.2.2.2.2.1 b).2.2.1,
    s.2.2.2.2.2.2.1.set k (bif decide ((iZ s.2.2.1 s.2.1 0 x pl s.2.2.2.2.2.2.2.2.2.2.1 b).2.2.2.2<b) then Ev (BX v).1 else(BX v).1),
    s.2.2.2.2.2.2.2.1.set k (!decide ((iZ s.2.2.1 s.2.1 0 x pl s.2.2.2.2.2.2.2.2.2.2.1 b).2.2.2.2<b)),s.2.2.2.2.2.2.2.2.1,s.2.2.2.2.2.2.2.2.2.1,(iZ s.2.2.1 s.2.1 0 x pl s.2.2.2.2.2.2.2.2.2.2.1 b).2.2.2.1,s.2.2.2.2.2.2.2.2.2.2.2)
  else(s.1,s.2.1,s.2.2.1,s.2.2.2.1,s.2.2.2.2.1,s.2.2.2.2.2.1,s.2.2.2.2.2.2.1.set k (BX v).1,s.2.2.2.2.2.2.2.1.set k false,s.2.2.2.2.2.2.2.2)
 |_,_,_,_=>s
theorem VP (b:Int)(k:Nat)(s:Int×Host):kR (k+1) s.2 (BP b k s).2:=by unfold BP;rcases s.2.2.2.2.2.2.1[k]? with _|v;exact kR.refl _ _;rcases s.2.2.2.2.2.2.2.1[k]? with _|p;exact kR.refl _ _;rcases s.2.2.2.2.1[k]? with _|x;exact kR.refl _ _;rcases s.2.2.2.2.2.1[k]? with _|pl;exact kR.refl _ _;simp only;cases p||(BX v).2 with|true=>exact⟨ZG ..,rfl,rfl,aB ..,λj hj=>aR (by omega),aB ..,aB ..,λj hj=>aR (by omega),aB ..,rfl,rfl⟩|false=>exact⟨rfl,rfl,rfl,rfl,λ_ _=>rfl,rfl,aB ..,λj hj=>aR (by omega),aB ..,rfl,rfl⟩
theorem Yo (b:Int)(k:Nat)(s:Int×Host){n:Nat}(hn:1000<=n)(z:cn n dF s.2):cn (n+322000) dF (BP b k s).2:=by have z':cn (n+322000) dF s.2:=z.mono;unfold BP;rcases s.2.2.2.2.2.2.1[k]? with _|v;exact z';rcases s.2.2.2.2.2.2.2.1[k]? with _|p;exact z';rcases h1:s.2.2.2.2.1[k]? with _|x;exact z';rcases h2:s.2.2.2.2.2.1[k]? with _|pl;exact z';simp only;cases p||(BX v).2 with|true=>have hp:=Rb (by omega) (l:=s.2.2.1) (d:=0) b z.1 (z.2.2.2.1.2 _ (bn h1)) (z.2.2.2.2.1.2 _ (bn h2)) z.2.2.2.2.2.2.2.2.2.1;exact⟨hp.1.mono,z'.2.1,z'.2.2.1,pJ z'.2.2.2.1 (hp.2.1.mono),pJ z'.2.2.2.2.1 hp.2.2.1,MD z'.2.2.2.2.2.1,pJ z'.2.2.2.2.2.2.1 trivial,z'.2.2.2.2.2.2.2.1,z'.2.2.2.2.2.2.2.2.1,hp.2.2.2.1,z'.2.2.2.2.2.2.2.2.2.2⟩|false=>exact⟨z'.1,z'.2.1,z'.2.2.1,z'.2.2.2.1,z'.2.2.2.2.1,MD z'.2.2.2.2.2.1,pJ z'.2.2.2.2.2.2.1 trivial,z'.2.2.2.2.2.2.2⟩
def jG (b:Int):Nat->Host->Int×Host
 |0,h=>(0,h)
 |k+1,h=>BP b k (jG b k h)
theorem xO (b:Int)(h:Host):∀k,kR k h (jG b k h).2
 |0=>kR.refl 0 h
 |k+1=>((xO b h k).up (by omega)).trans (VP b k _)
theorem Ef (b:Int){n:Nat}(hn:1000<=n)(z:cn n dF h):∀k,cn (n+322000*k) dF (jG b k h).2
 |0=>z
 |k+1=>(Yo b k _ (by omega) (Ef b hn z k)).mono
def mi (h:Host)(b:Int):Host×Int:=bif dw h&&dy b 1 1000 then((jG b h.2.2.2.1.length h).2,(jG b h.2.2.2.1.length h).1) else(h,0)
theorem LN {n:Nat}(hn:1000<=n)(b:Int)(k:xp n h):xp (n+644000) (mi h b).1:=by unfold mi;cases hb:dw h&&dy b 1 1000 with|false=>exact k.mono|true=>simp only[ah]at hb;have hl:=lu (by grind[dw]:mV h=true);refine⟨(Ef b hn k.z _).mono,?_⟩;simp only[af];rw[(xO b h _).tx];exact aP k.t (by omega)
theorem Ls (h:Host)(b:Int)(k:xp 400000000 h):nE h b=some (mi h b):=by
 have xq:=cU;unfold nE mi;rw[iu h (k.z.mono),ab,nz h (k.sz (by omega)),ab,da];cases hb:dw h;rfl;cases hi0:dy b 1 1000;rfl;have hl:=lu (by simp only[dw,ah]at hb;exact hb.2.2.2.2.1:mV h=true);simp only[aj,ae,ab,dE,af];refine cq (λi=>((jG b i h).1,(i:Int),(jG b i h).2)) h.2.2.2.1.length (by omega) (λi nx hi=>?_) (λnx=>?_);have kk:=xO b h i;have zz:cn 500000000 dF (jG b i h).2:=(Ef b (by omega) k.z i).mono;have i1:i<(jG b i h).2.2.2.2.1.length:=by rw[kk.rx];exact hi
 have i2:i<(jG b i h).2.2.2.2.2.1.length:=by rw[kk.pl];omega
 have i3:i<(jG b i h).2.2.2.2.2.2.1.length:=by rw[kk.vec];omega
 have i4:i<(jG b i h).2.2.2.2.2.2.2.1.length:=by rw[kk.Vr];omega
 rw[show jG b (i+1) h=BP b i (jG b i h) from rfl];generalize jG b i h=s at zz i1 i2 i3 i4⊢;have gp:∀(V:au Vector)(P:au Bool),kI (s.2.1,s.2.2.1,s.2.2.2.1,s.2.2.2.2.1,s.2.2.2.2.2.1,V,P,s.2.2.2.2.2.2.2.2) (i:Int) b=some ((iZ s.2.2.1 s.2.1 0 s.2.2.2.2.1[i] s.2.2.2.2.2.1[i] s.2.2.2.2.2.2.2.2.2.2.1 b).2.2.2.2,(iZ s.2.2.1 s.2.1 0 s.2.2.2.2.1[i] s.2.2.2.2.2.1[i] s.2.2.2.2.2.2.2.2.2.2.1 b).1,s.2.2.1,s.2.2.2.1,s.2.2.2.2.1.set i (iZ s.2.2.1 s.2.1 0 s.2.2.2.2.1[i] s.2.2.2.2.2.1[i] s.2.2.2.2.2.2.2.2.2.2.1 b).2.1,s.2.2.2.2.2.1.set i (iZ s.2.2.1 s.2.1 0 s.2.2.2.2.1[i] s.2.2.2.2.2.1[i] s.2.2.2.2.2.2.2.2.2.2.1 b).2.2.1,V,P,s.2.2.2.2.2.2.2.2.1,s.2.2.2.2.2.2.2.2.2.1,(iZ s.2.2.1 s.2.1 0 s.2.2.2.2.1[i] s.2.2.2.2.2.1[i] s.2.2.2.2.2.2.2.2.2.2.1 b).2.2.2.1,s.2.2.2.2.2.2.2.2.2.2.2):=by intro V P;have BD:s.2.2.2.2.2.1[i].2.2.2.length<=500000000:=(zz.2.2.2.2.1.2 _ (aY i2)).2.2.2.1;have hm:s.2.1.length<=500000000:=zz.1.1;have hp:s.2.2.1.length<=500000000:=zz.2.1.1;unfold kI;simp only[aW i1,aW i2,ab,UU s.2.2.1 s.2.1 0 _ _ _ b (show s.2.2.1.length<=10^9 by omega) (show s.2.1.length<=10^9 by omega) BD zz.2.2.2.2.2.2.2.2.2.1,az]
 have Fv:∀V:Vector,s.2.2.2.2.2.2.1.set i V=s.2.2.2.2.2.2.1.set i V:=λ_=>rfl;unfold BP;rw[al i1,al i2,al i3,al i4];simp only[nb];rw[jy,af];simp only[aW i3,aW i4,ab,aa2,az,gp];generalize BX s.2.2.2.2.2.2.1[i]=w;generalize iZ s.2.2.1 s.2.1 0 s.2.2.2.2.1[i] s.2.2.2.2.2.1[i] s.2.2.2.2.2.2.2.2.2.2.1 b=pr;have i5:∀V:Vector,i<(s.2.2.2.2.2.2.1.set i V).length:=λV=>by rw[aB];exact i3
 have i6:∀q:Bool,i<(s.2.2.2.2.2.2.2.1.set i q).length:=λq=>by rw[aB];exact i4
 have e5:∀V:Vector,idx (s.2.2.2.2.2.2.1.set i V) (i:Int)=some V:=λV=>by rw[aW (i5 V),List.getElem_set_self]
 have e6:∀q:Bool,idx (s.2.2.2.2.2.2.2.1.set i q) (i:Int)=some q:=λq=>by rw[aW (i6 q),List.getElem_set_self]
 rw[ai (n:=(i:Int)+1) (by omega) (by omega)];have Cg:s.2.2.2.2.2.2.2.1.set i (s.2.2.2.2.2.2.2.1[i])=s.2.2.2.2.2.2.2.1:=List.set_getElem_self ..;generalize hp:s.2.2.2.2.2.2.2.1[i]=p at Cg⊢;cases hw:w.2 with
 |true=>simp only[Bool.or_true,af,e6,e5,ab,aj,ae,NS,List.set_set];cases decide (pr.2.2.2.2<b)<;>rfl
 |false=>
  simp only[Bool.or_false,ae];cases p with
  |false=>rw[Cg];rfl
  |true=>
   have e7:idx s.2.2.2.2.2.2.2.1 (i:Int)=some true:=by rw[aW i4,hp]
   simp only[af,aj,ae,e5,e7,ab,NS,List.set_set];cases decide (pr.2.2.2.2<b)with|true=>rfl|false=>simp only[ae,bS,Cg];rfl
 simp only[nb];rw[fT,ae]
theorem LU (h:Host)(b:Int)(k:xp 400000000 h):oa h b=some (mi h b):=by
 have xq:=cU;unfold oa mi;rw[iB h (k.z.mono),ab,mm h (k.sz (by omega)),ab,cx];cases hb:dw h;rfl;cases hi0:dy b 1 1000;rfl;have hl:=lu (by simp only[dw,ah]at hb;exact hb.2.2.2.2.1:mV h=true);simp only[aj,ae,ab,dE,af];refine cq (λi=>((jG b i h).1,(i:Int),(jG b i h).2)) h.2.2.2.1.length (by omega) (λi nx hi=>?_) (λnx=>?_);have kk:=xO b h i;have zz:cn 500000000 dF (jG b i h).2:=(Ef b (by omega) k.z i).mono;have i1:i<(jG b i h).2.2.2.2.1.length:=by rw[kk.rx];exact hi
 have i2:i<(jG b i h).2.2.2.2.2.1.length:=by rw[kk.pl];omega
 have i3:i<(jG b i h).2.2.2.2.2.2.1.length:=by rw[kk.vec];omega
 have i4:i<(jG b i h).2.2.2.2.2.2.2.1.length:=by rw[kk.Vr];omega
 have em:=kk.maps;rw[show jG b (i+1) h=BP b i (jG b i h) from rfl];generalize jG b i h=s at zz i1 i2 i3 i4 em⊢;have BD:s.2.2.2.2.2.1[i].2.2.2.length<=500000000:=(zz.2.2.2.2.1.2 _ (aY i2)).2.2.2.1;have hm:s.2.1.length<=500000000:=zz.1.1;have hp:s.2.2.1.length<=500000000:=zz.2.1.1;have gp:=V1 s.2.2.1 s.2.1 0 s.2.2.2.2.1[i] s.2.2.2.2.2.1[i] s.2.2.2.2.2.2.2.2.2.2.1 b (show s.2.2.1.length<=10^9 by omega) (show s.2.1.length<=10^9 by omega) BD zz.2.2.2.2.2.2.2.2.2.1;unfold BP;rw[al i1,al i2,al i3,al i4];simp only[nk];rw[jy,af,<-em];simp only[aW i1,aW i2,aW i3,aW i4,ab,acg,az,gp];generalize BX s.2.2.2.2.2.2.1[i]=w;generalize iZ s.2.2.1 s.2.1 0 s.2.2.2.2.1[i] s.2.2.2.2.2.1[i] s.2.2.2.2.2.2.2.2.2.2.1 b=pr;have i5:∀V:Vector,i<(s.2.2.2.2.2.2.1.set i V).length:=λV=>by rw[aB];exact i3
 have i6:∀q:Bool,i<(s.2.2.2.2.2.2.2.1.set i q).length:=λq=>by rw[aB];exact i4
 have e5:∀V:Vector,idx (s.2.2.2.2.2.2.1.set i V) (i:Int)=some V:=λV=>by rw[aW (i5 V),List.getElem_set_self]
 have e6:∀q:Bool,idx (s.2.2.2.2.2.2.2.1.set i q) (i:Int)=some q:=λq=>by rw[aW (i6 q),List.getElem_set_self]
 rw[ai (n:=(i:Int)+1) (by omega) (by omega)];generalize s.2.2.2.2.2.2.2.1[i]=p;cases p with|true=>simp only[jW,af,e6,e5,ab,aj,ae,OR,List.set_set];cases decide (pr.2.2.2.2<b)<;>rfl|false=>simp only[cJ,ae,e6,e5,ab,OR,List.set_set];cases w.2 with|false=>rfl|true=>simp only[aj,ae,af];cases decide (pr.2.2.2.2<b)<;>rfl
 simp only[nk];rw[ar (by have:=(xO b h h.2.2.2.1.length).rx;omega),ae]
def Kc (b:Int):Nat->Host->Host
 |0,h=>h
 |k+1,h=>(mi (Am (Kc b k h)) b).1
theorem JU {n:Nat}(hn:1000<=n)(k:xp n h):xp n (Am h):=by have:=aeU hn k.z;exact⟨this.1,by rw[this.2];exact k.t⟩
theorem Ge (b:Int){n:Nat}(hn:1000<=n)(z:xp n h):∀k,xp (n+644000*k) (Kc b k h)
 |0=>z
 |k+1=>(LN (by omega) b (JU (by omega) (Ge b hn z k))).mono
def vM (h:Host)(b r:Int):Host:=bif dw h&&(dy b 1 1000&&dy r 0 200) then Kc b r.toNat (tu (iG h)) else h
theorem Kd {n:Nat}(hn:1000<=n)(b r:Int)(z:xp n h):xp (n+128805440) (vM h b r):=by unfold vM;cases hb:dw h&&(dy b 1 1000&&dy r 0 200)with|false=>exact z.mono|true=>simp only[ah]at hb;have hr:=bl.1 hb.2.2;exact(Ge b (by omega) (Gm (by omega) (Bc (by omega) z)) r.toNat).mono
theorem QG (h:Host)(b r:Int)(k:xp 200000000 h):rr h b r=some (vM h b r):=by have xq:=cU;unfold rr vM;rw[iu h (k.z.mono),ab,nz h (k.sz (by omega)),da,da];simp only[ab];cases hb:dw h;rfl;cases hi0:dy b 1 1000;rfl;cases hi1:dy r 0 200;rfl;have hr:=bl.1 hi1;obtain⟨r,rfl⟩:=aG hr.1;have zt:=Bc (by omega) k;have zf:=Gm (by omega) zt;simp only[aj,ae,ab,dE,af,I3 h (k.mono),NM _ (zt.mono),az];refine cq (λi=>((i:Int),Kc b i (tu (iG h)))) r (by omega) (λi nx hi=>?_) (λnx=>?_);have zi:=Ge b (by omega) zf i;have z2:=JU (by omega) zi;simp only[qB];rw[jy,af,U3 _ (zi.sz (by omega)) (zi.z.mono),ab,Ls _ b (z2.mono),ab,ai (by omega) (by omega)];rfl;simp only[qB];rw[fT,ae]
theorem ab3 (h:Host)(b r:Int)(k:xp 200000000 h):wO h b r=some (vM h b r):=by have xq:=cU;unfold wO vM;rw[mm h (k.sz (by omega)),cx,cx,iB h (k.z.mono)];simp only[ab];cases hb:dw h;rfl;cases hi0:dy b 1 1000;rfl;cases hi1:dy r 0 200;rfl;have hr:=bl.1 hi1;obtain⟨r,rfl⟩:=aG hr.1;have zt:=Bc (by omega) k;have zf:=Gm (by omega) zt;simp only[aj,ae,ab,dE,af,JM h (k.mono),OI _ (zt.mono),az];refine cq (λi=>((i:Int),Kc b i (tu (iG h)))) r (by omega) (λi nx hi=>?_) (λnx=>?_);have zi:=Ge b (by omega) zf i;have z2:=JU (by omega) zi;simp only[qO];rw[jy,af,V8 _ (zi.sz (by omega)) (zi.z.mono),ab,LU _ b (z2.mono),ab,ai (by omega) (by omega)];rfl;simp only[qO];rw[fT,ae]
def txt (_:Int):Bytes:=[]
def H8:(t:CT)->t.D->Nat
 | .int _,_=>1
 | .bool,_=>1
 | .str,_=>1
 | .sl e,xs=>(xs.map (H8 e)).sum
 | .pair a b,x=>H8 a x.1+H8 b x.2
def mkL {α:Type}(f:α->Int->α)(c:α->Nat):au α->Int->au α
 |[],_=>[]
 |x::xs,k=>f x k::mkL f c xs (k+c x)
def mk:(t:CT)->t.D->Int->t.D
 | .int _,_,k=>k
 | .bool,_,k=>tmod k 3==0
 | .str,_,k=>txt k
 | .sl e,xs,k=>mkL (mk e) (H8 e) xs k
 | .pair a b,x,k=>(mk a x.1 k,mk b x.2 (k+H8 a x.1))
structure K1 (h:Host):Prop where
 pl:h.2.2.2.2.1.length<=2
 w:h.2.2.1.2.2.1.length<=16
theorem Sa (hb:dw h=true):K1 h:=by have hl:=lu (by grind[dw]:mV h=true);have ht:=Eu (t:=h.2.2.1) (by grind[dw]);exact⟨by omega,ht⟩
theorem Nf {a b:Host}(f:K1 a)(h:kR k a b):K1 b:=⟨by rw[h.pl];exact f.pl,by rw[h.tx];exact f.w⟩
theorem ac8 (f:K1 h):K1 (Am h):=by grind[Am,Nf,ov,BZ]
theorem aaq (f:K1 h):K1 (tu h):=by grind[tu,Nf,ov,ze]
theorem aar (b:Int)(f:K1 h):K1 (mi h b).1:=by grind[mi,Nf,xO]
theorem Sb (f:K1 h):K1 (iG h):=by unfold iG;cases dw h with|false=>exact f|true=>refine⟨f.pl,?_⟩;simp only[af];generalize (if(h.2.2.1.2.2.1.length:Int)<ak ((kG h.2.1 h.1 0 h.2.2.1.1).2.2.1+(kG h.2.1 h.1 0 h.2.2.1.1).2.2.2) then(h.2.2.1.2.2.1.length:Int) else ak ((kG h.2.1 h.1 0 h.2.2.1.1).2.2.1+(kG h.2.1 h.1 0 h.2.2.1.1).2.2.2))=q;unfold jK;cases JY ((kG h.2.1 h.1 0 h.2.2.1.1).1,h.2.2.1.2)&&dy q 0 (h.2.2.1.2.2.1.length:Int)with|false=>exact f.w|true=>show(h.2.2.1.2.2.1.drop q.toNat).length<=16;rw[bh];have:=f.w;omega
def xR (s:iP)(p:aD)(z:Int):iP:=bif Dy s then(s.1,s.2.1,s.2.2.1,s.2.2.2.1,s.2.2.2.2++LJ p z) else s
theorem Th (s:iP)(p:aD)(z:Int)(h:cn 100000000 lP s):uf s p z=some (xR s p z):=by have hl:=(GC p z).1;have hs:s.2.2.2.2.length<=100000000:=h.2.2.2.2.1;have h':cn 1000000000 lP s:=h.mono;simp only[uf,Eh s h',OQ s h'.1.2.2.1 h'.2.1.1.1 h'.2.1.2.1.1 h'.2.1.2.2.2.1,V5,ab,xR];grind[aQ]
theorem SI (s:iP)(p:aD)(z:Int)(h:cn 100000000 lP s):yt s p z=some (xR s p z):=by have hl:=(GC p z).1;have hs:s.2.2.2.2.length<=100000000:=h.2.2.2.2.1;have h':cn 1000000000 lP s:=h.mono;simp only[yt,Av s h',NQ s h'.1.2.2.1 h'.2.1.1.1 h'.2.1.2.1.1 h'.2.1.2.2.2.1,U0,ab,xR];grind[aQ]
theorem PV {s:iP}{n:Nat}(h:cn n lP s)(p:aD)(z:Int)(hn:382<=n):cn (n+320) lP (xR s p z):=by have hl:=GC p z;unfold xR;cases Dy s with|false=>exact h.mono|true=>have h':cn (n+320) lP s:=h.mono;refine⟨h'.1,h'.2.1,h'.2.2.1,h'.2.2.2.1,?_,λx hx=>?_⟩;have:s.2.2.2.2.length<=n:=h.2.2.2.2.1;show(s.2.2.2.2++LJ p z).length<=_;rw[aq];omega;rcases aA.1 hx with hx|hx;exact h'.2.2.2.2.2 x hx;have:=hl.2 x hx;show x.length<=_;omega
def ae5 (a:Act):ax Bool:=
 aa (aa (some (dy a.1 0 6)) λr1=>cond (!r1) (some true) (some (decide ((a.2.2.2.2.1.length:Int)>600)))) λq2=>
 cond q2 (some false) (
 aa (cond (a.1 !=0) (cond (!((a.2.1.1==0)&&((a.2.1.2.1==0)&&((a.2.1.2.2.1==0)&&((a.2.1.2.2.2.1==0)&&((a.2.1.2.2.2.2.1==0)&&((a.2.1.2.2.2.2.2.1==0)&&((a.2.1.2.2.2.2.2.2.1==0)&&((a.2.1.2.2.2.2.2.2.2.1==0)&&((a.2.1.2.2.2.2.2.2.2.2.1==0)&&((a.2.1.2.2.2.2.2.2.2.2.2.1==0)&&((a.2.1.2.2.2.2.2.2.2.2.2.2.1==0)&&((a.2.1.2.2.2.2.2.2.2.2.2.2.2.1==0)&&((a.2.1.2.2.2.2.2.2.2.2.2.2.2.2.1==0)&&((a.2.1.2.2.2.2.2.2.2.2.2.2.2.2.2.1==0)&&((a.2.1.2.2.2.2.2.2.2.2.2.2.2.2.2.2.1==0)&&((a.2.1.2.2.2.2.2.2.2.2.2.2.2.2.2.2.2==([]:Bytes))&&true))))))))))))))))) (some true) (cond (a.2.2.1 !=0) (some true) (some (a.2.2.2.1 !=0)))) (some false)) λq3=>
 cond q3 (some false) (
 aa (cond (a.1==2) (cond (a.1==5) (some true) (some (a.2.2.2.2.2==0))) (cond (a.2.2.2.2.1==([]:Bytes)) (cond (a.1==5) (some true) (some (a.2.2.2.2.2==0))) (some false))) λq4=>some q4))
theorem aab (a:Act):∃b,ae5 a=some b:=by simp_all[ae5,cw]
def Ih (a:Act):Bool:=(ae5 a).getD false
theorem Y4 (a:Act):ae5 a=some (Ih a):=by obtain⟨b,hb⟩:=aab a;simp[Ih,hb]
theorem ZR (a:Act):mJ a=some (Ih a):=by rw[<-Y4];unfold mJ;rw[cx];rfl
theorem Zs (a:Act):vc a=some (Ih a):=by rw[<-Y4];unfold vc;rw[da];rfl
def an1:Act:=(0,pk0,0,0,([]:Bytes),0)
def Wc (v:Int)(a:Act)(s:iP):iP:=
 bif !Ih a then s else bif a.1==2 then BN s a.2.2.2.2.1 else bif (a.1==0)&&(v==1) then xR s a.2.1 a.2.2.1 else s
theorem aco {v:Int}{a:Act}{s:iP}{n:Nat}(hn:382<=n)(h:cn n lP s):cn (n+322) lP (Wc v a s):=by
 have h':cn (n+322) lP s:=h.mono;unfold Wc;cases Ih a;exact h';cases a.1==2;case true=>exact S1 h
 cases (a.1==0)&&(v==1)with|true=>exact(PV h a.2.1 a.2.2.1 hn).mono|false=>exact h'
def Ym (l:au Act)(v:cL)(s:iP):Nat->iP
 |0=>s
 |i+1=>Wc (v.getD i 0) (l.getD i an1) (Ym l v s i)
theorem Js {l:au Act}{v:cL}{s:iP}{n:Nat}(hn:382<=n)(h:cn n lP s):∀i,cn (n+322*i) lP (Ym l v s i)
 |0=>h
 |i+1=>(aco (by omega) (Js hn h i)).mono
def wJ (s:iP)(l:au Act)(v:cL):iP:=
 bif !Dy s||(decide ((l.length:Int)>40)||((v.length:Int) !=(l.length:Int))) then s else Ym l v s l.length
theorem Jt {l:au Act}{v:cL}{s:iP}{n:Nat}(hn:382<=n)(h:cn n lP s):cn (n+12880) lP (wJ s l v):=by unfold wJ;cases hc: !Dy s||(decide ((l.length:Int)>40)||((v.length:Int) !=(l.length:Int)))with|true=>exact h.mono|false=>simp only[cX,cP]at hc;exact(Js hn h l.length).mono
theorem UY (s:iP)(l:au Act)(v:cL)(h:cn 10000000 lP s)(hl:cn 100000000 (.sl WH) l):AB s l v=some (wJ s l v):=by
 have z9:cn 1000000000 lP s:=h.mono;unfold AB wJ;simp only[Av s z9,NQ s z9.1.2.2.1 z9.2.1.1.1 z9.2.1.2.1.1 z9.2.1.2.2.2.1,ab];cases Dy s;rfl;cases h4:decide ((l.length:Int)>40);case true=>rfl
 cases hv:(v.length:Int) !=(l.length:Int);case true=>rfl
 have h40:l.length<=40:=by have:=dM h4;omega
 have hvl:v.length=l.length:=by simp at hv;omega
 simp only[aj,ae,ab,bF];refine cq (λi=>((i:Int),Ym l v s i)) l.length (by omega) (λi nx hi=>?_) (λnx=>?_);have hR:=(Js (l:=l) (v:=v) (show 382<=10000000 by omega) h i).mono (show 10000000+322*i<=100000000 by omega);have hx:(l[i].2.2.2.2.1).length<=100000000:=(hl.2 _ (aY hi)).2.2.2.2.1;simp only[uB];rw[jy,aW hi,ai (by omega) (by omega)];simp only[af,ab,Zs,UX _ _ hR (show(l[i].2.2.2.2.1).length<=10^9 by omega),SI _ _ _ hR,aW (show i<v.length by omega)];rw[Ym,eK hi,eK (show i<v.length by omega)];unfold Wc;cases Ih l[i]<;>cases l[i].1==2<;>cases l[i].1==0<;>cases v[i]==1<;>rfl;simp only[uB];rw[fT];rfl
theorem V4 (s:iP)(l:au Act)(v:cL)(h:cn 10000000 lP s)(hl:cn 100000000 (.sl WH) l):AO s l v=some (wJ s l v):=by
 have z9:cn 1000000000 lP s:=h.mono;unfold AO wJ;simp only[Eh s z9,OQ s z9.1.2.2.1 z9.2.1.1.1 z9.2.1.2.1.1 z9.2.1.2.2.2.1,ab];cases Dy s;rfl;cases h4:decide ((l.length:Int)>40);case true=>rfl
 cases hv:(v.length:Int) !=(l.length:Int);case true=>rfl
 have h40:l.length<=40:=by have:=dM h4;omega
 have hvl:v.length=l.length:=by simp at hv;omega
 simp only[aj,ae,ab,bF];refine cq (λi=>((i:Int),Ym l v s i)) l.length (by omega) (λi nx hi=>?_) (λnx=>?_);have hR:=(Js (l:=l) (v:=v) (show 382<=10000000 by omega) h i).mono (show 10000000+322*i<=100000000 by omega);have hx:(l[i].2.2.2.2.1).length<=100000000:=(hl.2 _ (aY hi)).2.2.2.2.1;simp only[uK];rw[jy,aW hi,ai (by omega) (by omega)];simp only[af,ab,ZR,V2 _ _ hR (show(l[i].2.2.2.2.1).length<=10^9 by omega),Th _ _ _ hR,aW (show i<v.length by omega)];rw[Ym,eK hi,eK (show i<v.length by omega)];unfold Wc;cases Ih l[i];rfl;by_cases h2:l[i].1=2;rw[h2];rfl;rw[show(l[i].1==2)=false from by simpa using h2];cases l[i].1==0<;>cases v[i]==1<;>rfl;simp only[uK];rw[fT];rfl
end
end Go.Pu
