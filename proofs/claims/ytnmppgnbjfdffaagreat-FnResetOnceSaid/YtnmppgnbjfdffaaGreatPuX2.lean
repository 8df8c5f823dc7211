import Derived.KernelRfl
import Derived.Test.YtnmppgnbjfdffaaGreatPure
import Derived.Test.YtnmppgnbjfdffaaGreatPuX1
namespace Go.Pu
open Go.Dn
open Int (tmod)
set_option linter.unusedSimpArgs false
set_option linter.unusedVariables false
noncomputable section
variable {s x:Bytes} {h:Host} {a b d i z:Int} {k n:Nat} {p:aO} {q:ca} {g:dW} {t:dB} {R α:Type} {l:aw aA} {ps:aw aO} {m:bT} {f:bT×ca} {r:ln}
/- Descriptors, rings, and the host's own writes. -/
def wrM (x:aA):aA:=(x.1,x.2.1,x.2.2.1,true)
theorem getD_map {i:Nat}(hi:i<l.length):(l.map wrM).getD i Ij=wrM (l.getD i Ij):=by rw[dg (by simpa using hi),dg hi,List.getElem_map]
theorem OC (l:aw aA):fw (l.map wrM)=fw l:=by
 unfold fw;rw[cp];congr 1;rw[dC,aI,aI];have key:∀i,i<l.length->J8 (l.map wrM) i=J8 l i:=by
  intro i hi;unfold J8;rw[getD_map hi];congr 1;rw[dC,aI,aI];constructor;intro h j hj;have hjl:j<l.length:=by have:=ch.1 hj;omega
  have:=h j hj;rw[getD_map hjl]at this;exact this;intro h j hj;have hjl:j<l.length:=by have:=ch.1 hj;omega
  rw[getD_map hjl];exact h j hj
 constructor;intro h i hi;rw[<-key i (ch.1 hi)];exact h i hi;intro h i hi;rw[key i (ch.1 hi)];exact h i hi
theorem aby (l:aw aA)(d p:Int):qQ (l.map wrM) d p true=qQ l d p false:=by
 unfold qQ;rw[List.findIdx?_map];have e:(D4 d p true∘wrM)=D4 d p false:=by funext x;simp only[Function.comp,D4,pe,wrM,cb,js,iu]
 rw[e];cases hf:l.findIdx? (D4 d p false)with|none=>rfl|some i=>obtain⟨hi,_⟩:=List.findIdx?_eq_some_iff_getElem.1 hf;simp only[getD_map hi];rfl
theorem MW (l:aw aA)(m:bT)(d:Int):∀n a r,kJ (l.map wrM) m d true n a r=kJ l m d false n a r
 |0,a,r=>rfl
 |n+1,a,r=>by simp only[kJ,aby,MW l m d n]
theorem adD (l:aw aA)(m:bT)(d a:Int)(s:Bytes):hH (l.map wrM) m d a s true=hH l m d a s false:=by
 have e:kt (l.map wrM) m d a (s.length:Int) true=kt l m d a (s.length:Int) false:=by simp only[kt,OC,MW]
 simp only[hH,e]
theorem LL (l:aw aA)(m:bT)(d a:Int)(s:Bytes)(hl:l.length<=10^9)(hm:m.length<=10^9)(ha:a<=9223372036854775807):tz l m d a s=some (hH l m d a s false):=by unfold tz;refine ew (λi=>((l.take i).map wrM,(i:Int))) l.length (by omega) (λi nx hi=>?_) (λnx=>?_);simp only[oK];rw[lE,bz hi,ak];simp only[ah,ab];rw[aR (by simp;omega),bG hi,cY];rfl;simp only[oK];rw[cW,af,dZ,FJ _ m d a s (by rw[cp];exact hl) hm ha,adD];rfl
theorem yV (l:aw aA)(m:bT)(d a:Int)(s:Bytes)(hl:l.length<=10^9)(hm:m.length<=10^9)(ha:a<=9223372036854775807:=by omega):jf l m d a s=some (hH l m d a s false):=by rw[jf,QP l m d a s false hl hm ha];rfl
def se (d:Cs):Bool:=dk d.1 0 3&&(dk d.2.1 0 3&&(dk d.2.2.1 0 65535&&(dk d.2.2.2.2.1 0 65535&&(dk d.2.2.2.2.2 0 65535&&dk d.2.2.2.1 0 4294967295))))
theorem QJ (d:Cs):vA d=some (se d):=by simp only[vA,dh,ab,se];cases dk d.1 0 3<;>cases dk d.2.1 0 3<;>cases dk d.2.2.1 0 65535<;>cases dk d.2.2.2.2.1 0 65535<;>cases dk d.2.2.2.2.2 0 65535<;>rfl
theorem abS (d:Cs):yF d=some (se d):=by simp only[yF,ed,ab,se];cases dk d.1 0 3<;>cases dk d.2.1 0 3<;>cases dk d.2.2.1 0 65535<;>cases dk d.2.2.2.2.1 0 65535<;>cases dk d.2.2.2.2.2 0 65535<;>rfl
def vV (d:Cs):Bytes:=
 bif se d then((((aK [fS d.1,fS d.2.1]++bN d.2.2.1)++iM d.2.2.2.1)++bN d.2.2.2.2.1)++bN d.2.2.2.2.2)++iM 0 else []
theorem adN (d:Cs):rA d=some (vV d):=by have h1:=bD d.2.2.1;have h2:=ef d.2.2.2.1;have h3:=bD d.2.2.2.2.1;have h4:=bD d.2.2.2.2.2;have h5:=ef 0;have h0:(aK [fS d.1,fS d.2.1]).length=2:=rfl;unfold rA vV;rw[abS,ab];cases se d;rfl;simp only[aj,af,ah,nn,pn,ab];rw[aR,aR (by simp only[ai];omega),aR (by simp only[ai];omega),aR (by simp only[ai];omega),aR (by simp only[ai];omega)]
theorem On (d:Cs):kL d=some (vV d):=by have h1:=bD d.2.2.1;have h2:=ef d.2.2.2.1;have h3:=bD d.2.2.2.2.1;have h4:=bD d.2.2.2.2.2;have h5:=ef 0;have h0:(aK [fS d.1,fS d.2.1]).length=2:=rfl;unfold kL vV;rw[QJ,ab];cases se d;rfl;simp only[aj,af,ah,kh,xN,ab];rw[aR,aR (by simp only[ai];omega),aR (by simp only[ai];omega),aR (by simp only[ai];omega),aR (by simp only[ai];omega)]
def nz (r:ln):Int:=bif cR r then aq (r.2.1-bE r) else 0
def nK (r:ln)(c:Int):Int:=bif !cR r||decide (c<0) then-1 else r.1+tmod c r.2.1*16
theorem kD (h:cR r=true):0<=r.1/\r.1<=130944/\(r.2.1=2\/r.2.1=4\/r.2.1=8\/r.2.1=16)/\0<=r.2.2.1/\r.2.2.1<=2*r.2.1-1/\0<=r.2.2.2/\r.2.2.2<=2*r.2.1-1:=by simp only[cR,ae,bf]at h;exact⟨h.1.1,h.1.2,gE.1 h.2.1,h.2.2.1.1,h.2.2.1.2,h.2.2.2.1.1,h.2.2.2.1.2⟩
theorem Cd (r:ln)(c:Int): -1<=nK r c/\nK r c<=200000:=by
 unfold nK;cases hc: !cR r||decide (c<0)with
 |true=>exact⟨dY _,by simp⟩
 |false=>
  simp only[cc,dy,cM]at hc;have h:=kD hc.1;have h2:0<=tmod c r.2.1/\tmod c r.2.1<r.2.1:=by rw[cv (by omega)];exact⟨eE _ (by omega),eH _ (by omega)⟩
  simp only[af];omega
def cK (l:aw aA)(m:bT)(d:Int)(r:ln)(s:Bytes):bT×ln×Bool:=
 bif (nz r==0)||((s.length:Int) !=16) then(m,r,false) else
 bif !(hH l m d (nK r r.2.2.2) s true).2 then(m,r,false) else
 ((hH l m d (nK r r.2.2.2) s true).1,(r.1,r.2.1,r.2.2.1,tmod (r.2.2.2+1) (2*r.2.1)),true)
theorem GU {w:Bool}(h:(hH l m d a s w).2=false):(hH l m d a s w).1=m:=by unfold hH at h⊢;cases hr:(kt l m d a (s.length:Int) w).2 with|false=>rfl|true=>rw[hr]at h;cases h
theorem G5 (r:ln):qX r=some (nz r):=by unfold qX nz;rw[KL,ab];cases cR r;rfl;simp only[aj,af,ah,Sa,ab]
theorem YN (r:ln)(c:Int):qd r c=some (nK r c):=by
 have rP:=Cd r c;unfold qd;rw[KL,ab];unfold nK at rP⊢;cases hb:cR r;rfl;have h:=kD hb;by_cases hc:c<0;rw[au hc];rfl;rw[hb,ar hc]at rP;rw[ar hc];have h2:0<=tmod c r.2.1/\tmod c r.2.1<r.2.1:=by rw[cv (by omega)];exact⟨eE _ (by omega),eH _ (by omega)⟩
 simp only[aj,af,ab,bS]at rP⊢;rw[lF,ak (n:=16*tmod c r.2.1),ak];congr 1;omega
theorem R8 (l:aw aA)(m:bT)(d:Int)(r:ln)(s:Bytes)(hl:l.length<=10^9)(hm:m.length<=10^9):wT l m d r s=some (cK l m d r s):=by
 have hA:=Cd r r.2.2.2;unfold wT cK;simp only[G5,ab,YN,FJ l m d _ s hl hm (show nK r r.2.2.2<=9223372036854775807 by omega),Aq m (show m.length<=1073741824 by omega)];cases hf:nz r==0;case true=>rfl
 cases (s.length:Int) !=16;case true=>rfl
 have hb:cR r=true:=by cases hb:cR r with|true=>rfl|false=>unfold nz at hf;rw[hb]at hf;cases hf
 have h:=kD hb;simp only[af,ab,bS];cases hp:(hH l m d (nK r r.2.2.2) s true).2 with|false=>simp only[cb,ah,GU hp]|true=>simp only[aj,af];rw[ak (n:=2*r.2.1),lF,ak (n:=r.2.2.2+1)]
theorem Mw (r:ln):qK r=some (nz r):=by unfold qK nz;rw[vz,ab];cases cR r;rfl;simp only[aj,af,ah,xL,ab]
theorem MB (r:ln)(c:Int):mq r c=some (nK r c):=by
 have rP:=Cd r c;unfold mq;rw[vz,ab];unfold nK at rP⊢;cases hb:cR r;rfl;have h:=kD hb;by_cases hc:c<0;rw[au hc];rfl;rw[hb,ar hc]at rP;rw[ar hc];have h2:0<=tmod c r.2.1/\tmod c r.2.1<r.2.1:=by rw[cv (by omega)];exact⟨eE _ (by omega),eH _ (by omega)⟩
 simp only[aj,af,ab,bS]at rP⊢;rw[lF,ak (n:=tmod c r.2.1*16),ak]
theorem Hz (l:aw aA)(m:bT)(d:Int)(r:ln)(s:Bytes)(hl:l.length<=10^9)(hm:m.length<=10^9):sY l m d r s=some (cK l m d r s):=by
 have hA:=Cd r r.2.2.2;unfold sY cK;simp only[Mw,ab,MB,Af l m d _ s hl hm (show nK r r.2.2.2<=9223372036854775807 by omega),fJ m (show m.length<=1073741824 by omega)];cases hf:nz r==0;case true=>rfl
 cases (s.length:Int) !=16;case true=>rfl
 have hb:cR r=true:=by cases hb:cR r with|true=>rfl|false=>unfold nz at hf;rw[hb]at hf;cases hf
 have h:=kD hb;simp only[af,ab,bS];cases hp:(hH l m d (nK r r.2.2.2) s true).2 with|false=>simp only[cb,ah,GU hp]|true=>simp only[aj,af];rw[ak (n:=2*r.2.1),lF,ak (n:=r.2.2.2+1)]
theorem wO {p:df}(h:dw p=true):0<=p.1/\p.1<=130944/\1<=p.2.1/\p.2.1<=512/\0<=p.2.2.1/\p.2.2.1<=16:=by simp only[dw,ae,bf]at h;exact⟨h.1.1,h.1.2,h.2.1.1,h.2.1.2,h.2.2.1.1,h.2.2.1.2⟩
def nw (p:df)(i:Int):Int:=bif !dw p|| !dk i 0 (p.2.2.1-1) then-1 else p.1+i*p.2.1
theorem Vt {p:df}(hp:dw p=true)(hi:dk i 0 (p.2.2.1-1)=true):aq (p.1+aq (i*p.2.1))=p.1+i*p.2.1:=by have h:=wO hp;have h2:=bf.1 hi;have h3:0<=i*p.2.1:=Int.mul_nonneg h2.1 (by omega);have h4:i*p.2.1<=16*512:=Int.mul_le_mul (by omega) (by omega) (by omega) (by omega);rw[ak (n:=i*p.2.1),ak]
theorem abR (p:df)(i:Int)(h:p.2.2.2.length<=10^9):np p i=some (nw p i):=by unfold np nw;rw[FM p h,ab];cases hp:dw p;rfl;have rP:=wO hp;rw[ak (n:=p.2.2.1-1),ed];cases hi:dk i 0 (p.2.2.1-1);rfl;simp only[aj,af,ab,bS,Vt hp hi]
theorem E3 (p:df)(i:Int)(h:p.2.2.2.length<=10^9):fH p i=some (nw p i):=by unfold fH nw;rw[sM p h,ab];cases hp:dw p;rfl;have rP:=wO hp;rw[ak (n:=p.2.2.1-1),dh];cases hi:dk i 0 (p.2.2.1-1);rfl;simp only[aj,af,ab,bS,Vt hp hi]
def upto (n:Nat):cP:=(List.range n).map Int.ofNat
theorem Nf (n:Nat):upto (n+1)=upto n++[(n:Int)]:=by simp[upto,List.range_succ]
theorem acw {i:Nat}(h:i<n):(upto n).getD i 0=(i:Int):=by rw[dg (by simpa[upto]using h)];simp[upto]
theorem UI (a b:Int)(n:Nat)(hn:n<=16):dw (a,b,(n:Int),upto n)=dw (a,b,(n:Int),[]):=by
 unfold dw;congr 3;have h1:(List.range (upto n).length).all (BD (n:Int) (upto n))=true:=by
  rw[aI];intro i hi;have hi:i<n:=by simpa[upto]using hi
  simp only[BD,acw hi,ae,bf,aL];refine⟨by omega,?_⟩;rw[Bool.eq_false_iff,ne_eq,List.contains_iff_mem];intro hm;simp only[upto,<-List.map_take,List.mem_map]at hm;obtain⟨j,hj,he⟩:=hm;rw[List.take_range]at hj;have:=ch.1 hj;have:(j:Int)=(i:Int):=he;omega
 rw[h1];rfl
def gT (a b n:Int):df×Bool:=bif dw (a,b,n,[]) then((a,b,n,upto n.toNat),true) else((0,0,0,[]),false)
theorem Hx (a b n:Int):sU a b n=some (gT a b n):=by
 unfold sU gT;rw[sM _ (by simp),ab];cases hp:dw (a,b,n,[]);rfl;have rP:=wO hp;obtain⟨n,rfl⟩:=aV (show 0<=n from rP.2.2.2.2.1);have Zi:n<=16:=by have:=rP.2.2.2.2.2;simp only at this;omega
 simp only[aj,af,ah,az];refine ew (λi=>((i:Int),a,b,(n:Int),upto i)) n (by omega) (λi nx hi=>?_) (λnx=>?_);simp only[ri];rw[lE,aR (by simp[upto];omega),ak,Nf];rfl;simp only[ri];rw[cW];rfl
theorem HO (a b n:Int):tB a b n=some (gT a b n):=by
 have Ab:=dR;unfold tB gT;by_cases hn:0<=n/\n<=16;obtain⟨n,rfl⟩:=aV hn.1;have Zi:n<=16:=by omega
 refine ew (λi=>((i:Int),a,b,(n:Int),upto i)) n (by omega) (λi nx hi=>?_) (λnx=>?_);simp only[nL];rw[au (show(i:Int)<n by omega),au (show(n:Int)<=16 by omega)];simp only[ah,ab];rw[aR (by simp[upto];omega),ak,Nf];rfl;simp only[nL];rw[ar (show¬(n:Int)<n by omega)];simp only[af,ab,FM (a,b,(n:Int),upto n) (show(upto n).length<=10^9 by simp[upto];omega),UI a b n Zi,az];cases dw (a,b,(n:Int),[])<;>rfl;have hb:dw (a,b,n,[])=false:=by cases hp:dw (a,b,n,[])with|false=>rfl|true=>have:=wO hp;exact absurd ⟨this.2.2.2.2.1,this.2.2.2.2.2⟩ hn
 obtain⟨f,hf⟩:∃f,fuel=f+1:=⟨fuel-1,by omega⟩
 rw[hf,aW];simp only[nL];have hc:(cond (decide ((0:Int)<n)) (some (decide (n<=16))) (some false))=some false:=by by_cases h0:(0:Int)<n;rw[au h0,cW];rfl;rw[ar h0];rfl
 rw[hc];simp only[ab,af,FM (a,b,n,[]) (show([]:cP).length<=10^9 by simp),hb];rfl
def eM (p:df)(b:Int):Bytes:=vV (3,0,p.2.1,nw p b,0,b)
def lD (l:aw aA)(d:Int)(p:df):cP->bT->ln->Nat×bT×ln
 |[],m,r=>(0,m,r)
 |b::q,m,r=>bif (cK l m d r (eM p b)).2.2 then
   ((lD l d p q (cK l m d r (eM p b)).1 (cK l m d r (eM p b)).2.1).1+1,(lD l d p q (cK l m d r (eM p b)).1 (cK l m d r (eM p b)).2.1).2)
  else(0,m,r)
theorem tr (l:aw aA)(m:bT)(d:Int)(r:ln)(s:Bytes):(cK l m d r s).1.length=m.length:=by
 unfold cK;cases (nz r==0)||((s.length:Int) !=16);case true=>rfl
 cases (hH l m d (nK r r.2.2.2) s true).2 with|false=>rfl|true=>exact jD ..
theorem Gj (l:aw aA)(d:Int)(p:df):∀(q:cP)(m:bT)(r:ln),(lD l d p q m r).2.1.length=m.length/\(lD l d p q m r).1<=q.length
 |[],m,r=>⟨rfl,aS _⟩
 |b::q,m,r=>by rw[lD];cases (cK l m d r (eM p b)).2.2 with|false=>exact⟨rfl,bP _⟩|true=>have:=Gj l d p q (cK l m d r (eM p b)).1 (cK l m d r (eM p b)).2.1;simp only[ah,bq];exact⟨by rw[this.1,tr],by omega⟩
theorem aau (r:ln):0<=nz r:=by
 unfold nz;cases hb:cR r with
 |false=>exact dY _
 |true=>
  have h:=kD hb;simp only[cR,ae,aC]at hb;have hu:=hb.2.2.2.2;have h0:0<=bE r:=by unfold bE;split;exact eE _ (by omega);exact dY _
  simp only[ah];rw[ak];omega
theorem ON (h:¬nz r>0):cK l m d r s=(m,r,false):=by
 have h0:=aau r;have:nz r=0:=by omega
 unfold cK;rw[this];rfl
theorem E5 (K:Int->Int->ln->bT->ay R)(K':Nat->ln->bT->ay R)(hK:∀(c:Nat) i r m,K (c:Int) i r m=K' c r m)(l:aw aA)(d:Int)(p p2 p3:df)(hp:p.2.2.2.length<=10^9)(hl:l.length<=10^9):∀(rest pre:cP)(m:bT)(r:ln)(f:Nat),rest.length<f->pre.length+rest.length<=10^9->m.length<=10^9->
 aW (mh K l d (pre++rest) ((pre++rest).length:Int) p ([]:bT) (0,0,0,0) p2 p3) f ((pre.length:Int),(pre.length:Int),r,m)=K' (pre.length+(lD l d p rest m r).1) (lD l d p rest m r).2.2 (lD l d p rest m r).2.1
 |rest,pre,m,r,0,hf,_,_=>by omega
 |[],pre,m,r,f+1,_,_,_=>by rw[aW];simp only[mh];rw[ar (by simp),af,hK];rfl
 |b::q,pre,m,r,f+1,hf,hn,hm=>by
  simp only[bq]at hf hn;have hi:pre.length<(pre++b::q).length:=by simp
  have hb:(pre++b::q)[pre.length]=b:=by simp
  rw[aW];simp only[mh];rw[au (by simp;omega),bz hi,hb];simp only[ah,ab,E3 p b hp,On,Hz l m d r _ hl hm];rw[show vV (3,0,p.2.1,nw p b,0,b)=eM p b from rfl,lD];cases hq:(cK l m d r (eM p b)).2.2 with
  |false=>simp only[cb,ah,af,hK,dK]
  |true=>
   simp only[aj,af,ah];rw[ak (n:=(pre.length:Int)+1)];have key:=E5 K K' hK l d p p2 p3 hp hl q (pre++[b]) (cK l m d r (eM p b)).1 (cK l m d r (eM p b)).2.1 f (by omega) (by simp;omega) (by rw[tr];exact hm);have el:((pre++[b]).length:Int)=(pre.length:Int)+1:=by simp
   have el2:(pre++[b]).length=pre.length+1:=by simp
   rw[aJ,List.singleton_append,el,el2]at key;rw[show pre.length+((lD l d p q (cK l m d r (eM p b)).1 (cK l m d r (eM p b)).2.1).1+1)=pre.length+1+(lD l d p q (cK l m d r (eM p b)).1 (cK l m d r (eM p b)).2.1).1 by omega];exact key
theorem FL (K:Int->ln->bT->df->ay R)(l:aw aA)(d:Int)(p p2:df)(hp:p.2.2.2.length<=10^9)(hl:l.length<=10^9)(A B C:Int):∀(rest:cP)(c:Nat)(m:bT)(r:ln)(f:Nat),rest.length<f->c+rest.length<=10^9->m.length<=10^9->
 aW (mH K l d p ([]:bT) (0,0,0,0) p2) f ((c:Int),r,m,A,B,C,rest)=K ((c+(lD l d p rest m r).1:Nat):Int) (lD l d p rest m r).2.2 (lD l d p rest m r).2.1 (A,B,C,rest.drop (lD l d p rest m r).1)
 |rest,c,m,r,0,hf,_,_=>by omega
 |[],c,m,r,f+1,_,_,_=>by
  rw[aW];simp only[mH,G5,ab];have hc:(cond (decide (nz r>0)) (some (decide ((([]:cP).length:Int)>0))) (some false))=some false:=by cases decide (nz r>0)<;>rfl
  rw[hc];rfl
 |b::q,c,m,r,f+1,hf,hn,hm=>by
  simp only[bq]at hf hn;rw[aW];simp only[mH,G5,ab];by_cases hr:nz r>0;rw[au hr,au (show(((b::q).length:Nat):Int)>0 by simp)];have hi:idx (b::q) 0=some b:=rfl;have hs:sub (b::q) 1 ((b::q).length:Int)=some q:=by unfold sub;rw[aF (by simp;omega)];simp
  simp only[ah,ab,hi,abR p b hp,adN,R8 l m d r _ hl hm];rw[show vV (3,0,p.2.1,nw p b,0,b)=eM p b from rfl,lD];cases hq:(cK l m d r (eM p b)).2.2 with|false=>rfl|true=>simp only[aj,af,ah,hs,ab];rw[mC (by omega),ak (n:=(c:Int)+1),cA];have key:=FL K l d p p2 hp hl A B C q (c+1) (cK l m d r (eM p b)).1 (cK l m d r (eM p b)).2.1 f (by omega) (by omega) (by rw[tr];exact hm);rw[show((c+1:Nat):Int)=(c:Int)+1 by omega]at key;refine Eq.trans key ?_;rw[show c+1+(lD l d p q (cK l m d r (eM p b)).1 (cK l m d r (eM p b)).2.1).1=c+((lD l d p q (cK l m d r (eM p b)).1 (cK l m d r (eM p b)).2.1).1+1) by omega];rfl
  rw[ar hr,lD,ON hr];rfl
def sI (l:aw aA)(m:bT)(d:Int)(r:ln)(p:df):bT×ln×df×Int:=
 bif !cR r|| !dw p then(m,r,p,0) else
 ((lD l d p p.2.2.2 m r).2.1,(lD l d p p.2.2.2 m r).2.2,(p.1,p.2.1,p.2.2.1,p.2.2.2.drop (lD l d p p.2.2.2 m r).1),((lD l d p p.2.2.2 m r).1:Int))
theorem QL (l:aw aA)(m:bT)(d:Int)(r:ln)(p:df)(hl:l.length<=10^9)(hm:m.length<=10^9)(hp:p.2.2.2.length<=10^9):hU l m d r p=some (sI l m d r p):=by have Ab:=dR;unfold hU sI;simp only[fJ m (show m.length<=1073741824 by omega),sc p hp,vz,sM p hp,ab];cases cR r;rfl;cases dw p;rfl;simp only[aj,af,ab,bS];have hlen:=(Gj l d p p.2.2.2 m r).2;refine(E5 _ (λc r m=>aa (sub p.2.2.2 (c:Int) (p.2.2.2.length:Int)) λx14=>aa (fC x14) λyZ=>some (m,r,(p.1,p.2.1,p.2.2.1,yZ),(c:Int))) (λ_ _ _ _=>rfl) l d p _ p hp hl p.2.2.2 [] m r fuel (by omega) (by simp;omega) hm).trans ?_;rw[eG,cl,Pd _ _ _ hlen (aS _),ab,bL (by rw[aN];exact aS _),jR _ (by rw[aN];omega)];rfl
theorem abT (l:aw aA)(m:bT)(d:Int)(r:ln)(p:df)(hl:l.length<=10^9)(hm:m.length<=10^9)(hp:p.2.2.2.length<=10^9):vg l m d r p=some (sI l m d r p):=by have Ab:=dR;unfold vg sI;simp only[Aq m (show m.length<=1073741824 by omega),Uc p hp,KL,FM p hp,ab];cases cR r;rfl;cases dw p;rfl;simp only[aj,af,ab,bS];refine(FL _ l d p _ hp hl p.1 p.2.1 p.2.2.1 p.2.2.2 0 m r fuel (by omega) (by omega) hm).trans ?_;rw[cl]
def jH (p:df)(n:Int):df×cP×Bool:=bif dw p&&dk n 0 (p.2.2.2.length:Int) then((p.1,p.2.1,p.2.2.1,p.2.2.2.drop n.toNat),p.2.2.2.take n.toNat,true) else(p,[],false)
theorem Xz (p:df)(n:Int)(h:p.2.2.2.length<=10^9):pR p n=some (jH p n):=by unfold pR jH;rw[sc p h,ab,sM p h,ab,dh];cases dw p;rfl;cases hi:dk n 0 (p.2.2.2.length:Int);rfl;have hn:=bf.1 hi;obtain⟨n,rfl⟩:=aV hn.1;simp only[aj,af,ab,eS,ah,az];rw[Se _ n (by omega),ab,jR _ (by simp;omega),ab,show sub p.2.2.2 0 (n:Int)=some (p.2.2.2.take n) from by rw[xg (by omega) hn.2,az],ab,jR _ (by simp;omega),ab]
theorem Bm:∀l:aw lZ,(∀x∈l,0<=x.2.1/\x.2.1<=16)->0<=dE l/\dE l<=16*(l.length:Int)
 |[],_=>by simp[dE]
 |y::l,h=>by have h1:=Bm l (λx hx=>h x (eL _ hx));have h2:=h y (List.mem_cons_self ..);simp only[dE,cD,List.sum_cons,bq]at h1⊢;omega
theorem S4 (l:aw lZ)(i:Nat)(hi:i<l.length):dE (l.take (i+1))=dE (l.take i)+l[i].2.1:=by rw[bG hi];simp only[dE,cY,List.sum_append,cD,List.map_nil,List.sum_cons,List.sum_nil,Int.add_zero]
theorem Xv (t:dB)(h:t.2.2.1.length<=1000000)(hs:∀x∈t.2.2.1,0<=x.2.1/\x.2.1<=16):oI t=some (dE t.2.2.1):=by
 have Ab:=dR;unfold oI;refine ew (λi=>(dE (t.2.2.1.take i),(i:Int))) t.2.2.1.length (by omega) (λi nx hi=>?_) (λnx=>?_);have hb:=Bm (t.2.2.1.take i) (λx hx=>hs x (List.mem_of_mem_take hx));have hc:=hs _ (bC hi);have hl:(t.2.2.1.take i).length<=1000000:=by rw[aX];omega
 rw[S4 _ _ hi];simp only[kZ];rw[lE,ah,bz hi,ab,ak (n:=(i:Int)+1),ak];rfl;simp only[kZ];rw[cW,af,dZ]
def qa (l:aw aA)(d:Int):bT->bT->ln->ay (bT×ln)
 |[],m,r=>some (m,r)
 |s::q,m,r=>bif (cK l m d r s).2.2 then qa l d q (cK l m d r s).1 (cK l m d r s).2.1 else none
def aez (m:bT)(r:ln):ay (bT×ln)->bT×ln×Bool
 |some x=>(x.1,x.2,true)
 |none=>(m,r,false)
def rr (l:aw aA)(m:bT)(d:Int)(r:ln)(q:bT):bT×ln×Bool:=aez m r (qa l d q m r)
theorem HH (l:aw aA)(d:Int):∀(q:bT)(m:bT)(r:ln){x},qa l d q m r=some x->x.1.length=m.length
 |[],m,r,x,h=>by cases h;rfl
 |s::q,m,r,x,h=>by rw[qa]at h;cases hq:(cK l m d r s).2.2 with|false=>rw[hq]at h;cases h|true=>rw[hq]at h;exact(HH l d q _ _ h).trans (tr ..)
theorem BP (l:aw aA)(d:Int)(M:bT)(A B2:ln)(B1:bT)(hl:l.length<=10^9)(hM:M.length<=10^9):∀(rest pre:bT)(m:bT)(r:ln)(f:Nat),rest.length<f->(pre++rest).length<=10^9->m.length<=10^9->
 aW (km (λ_ y6 y7=>some (y6,y7,true)) (λy8 _ Cq Bh _ _=>some (Cq,Bh,y8)) l d false (pre++rest) ((pre++rest).length:Int) M A B1 B2) f ((pre.length:Int),m,r)=some (aez M A (qa l d rest m r))
 |rest,pre,m,r,0,hf,_,_=>by omega
 |[],pre,m,r,f+1,_,_,_=>by rw[aW];simp only[km];rw[ar (by simp),af];rfl
 |s::q,pre,m,r,f+1,hf,hn,hm=>by
  simp only[bq,ai]at hf hn;have hi:pre.length<(pre++s::q).length:=by simp
  have hb:(pre++s::q)[pre.length]=s:=by simp
  rw[aW];simp only[km];rw[au (by simp;omega),bz hi,hb];simp only[ah,ab,Hz l m d r _ hl hm];rw[qa];cases hq:(cK l m d r s).2.2 with
  |false=>simp only[cb,ah,af,fJ M,ab];rfl
  |true=>
   simp only[aj,af,ah];rw[ak (n:=(pre.length:Int)+1)];have key:=BP l d M A B2 B1 hl hM q (pre++[s]) (cK l m d r s).1 (cK l m d r s).2.1 f (by omega) (by simp;omega) (by rw[tr];exact hm);have el:((pre++[s]).length:Int)=(pre.length:Int)+1:=by simp
   rw[aJ,List.singleton_append,el]at key;exact key
theorem TZ (l:aw aA)(m:bT)(d:Int)(r:ln)(q:bT)(hl:l.length<=10^9)(hm:m.length<=10^9)(hq:q.length<=10^9):ju l m d r q=some (rr l m d r q):=by have Ab:=dR;unfold ju rr;rw[fJ m,ab];exact BP l d m r _ _ hl hm q [] m r fuel (by omega) (by simpa using hq) hm
theorem Kl (l:aw aA)(m:bT)(d:Int)(w:Bool):∀(n a r:Nat)(q:aw (Int×Int)),kJ l m d w n a r=some q->q.length<=n
 |0,a,r,q,h=>by simp only[kJ,aZ]at h;subst h;simp
 |n+1,a,r,q,h=>by simp only[kJ]at h;split at h;simp only[aZ]at h;subst h;simp;split at h;simp only[Option.map_eq_some_iff]at h;obtain⟨q',h1,rfl⟩:=h;have:=Kl l m d w n _ _ q' h1;simp only[bq];omega;cases h
theorem G1 (l:aw aA)(m:bT)(d a n:Int)(w:Bool):(kt l m d a n w).1.length<=4096:=by
 unfold kt;cases hB:fw l&&(cB m&&dk n 0 4096);simp;simp only[ae,bf]at hB;simp only[ah];cases n==0;case true=>simp
 cases decide (a<0);case true=>simp
 simp only[af];split;rename_i q hq;have:=Kl _ _ _ _ _ _ _ _ hq;show q.length<=4096;omega;simp
def uo (m:bT)(p:Int×Int):Bytes:=bif gk m p.1 p.2 then zJ m p.1.toNat p.2.toNat else []
theorem Dt (m:bT)(p:Int×Int):(uo m p).length<=8192:=by unfold uo;cases h:gk m p.1 p.2 with|false=>simp|true=>simp only[gk,ae,aC]at h;have:=abF m p.1.toNat p.2.toNat;have:=(mem_iff.1 h.1).2;simp only[ah];omega
theorem tu (m:bT):∀q:aw (Int×Int),(q.flatMap (uo m)).length<=8192*q.length
 |[]=>by simp
 |p::q=>by have:=tu m q;have:=Dt m p;simp only[List.flatMap_cons,ai,bq];omega
def qu (l:aw aA)(m:bT)(d a n:Int):Bytes×Bool:=
 bif (kt l m d a n false).2 then((kt l m d a n false).1.flatMap (uo m),true) else([],false)
theorem N2 {β:Type}(g:α->aw β)(l:aw α)(i:Nat)(hi:i<l.length):(l.take (i+1)).flatMap g=(l.take i).flatMap g++g l[i]:=by rw[bG hi,List.flatMap_append];simp
theorem yu (l:aw aA)(m:bT)(d a n:Int)(hl:l.length<=10^9)(hm:m.length<=10^9)(ha:a<=9223372036854775807):mU l m d a n=some (qu l m d a n):=by
 unfold mU qu;rw[QQ l m d a n false hl hm ha,ab];have hL:=G1 l m d a n false;generalize kt l m d a n false=r at hL⊢;cases hr:r.2;rfl;simp only[aj,af,ah];refine(ew (λi=>((r.1.take i).flatMap (uo m),(i:Int))) r.1.length (by omega) (λi nx hi=>?_) (λnx=>?_));simp only[rf];rw[lE,bz hi,ak];have e:nD m r.1[i].1 r.1[i].2=some (uo m r.1[i],gk m r.1[i].1 r.1[i].2):=by rw[aa3 m _ _ hm,uo];cases gk m r.1[i].1 r.1[i].2<;>rfl
 have h1:=tu m (r.1.take i);have h2:=Dt m r.1[i];simp only[ah,ab,e];rw[aR (by rw[aX]at h1;omega),<-N2];rfl;simp only[rf];rw[cW,dZ];rfl
theorem Jd (l:aw aA)(m:bT)(d a n:Int):(qu l m d a n).1.length<=100000000:=by have hL:=G1 l m d a n false;have h1:=tu m (kt l m d a n false).1;unfold qu;cases (kt l m d a n false).2 with|false=>simp|true=>simp only[ah];omega
def zU (s:Bytes):DE×Int×Bool:=
 bif ((s.length:Int) !=16)||decide (fA s 12>1) then((0,0,0,0,0),0,false) else((cd s 0,cd s 2,cd s 4,cd s 6,fA s 8),fA s 12,true)
theorem TS (s:Bytes)(h:s.length<=10^9):ky s=some (zU s):=by
 unfold ky zU;cases (s.length:Int) !=16;case true=>rfl
 simp only[ue s _ h,xq s _ h,ab,af,cC];cases decide (fA s 12>1)<;>rfl
def xS (q:K7):Int:=bif decide (q.2.2<q.2.1) then 1 else 0
theorem My (q:K7):ti q=some (xS q):=by unfold ti xS;cases decide (q.2.2<q.2.1)<;>rfl
theorem tt {q:K7}(h:fE q=true):0<=q.1/\q.1<=130944/\(q.2.1=2\/q.2.1=4\/q.2.1=8\/q.2.1=16)/\0<=q.2.2/\q.2.2<=2*q.2.1-1:=by simp only[fE,ae,bf]at h;obtain⟨h1,h2,h3⟩:=h;rw[xv h2]at h3;exact⟨h1.1,h1.2,gE.1 h2,h3⟩
def qt (q:K7):Int:=q.1+tmod q.2.2 q.2.1*16
theorem Ph (h:0<=a:=by omega)(hb:0<b:=by omega):0<=tmod a b/\tmod a b<b:=by rw[cv h];exact⟨eE _ (by omega),eH _ hb⟩
theorem OY {q:K7}(h:fE q=true):0<=tmod q.2.2 q.2.1/\tmod q.2.2 q.2.1<16:=by obtain⟨_,_,h3,h4,h5⟩:=tt h;have:=Ph h4 (show 0<q.2.1 by omega);omega
theorem MC (q:K7)(h:fE q=true):mw q=some (qt q):=by obtain⟨h1,h2,h3,h4,h5⟩:=tt h;have:=OY h;unfold mw qt;rw[lF,ak (n:=tmod q.2.2 q.2.1*16),ak]
def aey (q:K7):K7:=(q.1,q.2.1,tmod (q.2.2+1) (2*q.2.1))
def OG (l:aw aA)(m:bT)(d:Int)(q:K7):Bool:=
 fE q&&((qu l m d (qt q) 16).2&&((zU (qu l m d (qt q) 16).1).2.2&&((zU (qu l m d (qt q) 16).1).2.1==xS q)))
def qs (l:aw aA)(m:bT)(d:Int)(q:K7):DE×K7×Bool:=
 bif OG l m d q then((zU (qu l m d (qt q) 16).1).1,aey q,true) else((0,0,0,0,0),q,false)
theorem aa0 (l:aw aA)(m:bT)(d:Int)(q:K7)(hl:l.length<=10^9)(hm:m.length<=10^9):lP l m d q=some (qs l m d q):=by unfold lP qs OG;rw[Gt q,ab];cases hq:fE q;rfl;obtain⟨h1,h2,h3,h4,h5⟩:=tt hq;have hs:=OY hq;have hd:=Jd l m d (qt q) 16;simp only[aj,af,MC q hq,ab,yu l m d (qt q) 16 hl hm (by unfold qt;omega),bF];cases (qu l m d (qt q) 16).2;rfl;simp only[aj,af,TS _ (bk hd (by omega)),ab,bF];cases (zU (qu l m d (qt q) 16).1).2.2;rfl;simp only[aj,af,My,ab,bF,bne];cases (zU (qu l m d (qt q) 16).1).2.1==xS q;rfl;simp only[aj,af,ah];rw[ak (n:=2*q.2.1),lF,ak (n:=q.2.2+1)];rfl
theorem acN (p:df)(i:Int):nw p i= -1\/(0<=nw p i/\nw p i<=200000):=by unfold nw;cases hp:dw p;exact .inl rfl;cases hi:dk i 0 (p.2.2.1-1);exact .inl rfl;have h:=wO hp;have h2:=bf.1 hi;have h3:0<=i*p.2.1:=Int.mul_nonneg h2.1 (by omega);have h4:i*p.2.1<=16*512:=Int.mul_le_mul (by omega) (by omega) (by omega) (by omega);simp only[aj,bS,af];exact .inr (by omega)
def afb (l:aw aA)(m:bT)(d a n:Int):Bool:=(qu l m d a n).2&&((jF (qu l m d a n).1).2==0)
def B4 (l:aw aA)(m:bT)(d:Int)(s:aw Stream×ca×df):aw Stream×ca×df:=
 ((bif afb l m d (nw s.2.2 (qs l m d s.2.1.2.2.1).1.1) (qs l m d s.2.1.2.2.1).1.2.1 then Bt s.1 (jF (qu l m d (nw s.2.2 (qs l m d s.2.1.2.2.1).1.1) (qs l m d s.2.1.2.2.1).1.2.1).1).1 else s.1),
   (s.2.1.1,s.2.1.2.1,(qs l m d s.2.1.2.2.1).2.1,s.2.1.2.2.2),(DU s.2.2 [(qs l m d s.2.1.2.2.1).1.1]).1)
def jC (l:aw aA)(m:bT)(d:Int):Nat->aw Stream×ca×df->Nat×(aw Stream×ca×df)
 |0,s=>(0,s)
 |k+1,s=>bif !(qs l m d s.2.1.2.2.1).2.2 then(0,s) else((jC l m d k (B4 l m d s)).1+1,(jC l m d k (B4 l m d s)).2)
structure F9 (n:Nat) (s:List Stream×ca×df):Prop where
 st:cX n (.sl dM) s.1
 pl:s.2.2.2.2.2.length<=n
theorem Qh (p:df)(l:cP):(DU p l).1.2.2.2.length<=p.2.2.2.length+l.length:=by unfold DU;cases zn p l with|false=>show p.2.2.2.length<=_;omega|true=>simp[gh]
theorem Kr {s:aw Stream×ca×df}(h:F9 n s):F9 (n+322) (B4 l m d s):=by
 refine⟨?_,?_⟩;unfold B4;cases afb l m d (nw s.2.2 (qs l m d s.2.1.2.2.1).1.1) (qs l m d s.2.1.2.2.1).1.2.1 with|false=>exact h.st.mono|true=>exact NU h.st
 have:=Qh s.2.2 [(qs l m d s.2.1.2.2.1).1.1];have h2:=h.pl;show(DU s.2.2 [(qs l m d s.2.1.2.2.1).1.1]).1.2.2.2.length<=_;simp only[bw]at this;omega
theorem E9 (K:aw Stream->Int->ca->df->ay R)(l:aw aA)(m:bT)(d:Int)(N:Nat)(hN:N<=1000)(B1:bT)(B2:ca)(B3:df)(hl:l.length<=10^9)(hm:m.length<=10^9):∀(k i:Nat)(s:aw Stream×ca×df)(f:Nat),i+k=N->k<f->F9 (500000000+322*i) s->
 aW (kX K l d (N:Int) B1 B2 B3 m) f (s.1,(i:Int),s.2.1,s.2.2)=K (jC l m d k s).2.1 ((i+(jC l m d k s).1:Nat):Int) (jC l m d k s).2.2.1 (jC l m d k s).2.2.2
 |k,i,s,0,_,hf,_=>by omega
 |0,i,s,f+1,hi,hf,z=>by rw[aW];simp only[kX];rw[cW,af];rfl
 |k+1,i,s,f+1,hi,hf,z=>by have lN:cX 900000000 (.sl dM) s.1:=z.st.mono;have CJ:s.2.2.2.2.2.length<=900000000:=bk z.pl (by omega);rw[aW];simp only[kX];rw[lE];simp only[ah,aa0 l m d _ hl hm,ab,jC];cases hnx:(qs l m d s.2.1.2.2.1).2.2 with|false=>rfl|true=>have key:=E9 K l m d N hN B1 B2 B3 hl hm k (i+1) (B4 l m d s) f (by omega) (by omega) ((Kr z).st.mono|>λa=>⟨a,bk (Kr z).pl (by omega)⟩);rw[show i+1+(jC l m d k (B4 l m d s)).1=i+((jC l m d k (B4 l m d s)).1+1) by omega]at key;simp only[aj,af];rw[<-key];unfold B4;generalize qs l m d s.2.1.2.2.1=c;have ha:=acN s.2.2 c.1.1;have hd:=Jd l m d (nw s.2.2 c.1.1) c.1.2.1;simp only[E3 _ _ (show s.2.2.2.2.2.length<=10^9 by omega),yu l m d _ c.1.2.1 hl hm (show nw s.2.2 c.1.1<=9223372036854775807 by omega),ab,CN _ (bk hd (by omega)),Om _ _ lN,JR s.2.2 [c.1.1] (show s.2.2.2.2.2.length+1<=10^9 by omega)];rw[ak (n:=(i:Int)+1),show((i+1:Nat):Int)=(i:Int)+1 by omega];unfold afb;cases (qu l m d (nw s.2.2 c.1.1) c.1.2.1).2<;>cases (jF (qu l m d (nw s.2.2 c.1.1) c.1.2.1).1).2==0<;>rfl
theorem Kq {l:aw aA}{m:bT}{d:Int}:∀(k:Nat){s:aw Stream×ca×df}{n:Nat},F9 n s->F9 (n+322*k) (jC l m d k s).2
 |0,s,n,h=>h
 |k+1,s,n,h=>by rw[jC];cases (qs l m d s.2.1.2.2.1).2.2 with|false=>exact⟨h.st.mono,bk h.pl (by omega)⟩|true=>have:=Kq (l:=l) (m:=m) (d:=d) k (Kr (l:=l) (m:=m) (d:=d) h);exact⟨this.st.mono,bk this.pl (by omega)⟩
def jn (l:aw aA)(m:bT)(d:Int)(rx:ca)(pl:df)(st:aw Stream)(n:Int):bT×ca×df×aw Stream×Int:=
 bif !Es rx||(!dw pl|| !dk n 0 1000) then(m,rx,pl,st,0) else
 ((sI l m d (jC l m d n.toNat (st,rx,pl)).2.2.1.1 (jC l m d n.toNat (st,rx,pl)).2.2.2).1,
   ((sI l m d (jC l m d n.toNat (st,rx,pl)).2.2.1.1 (jC l m d n.toNat (st,rx,pl)).2.2.2).2.1,(jC l m d n.toNat (st,rx,pl)).2.2.1.2),
   (sI l m d (jC l m d n.toNat (st,rx,pl)).2.2.1.1 (jC l m d n.toNat (st,rx,pl)).2.2.2).2.2.1,(jC l m d n.toNat (st,rx,pl)).2.1,((jC l m d n.toNat (st,rx,pl)).1:Int))
theorem QO (l:aw aA)(m:bT)(d:Int)(rx:ca)(pl:df)(st:aw Stream)(n:Int)(hl:l.length<=10^9)(hm:m.length<=10^9)(hp:pl.2.2.2.length<=500000000)(hs:cX 500000000 (.sl dM) st):sV l m d rx pl st n=some (jn l m d rx pl st n):=by
 have Ab:=dR;have hsl:st.length<=500000000:=hs.1;unfold sV jn;simp only[fJ m (show m.length<=1073741824 by omega),sc pl (show pl.2.2.2.length<=10^9 by omega),wa st,Ow,sM pl (show pl.2.2.2.length<=10^9 by omega),dh,ab];cases Es rx;rfl;cases dw pl;rfl;cases hn:dk n 0 1000;rfl;have h:=bf.1 hn;obtain⟨n,rfl⟩:=aV h.1;simp only[aj,af,ab,bS,az];have z:F9 (500000000+322*0) (st,rx,pl):=⟨hs,hp⟩
 have hz:=Kq (l:=l) (m:=m) (d:=d) n z;refine(E9 _ l m d n (by omega) _ _ _ hl hm n 0 (st,rx,pl) fuel (by omega) (by omega) z).trans ?_;rw[cl];simp only[QL l m d _ _ hl hm (show(jC l m d n (st,rx,pl)).2.2.2.2.2.2.length<=10^9 from bk hz.pl (by omega)),ab]
def gO (i:Nat):Int:=1280+(i:Int)*1792
theorem Vp {i:Nat}(h:i<=8):aq (1280+aq ((i:Int)*1792))=gO i:=by rw[ak (n:=(i:Int)*1792),ak];rfl
theorem QH (i:Nat)(h:i<=8):pa (i:Int)=some (gO i):=by rw[pa,Vp h]
theorem nj (a b n:Int)(h:n<=1000:=by omega):(gT a b n).1.2.2.2.length<=1000:=by unfold gT;cases dw (a,b,n,[])with|false=>simp|true=>simp[upto];omega
def HM (i:Nat):ca:=((gO i,4,0,0),(gO i+64,4,0),(gO i+64,4,0),((0,0,0,0,0,0,0,0,0,0,0,0,0,0,0,([]:Bytes)),0,0),false,0)
theorem Xs (i:Nat)(h:i<=8):ug (i:Int)=some (HM i,(gT (gO i+128) 384 4).1):=by have hb:gO i=1280+(i:Int)*1792:=rfl;simp only[ug,QH i h,ab];rw[ak (n:=gO i+128),ak (n:=gO i+64),Hx];rfl
def tT:dB:=((0,16,0,0),(gT 256 128 8).1,([]:aw lZ),0)
theorem XD:Ak=some tT:=by rw[Ak,Hx];rfl
theorem YO:vq=some tT:=by rw[vq,HO];rfl
def sn (l:aw aA)(m:bT)(i:Nat):bT×ln×df×Int:=
 sI l (hH l m 0 (gO i) (wB 128) false).1 0 (gO i,4,0,0) (gT (gO i+128) 384 4).1
def Rs (h:Host)(i:Nat):Host:=
 ((sn h.2.1 h.1 i).1,h.2.1,h.2.2.1,h.2.2.2.1.set i ((sn h.2.1 h.1 i).2.1,(gO i+64,4,0),(gO i+64,4,0),((0,0,0,0,0,0,0,0,0,0,0,0,0,0,0,([]:Bytes)),0,0),false,(match h.2.2.2.1[i]? with|some x=>x.2.2.2.2.2|none=>0)),h.2.2.2.2.1.set i (sn h.2.1 h.1 i).2.2.1,h.2.2.2.2.2)
theorem abW (h:Host)(i:Nat)(hi:i<=8)(h1:i<h.2.2.2.1.length)(h2:i<h.2.2.2.2.1.length)(hl:h.2.1.length<=10^9)(hm:h.1.length<=10^9):tO h (i:Int)=some ((),Rs h i):=by have hb:gO i=1280+(i:Int)*1792:=rfl;have hz:il 128 0=some (wB 128):=KJ 128;have hf:=abT h.2.1 (hH h.2.1 h.1 0 (gO i) (wB 128) false).1 0 (gO i,4,0,0) (gT (gO i+128) 384 4).1 hl (by rw[jD];exact hm) (bk (nj (gO i+128) 384 4) (by omega));unfold tO;simp only[Vp hi];rw[ak (n:=gO i+128),ak (n:=gO i+64),HO,hz];simp only[bz h1,bz h2,ab,LL h.2.1 h.1 0 (gO i) (wB 128) hl hm (by omega),hf,az,Rs,sn,al h1]
def uj (h:Host)(i:Nat)(n:Int):Int×Host:=
 match h.2.2.2.1[i]?,h.2.2.2.2.1[i]? with
 |some rx,some pl=>
  ((jn h.2.1 h.1 0 rx pl h.2.2.2.2.2.2.2.2.2.1 n).2.2.2.2,(jn h.2.1 h.1 0 rx pl h.2.2.2.2.2.2.2.2.2.1 n).1,h.2.1,h.2.2.1,h.2.2.2.1.set i (jn h.2.1 h.1 0 rx pl h.2.2.2.2.2.2.2.2.2.1 n).2.1,h.2.2.2.2.1.set i (jn h.2.1 h.1 0 rx pl h.2.2.2.2.2.2.2.2.2.1 n).2.2.1,h.2.2.2.2.2.1,h.2.2.2.2.2.2.1,h.2.2.2.2.2.2.2.1,h.2.2.2.2.2.2.2.2.1,(jn h.2.1 h.1 0 rx pl h.2.2.2.2.2.2.2.2.2.1 n).2.2.2.1,h.2.2.2.2.2.2.2.2.2.2)
 |_,_=>(0,h)
theorem Ou (h:Host)(i:Nat)(n:Int)(h1:i<h.2.2.2.1.length)(h2:i<h.2.2.2.2.1.length)(z:cX 500000000 dJ h):jS h (i:Int) n=some (uj h i n):=by have hl:h.2.1.length<=500000000:=z.2.1.1;have hm:h.1.length<=500000000:=z.1.1;have hp:h.2.2.2.2.1[i].2.2.2.length<=500000000:=(z.2.2.2.2.1.2 _ (bC h2)).2.2.2.1;unfold jS;simp only[bz h1,bz h2,ab,QO h.2.1 h.1 0 _ _ _ n (show h.2.1.length<=10^9 by omega) (show h.1.length<=10^9 by omega) hp z.2.2.2.2.2.2.2.2.2.1,az,uj,al h1,al h2]
theorem nH {t:CT}{l:aw t.D}{i:Nat}{x:t.D}(z:cX n (.sl t) l)(hx:cX n t x):cX n (.sl t) (l.set i x):=by refine⟨?_,λy hy=>?_⟩;show(l.set i x).length<=n;rw[aB];exact z.1;rcases List.mem_or_eq_of_mem_set hy with h|h;exact z.2 y h;rw[h];exact hx
theorem MU (hn:128<=n)(h:Ar m):cX n (.sl .str) m:=⟨bk h.2 (by omega),λx hx=>bk (Nat.le_of_eq (h.1 x hx)) hn⟩
theorem St (hn:128<=n)(z:cX n (.sl .str) m)(a:Int)(s:Bytes):cX n (.sl .str) (qo m a s).1:=by unfold qo;cases hw:gk m a (s.length:Int);exact z;simp only[gk,ae,aC]at hw;exact MU hn (xk s.length (pY.1 hw.1) (by omega)).1
theorem RH (hn:128<=n):∀(q:aw (Int×Int)){m:bT}(s:Bytes),cX n (.sl .str) m->cX n (.sl .str) (Ku q m s)
 |[],m,s,z=>z
 |p::q,m,s,z=>RH hn q _ (St hn z _ _)
theorem B6 (hn:128<=n)(z:cX n (.sl .str) m)(l:aw aA)(d a:Int)(s:Bytes)(w:Bool):cX n (.sl .str) (hH l m d a s w).1:=by unfold hH;cases (kt l m d a (s.length:Int) w).2 with|false=>exact z|true=>exact RH hn _ _ z
theorem FC (hn:128<=n)(z:cX n (.sl .str) m)(l:aw aA)(d:Int)(r:ln)(s:Bytes):cX n (.sl .str) (cK l m d r s).1:=by
 unfold cK;cases (nz r==0)||((s.length:Int) !=16);case true=>exact z
 cases (hH l m d (nK r r.2.2.2) s true).2 with|false=>exact z|true=>exact B6 hn z ..
theorem Me (hn:128<=n)(l:aw aA)(d:Int)(p:df):∀(q:cP){m:bT}(r:ln),cX n (.sl .str) m->cX n (.sl .str) (lD l d p q m r).2.1
 |[],m,r,z=>z
 |b::q,m,r,z=>by rw[lD];cases (cK l m d r (eM p b)).2.2 with|false=>exact z|true=>exact Me hn l d p q _ (FC hn z ..)
theorem Mf (hn:128<=n)(z:cX n (.sl .str) m)(l:aw aA)(d:Int)(r:ln)(p:df):cX n (.sl .str) (sI l m d r p).1:=by unfold sI;cases !cR r|| !dw p with|true=>exact z|false=>exact Me hn _ _ _ _ _ z
theorem VK (l:aw aA)(m:bT)(d:Int)(r:ln)(p:df):(sI l m d r p).1.length=m.length:=by unfold sI;cases !cR r|| !dw p with|true=>rfl|false=>exact(Gj ..).1
theorem DQ (l:aw aA)(m:bT)(d:Int)(r:ln)(p:df):(sI l m d r p).2.2.1.2.2.2.length<=p.2.2.2.length:=by unfold sI;cases !cR r|| !dw p with|true=>exact aS _|false=>show(p.2.2.2.drop _).length<=_;rw[aN];omega
theorem Rz (l:aw aA)(m:bT)(d:Int):∀(k:Nat)(s:aw Stream×ca×df),(jC l m d k s).2.2.1.2.2.2=s.2.1.2.2.2/\(jC l m d k s).1<=k
 |0,s=>⟨rfl,aS _⟩
 |k+1,s=>by rw[jC];cases (qs l m d s.2.1.2.2.1).2.2 with|false=>exact⟨rfl,bP _⟩|true=>have:=Rz l m d k (B4 l m d s);simp only[aj,af];exact⟨this.1,by omega⟩
theorem MY (hn:128<=n){rx:ca}{pl:df}{st:aw Stream}(c:Int)(zm:cX n (.sl .str) m)(zr:cX n dP rx)(zp:cX n iX pl)(zs:cX n (.sl dM) st): cX n (.sl .str) (jn l m d rx pl st c).1/\cX n dP (jn l m d rx pl st c).2.1/\cX (n+322000) iX (jn l m d rx pl st c).2.2.1/\cX (n+322000) (.sl dM) (jn l m d rx pl st c).2.2.2.1/\0<=(jn l m d rx pl st c).2.2.2.2/\(jn l m d rx pl st c).2.2.2.2<=1000:=by
 unfold jn;cases hc: !Es rx||(!dw pl|| !dk c 0 1000)with
 |true=>exact⟨zm,zr,zp.mono,zs.mono,dY _,by show(0:Int)<=1000;omega⟩
 |false=>
  have hi:dk c 0 1000=true:=by cases h:dk c 0 1000 with|true=>rfl|false=>rw[h]at hc;simp at hc
  have h:=bf.1 hi;have z:=Kq (l:=l) (m:=m) (d:=d) c.toNat (s:=(st,rx,pl)) (n:=n) ⟨zs,zp.2.2.2.1⟩;have hx:=Rz l m d c.toNat (st,rx,pl);refine⟨Mf hn zm ..,⟨?_,?_,?_,?_⟩,⟨cr,cr,cr,?_,λ_ _=>trivial⟩,z.st.mono,by show(0:Int)<=((jC l m d c.toNat (st,rx,pl)).1:Int);omega,by show((jC l m d c.toNat (st,rx,pl)).1:Int)<=1000;omega⟩;exact⟨cr,cr,cr,cr⟩;exact⟨cr,cr,cr⟩;exact⟨cr,cr,cr⟩;have e:=congrArg (λq=>cX n dP (rx.1,rx.2.1,rx.2.2.1,q)) hx.1;exact(e.mpr zr).2.2.2;have:=DQ l m d (jC l m d c.toNat (st,rx,pl)).2.2.1.1 (jC l m d c.toNat (st,rx,pl)).2.2.2;have h2:=z.pl;show(sI l m d (jC l m d c.toNat (st,rx,pl)).2.2.1.1 (jC l m d c.toNat (st,rx,pl)).2.2.2).2.2.1.2.2.2.length<=_;omega
theorem UG (hn:128<=n)(i:Nat)(c:Int)(z:cX n dJ h):cX (n+322000) dJ (uj h i c).2:=by unfold uj;rcases h1:h.2.2.2.1[i]? with _|rx;exact z.mono;rcases h2:h.2.2.2.2.1[i]? with _|pl;exact z.mono;have zr:=z.2.2.2.1.2 _ (bj h1);have zp:=z.2.2.2.2.1.2 _ (bj h2);have hp:=MY hn (l:=h.2.1) (d:=0) c z.1 zr zp z.2.2.2.2.2.2.2.2.2.1;have z':cX (n+322000) dJ h:=z.mono;exact⟨hp.1.mono,z'.2.1,z'.2.2.1,nH z'.2.2.2.1 (hp.2.1.mono),nH z'.2.2.2.2.1 hp.2.2.1,z'.2.2.2.2.2.1,z'.2.2.2.2.2.2.1,z'.2.2.2.2.2.2.2.1,z'.2.2.2.2.2.2.2.2.1,hp.2.2.2.1,z'.2.2.2.2.2.2.2.2.2.2⟩
def bg (l:aw aA)(m:bT)(d:Int)(r:ln):Bytes×ln×Bool:=
 bif !cR r||(bE r==0) then([],r,false) else
 bif !(qu l m d (nK r r.2.2.1) 16).2 then([],r,false) else
 ((qu l m d (nK r r.2.2.1) 16).1,(r.1,r.2.1,tmod (r.2.2.1+1) (2*r.2.1),r.2.2.2),true)
theorem Ff (l:aw aA)(m:bT)(d:Int)(r:ln)(hl:l.length<=10^9)(hm:m.length<=10^9):qL l m d r=some (bg l m d r):=by
 have hA:=Cd r r.2.2.1;unfold qL bg;simp only[vz,xL,ab,MB,yu l m d _ 16 hl hm (show nK r r.2.2.1<=9223372036854775807 by omega)];cases hb:cR r;rfl;have h:=kD hb;cases bE r==0;case true=>rfl
 simp only[aj,af,ab,bS];cases (qu l m d (nK r r.2.2.1) 16).2;rfl;simp only[aj,af];rw[ak (n:=2*r.2.1),lF,ak (n:=r.2.2.1+1)]
theorem Dz (l:aw aA)(m:bT)(d:Int)(r:ln):(bg l m d r).1.length<=100000000:=by
 unfold bg;cases !cR r||(bE r==0);case true=>exact bP _
 cases (qu l m d (nK r r.2.2.1) 16).2 with|false=>exact bP _|true=>exact Jd ..
theorem Cj (h:(bg l m d r).2.2=true): cR (bg l m d r).2.1=true/\bE (bg l m d r).2.1=bE r-1/\(bg l m d r).2.1.1=r.1/\(bg l m d r).2.1.2.1=r.2.1/\(bg l m d r).2.1.2.2.2=r.2.2.2:=by
 unfold bg at h⊢;cases hb:cR r with|false=>rw[hb]at h;cases h|true=>?_
 cases hu:bE r==0 with|true=>rw[hb,hu]at h;cases h|false=>?_
 cases hd:(qu l m d (nK r r.2.2.1) 16).2 with|false=>rw[hb,hu,hd]at h;cases h|true=>?_
 simp only[aj,bS,af];have hr:=kD hb;have hq:=hb;simp only[cR,ae,aC]at hq;have h1:=hq.2.2.2.2;have hs:=hq.2.1;have Oi:bE r≠0:=by simpa using hu
 have e:tmod (r.2.2.1+1) (2*r.2.1)=(r.2.2.1+1)%(2*r.2.1):=cv (by omega);rw[e];unfold bE at h1 Oi⊢;simp only[hs,bM]at h1 Oi⊢;have key:(r.2.2.2-(r.2.2.1+1)%(2*r.2.1))%(2*r.2.1)=(r.2.2.2-r.2.2.1)%(2*r.2.1)-1/\0<=(r.2.2.1+1)%(2*r.2.1)/\(r.2.2.1+1)%(2*r.2.1)<=2*r.2.1-1:=by rcases hr.2.2.1 with hn|hn|hn|hn<;>rw[hn]at h1 Oi hr⊢<;>omega
 refine⟨?_,key.1,cr,cr,cr⟩;simp only[cR,bE,hs,bM,ae,aC,bf];refine⟨by omega,cr,by omega,by omega,?_⟩;rw[key.1];omega
theorem vM (h:cR r=true):0<=bE r/\bE r<=16:=by have hr:=kD h;have hq:=h;simp only[cR,ae,aC]at hq;refine⟨?_,by have:=hq.2.2.2.2;omega⟩;unfold bE;rw[hq.2.1,aF rfl];exact eE _ (by omega)
def Hl:Cs:=(0,0,0,0,0,0)
def Bu (s:Bytes):Cs:=((bH s 0:Int),(bH s 1:Int),cd s 2,fA s 4,cd s 8,cd s 10)
def cO (s:Bytes):Cs×Bool:=
 bif ((s.length:Int) !=16) then(Hl,false) else bif !(vV (Bu s)==s) then(Hl,false) else(Bu s,true)
theorem QI (s:Bytes)(h:s.length<=10^9):nB s=some (cO s):=by
 unfold nB cO;cases hn:(s.length:Int) !=16;case true=>rfl
 have hl:s.length=16:=by
  have:((s.length:Int)==16)=true:=by simpa using hn
  have:=bh this;omega
 have b0:=lL (s[0]'(by omega));have b1:=lL (s[1]'(by omega));have i0:idx s 0=some (s[0]'(by omega)):=bz (i:=0) (by omega);have i1:idx s 1=some (s[1]'(by omega)):=bz (i:=1) (by omega);have e:(((s[0]'(by omega)).toNat:Int),((s[1]'(by omega)).toNat:Int),cd s 2,fA s 4,cd s 8,cd s 10)=Bu s:=by simp only[Bu,bH,dg (show 0<s.length by omega),dg (show 1<s.length by omega)]
 simp only[af,i0,i1,ab,ue s _ h,xq s _ h];rw[gW (n:=(s[0]'(by omega)).toNat),gW (n:=(s[1]'(by omega)).toNat),e,On,ab];cases vV (Bu s)==s<;>rfl
theorem Ts (h:(cO s).2=true):se (cO s).1=true:=by
 unfold cO at h⊢;cases hn:(s.length:Int) !=16 with|true=>rw[hn]at h;cases h|false=>?_
 cases he:vV (Bu s)==s with|false=>rw[hn,he]at h;cases h|true=>?_
 simp only[af,aj];cases hd:se (Bu s)with
 |true=>rfl
 |false=>
  have:vV (Bu s)=[]:=by unfold vV;rw[hd];rfl
  rw[this]at he;cases s with|nil=>simp at hn|cons x y=>cases he
def Tu (x:Cs):Bool:=bif x.1==1 then(aq (BitVec.toNat (fY x.2.1&&&fY 1))) !=0 else false
def sF (l:aw aA)(m:bT)(d:Int):Nat->aw Cs->ln->aw Cs×ln×Bool
 |0,acc,r=>(acc,r,true)
 |n+1,acc,r=>
  bif !(bg l m d r).2.2|| !(cO (bg l m d r).1).2 then([],(r.1,r.2.1,r.2.2.2,r.2.2.2),false) else
  bif Tu (cO (bg l m d r).1).1 then(acc++[(cO (bg l m d r).1).1],(bg l m d r).2.1,true) else
  sF l m d n (acc++[(cO (bg l m d r).1).1]) (bg l m d r).2.1
def db (l:aw aA)(m:bT)(d:Int)(r:ln):aw Cs×ln×Bool:=
 bif !cR r||(bE r==0) then([],r,false) else sF l m d (bE r).toNat [] r
theorem Dg (k0:aw Cs->ln->ay R)(k1:aw Cs->Bool->aw Cs->ln->ln->ay R)(K:aw Cs×ln×Bool->ay R)
 (h0:∀a r,k0 a r=K (a,r,true)) (l:aw aA) (m:bT) (d:Int) (B E:ln) (h1:∀a r,k1 [] false a r E=K ([],E,false)) (hl:l.length<=10^9) (hm:m.length<=10^9):∀(n:Nat)(acc:aw Cs)(r:ln)(f:Nat),
 n<f->cR r=true->(bE r).toNat=n->acc.length+n<=1000->E=(r.1,r.2.1,r.2.2.2,r.2.2.2)->aW (kY k0 k1 l d ([]:aw Cs) false m B E) f (acc,r)=K (sF l m d n acc r)
 |n,acc,r,0,hf,_,_,_,_=>by omega
 |0,acc,r,f+1,hf,hb,hu,ha,hE=>by rw[aW];simp only[kY,xL,ab];rw[cW,af,h0];rfl
 |n+1,acc,r,f+1,hf,hb,hu,ha,hE=>by
  have hlen:=Dz l m d r;have hk:=Cj (l:=l) (m:=m) (d:=d) (r:=r);rw[aW];simp only[kY,xL,ab];rw[lE,ah,Ff l m d r hl hm,ab,sF];generalize bg l m d r=t at hlen hk⊢;cases ht:t.2.2 with
  |false=>simp only[cb,ah,iu,<-hE,h1]
  |true=>
   have hk:=hk ht;simp only[aj,af,cC];rw[QI _ (show t.1.length<=10^9 by omega),ab];generalize cO t.1=x;cases x.2 with
   |false=>simp only[cb,ah,<-hE,h1]
   |true=>
    simp only[aj,af];rw[aR (by rw[bw];omega)];have e:(aa (cond (x.1.1==1) (some ((aq (BitVec.toNat (fY x.1.2.1&&&fY 1))) !=0)) (some false)):(Bool->ay R)->ay R)=λK=>K (Tu x.1):=by funext K;unfold Tu;cases x.1.1==1<;>rfl
    rw[e];cases Tu x.1 with|true=>simp only[ah,h0]|false=>simp only[af];exact Dg k0 k1 K h0 l m d B E h1 hl hm n _ _ f (by omega) hk.1 (by omega) (by simp;omega) (by rw[hE,hk.2.2.1,hk.2.2.2.1,hk.2.2.2.2])
theorem Lw (l:aw aA)(m:bT)(d:Int)(r:ln)(hl:l.length<=10^9)(hm:m.length<=10^9):sZ l m d r=some (db l m d r):=by
 have Ab:=dR;unfold sZ db;simp only[vz,xL,ab];cases hb:cR r;rfl;cases bE r==0;case true=>rfl
 have hu:=vM hb;simp only[aj,af,ab,bS];exact Dg _ _ (λx=>some x) (λ_ _=>rfl) l m d _ _ (λ_ _=>rfl) hl hm _ [] r fuel (by omega) hb rfl (by simp;omega) rfl
def xT (x:Int×Int):Bool:=decide (x.1<0)|| !dk x.2 0 4096
def nk (l:aw (Int×Int)):Bool:= !l.any xT&&decide ((l.length:Int)<=16)
theorem UE (l:aw (Int×Int)):(bif l.any xT then some false else some (decide ((l.length:Int)<=16)))=some (nk l):=by unfold nk;cases l.any xT<;>rfl
theorem JS (l:aw (Int×Int))(h:l.length<=10^9):qJ l=some (nk l):=by
 unfold qJ;rw[<-UE];refine EA xT l (by omega) (λi hi nx=>?_) (λnx=>?_);simp only[pK];rw[lE,ah,bz hi,ab,dh,ak];unfold xT;cases decide (l[i].1<0)with|true=>rfl|false=>simp only[af,ab,cC];rfl
 simp only[pK];rw[cW,af]
theorem GQ {l:aw (Int×Int)}(h:nk l=true):l.length<=16/\∀x∈l,0<=x.1/\0<=x.2/\x.2<=4096:=by unfold nk at h;simp only[ae,aC,aL]at h;refine⟨by omega,λx hx=>?_⟩;have:=List.any_eq_false.1 h.1 x hx;unfold xT at this;simp only[cz,aC,aL,not_or,Bool.not_eq_false,bf]at this;omega
def dsc (n:Nat)(c:Int)(i:Nat)(x:Int×Int):Cs:=(1,(if i+1=n then 1 else 0),x.2,x.1,0,c)
def wq (ps:aw (Int×Int))(c:Int):Nat->aw Cs
 |0=>[]
 |i+1=>wq ps c i++[dsc ps.length c i (ps.getD i (0,0))]
theorem zi (ps:aw (Int×Int))(c:Int):∀i,(wq ps c i).length=i
 |0=>rfl
 |i+1=>by rw[wq,ai,zi ps c i];rfl
theorem Gf (ps:aw (Int×Int))(c:Int)(q:Cs->Bool):∀i,(wq ps c i).all q=(List.range i).all (λj=>q (dsc ps.length c j (ps.getD j (0,0))))
 |0=>rfl
 |i+1=>by rw[wq,List.all_append,Gf ps c q i,List.range_succ,List.all_append];rfl
def ou (ps:aw (Int×Int))(z c:Int):aw Cs:=
 bif ((ps.length:Int)==0)||(!nk ps|| !dk z 1 128) then [] else
 bif ([(2,0,0,0,z,c)]++wq ps c ps.length).all se then [(2,0,0,0,z,c)]++wq ps c ps.length else []
theorem Ae (ps:aw (Int×Int))(z c:Int)(h:ps.length<=10^9:=by omega):∃b,im ps z c=some (b,ou ps z c)/\(b=false->ou ps z c=[]):=by
 unfold im ou;rw[JS ps h,dh];simp only[ab];cases ((ps.length:Int)==0);case true=>exact⟨false,rfl,λ_=>rfl⟩
 cases nk ps;exact⟨false,rfl,λ_=>rfl⟩;cases dk z 1 128;exact⟨false,rfl,λ_=>rfl⟩;simp only[aj,af,ab,bS];refine⟨([(2,0,0,0,z,c)]++wq ps c ps.length).all se,?_,λhb=>by rw[hb];rfl⟩;refine ew (λi=>(([(2,0,0,0,z,c)]++wq ps c i,(i:Int)):aw Cs×Int)) ps.length (by omega) (λi nx hi=>?_) (λnx=>?_);have hl:=zi ps c i;simp only[jL];rw[lE,ah,bz hi,ab,ak (n:=(ps.length:Int)-1),ak];have e:[(2,0,0,0,z,c)]++wq ps c (i+1)=([(2,0,0,0,z,c)]++wq ps c i)++[dsc ps.length c i ps[i]]:=by rw[wq,dg hi,aJ]
 rw[e];unfold dsc;by_cases hc:i+1=ps.length;rw[show((i:Int)==(ps.length:Int)-1)=true from by rw[bc];omega,aF hc];simp only[ah];rw[aR (by simp only[ai,bw];omega)];rfl;rw[show((i:Int)==(ps.length:Int)-1)=false from by rw[cI];omega,aG hc];simp only[af];rw[aR (by simp only[ai,bw];omega)];rfl;simp only[jL];rw[cW,af];have hl:=zi ps c ps.length;generalize hq:[(2,0,0,0,z,c)]++wq ps c ps.length=q;have hn:q.length<=1000000001:=by rw[<-hq];simp only[ai,bw];omega
 rw[px (fin:=some (true,q)) (hit:=some (false,[])) se q (by omega) (λi hi nx=>?_) (λnx=>?_)];cases q.all se<;>rfl;simp only[jl];rw[lE,ah,bz hi,ab,QJ,ab,ak];rfl;simp only[jl];rw[cW,af]
def KC (x y:Cs):Bool:=(x.1==y.1)&&((x.2.1==y.2.1)&&((x.2.2.1==y.2.2.1)&&((x.2.2.2.1==y.2.2.2.1)&&((x.2.2.2.2.1==y.2.2.2.2.1)&&((x.2.2.2.2.2==y.2.2.2.2.2)&&true)))))
def G2 (a b:aw Cs):Bool:=((a.length:Int)==(b.length:Int))&&(List.range a.length).all λi=>KC (a.getD i Hl) (b.getD i Hl)
def ks (l:aw Cs):aw (Int×Int):=(l.drop 1).map λx=>(x.2.2.2.1,x.2.2.1)
def fy (l:aw Cs):aw (Int×Int)×Int×Int×Bool:=
 match l with
 |h::x::r=>bif G2 (ou (ks l) h.2.2.2.2.1 h.2.2.2.2.2) l then(ks l,h.2.2.2.2.1,h.2.2.2.2.2,true) else([],0,0,false)
 |_=>([],0,0,false)
theorem WO (ps:aw (Int×Int))(z c:Int):(ou ps z c).length<=ps.length+1:=by
 unfold ou;cases ((ps.length:Int)==0)||(!nk ps|| !dk z 1 128);case true=>simp
 cases ([(2,0,0,0,z,c)]++wq ps c ps.length).all se with|false=>simp|true=>simp only[af,ah,ai,bw,zi];omega
theorem Ot (l:aw Cs)(hl:l.length<=10^9):mX l=some (fy l):=by
 unfold mX;match l,hl with
 |[],_=>rfl
 |[h],_=>rfl
 |h::y::r,hl=>
  generalize hq:y::r=q;have Zm:1<=q.length:=by rw[<-hq];simp
  have hlen:q.length+1<=10^9:=by rw[<-hq];simpa using hl
  have i0:idx (h::q) 0=some h:=rfl;have s0:sub (h::q) 1 (((h::q).length:Nat):Int)=some q:=tQ (l:=h::q) 1 (by simp) (a:=1) rfl;rw[ar (by simp only[bq];omega),af,s0,ab];refine ew (λi=>(((q.take i).map (λx=>(x.2.2.2.1,x.2.2.1)),(i:Int)):aw (Int×Int)×Int)) q.length (by omega) (λi nx hi=>?_) (λnx=>?_);simp only[kA];rw[lE,ah,bz hi,ab,aR (by simp only[cp,aX,bw];omega),ak,bG hi,cY];rfl;simp only[kA];rw[cW,af,dZ];have hp:q.map (λx=>(x.2.2.2.1,x.2.2.1))=ks (h::q):=rfl;have CJ:(ks (h::q)).length=q.length:=by rw[<-hp,cp]
  rw[hp];have hdl:=WO (ks (h::q)) h.2.2.2.2.1 h.2.2.2.2.2;obtain⟨b,hd,hb⟩:=Ae (ks (h::q)) h.2.2.2.2.1 h.2.2.2.2.2;have hR:fy (h::q)=bif G2 (ou (ks (h::q)) h.2.2.2.2.1 h.2.2.2.2.2) (h::q) then(ks (h::q),h.2.2.2.2.1,h.2.2.2.2.2,true) else([],0,0,false):=by rw[<-hq];rfl
  rw[hR];simp only[i0,ab,hd];have hlc:(((h::q).length:Nat):Int)=(q.length:Int)+1:=by simp only[bq];omega
  generalize ou (ks (h::q)) h.2.2.2.2.1 h.2.2.2.2.2=w at hdl hb⊢
  have core:∀(K:ay (aw (Int×Int)×Int×Int×Bool))(w':aw Cs),w'=w->(bif ((w'.length:Nat):Int) !=(((h::q).length:Nat):Int) then some (([]:aw (Int×Int)),(0:Int),(0:Int),false) else
   aW (ga (λCq=>some (ks (h::q),h.2.2.2.2.1,h.2.2.2.2.2,true)) (λBh Et Eu DD F5=>some (Bh,Et,Eu,DD)) (h::q) (ks (h::q)) h.2.2.2.2.1 h.2.2.2.2.2 w' ((w'.length:Nat):Int)) fuel 0)=some (bif G2 w (h::q) then(ks (h::q),h.2.2.2.2.1,h.2.2.2.2.2,true) else([],0,0,false)):=by
   intro K w' e
   subst e
   unfold G2
   cases hl:((w'.length:Int)==(((h::q).length:Nat):Int))with
   |false=>simp only[bne,hl,cb,ah,ez,af]
   |true=>
    have hn:w'.length=(h::q).length:=by have:=bh hl;omega
    simp only[bne,hl,aj,af,bF]
    rw[py (fin:=some (ks (h::q),h.2.2.2.2.1,h.2.2.2.2.2,true)) (hit:=some ([],0,0,false)) (λi=>KC (w'.getD i Hl) ((h::q).getD i Hl)) w'.length (by omega) (λi nx hi=>?_) (λnx=>?_)]
    ·cases (List.range w'.length).all (λi=>KC (w'.getD i Hl) ((h::q).getD i Hl))<;>rfl
    ·have hi2:i<(h::q).length:=by omega
     simp only[ga]
     rw[lE,ah,bz hi,bz hi2,ab,ab,ak,dg hi,dg hi2];rfl
    ·simp only[ga]
     rw[cW,af]
  cases b with|true=>exact core none w rfl|false=>exact core none [] (hb rfl).symm
theorem Rx {l:aw Cs}(h:(fy l).2.2.2=true):nk (fy l).1=true/\∀p∈(fy l).1,p.1<=4294967295:=by match l,h with|hd::x::r,h=>unfold fy at h⊢;simp only at h⊢;cases hs:G2 (ou (ks (hd::x::r)) hd.2.2.2.2.1 hd.2.2.2.2.2) (hd::x::r)with|false=>rw[hs]at h;cases h|true=>simp only[ah];generalize hw:ks (hd::x::r)=ps at hs⊢;unfold G2 at hs;simp only[ae]at hs;have hn:=bh hs.1;unfold ou at hn;cases hc:((ps.length:Int)==0)||(!nk ps|| !dk hd.2.2.2.2.1 1 128)with|true=>rw[hc]at hn;simp at hn;omega|false=>rw[hc]at hn;cases ha:([(2,0,0,0,hd.2.2.2.2.1,hd.2.2.2.2.2)]++wq ps hd.2.2.2.2.2 ps.length).all se with|false=>rw[ha]at hn;simp at hn;omega|true=>simp only[cc,dy]at hc;refine⟨hc.2.1,λp hp=>?_⟩;rw[List.all_append,Gf,ae]at ha;obtain⟨i,hi,rfl⟩:=List.getElem_of_mem hp;have:=aI.1 ha.2 i (ch.2 hi);rw[dg hi]at this;simp only[se,dsc,ae,bf]at this;omega
theorem Gg (l:aw aA)(m:bT)(d a n:Int):(qu l m d a n).1.length<=33554432:=by have hL:=G1 l m d a n false;have h1:=tu m (kt l m d a n false).1;unfold qu;cases (kt l m d a n false).2 with|false=>simp|true=>simp only[ah];omega
def zX (l:aw aA)(m:bT)(d:Int):aw (Int×Int)->Bytes->Bytes×Bool
 |[],acc=>(acc,true)
 |p::ps,acc=>bif (qu l m d p.1 p.2).2 then zX l m d ps (acc++(qu l m d p.1 p.2).1) else([],false)
def lM (l:aw aA)(m:bT)(d:Int)(ps:aw (Int×Int)):Bytes×Bool:=bif nk ps then zX l m d ps [] else([],false)
def ER (l:aw aA)(m:bT)(d:Int)(p:Int×Int)(s:Bytes):Except (ay (Bytes×Bool)) Bytes:=
 if(qu l m d p.1 p.2).2=true then .ok (s++(qu l m d p.1 p.2).1) else .error (some ([],false))
theorem Jt (l:aw aA)(m:bT)(d:Int):∀(ps:aw (Int×Int))(s:Bytes),OU (ER l m d) (λs=>some (s,true)) ps s=some (zX l m d ps s)
 |[],s=>rfl
 |p::ps,s=>by rw[OU,zX];unfold ER;cases hd:(qu l m d p.1 p.2).2 with|false=>rfl|true=>rw[aF rfl];exact Jt l m d ps _
theorem Hq (l:aw aA)(m:bT)(d:Int):∀(ps:aw (Int×Int))(s:Bytes),(zX l m d ps s).1.length<=s.length+33554432*ps.length
 |[],s=>by simp[zX]
 |p::ps,s=>by have h1:=Gg l m d p.1 p.2;rw[zX];cases (qu l m d p.1 p.2).2 with|false=>simp|true=>have:=Hq l m d ps (s++(qu l m d p.1 p.2).1);rw[ai]at this;simp only[ah,bq,Nat.mul_add];omega
theorem Qf (l:aw aA)(m:bT)(d:Int)(ps:aw (Int×Int)):(lM l m d ps).1.length<=10^9:=by unfold lM;cases hp:nk ps with|false=>simp|true=>have:=(GQ hp).1;have:=Hq l m d ps [];simp only[eG]at this;simp only[ah];omega
theorem TV (l:aw aA)(m:bT)(d:Int)(ps:aw (Int×Int))(hl:l.length<=10^9)(hm:m.length<=10^9)(hn:ps.length<=10^9)(ha:∀p∈ps,p.1<=9223372036854775807):ox l m d ps=some (lM l m d ps):=by
 unfold ox lM;rw[JS ps hn,ab];cases hp:nk ps;rfl;have Zi:=(GQ hp).1;simp only[aj,af,ah];rw[<-Jt];refine FF ps (λs i=>(s,(i:Int))) (λi s=>s.length<=33554432*i) (ER l m d) _ (by omega) (λi hi s nx hI=>?_) (λi hi s s' hI he=>?_) (λs nx hI=>?_) [] (by simp);have h1:=Gg l m d ps[i].1 ps[i].2;simp only[kW];rw[lE,ah,bz hi,ab,yu l m d _ _ hl hm (ha _ (bC hi)),ab];unfold ER;cases hd:(qu l m d ps[i].1 ps[i].2).2 with|false=>rfl|true=>rw[aF rfl,aR,ak];rfl
 have h1:=Gg l m d ps[i].1 ps[i].2;unfold ER at he;split at he;injection he with he;rw[<-he,ai];omega;cases he;simp only[kW];rw[cW,af]
def yf (t:Bytes):Int:=cd t ((dj t+2:Nat):Int)
def LQ (t:Bytes):Int:=L2 ((t.take (dj t+20)).drop (dj t))
def UQ (t:Bytes):Bytes:=(t.take (dj t+(yf t).toNat)).drop (dj t+20)
def ac1 (t:Bytes):Bytes:=uk (fA t ((dj t+12:Nat):Int)) (fA t ((dj t+16:Nat):Int)) (jT t:Int) (yf t-20)
def Hd (t:Bytes):Int:=bif ((jT t:Int)==17)&&(L2 (ac1 t++UQ t)==0) then 65535 else L2 (ac1 t++UQ t)
def VL (t s:Bytes):Bytes×Bool:=bif ((jF s).2==0)&&((jx (jF s).1).1==t) then dx (jF s).1 else([],false)
def wu (t:Bytes):Bytes×Bool:=VL t (ld t (bN (LQ t)) (bN (Hd t)))
theorem Ix {t:Bytes}(h:¬(TOk t/\cd t (zb t:Int)=0/\cd t (xh t:Int)=0)):wu t=([],false):=by
 have ha:AK (ld t (bN (LQ t)) (bN (Hd t))) t:=Dr t (bD _) (bD _);unfold wu VL;generalize ld t (bN (LQ t)) (bN (Hd t))=s at ha⊢;cases h1:(jF s).2==0;rfl;have K9:(jF s).2=0:=by simpa using h1
 cases h2:(jx (jF s).1).1==t;rfl;have Pp:(jx (jF s).1).1=t:=eq_of_beq h2;have ht:=agr ha K9;exact absurd ⟨ht,YW Pp (Kw K9).2.2.1 ht⟩ h
theorem FW (t:Bytes)(o n:Nat):(t.drop o).take n=(t.take (o+n)).drop o:=by rw[List.drop_take];congr 1;omega
theorem RD {t:Bytes}(h1:dj t+20<=t.length)(h2:20<=yf t)(h3:yf t<=(t.length:Int))(h4:t.length<=10^9):wP (fA t ((dj t+12:Nat):Int)) (fA t ((dj t+16:Nat):Int)) (jT t:Int) (yf t-20)=true:=by have a1:=zl (s:=t) (a:=((dj t+12:Nat):Int));have a2:=zl (s:=t) (a:=((dj t+16:Nat):Int));have a3:=eo t (dj t+9);have a4:=BF (s:=t) (a:=((dj t+2:Nat):Int));unfold wP;rw[bf.2 a1,bf.2 a2,bf.2 (show 0<=(jT t:Int)/\(jT t:Int)<=255 by unfold jT;omega),bf.2 (show 0<=yf t-20/\yf t-20<=65535 by unfold yf at*;omega)];rfl
theorem Xm (t:Bytes)(hl:t.length<=10^9):uK t=some (wu t):=by
 have hp:=xU t
 have hk:=FP (jT t)
 have TK:jT t<256:=eo t (dj t+9)
 have BH:=As t
 unfold uK
 rw[E8 t hl,ab,ue _ _ (by omega),ab]
 cases h1:(fF t).2 with
 |false=>rw[Ix λh=>by have:=h.1.eth;rw[h1]at this;cases this];rfl
 |true=>
 have he:=GP h1
 rw[he.1]
 simp only[aj,af,ab]
 have en:cd (t.drop (dj t)) 2=yf t:=Ju (a:=2)
 rw[en]
 by_cases h4:yf t<20
 ·rw[au h4,Ix λh=>by have:=h.1.n1;unfold yf at h4;omega];rfl
 rw[ar h4]
 simp only[af,ab]
 by_cases h5:yf t>((t.drop (dj t)).length:Int)
 ·rw[au h5,Ix λh=>by have:=h.1.n2;unfold yf at h5;rw[aN]at h5;omega];rfl
 rw[ar h5]
 rw[aN]at h5
 have hdl:(t.drop (dj t)).length=t.length-dj t:=aN ..
 obtain⟨n,hn⟩:=aV (show 0<=yf t by omega)
 obtain⟨x,hx,ex⟩:=kT (s:=t.drop (dj t)) (i:=9)
 have hx9:idx (t.drop (dj t)) 9=some x:=hx
 have s1:sub (t.drop (dj t)) 0 20=some ((t.take (dj t+20)).drop (dj t)):=by rw[xg,<-FW];rfl
 have s2:sub (t.drop (dj t)) 20 (yf t)=some (UQ t):=by rw[Pc (l:=t.drop (dj t)) 20 (a:=20) rfl,hn,az,FW,eC];unfold UQ;rw[hn];rfl
 have hps:=GS (fA t ((dj t+12:Nat):Int)) (fA t ((dj t+16:Nat):Int)) (jT t:Int) (yf t-20)
 have aaP:((UQ t).length:Int)=yf t-20:=by unfold UQ;rw[aN,aX,hn];omega
 have hk2:aq ((UInt8.toNat x:Int))=(jT t:Int):=by rw[ex,kQ,gW (show bH t (dj t+9)<9223372036854775808 by unfold jT at TK;omega)];rfl
 have g12:fA (t.drop (dj t)) 12=fA t ((dj t+12:Nat):Int):=Jv (a:=12)
 have g16:fA (t.drop (dj t)) 16=fA t ((dj t+16:Nat):Int):=Jv (a:=16)
 have hw:aq ((KN (jT t):Int)+2)=(KN (jT t):Int)+2:=by rw[ak]
 simp only[af,ab,Fe t hl,s1,s2,hx9,xq _ _ (show(t.drop (dj t)).length<=10^9 by omega),hk2,JT,aaP,g12,g16,RD (show dj t+20<=t.length by omega) (show 20<=yf t by omega) (show yf t<=(t.length:Int) by omega) hl,ah,aj,Gu _ TK,hw]
 rw[show uk (fA t ((dj t+12:Nat):Int)) (fA t ((dj t+16:Nat):Int)) (jT t:Int) (yf t-20)=ac1 t from rfl]at hps⊢
 by_cases h6:(KN (jT t):Int)+2>yf t-20
 ·rw[au h6,Ix λh=>by have:=h.1.n1;unfold yf at h6;omega];rfl
 rw[ar h6]
 simp only[af]
 have hck:((t.take (dj t+20)).drop (dj t)).length<=10^9:=by rw[aN,aX];omega
 rw[aR,ID _ (by rw[ai];omega),ab]
 have oO:∀y:Int,Hd t=y->(aa (iS ((t.take (dj t+20)).drop (dj t))) λr25=>aa (bR r25) λr26=>aa (fB t (zb t:Int) r26) λYq=>aa (bR y) λr28=>aa (fB Yq (xh t:Int) r28) λr29=>aa (ij r29) λWd=>aa (lu Wd.1) λYr=>
  aa (bif Wd.2 !=0 then some true else bif !Yr.2 then some true else some (!(Yr.1==t))) λq32=>bif q32 then some (([]:Bytes),false) else aa (gH Wd.1) λr33=>some r33)=some (wu t):=by
  intro y hy
  subst hy
  have b1:=bD (LQ t)
  have b2:=bD (Hd t)
  rw[ID _ hck,ab,show L2 ((t.take (dj t+20)).drop (dj t))=LQ t from rfl]
  rw[kh,ab,Ah t _ _ hl,ab,kh,ab,Ah _ _ _ (by rw[vK];exact hl),ab]
  have hlen:=B7 t (bN (LQ t)) (bN (Hd t))
  unfold wu
  rw[show um (um t (zb t:Int) (bN (LQ t))) (xh t:Int) (bN (Hd t))=ld t (bN (LQ t)) (bN (Hd t)) from rfl]
  generalize ld t (bN (LQ t)) (bN (Hd t))=s at hlen⊢
  simp only[CN s (by omega),ab,ME,CM,VL,bne]
  cases h1:(jF s).2==0;rfl
  have VS:=(Kw (show(jF s).2=0 by simpa using h1)).2.2.1
  have h2:(jx (jF s).1).2=true:=by unfold jx;rw[VS];rfl
  rw[h2]
  cases (jx (jF s).1).1==t<;>rfl
 cases h8:(jT t:Int)==17 with
 |false=>exact oO _ (by unfold Hd;rw[h8];rfl)
 |true=>
  simp only[ah,ab]
  cases h7:L2 (ac1 t++UQ t)==0 with
  |false=>exact oO _ (by unfold Hd;rw[h7,fz];rfl)
  |true=>exact oO _ (by unfold Hd;rw[h7,h8];rfl)
theorem WS (t:Bytes):(wu t).1.length<=378:=by unfold wu VL;generalize ld t (bN (LQ t)) (bN (Hd t))=s;cases ((jF s).2==0)&&((jx (jF s).1).1==t)with|false=>exact bP _|true=>exact xp _
theorem I3 (l:aw aA)(m:bT)(d:Int):∀(n:Nat)(acc:aw Cs)(r:ln),(sF l m d n acc r).1.length<=acc.length+n
 |0,acc,r=>aS _
 |n+1,acc,r=>by
  rw[sF];cases !(bg l m d r).2.2|| !(cO (bg l m d r).1).2;case true=>exact bP _
  cases Tu (cO (bg l m d r).1).1 with|true=>simp only[af,ah,ai,bw];omega|false=>have:=I3 l m d n (acc++[(cO (bg l m d r).1).1]) (bg l m d r).2.1;simp only[ai,bw]at this;simp only[af];omega
theorem UO (h:cR r=true):cR (r.1,r.2.1,r.2.2.2,r.2.2.2)=true/\bE (r.1,r.2.1,r.2.2.2,r.2.2.2)=0:=by
 have hr:=kD h;have hq:=h;simp only[cR,ae,aC]at hq;have hu:bE (r.1,r.2.1,r.2.2.2,r.2.2.2)=0:=by unfold bE;simp only[Int.sub_self,Int.zero_emod,ite_self]
 refine⟨?_,hu⟩;simp only[cR,ae,aC,bf,hu,hq.2.1,true_and];omega
theorem Hk (l:aw aA)(m:bT)(d:Int):∀(n:Nat)(acc:aw Cs)(r:ln),cR r=true->(bE r).toNat=n->
 cR (sF l m d n acc r).2.1=true/\bE (sF l m d n acc r).2.1<=bE r/\(0<bE r->bE (sF l m d n acc r).2.1<bE r)
 |0,acc,r,hb,hu=>⟨hb,dY _,λh=>by omega⟩
 |n+1,acc,r,hb,hu=>by have hk:=Cj (l:=l) (m:=m) (d:=d) (r:=r);have he:=UO hb;rw[sF];cases hc: !(bg l m d r).2.2|| !(cO (bg l m d r).1).2 with|true=>exact⟨he.1,by show bE (r.1,r.2.1,r.2.2.2,r.2.2.2)<=_;rw[he.2];omega,λ_=>by show bE (r.1,r.2.1,r.2.2.2,r.2.2.2)<_;rw[he.2];omega⟩|false=>simp only[cc,dy]at hc;have hk:=hk hc.1;cases Tu (cO (bg l m d r).1).1 with|true=>exact⟨hk.1,by show bE (bg l m d r).2.1<=_;omega,λ_=>by show bE (bg l m d r).2.1<_;omega⟩|false=>have:=Hk l m d n (acc++[(cO (bg l m d r).1).1]) (bg l m d r).2.1 hk.1 (by omega);simp only[af];exact⟨this.1,by omega,λ_=>by omega⟩
def iC (l:aw aA)(m:bT)(d:Int)(r:ln):ln×bT×Int:=
 bif !cR r||(bE r==0) then(r,[],0) else
 bif !(db l m d r).2.2|| !(fy (db l m d r).1).2.2.2 then((db l m d r).2.1,[],2) else
 bif !(lM l m d (fy (db l m d r).1).1).2||(!(wu (lM l m d (fy (db l m d r).1).1).1).2||((jF (wu (lM l m d (fy (db l m d r).1).1).1).1).2 !=0)) then((db l m d r).2.1,[],2) else
 ((db l m d r).2.1,RV (jF (wu (lM l m d (fy (db l m d r).1).1).1).1).1 (fy (db l m d r).1).2.1,1)
theorem TY (l:aw aA)(m:bT)(d:Int)(r:ln)(hl:l.length<=10^9)(hm:m.length<=10^9):oF l m d r=some (iC l m d r):=by
 unfold oF iC;simp only[vz,xL,ab,Lw l m d r hl hm];cases hb:cR r;rfl;cases bE r==0;case true=>rfl
 have hu:=vM hb;have hcl:(db l m d r).1.length<=16:=by unfold db;cases !cR r||(bE r==0)with|true=>exact bP _|false=>have:=I3 l m d (bE r).toNat [] r;simp only[eG]at this;show(sF l m d (bE r).toNat [] r).1.length<=16;omega
 simp only[aj,af,ab,bS];generalize db l m d r=c at hcl⊢;cases c.2.2;rfl;simp only[aj,af,ab,cC,Ot c.1 (show c.1.length<=10^9 by omega)];have hpo:=Rx (l:=c.1);generalize fy c.1=p at hpo⊢;cases hp:p.2.2.2;rfl;have hpo:=hpo hp;have Zi:=(GQ hpo.1).1;have hg:=Qf l m d p.1;simp only[aj,af,ab,cC,TV l m d p.1 hl hm (show p.1.length<=10^9 by omega) (λq hq=>Int.le_trans (hpo.2 q hq) (by omega))];generalize lM l m d p.1=g at hg⊢;cases g.2;rfl;have hf:=WS g.1;simp only[aj,af,ab,cC,Xm g.1 hg];generalize wu g.1=f at hf⊢;cases f.2;rfl;simp only[aj,af,ab,cC,CN f.1 (show f.1.length<=10^9 by omega)];generalize jF f.1=i;cases i.2 !=0;case true=>rfl
 simp only[af,aa5,ab]
theorem MO (l:aw aA)(m:bT)(d:Int)(r:ln): ((iC l m d r).2.2=0->(iC l m d r).1=r)/\((iC l m d r).2.2≠0->0<bE r/\cR r=true/\cR (iC l m d r).1=true/\bE (iC l m d r).1<bE r)/\(iC l m d r).2.1.length<=320/\(∀x∈(iC l m d r).2.1,x.length<=382)/\((iC l m d r).2.2=0\/(iC l m d r).2.2=1\/(iC l m d r).2.2=2):=by
 unfold iC;cases hc: !cR r||(bE r==0)with
 |true=>exact⟨λ_=>rfl,λh=>absurd rfl h,bP _,(λx hx=>by cases hx),.inl rfl⟩
 |false=>
  simp only[cc,dy,cI]at hc;have hu:=vM hc.1;have hch:cR (db l m d r).2.1=true/\bE (db l m d r).2.1<bE r:=by have:=Hk l m d (bE r).toNat [] r hc.1 rfl;unfold db;rw[show(!cR r||(bE r==0))=false from by rw[hc.1];simpa using hc.2];exact⟨this.1,this.2.2 (by omega)⟩
  cases !(db l m d r).2.2|| !(fy (db l m d r).1).2.2.2 with|true=>exact⟨(λh=>by cases h),λ_=>⟨by omega,hc.1,hch⟩,bP _,(λx hx=>by cases hx),.inr (.inr rfl)⟩|false=>cases !(lM l m d (fy (db l m d r).1).1).2||(!(wu (lM l m d (fy (db l m d r).1).1).1).2||((jF (wu (lM l m d (fy (db l m d r).1).1).1).1).2 !=0))with|true=>exact⟨(λh=>by cases h),λ_=>⟨by omega,hc.1,hch⟩,bP _,(λx hx=>by cases hx),.inr (.inr rfl)⟩|false=>have hs:=YC (jF (wu (lM l m d (fy (db l m d r).1).1).1).1).1 (fy (db l m d r).1).2.1;exact⟨(λh=>by cases h),λ_=>⟨by omega,hc.1,hch⟩,hs.1,hs.2,.inr (.inl rfl)⟩
def pt (l:aw aA)(m:bT)(d:Int):Nat->bT->Nat->Nat->ln->ln×bT×Int×Int
 |0,fr,dn,bd,r=>(r,fr,(dn:Int),(bd:Int))
 |n+1,fr,dn,bd,r=>
  bif (iC l m d r).2.2==0 then(r,fr,(dn:Int),(bd:Int)) else
  bif (iC l m d r).2.2==1 then pt l m d n (fr++(iC l m d r).2.1) (dn+1) bd (iC l m d r).1 else
  pt l m d n (fr++(iC l m d r).2.1) dn (bd+1) (iC l m d r).1
def jP (l:aw aA)(m:bT)(d:Int)(r:ln):ln×bT×Int×Int:=pt l m d 17 [] 0 0 r
theorem D1 (l:aw aA)(m:bT)(d:Int)(hl:l.length<=10^9)(hm:m.length<=10^9):∀(n:Nat)(fr:bT)(dn bd:Nat)(r:ln)(f:Nat),n<f->(cR r=true->bE r<n)->0<n->fr.length+320*n<=10000->dn+bd+n<=1000->
 aW (lS (λy2 y3 y4 _ _ _ _ y9=>some (y9,y2,y3,y4)) l d ([]:bT) 0 0 m (0,0,0,0)) f (fr,(dn:Int),(bd:Int),r)=some (pt l m d n fr dn bd r)
 |0,fr,dn,bd,r,f,_,_,h0,_,_=>by omega
 |n+1,fr,dn,bd,r,0,hf,_,_,_,_=>by omega
 |n+1,fr,dn,bd,r,f+1,hf,hr,_,je,hc=>by have ok:=MO l m d r;rw[aW,pt];simp only[lS,TY l m d r hl hm,ab];generalize iC l m d r=x at ok⊢;cases h0:x.2.2==0 with|true=>simp only[ah,ok.1 (by simpa using h0)]|false=>have hk:=ok.2.1 (by simpa using h0);have hu:=hr hk.2.1;have hu2:=(vM hk.2.2.1).1;simp only[af];cases x.2.2==1 with|true=>simp only[ah];rw[aR,ak];exact D1 l m d hl hm n _ (dn+1) bd _ f (by omega) (λ_=>by omega) (by omega) (by rw[ai];omega) (by omega)|false=>simp only[af];rw[aR,ak];exact D1 l m d hl hm n _ dn (bd+1) _ f (by omega) (λ_=>by omega) (by omega) (by rw[ai];omega) (by omega)
theorem XC (l:aw aA)(m:bT)(d:Int)(r:ln)(hl:l.length<=10^9)(hm:m.length<=10^9):pS l m d r=some (jP l m d r):=by have Ab:=dR;unfold pS;exact D1 l m d hl hm 17 [] 0 0 r fuel (by omega) (λh=>by have:=(vM h).2;omega) (by omega) (by simp) (by omega)
theorem CZ (l:aw aA)(m:bT)(d:Int):∀(n:Nat)(fr:bT)(dn bd:Nat)(r:ln),(∀x∈fr,x.length<=382)->
 (pt l m d n fr dn bd r).2.1.length<=fr.length+320*n/\(∀x∈(pt l m d n fr dn bd r).2.1,x.length<=382)/\0<=(pt l m d n fr dn bd r).2.2.1/\(pt l m d n fr dn bd r).2.2.1<=(dn+n:Nat)/\0<=(pt l m d n fr dn bd r).2.2.2/\(pt l m d n fr dn bd r).2.2.2<=(bd+n:Nat)
 |0,fr,dn,bd,r,h=>⟨aS _,h,by show(0:Int)<=(dn:Int);omega,by show(dn:Int)<=_;omega,by show(0:Int)<=(bd:Int);omega,by show(bd:Int)<=_;omega⟩
 |n+1,fr,dn,bd,r,h=>by
  have ok:=MO l m d r;rw[pt];generalize iC l m d r=x at ok⊢;have h2:∀y∈fr++x.2.1,y.length<=382:=λy hy=>by rcases ax.1 hy with g|g;exact h y g;exact ok.2.2.2.1 y g
  cases x.2.2==0 with|true=>exact⟨by show fr.length<=_;omega,h,by show(0:Int)<=(dn:Int);omega,by show(dn:Int)<=_;omega,by show(0:Int)<=(bd:Int);omega,by show(bd:Int)<=_;omega⟩|false=>cases x.2.2==1 with|true=>have i:=CZ l m d n (fr++x.2.1) (dn+1) bd x.1 h2;rw[ai]at i;simp only[af,ah];exact⟨by omega,i.2.1,i.2.2.1,by omega,i.2.2.2.2.1,by omega⟩|false=>have i:=CZ l m d n (fr++x.2.1) dn (bd+1) x.1 h2;rw[ai]at i;simp only[af,ah];exact⟨by omega,i.2.1,i.2.2.1,by omega,i.2.2.2.2.1,by omega⟩
def Bv (v:Vector):Bool:=bif decide (v.2.2.1>=1) then(bif decide (v.2.2.1>=v.1) then true else decide (v.2.2.2.1>=v.2.1)) else false
theorem ada (v:Vector):zB v=some (Bv v):=by unfold zB Bv;cases decide (v.2.2.1>=1);rfl;cases decide (v.2.2.1>=v.1)<;>rfl
theorem adM (v:Vector):sv v=some (Bv v):=by unfold sv Bv;cases decide (v.2.2.1>=1);rfl;cases decide (v.2.2.1>=v.1)<;>rfl
def Bl (v:Vector):Vector:=bif Bv v&& !v.2.2.2.2.1 then(v.1,v.2.1,v.2.2.1,v.2.2.2.1,v.2.2.2.2.1,true) else v
theorem Gr (v:Vector):nf v=some (Bl v):=by unfold nf Bl;rw[ada,ab];cases Bv v;rfl;cases v.2.2.2.2.1<;>rfl
def Zb (n:Int):Int:=if 1000000<aq (n+1) then 1000000 else aq (n+1)
def evV (v:Vector):Vector:=bif ej v then Bl (v.1,v.2.1,Zb v.2.2.1,v.2.2.2) else v
theorem Xi (v:Vector):uH v=some (evV v):=by unfold uH evV;rw[xM,ab,Gr,ab];cases ej v<;>rfl
def Sk (v:Vector):Vector:=bif ej v then(bif decide (v.2.2.1>0) then Bl (v.1,v.2.1,v.2.2.1,Zb v.2.2.2.1,v.2.2.2.2) else Bl v) else v
theorem XB (v:Vector):rm v=some (Sk v):=by unfold rm Sk;simp only[xM,ab,Gr];cases ej v;rfl;cases decide (v.2.2.1>0)<;>rfl
def zN (v:Vector):Vector×Bool:=bif ej v&&v.2.2.2.2.2 then((v.1,v.2.1,0,0,true,false),true) else(v,false)
theorem XA (v:Vector):nd v=some (zN v):=by unfold nd zN;rw[xM,ab];cases ej v;rfl;cases v.2.2.2.2.2<;>rfl
def F1 (v:Vector):Vector:=bif ej v then Bl (v.1,v.2.1,v.2.2.1,v.2.2.2.1,false,v.2.2.2.2.2) else v
theorem JV (v:Vector):vB v=some (F1 v):=by unfold vB F1;rw[xM,ab,Gr,ab];cases ej v<;>rfl
structure kF (k:Nat) (a b:Host):Prop where
 mem:b.1.length=a.1.length
 maps:b.2.1=a.2.1
 tx:b.2.2.1=a.2.2.1
 rx:b.2.2.2.1.length=a.2.2.2.1.length
 rxs:∀j,k<=j->b.2.2.2.1[j]?=a.2.2.2.1[j]?
 pl:b.2.2.2.2.1.length=a.2.2.2.2.1.length
 vec:b.2.2.2.2.2.1.length=a.2.2.2.2.2.1.length
 Sp:∀j,k<=j->b.2.2.2.2.2.1[j]?=a.2.2.2.2.2.1[j]?
 UF:b.2.2.2.2.2.2.1.length=a.2.2.2.2.2.2.1.length
 Iy:b.2.2.2.2.2.2.2.1=a.2.2.2.2.2.2.2.1
 O7:b.2.2.2.2.2.2.2.2.1=a.2.2.2.2.2.2.2.2.1
theorem kF.refl (k:Nat)(a:Host):kF k a a:=⟨rfl,rfl,rfl,rfl,λ_ _=>rfl,rfl,rfl,λ_ _=>rfl,rfl,rfl,rfl⟩
theorem kF.trans {a b c:Host}(h:kF k a b)(g:kF k b c):kF k a c:=⟨g.mem.trans h.mem,g.maps.trans h.maps,g.tx.trans h.tx,g.rx.trans h.rx,λj hj=>(g.rxs j hj).trans (h.rxs j hj),g.pl.trans h.pl,g.vec.trans h.vec,λj hj=>(g.Sp j hj).trans (h.Sp j hj),g.UF.trans h.UF,g.Iy.trans h.Iy,g.O7.trans h.O7⟩
theorem kF.up {m:Nat}{a b:Host}(h:kF k a b)(hk:k<=m):kF m a b:=⟨h.mem,h.maps,h.tx,h.rx,λj hj=>h.rxs j (by omega),h.pl,h.vec,λj hj=>h.Sp j (by omega),h.UF,h.Iy,h.O7⟩
def kv (g:Nat->Host->Host):Nat->Host->Host
 |0,h=>h
 |k+1,h=>g k (kv g k h)
theorem uB {g:Nat->Host->Host}(hg:∀k h,kF (k+1) h (g k h))(h:Host):∀k,kF k h (kv g k h)
 |0=>kF.refl 0 h
 |k+1=>((uB hg h k).up (by omega)).trans (hg k _)
theorem AD {g:Nat->Host->Host}{d:Nat}(hn:1000<=n)(hg:∀k h m,1000<=m->cX m dJ h->cX (m+d) dJ (g k h))(z:cX n dJ h):∀k,cX (n+d*k) dJ (kv g k h)
 |0=>z
 |k+1=>(hg k _ _ (by omega) (AD hn hg z k)).mono (by rw[Nat.mul_add];omega)
def tR (i:Nat)(h:Host):Host:=
 match h.2.2.2.2.2.1[i]? with
 |some v=>(h.1,h.2.1,h.2.2.1,h.2.2.2.1,h.2.2.2.2.1,h.2.2.2.2.2.1.set i (Sk v),h.2.2.2.2.2.2)
 |none=>h
theorem Ef (i:Nat)(h:Host):kF (i+1) h (tR i h):=by unfold tR;cases h.2.2.2.2.2.1[i]? with|none=>exact kF.refl _ _|some v=>exact⟨rfl,rfl,rfl,rfl,λ_ _=>rfl,rfl,aB ..,λj hj=>aP (by omega),rfl,rfl,rfl⟩
theorem IP {l:aw Vector}{i:Nat}{v:Vector}(z:cX n (.sl fI) l):cX n (.sl fI) (l.set i v):=nH z ⟨cr,cr,cr,cr,cr,cr⟩
theorem Za (i:Nat)(h:Host)(n:Nat)(hn:1000<=n)(z:cX n dJ h):cX (n+0) dJ (tR i h):=by unfold tR;cases h.2.2.2.2.2.1[i]? with|none=>exact z|some v=>exact⟨z.1,z.2.1,z.2.2.1,z.2.2.2.1,z.2.2.2.2.1,IP z.2.2.2.2.2.1,z.2.2.2.2.2.2⟩
def zP (h:Host):Host:=bif eU h then kv tR h.2.2.2.2.2.1.length h else h
theorem acp (hn:1000<=n)(z:cX n dJ h):cX n dJ (zP h)/\(zP h).2.2.1=h.2.2.1:=by unfold zP;cases eU h with|false=>exact⟨z,rfl⟩|true=>exact⟨(AD hn Za z _).mono,(uB Ef h _).tx⟩
theorem aa7 (h:Host)(k:Nl h)(z:cX 1000000000 dJ h):uQ h=some (zP h):=by
 have Ab:=dR;unfold uQ zP;rw[mT h z,ab,vy h k,ab];cases hb:eU h;rfl;have hv:h.2.2.2.2.2.1.length<=10^9:=z.2.2.2.2.2.1.1;simp only[aj,af,ah];refine ew (λi=>((i:Int),kv tR i h)) h.2.2.2.2.2.1.length (by omega) (λi nx hi=>?_) (λnx=>?_);have kk:=uB Ef h i;have i1:i<(kv tR i h).2.2.2.2.2.1.length:=by rw[kk.vec];exact hi
 rw[show kv tR (i+1) h=tR i (kv tR i h) from rfl];generalize kv tR i h=s at i1⊢;simp only[pJ,tR];rw[lE,ah,al i1];simp only[bz i1,ab,XB,az];rw[ak];rfl;simp only[pJ];rw[cW,af]
structure Bc (n:Nat) (h:Host):Prop where
 z:cX n dJ h
 t:h.2.2.1.2.1.2.2.2.length+(bp h.2.2.1.2.2.1).length<=n
theorem Bc.mono {m:Nat}(k:Bc n h)(hn:n<=m:=by omega):Bc m h:=⟨k.z.mono hn,bk k.t hn⟩
theorem Bc.sz (k:Bc n h)(hn:n<=10^9):Nl h:=by have z:cX 1000000000 dJ h:=k.z.mono hn;exact⟨z.1.1,z.2.1.1,z.2.2.1.2.2.1.1,bk k.t hn,z.2.2.2.2.2.2.2.1.2.2.1,z.2.2.2.2.2.2.2.2.1.1.1,z.2.2.2.2.2.2.2.2.1.2.1.1,z.2.2.2.2.2.2.2.2.1.2.2.2.1,λp hp=>(z.2.2.2.2.1.2 p hp).2.2.2.1⟩
theorem Bc.of (k:SB dJ h<=1048576):Bc 1048576 h:=by
 refine⟨IK k,?_⟩;have hb:=Vu h.2.2.1.2.2.1;have h1:SB mc h.2.2.1<=SB dJ h:=by simp only[SB];omega
 have hp:h.2.2.1.2.1.2.2.2.length+SB (.sl iO) h.2.2.1.2.2.1<=SB mc h.2.2.1:=by simp only[SB];omega
 omega
def oU (p:df):aw lZ->df
 |[]=>p
 |x::l=>oU (DU p x.2.2).1 l
theorem Gk:∀(l:aw lZ)(p:df),(oU p l).2.2.2.length<=p.2.2.2.length+(bp l).length
 |[],p=>by simp[oU]
 |x::l,p=>by have h1:=Qh p x.2.2;have h2:=Gk l (DU p x.2.2).1;simp only[oU,bp,List.flatMap_cons,ai]at h2⊢;omega
theorem Mp:∀(l:aw lZ)(p:df)(x:lZ),oU p (l++[x])=(DU (oU p l) x.2.2).1
 |[],p,x=>rfl
 |y::l,p,x=>by rw[List.cons_append,oU,oU,Mp l]
theorem PJ (a b:aw lZ):(bp (a++b)).length=(bp a).length+(bp b).length:=by simp only[bp,List.flatMap_append,ai]
theorem PK (l:aw lZ)(n:Nat):(bp (l.take n)).length+(bp (l.drop n)).length=(bp l).length:=by rw[<-PJ,bU]
def gP (t:dB)(n:Int):dB×cP:=
 bif IM t&&dk n 0 (t.2.2.1.length:Int) then((t.1,oU t.2.1 (t.2.2.1.take n.toNat),t.2.2.1.drop n.toNat,t.2.2.2),(t.2.2.1.take n.toNat).map (·.1)) else(t,[])
theorem adK {l:aw lZ}(h:(bp l).length<=10^9):∀x∈l,x.2.2.length<=10^9:=by intro x hx;induction l with|nil=>cases hx|cons y l ih=>simp only[bp,List.flatMap_cons,ai]at h;rcases cg.1 hx with rfl|g;omega;exact ih (by simp only[bp];omega) g
theorem Ol (t:dB)(n:Int)(hw:t.2.2.1.length<=10^9)(hs:t.2.1.2.2.2.length+(bp t.2.2.1).length<=10^9):kU t n=some (gP t n):=by
 have hx:=adK (l:=t.2.2.1) (by omega);unfold kU gP;rw[DZ t ⟨by omega,hw,hx⟩,ab,T3 t hw hs];simp only[ab,dh];cases IM t;rfl;cases hn:dk n 0 (t.2.2.1.length:Int);rfl;have h:=bf.1 hn;obtain⟨n,rfl⟩:=aV h.1;have hl:n<=t.2.2.1.length:=by omega
 simp only[aj,af,ab,eS,ah,az];rw[xg,ab,az];have htl:(t.2.2.1.take n).length=n:=by rw[aX];omega
 rw[htl];refine ew (λi=>(((t.2.2.1.take i).map (·.1),(i:Int),t.1,oU t.2.1 (t.2.2.1.take i),t.2.2):cP×Int×dB)) n (by omega) (λi nx hi=>?_) (λnx=>?_);have hi2:i<(t.2.2.1.take n).length:=by omega
 have hi3:i<t.2.2.1.length:=by omega
 have e1:(t.2.2.1.take n)[i]=t.2.2.1[i]:=List.getElem_take ..;have g1:=Gk (t.2.2.1.take i) t.2.1;have g2:=PK t.2.2.1 (i+1);have g3:(bp (t.2.2.1.take (i+1))).length=(bp (t.2.2.1.take i)).length+t.2.2.1[i].2.2.length:=by rw[bG hi3,PJ];simp[bp]
 simp only[jk];rw[lE,ah,bz hi2,e1,ab,JR _ _ (by omega),ab,aR (by simp only[cp,aX,bw];omega),ak,bG hi3,Mp,cY];rfl;simp only[jk];rw[cW,af,tQ (l:=t.2.2.1) n hl rfl,ab,E4 _ (by rw[aN];omega) (λx yT=>hx x (List.mem_of_mem_drop yT)),ab]
theorem L5 (n:Int):∀l:aw lZ,l.all (nm n)=true->(l.length:Int)<=dE l
 |[],_=>by simp[dE]
 |x::l,h=>by simp only[bV,ae]at h;have:=L5 n l h.2;have hx:=h.1;unfold nm at hx;simp only[ae,bf]at hx;simp only[dE,cD,List.sum_cons,bq]at this⊢;omega
theorem Eg (h:IM t=true):t.2.2.1.length<=16:=by unfold IM at h;simp only[ae,aC]at h;have h1:=L5 _ _ h.2.2.2.1;have h2:=(kD h.1).2.2.1;have h3:=h.2.2.2.2.2;omega
theorem EG (n:Int)(z:cX k mc t)(hs:t.2.1.2.2.2.length+(bp t.2.2.1).length<=k): cX k mc (gP t n).1/\(gP t n).1.2.1.2.2.2.length+(bp (gP t n).1.2.2.1).length<=k/\(gP t n).2.length<=16:=by unfold gP;cases h:IM t&&dk n 0 (t.2.2.1.length:Int)with|false=>exact⟨z,hs,bP _⟩|true=>simp only[ae]at h;have Zi:=Eg h.1;have g1:=Gk (t.2.2.1.take n.toNat) t.2.1;have g2:=PK t.2.2.1 n.toNat;have hw:t.2.2.1.length<=k:=z.2.2.1.1;refine⟨⟨z.1,⟨cr,cr,cr,?_,λ_ _=>trivial⟩,⟨?_,λx hx=>z.2.2.1.2 x (List.mem_of_mem_drop hx)⟩,z.2.2.2⟩,?_,?_⟩;show(oU t.2.1 (t.2.2.1.take n.toNat)).2.2.2.length<=k;omega;show(t.2.2.1.drop n.toNat).length<=k;rw[aN];omega;show(oU t.2.1 (t.2.2.1.take n.toNat)).2.2.2.length+(bp (t.2.2.1.drop n.toNat)).length<=k;omega;show((t.2.2.1.take n.toNat).map (·.1)).length<=16;rw[cp,aX];omega
theorem GA {t:CT}{l q:aw t.D}(z:cX n (.sl t) l)(hq:∀y∈q,cX n t y)(hk:q.length<=k):cX (n+k) (.sl t) (l++q):=by refine⟨?_,λy hy=>?_⟩;show(l++q).length<=n+k;have:=z.1;rw[ai];omega;rcases ax.1 hy with h|h;exact(z.2 y h).mono;exact(hq y h).mono
def jr (h:Host):Host:=bif eU h then
    (h.1,h.2.1,(gP ((jP h.2.1 h.1 0 h.2.2.1.1).1,h.2.2.1.2) (if(h.2.2.1.2.2.1.length:Int)<aq ((jP h.2.1 h.1 0 h.2.2.1.1).2.2.1+(jP h.2.1 h.1 0 h.2.2.1.1).2.2.2) then(h.2.2.1.2.2.1.length:Int) else aq ((jP h.2.1 h.1 0 h.2.2.1.1).2.2.1+(jP h.2.1 h.1 0 h.2.2.1.1).2.2.2))).1,
      h.2.2.2.1,h.2.2.2.2.1,h.2.2.2.2.2.1,h.2.2.2.2.2.2.1,h.2.2.2.2.2.2.2.1,h.2.2.2.2.2.2.2.2.1,h.2.2.2.2.2.2.2.2.2.1,h.2.2.2.2.2.2.2.2.2.2.1,h.2.2.2.2.2.2.2.2.2.2.2.1++(jP h.2.1 h.1 0 h.2.2.1.1).2.1,
      h.2.2.2.2.2.2.2.2.2.2.2.2.1++(gP ((jP h.2.1 h.1 0 h.2.2.1.1).1,h.2.2.1.2) (if(h.2.2.1.2.2.1.length:Int)<aq ((jP h.2.1 h.1 0 h.2.2.1.1).2.2.1+(jP h.2.1 h.1 0 h.2.2.1.1).2.2.2) then(h.2.2.1.2.2.1.length:Int) else aq ((jP h.2.1 h.1 0 h.2.2.1.1).2.2.1+(jP h.2.1 h.1 0 h.2.2.1.1).2.2.2))).2,h.2.2.2.2.2.2.2.2.2.2.2.2.2) else h
theorem Ox (h:Host)(k:Bc 900000000 h):oB h=some (jr h):=by have z:cX 1000000000 dJ h:=k.z.mono;have hz:=k.sz (by omega);have hm:h.1.length<=900000000:=k.z.1.1;have hl:h.2.1.length<=900000000:=k.z.2.1.1;have hw:h.2.2.1.2.2.1.length<=900000000:=k.z.2.2.1.2.2.1.1;have hwi:h.2.2.2.2.2.2.2.2.2.2.2.1.length<=900000000:=k.z.2.2.2.2.2.2.2.2.2.2.2.1.1;have hco:h.2.2.2.2.2.2.2.2.2.2.2.2.1.length<=900000000:=k.z.2.2.2.2.2.2.2.2.2.2.2.2.1.1;have hA:=CZ h.2.1 h.1 0 17 [] 0 0 h.2.2.1.1 (λx hx=>by cases hx);unfold oB jr;rw[mT h z,ab,vy h hz,ab];cases eU h;rfl;simp only[aj,af,ah,XC h.2.1 h.1 0 _ (show h.2.1.length<=10^9 by omega) (show h.1.length<=10^9 by omega),ab];rw[show pt h.2.1 h.1 0 17 [] 0 0 h.2.2.1.1=jP h.2.1 h.1 0 h.2.2.1.1 from rfl]at hA;generalize jP h.2.1 h.1 0 h.2.2.1.1=x at hA⊢;simp only[eG]at hA;have hC:=EG (k:=900000000) (t:=(x.1,h.2.2.1.2)) (if(h.2.2.1.2.2.1.length:Int)<aq (x.2.2.1+x.2.2.2) then(h.2.2.1.2.2.1.length:Int) else aq (x.2.2.1+x.2.2.2)) ⟨⟨cr,cr,cr,cr⟩,k.z.2.2.1.2⟩ k.t;rw[aR,Ol (x.1,h.2.2.1.2) _ (by show h.2.2.1.2.2.1.length<=_;omega) (bk k.t (by omega)),ab,aR]
theorem Pj (hn:400<=n)(k:Bc n h):Bc (n+5440) (jr h):=by have k':Bc (n+5440) h:=k.mono;have hA:=CZ h.2.1 h.1 0 17 [] 0 0 h.2.2.1.1 (λx hx=>by cases hx);unfold jr;cases eU h;exact k';rw[show pt h.2.1 h.1 0 17 [] 0 0 h.2.2.1.1=jP h.2.1 h.1 0 h.2.2.1.1 from rfl]at hA;generalize jP h.2.1 h.1 0 h.2.2.1.1=x at hA⊢;simp only[eG]at hA;generalize (if(h.2.2.1.2.2.1.length:Int)<aq (x.2.2.1+x.2.2.2) then(h.2.2.1.2.2.1.length:Int) else aq (x.2.2.1+x.2.2.2))=q;have hC:=EG (k:=n) (t:=(x.1,h.2.2.1.2)) q ⟨⟨cr,cr,cr,cr⟩,k.z.2.2.1.2⟩ k.t;have z:=k'.z;refine⟨⟨z.1,z.2.1,hC.1.mono,z.2.2.2.1,z.2.2.2.2.1,z.2.2.2.2.2.1,z.2.2.2.2.2.2.1,z.2.2.2.2.2.2.2.1,z.2.2.2.2.2.2.2.2.1,z.2.2.2.2.2.2.2.2.2.1,cr,?_,?_,z.2.2.2.2.2.2.2.2.2.2.2.2.2⟩,bk hC.2.1 (by omega)⟩;exact GA (t:=.str) (n:=n) (k:=5440) k.z.2.2.2.2.2.2.2.2.2.2.2.1 (λy hy=>by show y.length<=_;have:=hA.2.1 y hy;omega) (by omega);exact(GA (t:=.int .i64) (n:=n) (k:=16) k.z.2.2.2.2.2.2.2.2.2.2.2.2.1 (λ_ _=>trivial) hC.2.2).mono
def tY (l:aw aA)(d:Int)(p:df)(z:Nat):cP->Bytes->bT->aw gn->ay (aw gn×bT)
 |[],_,m,a=>some (a,m)
 |b::q,s,m,a=>bif (hH l m d (nw p b) (s.take z) false).2 then tY l d p z q (s.drop z) (hH l m d (nw p b) (s.take z) false).1 (a++[(nw p b,((s.take z).length:Int))]) else none
theorem EM (l:aw aA)(d:Int)(p:df)(z:Nat):∀(q:cP)(s:Bytes)(m:bT)(a:aw gn){x},tY l d p z q s m a=some x->
 x.2.length=m.length/\x.1.length=a.length+q.length/\∀y∈x.1,y∈a\/((∃b∈q,y.1=nw p b)/\0<=y.2/\y.2<=(z:Int))
 |[],s,m,a,x,h=>by cases h;exact⟨rfl,rfl,λy hy=>Or.inl hy⟩
 |b::q,s,m,a,x,h=>by rw[tY]at h;cases hq:(hH l m d (nw p b) (s.take z) false).2 with|false=>rw[hq]at h;cases h|true=>rw[hq]at h;obtain⟨h1,h2,h3⟩:=EM l d p z q _ _ _ h;rw[jD]at h1;rw[ai,bw]at h2;refine⟨h1,by rw[bq];omega,λy hy=>?_⟩;rcases h3 y hy with g|⟨⟨b',gK,g⟩,g2⟩;rcases ax.1 g with g|g;exact Or.inl g;rw[cj.1 g];refine Or.inr ⟨⟨b,List.mem_cons_self ..,rfl⟩,?_,?_⟩;show(0:Int)<=((s.take z).length:Int);omega;show((s.take z).length:Int)<=(z:Int);rw[aX];omega;exact Or.inr ⟨⟨b',eL _ gK,g⟩,g2⟩
theorem Nv (p:df)(i:Int): -1<=nw p i/\nw p i<=139136:=by unfold nw;cases hb: !dw p|| !dk i 0 (p.2.2.1-1)with|true=>exact⟨dY _,show(-1:Int)<=139136 by omega⟩|false=>simp only[cc,dy]at hb;have h:=wO hb.1;have h2:=bf.1 hb.2;have h3:0<=i*p.2.1:=Int.mul_nonneg h2.1 (by omega);have h4:i*p.2.1<=16*512:=Int.mul_le_mul (by omega) (by omega) (by omega) (by omega);simp only[af];omega
theorem ZJ {p:df}(hp:dw p=true)(hb:b∈p.2.2.2):0<=nw p b:=by obtain⟨i,hi,rfl⟩:=List.getElem_of_mem hb;have hq:=hp;simp only[dw,ae]at hq;have:=aI.1 hq.2.2.2 i (ch.2 hi);simp only[BD,ae,dg hi]at this;have hn:=this.1;have h:=wO hp;have h2:=bf.1 hn;have h3:0<=p.2.2.2[i]*p.2.1:=Int.mul_nonneg h2.1 (by omega);unfold nw;rw[hp,hn];show 0<=p.1+p.2.2.2[i]*p.2.1;omega
theorem Si (s:Bytes)(z:Nat):sub s 0 (if(s.length:Int)<(z:Int) then(s.length:Int) else(z:Int))=some (s.take z):=by by_cases h:(s.length:Int)<(z:Int);rw[aF h,xg,az,dZ,bL (by omega)];rw[aG h,xg,az]
theorem PY (s:Bytes)(z:Nat):sub s ((s.take z).length:Int) (s.length:Int)=some (s.drop z):=by rw[Se _ _ (by rw[aX];omega),aX];by_cases h:z<=s.length;rw[gJ h];rw[Nat.min_eq_right (by omega),List.drop_length,List.drop_eq_nil_of_le (by omega)]
def Zr:ay (aw gn×bT)->ay (Bool×bT×aw gn×Bool)->Prop
 |some x,r=>r=some (true,x.2,x.1,true)
 |none,r=>∃c m,r=some (c,m,[],false)
theorem Dh (l:aw aA)(d:Int)(p:df)(z:Nat)(B:bT)(hp:p.2.2.2.length<=10^9)(hl:l.length<=10^9):∀(rest pre:cP)(s:Bytes)(m:bT)(a:aw gn)(f:Nat),rest.length<f->(pre++rest).length<=1000000->a.length+rest.length<=1000000->m.length<=10^9->
 Zr (tY l d p z rest s m a) (aW (jB (λ_ DD _ Hf=>some (true,Hf,DD,true)) (λ_ K5 SE _ _ _ y23=>some (true,y23,K5,SE)) l d (z:Int) ([]:aw gn) false (pre++rest) ((pre++rest).length:Int) p B) f (s,a,(pre.length:Int),m))
 |rest,pre,s,m,a,0,hf,_,_,_=>by omega
 |[],pre,s,m,a,f+1,_,_,_,_=>by rw[aW];simp only[jB];rw[ar (by simp),af];rfl
 |b::q,pre,s,m,a,f+1,hf,hn,ha,hm=>by
  simp only[bq,ai]at hf hn ha;have hi:pre.length<(pre++b::q).length:=by simp
  have hb:(pre++b::q)[pre.length]=b:=by simp
  have hA:=Nv p b;rw[aW];simp only[jB];rw[au (by simp;omega),bz hi,hb];simp only[ah,ab,Si,PY,E3 p b hp,yV l m d (nw p b) (s.take z) hl hm];rw[tY];cases hq:(hH l m d (nw p b) (s.take z) false).2 with
  |false=>exact⟨_,_,rfl⟩
  |true=>
   simp only[aj,af,ah];rw[ak (n:=(pre.length:Int)+1),aR (by simp only[bw];omega)];have key:=Dh l d p z B hp hl q (pre++[b]) (s.drop z) (hH l m d (nw p b) (s.take z) false).1 (a++[(nw p b,((s.take z).length:Int))]) f (by omega) (by simp;omega) (by simp;omega) (by rw[jD];exact hm);have el:((pre++[b]).length:Int)=(pre.length:Int)+1:=by simp
   rw[aJ,List.singleton_append,el]at key;exact key
theorem Xl (l:aw aA)(m:bT)(d:Int)(p:df)(q:cP)(s:Bytes)(z:Nat)(hp:p.2.2.2.length<=10^9)(hl:l.length<=10^9)(hm:m.length<=10^9)(hq:q.length<=1000)(h0:0<q.length): Zr (tY l d p z q s m []) (mr l m d p q s (z:Int)):=by have Ab:=dR;cases q with|nil=>cases h0|cons b q=>simp only[bq]at hq;have hA:=Nv p b;have hi:idx (b::q) 0=some b:=rfl;unfold mr;rw[au (by simp),ah,hi];simp only[ab,Si,PY,E3 p b hp,yV l m d (nw p b) (s.take z) hl hm];rw[tY];cases hq':(hH l m d (nw p b) (s.take z) false).2 with|false=>exact⟨_,_,rfl⟩|true=>simp only[aj,af,ah];rw[aR (by simp),show aq (0+1)=1 from rfl];exact Dh l d p z _ hp hl q [b] (s.drop z) (hH l m d (nw p b) (s.take z) false).1 [(nw p b,((s.take z).length:Int))] fuel (by omega) (by simp;omega) (by simp;omega) (by rw[jD];exact hm)
theorem aal {ps:aw gn}{c:Int}(h0:0<ps.length)(Zi:ps.length<=16)(hp:∀x∈ps,0<=x.1/\x.1<=200000/\0<=x.2/\x.2<=4096)(hz:dk z 1 128=true)(hc:dk c 0 65535=true):(ou ps z c).length=ps.length+1:=by
 have hz2:=bf.1 hz;have TH:=bf.1 hc;have e1:nk ps=true:=by unfold nk;rw[ae,aL,aC];refine⟨List.any_eq_false.2 λx hx=>?_,by omega⟩;have:=hp x hx;unfold xT;rw[cW,cC,aL,Bool.eq_false_iff];intro h;exact h (bf.2 (by omega))
 have e2:([((2:Int),(0:Int),(0:Int),(0:Int),z,c)]++wq ps c ps.length).all se=true:=by rw[List.all_append,ae];constructor;simp only[bV,List.all_nil,gN,se,ae,bf];omega;rw[Gf];refine aI.2 λj hj=>?_;have hj:=ch.1 hj;have:=hp _ (bC hj);simp only[dsc,dg hj,se,ae,bf];refine⟨by omega,?_,by omega,by omega,by omega,by omega⟩;by_cases hq:j+1=ps.length;rw[aF hq];omega;rw[aG hq];omega
 unfold ou;rw[e1,hz,e2,show((ps.length:Int)==0)=false from by rw[cI];omega];simp only[aj,bS,af,ah,ai,bw,zi];omega
theorem QK (K:bT->Int->ay R)(l:aw aA)(d:Int)(q:cP)(ds ds2:aw og)(t1 t2 t3 t4:dB)(m1 m2 m3:bT)(h:ds.length<=1000): aW (fM K l d q ds2 ds (ds.length:Int) t1 m1 t2 m2 t3 t4 m3) fuel (([]:bT),0)=K (ds.map vV) (ds.length:Int):=by
 have Ab:=dR;refine ew (λi=>((ds.take i).map vV,(i:Int))) ds.length (by omega) (λi nx hi=>?_) (λnx=>?_);have e:((ds.take i).map vV).length<=1000:=by simp;omega
 rw[bG hi,cY];simp only[fM];rw[lE,ah,bz hi,ab,On,ab,aR (by simp only[bw];omega),ak];rfl;simp only[fM];rw[cW,af,dZ]
def vU (p:aO)(z:Nat):Nat:=((jx p).1.length+z-1)/z
def HN (l:aw aA)(m:bT)(d:Int)(t:dB)(c:Int)(n:Nat)(x:aw gn×bT):bT×dB×Bool:=
 bif (rr l x.2 d t.1 ((ou x.1 c t.2.2.2).map vV)).2.2 then
  ((rr l x.2 d t.1 ((ou x.1 c t.2.2.2).map vV)).1,((rr l x.2 d t.1 ((ou x.1 c t.2.2.2).map vV)).2.1,(jH t.2.1 (n:Int)).1,t.2.2.1++[(t.2.2.2,(n:Int)+1,(jH t.2.1 (n:Int)).2.1)],tmod (t.2.2.2+1) 65536),true)
 else(m,t,false)
def EN (t:dB)(n:Nat):Bool:=(jH t.2.1 (n:Int)).2.2&&(!decide ((n:Int)>16)&&(!decide ((n:Int)+1>nz t.1)&& !decide (dE t.2.2.1+(n:Int)+1>t.1.2.1)))
def ur (l:aw aA)(m:bT)(d:Int)(t:dB)(p:aO)(c z:Int):bT×dB×Bool:=
 bif IM t&&(dq p&&(dk z 1 t.2.1.2.1&&dk c 1 128)) then
  bif EN t (vU p z.toNat) then
   match tY l d t.2.1 z.toNat (jH t.2.1 (vU p z.toNat:Int)).2.1 (jx p).1 m []with
   |some x=>HN l m d t c (vU p z.toNat) x
   |none=>(m,t,false)
  else(m,t,false)
 else(m,t,false)
theorem Vc (h:dq p=true):0<(jx p).1.length/\(jx p).1.length<=378:=by have hl:=xp p;have hs:=QE h;unfold jx;rw[h];show 0<(ld (dx p).1 (bN 0) (bN 0)).length/\(ld (dx p).1 (bN 0) (bN 0)).length<=378;rw[B7];omega
theorem ae6 (len z:Nat)(h:len<=1000)(hz:z<=1000)(h0:0<z):aq (Int.tdiv (aq (aq ((len:Int)+(z:Int))-1)) (z:Int))=(((len+z-1)/z:Nat):Int):=by have hd:(len+z-1)/z<=len+z-1:=Nat.div_le_self ..;rw[ak (n:=(len:Int)+(z:Int)),ak (n:=(len:Int)+(z:Int)-1),show(len:Int)+(z:Int)-1=((len+z-1:Nat):Int) by omega,show Int.tdiv ((len+z-1:Nat):Int) (z:Int)=(((len+z-1)/z:Nat):Int) from rfl];generalize (len+z-1)/z=N at hd⊢;rw[ak]
theorem Sg {p:df}(h:(jH p (n:Int)).2.2=true):dw p=true/\n<=p.2.2.2.length/\(jH p (n:Int)).2.1=p.2.2.2.take n:=by unfold jH at h⊢;cases hq:dw p&&dk (n:Int) 0 (p.2.2.2.length:Int)with|false=>rw[hq]at h;cases h|true=>simp only[ae,bf]at hq;exact⟨hq.1,by omega,rfl⟩
theorem WT {c:Int}{z:Nat}{x:aw gn×bT}(ht:IM t=true)(hz:z<=512)(hc:dk c 1 128=true)(h0:0<n)(Zi:n<=16)(hk:(jH t.2.1 (n:Int)).2.2=true)(hx:tY l d t.2.1 z (jH t.2.1 (n:Int)).2.1 s m []=some x):x.2.length=m.length/\(ou x.1 c t.2.2.2).length=n+1:=by
 obtain⟨hp,hn,hb⟩:=Sg hk;rw[hb]at hx;obtain⟨h1,h2,h3⟩:=EM l d t.2.1 z _ _ _ _ hx;simp only[eG,aX,cl]at h2;have e:x.1.length=n:=by omega
 refine⟨h1,?_⟩;rw[aal (by omega) (by omega) (λy hy=>?_) hc (by simp only[IM,ae]at ht;exact ht.2.2.1),e];rcases h3 y hy with g|⟨⟨b,gK,g⟩,g2⟩;cases g;have q1:=ZJ hp (List.mem_of_mem_take gK);have q2:=Nv t.2.1 b;rw[g];omega
theorem Xu (l:aw aA)(m:bT)(d:Int)(t:dB)(p:aO)(c z:Int)(hl:l.length<=10^9)(hm:m.length<=10^9)(ht:acG t)(h1:t.2.2.1.length<=10^9)(h2:t.2.1.2.2.2.length+(bp t.2.2.1).length<=10^9):rk l m d t p c z=some (ur l m d t p c z):=by
 have Ab:=dR;unfold rk ur;rw[fJ m,ab,DZ t ht,ab,T3 t h1 h2,ab,nY,dh,dh];simp only[ab];cases hb:IM t;rfl;cases hp:dq p;rfl;cases hz:dk z 1 t.2.1.2.1;rfl;cases hc:dk c 1 128;rfl;have hT:=Vc hp;have hz2:=bf.1 hz;have hq:=hb;simp only[IM,ae]at hq;have CJ:=wO hq.2.1;have Zi:=Eg hb;have Sy:=kD hq.1;have hnx:=bf.1 hq.2.2.1;obtain⟨z,rfl⟩:=aV (by omega:0<=z);have hzn:¬(z:Int)=0:=by omega
 have hS:∀x∈t.2.2.1,0<=x.2.1/\x.2.1<=16:=λx hx=>by have:=aI.1 hq.2.2.2.1 x hx;simp only[nm,ae,bf]at this;omega
 have hcb:=Bm _ hS;have hN:vU p z<=1000:=by have:vU p z<=(jx p).1.length+z-1:=Nat.div_le_self ..;omega
 have hN0:0<vU p z:=Nat.div_pos (by omega) (by omega);have hce:=ae6 (jx p).1.length z (by omega) (by omega) (by omega);rw[show((jx p).1.length+z-1)/z=vU p z from rfl]at hce;simp only[aj,af,ab,eS,ah,az,ME,aG hzn,hce,Xz _ _ (show t.2.1.2.2.2.length<=10^9 by omega),Mw,Xv t (by omega) hS,EN];rw[ak (n:=(vU p z:Int)+1),ak (n:=dE t.2.2.1+(vU p z:Int)),ak (n:=dE t.2.2.1+(vU p z:Int)+1)];by_cases g1:(vU p z:Int)>16;rw[au g1];simp only[ah,ab,aj,ez,fz,af];rw[ar g1];simp only[cb,af,bF];cases decide ((vU p z:Int)+1>nz t.1)with|true=>simp only[ah,ab,aj,ez,fz,af]|false=> ?_
 simp only[cb,af,bF,ab];cases decide (dE t.2.2.1+(vU p z:Int)+1>t.1.2.1)with|true=>simp only[ah,ab,aj,ez,fz,af]|false=> ?_
 simp only[cb,af,gN,ab];cases hk:(jH t.2.1 (vU p z:Int)).2.2;rfl;simp only[aj,af,ah,fJ m (show m.length<=1073741824 by omega),ab];obtain⟨_,Zk,TK⟩:=Sg hk;have hkl:(jH t.2.1 (vU p z:Int)).2.1.length=vU p z:=by rw[TK,aX];omega
 have key:=Xl l m d t.2.1 (jH t.2.1 (vU p z:Int)).2.1 (jx p).1 z (by omega) hl hm (by omega) (by omega);cases hx:tY l d t.2.1 z (jH t.2.1 (vU p z:Int)).2.1 (jx p).1 m []with
 |none=>rw[hx]at key;obtain⟨a,b,e⟩:=key;obtain⟨f,g,_⟩:=Ae [] c t.2.2.2 (by simp);rw[e,ab];simp only[g,ab];cases a<;>cases f<;>rfl
 |some x=>
  rw[hx]at key;have key:mr _ _ _ _ _ _ _=_:=key;obtain⟨x1,x2⟩:=WT hb (by omega) hc hN0 (by omega) hk hx;obtain⟨_,x3,_⟩:=EM l d t.2.1 z _ _ _ _ hx;simp only[eG]at x3;obtain⟨f,g,hf⟩:=Ae x.1 c t.2.2.2;have hft:f=true:=by cases f with|true=>rfl|false=>have:=hf rfl;rw[this]at x2;cases x2
  subst hft;simp only[key,g,ab,ah,aj,af,aG (show¬(ou x.1 c t.2.2.2).length=0 by omega),HN];rw[QK _ _ _ _ _ _ _ _ _ _ _ _ _ (by omega)];simp only[TZ l x.2 d t.1 _ hl (by omega) (show((ou x.1 c t.2.2.2).map vV).length<=10^9 by rw[cp];omega),ab];cases (rr l x.2 d t.1 ((ou x.1 c t.2.2.2).map vV)).2.2 with|false=>rfl|true=>simp only[aj,af,ab,ah];rw[aR (by simp only[bw];omega),lF,ak,x2];rfl
def O8 (g:Nat->Host->Host):Nat->Host->Host
 |0,h=>h
 |k+1,h=>g k (O8 g k h)
structure AL (a b:Host):Prop where
 maps:b.2.1=a.2.1
 tx:b.2.2.1=a.2.2.1
 rx:b.2.2.2.1.length=a.2.2.2.1.length
 pl:b.2.2.2.2.1.length=a.2.2.2.2.1.length
 vec:b.2.2.2.2.2.1=a.2.2.2.2.2.1
 UF:b.2.2.2.2.2.2.1=a.2.2.2.2.2.2.1
 ret:b.2.2.2.2.2.2.2.2.2.2.2.2.2.1=a.2.2.2.2.2.2.2.2.2.2.2.2.2.1
theorem AL.refl (a:Host):AL a a:=⟨rfl,rfl,rfl,rfl,rfl,rfl,rfl⟩
theorem AL.trans {a b c:Host}(h:AL a b)(k:AL b c):AL a c:=⟨k.1.trans h.1,k.2.trans h.2,k.3.trans h.3,k.4.trans h.4,k.5.trans h.5,k.6.trans h.6,k.7.trans h.7⟩
theorem Ry (h:Host)(i:Nat)(c:Int):AL h (uj h i c).2:=by unfold uj;rcases h1:h.2.2.2.1[i]? with _|rx;exact AL.refl h;rcases h2:h.2.2.2.2.1[i]? with _|pl;exact AL.refl h;exact⟨rfl,rfl,aB ..,aB ..,rfl,rfl,rfl⟩
def pZ (h:Host)(k:Nat):Host:=O8 (λi s=>(uj s i 1000).2) k h
theorem Au (hn:128<=n)(z:cX n dJ h):∀k,AL h (pZ h k)/\cX (n+322000*k) dJ (pZ h k)
 |0=>⟨AL.refl h,z⟩
 |k+1=>by have i:=Au hn z k;exact⟨i.1.trans (Ry ..),(UG (by omega) k 1000 i.2).mono⟩
def RN (h:Host)(l:cP):Host:=(h.1,h.2.1,h.2.2.1,h.2.2.2.1,h.2.2.2.2.1,h.2.2.2.2.2.1,h.2.2.2.2.2.2.1,h.2.2.2.2.2.2.2.1,h.2.2.2.2.2.2.2.2.1,h.2.2.2.2.2.2.2.2.2.1,h.2.2.2.2.2.2.2.2.2.2.1,h.2.2.2.2.2.2.2.2.2.2.2.1,h.2.2.2.2.2.2.2.2.2.2.2.2.1,h.2.2.2.2.2.2.2.2.2.2.2.2.2.1++l,h.2.2.2.2.2.2.2.2.2.2.2.2.2.2)
def Pm (h:Host):Host:=(h.1,h.2.1,(tT.1,tT.2.1,tT.2.2.1,h.2.2.1.2.2.2),h.2.2.2)
def Dm (h:Host)(i:Nat)(dr:Int):Host:=
 ((sn h.2.1 h.1 i).1,h.2.1,h.2.2.1,h.2.2.2.1.set i ((sn h.2.1 h.1 i).2.1,(HM i).2.1,(HM i).2.2.1,(HM i).2.2.2.1,(HM i).2.2.2.2.1,dr),h.2.2.2.2.1.set i (sn h.2.1 h.1 i).2.2.1,h.2.2.2.2.2)
def C7 (x:ca):Int:=bif x.2.2.2.2.1 then aq (x.2.2.2.2.2+x.2.2.2.1.2.2) else x.2.2.2.2.2
def uq (i:Nat)(h:Host):Host:=
 match h.2.2.2.1[i]?,h.2.2.2.2.2.1[i]? with
 |some x,some v=>((Dm h i (C7 x)).1,h.2.1,h.2.2.1,(Dm h i (C7 x)).2.2.2.1,(Dm h i (C7 x)).2.2.2.2.1,h.2.2.2.2.2.1.set i (v.1,v.2.1,0,0,false,false),h.2.2.2.2.2.2.1.set i false,h.2.2.2.2.2.2.2)
 |_,_=>h
structure ad5 (k:Nat) (a b:Host):Prop where
 mem:b.1.length=a.1.length
 maps:b.2.1=a.2.1
 rx:b.2.2.2.1.length=a.2.2.2.1.length
 pl:b.2.2.2.2.1.length=a.2.2.2.2.1.length
 vec:b.2.2.2.2.2.1.length=a.2.2.2.2.2.1.length
 Sp:∀j,k<=j->b.2.2.2.2.2.1[j]?=a.2.2.2.2.2.1[j]?
 UF:b.2.2.2.2.2.2.1.length=a.2.2.2.2.2.2.1.length
theorem MQ (l:aw aA)(m:bT)(i:Nat):(sn l m i).1.length=m.length:=by unfold sn;rw[VK,jD]
theorem RM (i:Nat)(h:Host):ad5 (i+1) h (uq i h):=by unfold uq;rcases h1:h.2.2.2.1[i]? with _|x;exact⟨rfl,rfl,rfl,rfl,rfl,λ_ _=>rfl,rfl⟩;rcases h2:h.2.2.2.2.2.1[i]? with _|v;exact⟨rfl,rfl,rfl,rfl,rfl,λ_ _=>rfl,rfl⟩;have e1:(Dm h i (C7 x)).1.length=h.1.length:=MQ h.2.1 h.1 i;exact⟨e1,rfl,aB ..,aB ..,aB ..,λj hj=>aP (by omega),aB ..⟩
def gU (h:Host)(k:Nat):Host:=O8 uq k h
theorem uZ (h:Host):∀k,ad5 k h (gU h k)
 |0=>⟨rfl,rfl,rfl,rfl,rfl,λ_ _=>rfl,rfl⟩
 |k+1=>by have a:=uZ h k;have b:=RM k (gU h k);exact⟨b.mem.trans a.mem,b.maps.trans a.maps,b.rx.trans a.rx,b.pl.trans a.pl,b.vec.trans a.vec,λj hj=>(b.Sp j hj).trans (a.Sp j (by omega)),b.UF.trans a.UF⟩
theorem Yb (hn:1000<=n)(i:Nat)(d:Int)(z:cX n dJ h):cX n dJ (Dm h i d):=by unfold Dm sn;have h4:=nj (gO i+128) 384 4;have hf:=DQ h.2.1 (hH h.2.1 h.1 0 (gO i) (wB 128) false).1 0 (gO i,4,0,0) (gT (gO i+128) 384 4).1;refine⟨Mf (by omega) (B6 (by omega) z.1 ..) ..,z.2.1,z.2.2.1,nH z.2.2.2.1 ?_,nH z.2.2.2.2.1 ?_,z.2.2.2.2.2⟩;refine⟨⟨cr,cr,cr,cr⟩,⟨cr,cr,cr⟩,⟨cr,cr,cr⟩,⟨⟨cr,cr,cr,cr,cr,cr,cr,cr,cr,cr,cr,cr,cr,cr,cr,?_⟩,cr,cr⟩,cr,cr⟩;exact bP _;exact⟨cr,cr,cr,by show List.length _<=_;omega,λ_ _=>trivial⟩
theorem UN (hn:1000<=n)(i:Nat)(z:cX n dJ h):cX n dJ (uq i h):=by unfold uq;rcases h1:h.2.2.2.1[i]? with _|x;exact z;rcases h2:h.2.2.2.2.2.1[i]? with _|v;exact z;have zo:=Yb hn i (C7 x) z;exact⟨zo.1,z.2.1,z.2.2.1,zo.2.2.2.1,zo.2.2.2.2.1,nH z.2.2.2.2.2.1 ⟨cr,cr,cr,cr,cr,cr⟩,nH z.2.2.2.2.2.2.1 trivial,z.2.2.2.2.2.2.2⟩
theorem Ay (hn:1000<=n)(z:cX n dJ h):∀k,cX n dJ (gU h k)
 |0=>z
 |k+1=>UN hn k (Ay hn z k)
def KA (W:aw lZ)(i:Nat)(s:Host):Host:=match W[i]? with|some x=>RN s [x.1]|none=>s
def polled (h:Host):Host:=pZ h h.2.2.2.1.length
def returned (h:Host)(k:Nat):Host:=O8 (KA h.2.2.1.2.2.1) k (polled h)
structure agJ (a b:Host):Prop where
 e:b=(a.1,a.2.1,a.2.2.1,a.2.2.2.1,a.2.2.2.2.1,a.2.2.2.2.2.1,a.2.2.2.2.2.2.1,a.2.2.2.2.2.2.2.1,a.2.2.2.2.2.2.2.2.1,a.2.2.2.2.2.2.2.2.2.1,a.2.2.2.2.2.2.2.2.2.2.1,a.2.2.2.2.2.2.2.2.2.2.2.1,a.2.2.2.2.2.2.2.2.2.2.2.2.1,b.2.2.2.2.2.2.2.2.2.2.2.2.2.1,a.2.2.2.2.2.2.2.2.2.2.2.2.2.2)
theorem vL (z:cX n dJ (polled h)):∀k,agJ (polled h) (returned h k)/\(returned h k).2.2.2.2.2.2.2.2.2.2.2.2.2.1.length<=n+k
 |0=>⟨⟨rfl⟩,by have:=z.2.2.2.2.2.2.2.2.2.2.2.2.2.1.1;exact bk this (by omega)⟩
 |k+1=>by have i:=vL z k;have e:returned h (k+1)=KA h.2.2.1.2.2.1 k (returned h k):=rfl;rw[e];unfold KA;cases h.2.2.1.2.2.1[k]? with|none=>exact⟨i.1,bk i.2 (by omega)⟩|some x=>refine⟨⟨?_⟩,?_⟩;show RN _ _=_;have e:=i.1.e;generalize returned h k=r at e⊢;rw[e];rfl;show(_++[_]).length<=_;rw[ai,bw];omega
theorem OR (z:cX n dJ (polled h))(k:Nat):cX (n+k) dJ (returned h k):=by have i:=vL z k;have z':cX (n+k) dJ (polled h):=z.mono;rw[i.1.e];exact⟨z'.1,z'.2.1,z'.2.2.1,z'.2.2.2.1,z'.2.2.2.2.1,z'.2.2.2.2.2.1,z'.2.2.2.2.2.2.1,z'.2.2.2.2.2.2.2.1,z'.2.2.2.2.2.2.2.2.1,z'.2.2.2.2.2.2.2.2.2.1,z'.2.2.2.2.2.2.2.2.2.2.1,z'.2.2.2.2.2.2.2.2.2.2.2.1,z'.2.2.2.2.2.2.2.2.2.2.2.2.1,⟨i.2,λ_ _=>trivial⟩,z'.2.2.2.2.2.2.2.2.2.2.2.2.2.2⟩
theorem Sl (hn:1000<=n)(z:cX n dJ h):cX n dJ (Pm h):=by have h4:=nj 256 128 8;exact⟨z.1,z.2.1,⟨⟨cr,cr,cr,cr⟩,⟨cr,cr,cr,by show List.length (gT 256 128 8).1.2.2.2<=n;omega,λ_ _=>trivial⟩,⟨bP _,λx hx=>by cases hx⟩,cr⟩,z.2.2.2⟩
def pA (h:Host):Host:=Pm (returned h h.2.2.1.2.2.1.length)
def gD (h:Host):Host:=bif eU h then gU (pA h) h.2.2.2.1.length else h
theorem JH (hb:eU h=true):qq h=true:=by simp only[eU,ae]at hb;exact hb.2.2.2.2.1
theorem Hm (hn:1000<=n)(z:cX n dJ h)(hl:h.2.2.2.1.length<=2):cX (n+644000+h.2.2.1.2.2.1.length) dJ (pA h):=by have hp:=Au (by omega) z h.2.2.2.1.length;exact Sl (by omega) (OR (hp.2.mono) _)
theorem ah2 (l:aw aA)(X:bT)(q:ca)(P:df)(o:bT×ln×df×Int)(k:ca×df->bT×ln×df×Int->ay R)(h:hU l X 0 q.1 P=some o):(aa (hU l X 0 (q,P).1.1 (q,P).2) λOP=>k (q,P) OP)=k (q,P) o:=by show aa (hU l X 0 q.1 P) (λOP=>k (q,P) OP)=k (q,P) o;rw[h,ab]
theorem Mx (l:aw aA)(m:bT)(i:Nat)(hi:i<=8)(hl:l.length<=10^9)(hm:m.length<=10^9)(k:ca×df->bT×ln×df×Int->ay R): (aa (pa (i:Int)) λwz=>aa (mR 0 128) λWc=>aa (jf l m 0 wz Wc) λyZ=>aa (ug (i:Int)) λDs=>aa (hU l yZ.1 0 Ds.1.1 Ds.2) λOP=>k Ds OP)=k (HM i,(gT (gO i+128) 384 4).1) (sn l m i):=by
 have hb:gO i=1280+(i:Int)*1792:=rfl;have IB:gO i<=9223372036854775807:=by omega
 have hz:mR 0 128=some (wB 128):=VX 128;have hf:=QL l (hH l m 0 (gO i) (wB 128) false).1 0 (gO i,4,0,0) (gT (gO i+128) 384 4).1 hl (by rw[jD];exact hm) (bk (nj (gO i+128) 384 4) (by omega));rw[QH i hi,ab,hz,ab,yV l m 0 (gO i) (wB 128) hl hm IB,ab,Xs i hi,ab];exact ah2 l _ (HM i) _ (sn l m i) k hf
theorem Lv (K:Int->Host->ay Host)(s0 B:Host)(N:Nat)(hN:N<=2)(h1:s0.2.2.2.1.length=N)(h2:s0.2.2.2.2.1.length=N)(h3:s0.2.2.2.2.2.1.length=N)(h4:s0.2.2.2.2.2.2.1.length=N)(z:cX 900000000 dJ s0): aW (kj K (N:Int) B) fuel (0,s0)=K (N:Int) (gU s0 N):=by
 refine ew (λi=>((i:Int),gU s0 i)) N (by omega) (λi nx hi=>?_) (λnx=>?_);have kr:=uZ s0 i;have zr:=Ay (by omega) z i;have z1:(gU s0 i).1.length<=10^9:=bk zr.1.1 (by omega);have z2:(gU s0 i).2.1.length<=10^9:=bk zr.2.1.1 (by omega);have i1:i<(gU s0 i).2.2.2.1.length:=by rw[kr.rx,h1];exact hi
 have i2:i<(gU s0 i).2.2.2.2.1.length:=by rw[kr.pl,h2];exact hi
 have i3:i<(gU s0 i).2.2.2.2.2.1.length:=by rw[kr.vec,h3];exact hi
 have i4:i<(gU s0 i).2.2.2.2.2.2.1.length:=by rw[kr.UF,h4];exact hi
 rw[show gU s0 (i+1)=uq i (gU s0 i) from rfl];generalize gU s0 i=s at z1 z2 i1 i2 i3 i4⊢;unfold uq C7 Dm;simp only[al i1,al i3];simp only[kj];rw[lE,ah];simp only[bz i1,ab];rw[Mx s.2.1 s.1 i (by omega) z2 z1,Mx s.2.1 s.1 i (by omega) z2 z1];generalize HM i=q;generalize sn s.2.1 s.1 i=o;simp only[bz i1,bz i2,bz i3,bz i4,ab];rw[ak (n:=(i:Int)+1),az];cases s.2.2.2.1[i].2.2.2.2.1<;>rfl;simp only[kj];rw[cW,af]
theorem NW (hq:AL h (polled h))(hz:cX n dJ (polled h)):(pA h).2.2.2.1.length=h.2.2.2.1.length/\(pA h).2.2.2.2.1.length=h.2.2.2.2.1.length/\(pA h).2.2.2.2.2.1=h.2.2.2.2.2.1/\(pA h).2.2.2.2.2.2.1=h.2.2.2.2.2.2.1:=by have er:=(vL hz h.2.2.1.2.2.1.length).1.e;refine⟨?_,?_,?_,?_⟩;show(returned h h.2.2.1.2.2.1.length).2.2.2.1.length=_;rw[er];exact hq.rx;show(returned h h.2.2.1.2.2.1.length).2.2.2.2.1.length=_;rw[er];exact hq.pl;show(returned h h.2.2.1.2.2.1.length).2.2.2.2.2.1=_;rw[er];exact hq.vec;show(returned h h.2.2.1.2.2.1.length).2.2.2.2.2.2.1=_;rw[er];exact hq.UF
theorem yU (h:Host)(k:Nl h)(z:cX 100000000 dJ h):ki h=some (gD h):=by
 have Ab:=dR;unfold ki gD;rw[mT h (z.mono),ab,vy h k,ab];cases hb:eU h;rfl;have hl:=pX (JH hb);have hw:h.2.2.1.2.2.1.length<=100000000:=z.2.2.1.2.2.1.1;have hp:=Au (n:=100000000) (by omega) z;simp only[aj,af,ah];refine ew (λi=>((i:Int),pZ h i)) h.2.2.2.1.length (by omega) (λi nx hi=>?_) (λnx=>?_);simp only[oA];rw[lE,ah,Ou (pZ h i) i 1000 (by rw[(hp i).1.rx];exact hi) (by rw[(hp i).1.pl];omega) ((hp i).2.mono),ab,ak];rfl;simp only[oA];rw[cW,af];have hq:=hp h.2.2.2.1.length;have hr:=vL (n:=100000000+322000*h.2.2.2.1.length) hq.2;have e1:(pZ h h.2.2.2.1.length).2.2.1.2.2.1=h.2.2.1.2.2.1:=by rw[hq.1.tx]
 rw[e1];refine ew (λi=>((i:Int),returned h i)) h.2.2.1.2.2.1.length (by omega) (λi nx hi=>?_) (λnx=>?_);have hri:=(hr i).2;simp only[mV];rw[lE,ah,bz hi,ab,aR (by rw[bw];omega),ak];rw[show returned h (i+1)=KA h.2.2.1.2.2.1 i (returned h i) from rfl,KA,al hi];rfl;simp only[mV];rw[cW,af];simp only[XD,ab];have hE:=Hm (n:=100000000) (by omega) z hl.1;have hk:=NW hq.1 hq.2;have eN:((List.length (returned h h.2.2.1.2.2.1.length).2.2.2.1:Nat):Int)=(h.2.2.2.1.length:Int):=congrArg Nat.cast hk.1;rw[eN];exact Lv _ (pA h) _ h.2.2.2.1.length hl.1 hk.1 (hk.2.1.trans hl.2.1) (by rw[hk.2.2.1];exact hl.2.2.1) (by rw[hk.2.2.2];exact hl.2.2.2) (hE.mono)
def xz (x:DE):Bool:=dk x.1 0 65535&&(dk x.2.1 0 65535&&(dk x.2.2.1 0 65535&&(dk x.2.2.2.1 0 65535&&dk x.2.2.2.2 0 4294967295)))
theorem Mu (x:DE):kV x=some (xz x):=by simp only[kV,dh,ab,bX,cF,xz]
def NX (x:DE)(p:Int):Bytes:=bif xz x&&dk p 0 1 then((((bN x.1++bN x.2.1)++bN x.2.2.1)++bN x.2.2.2.1)++iM x.2.2.2.2)++iM p else []
theorem aaU (x:DE)(p:Int):kz x p=some (NX x p):=by have h1:=bD x.1;have h2:=bD x.2.1;have h3:=bD x.2.2.1;have h4:=bD x.2.2.2.1;have h5:=ef x.2.2.2.2;have h6:=ef p;unfold kz NX;simp only[Mu,dh,ab,kh,xN];cases xz x;rfl;cases dk p 0 1;rfl;simp only[aj,af,ab,eS,ah];rw[aR,aR (by simp only[ai];omega),aR (by simp only[ai];omega),aR (by simp only[ai];omega),aR (by simp only[ai];omega)]
def yC (l:aw aA)(m:bT)(d:Int)(q:K7)(x:DE):bT×K7×Bool:=
 bif !fE q|| !xz x then(m,q,false) else
 bif !(hH l m d (qt q) (NX x (xS q)) true).2 then(m,q,false) else
 ((hH l m d (qt q) (NX x (xS q)) true).1,(q.1,q.2.1,tmod (q.2.2+1) (2*q.2.1)),true)
theorem aa2 (l:aw aA)(m:bT)(d:Int)(q:K7)(x:DE)(hl:l.length<=10^9)(hm:m.length<=10^9):mY l m d q x=some (yC l m d q x):=by unfold mY yC;simp only[Gt,Mu,ab,fJ m (show m.length<=1073741824 by omega),My,aaU];cases hq:fE q;rfl;have h:=tt hq;have hs:=OY hq;cases xz x;rfl;simp only[aj,af,ab,bS,MC q hq,Af l m d _ _ hl hm (show qt q<=9223372036854775807 by unfold qt;omega)];cases hp:(hH l m d (qt q) (NX x (xS q)) true).2 with|false=>simp only[cb,ah,GU hp]|true=>simp only[aj,af];rw[ak (n:=2*q.2.1),lF,ak (n:=q.2.2+1)]
theorem Yp (hn:128<=n)(z:cX n (.sl .str) m)(l:aw aA)(d:Int)(q:K7)(x:DE):cX n (.sl .str) (yC l m d q x).1/\(yC l m d q x).1.length=m.length:=by
 unfold yC;cases !fE q|| !xz x;case true=>exact⟨z,rfl⟩
 cases (hH l m d (qt q) (NX x (xS q)) true).2 with|false=>exact⟨z,rfl⟩|true=>exact⟨B6 hn z ..,jD ..⟩
theorem Wa {q:K7}{x:DE}(h:fE q=true):fE (yC l m d q x).2.1=true/\(yC l m d q x).2.1.1=q.1/\(yC l m d q x).2.1.2.1=q.2.1:=by
 have hq:=tt h;unfold yC;cases !fE q|| !xz x;case true=>exact⟨h,rfl,rfl⟩
 cases (hH l m d (qt q) (NX x (xS q)) true).2 with|false=>exact⟨h,rfl,rfl⟩|true=>refine⟨?_,rfl,rfl⟩;have e:=Ph (a:=q.2.2+1) (b:=2*q.2.1);simp only[af,aj,fE,ae,bf]at h⊢;refine⟨h.1,h.2.1,?_⟩;rw[xv h.2.1];omega
def gZ (l:aw aA)(m:bT)(d:Int)(q:ca)(k:Bytes)(s:Bytes):bT×K7×Bool:=
 bif !(cO s).2||(((cO s).1.1 !=3)||decide ((cO s).1.2.2.1<((dx q.2.2.2.1.1).1.length:Int))) then(m,q.2.1,false) else
 bif !(hH l m d (cO s).1.2.2.2.1 (dx q.2.2.2.1.1).1 true).2 then(m,q.2.1,false) else
 yC l (hH l m d (cO s).1.2.2.2.1 (dx q.2.2.2.1.1).1 true).1 d q.2.1 ((cO s).1.2.2.2.2.2,((dx q.2.2.2.1.1).1.length:Int),q.2.2.2.1.2.1,q.2.2.2.1.2.2,xG k (sK (kH q.2.2.2.1.1)))
theorem Xy (l:aw aA)(m:bT)(d:Int)(q:ca)(k s:Bytes)(hl:l.length<=10^9)(hm:m.length<=10^9)(hs:s.length<=10^9)(hh:dq q.2.2.2.1.1=true):∃b,tn l m d q k s=some (b,gZ l m d q k s)/\(b=false->gZ l m d q k s=(m,q.2.1,false)):=by
 unfold tn gZ;have lI:=Ts (s:=s);simp only[QI s hs,CM,ab,CL hh];generalize cO s=x at lI⊢;cases hx:x.2;exact⟨false,rfl,λ_=>rfl⟩;have hd:=lI hx;simp only[se,ae,bf]at hd;cases x.1.1 !=3;case true=>exact⟨false,rfl,λ_=>rfl⟩
 cases decide (x.1.2.2.1<((dx q.2.2.2.1.1).1.length:Int));case true=>exact⟨false,rfl,λ_=>rfl⟩
 simp only[aj,af,ab,bS,Af l m d _ _ hl hm (show x.1.2.2.2.1<=9223372036854775807 by omega)];cases (hH l m d x.1.2.2.2.1 (dx q.2.2.2.1.1).1 true).2;exact⟨false,rfl,λ_=>rfl⟩;simp only[aj,af,JQ,ab,E6,aa2 l _ d _ _ hl (show(hH l m d x.1.2.2.2.1 (dx q.2.2.2.1.1).1 true).1.length<=10^9 by rw[jD];exact hm)];exact⟨true,rfl,λh=>by cases h⟩
theorem Na (hn:128<=n){k:Bytes}(z:cX n (.sl .str) m)(hq:fE q.2.1=true): cX n (.sl .str) (gZ l m d q k s).1/\(gZ l m d q k s).1.length=m.length/\fE (gZ l m d q k s).2.1=true/\(gZ l m d q k s).2.1.1=q.2.1.1/\(gZ l m d q k s).2.1.2.1=q.2.1.2.1:=by
 unfold gZ;cases !(cO s).2||(((cO s).1.1 !=3)||decide ((cO s).1.2.2.1<((dx q.2.2.2.1.1).1.length:Int)));case true=>exact⟨z,rfl,hq,rfl,rfl⟩
 cases (hH l m d (cO s).1.2.2.2.1 (dx q.2.2.2.1.1).1 true).2;exact⟨z,rfl,hq,rfl,rfl⟩;have h1:=B6 hn z l d (cO s).1.2.2.2.1 (dx q.2.2.2.1.1).1 true;have h2:=jD l m d (cO s).1.2.2.2.1 (dx q.2.2.2.1.1).1 true;generalize (hH l m d (cO s).1.2.2.2.1 (dx q.2.2.2.1.1).1 true).1=w at h1 h2;have h3:=Yp hn h1 l d q.2.1 ((cO s).1.2.2.2.2.2,((dx q.2.2.2.1.1).1.length:Int),q.2.2.2.1.2.1,q.2.2.2.1.2.2,xG k (sK (kH q.2.2.2.1.1)));have h4:=Wa (l:=l) (m:=w) (d:=d) (x:=((cO s).1.2.2.2.2.2,((dx q.2.2.2.1.1).1.length:Int),q.2.2.2.1.2.1,q.2.2.2.1.2.2,xG k (sK (kH q.2.2.2.1.1)))) hq;exact⟨h3.1,h3.2.trans h2,h4⟩
def iB (l:aw aA)(m:bT)(d:Int)(q:ca)(k:Bytes):bT×ca:=
 bif !Es q||(!q.2.2.2.2.1||((k.length:Int) !=16)) then(m,q) else
 bif (bg l m d q.1).2.2&&(gZ l m d q k (bg l m d q.1).1).2.2 then
  ((gZ l m d q k (bg l m d q.1).1).1,(bg l m d q.1).2.1,(gZ l m d q k (bg l m d q.1).1).2.1,q.2.2.1,YX,false,q.2.2.2.2.2)
 else(m,(bg l m d q.1).2.1,q.2.1,q.2.2.1,YX,false,aq (q.2.2.2.2.2+q.2.2.2.1.2.2))
theorem Sh (h:(bg l m d r).2.2=false):(bg l m d r).2.1=r:=by
 unfold bg at h⊢;cases hc: !cR r||(bE r==0);case true=>rfl
 cases hd:(qu l m d (nK r r.2.2.1) 16).2 with|false=>rfl|true=>rw[hc,hd]at h;cases h
theorem zL (h:Es q=true):fE q.2.1=true/\(q.2.2.2.2.1=true->dq q.2.2.2.1.1=true):=by unfold Es at h;simp only[ae]at h;refine⟨h.1.2.1,λhh=>?_⟩;have h2:=h.2;rw[hh]at h2;simp only[ah,ae]at h2;exact h2.1
theorem Gs (l:aw aA)(m:bT)(d:Int)(q:ca)(k:Bytes)(hl:l.length<=10^9)(hm:m.length<=10^9):mi l m d q k=some (iB l m d q k):=by
 have ht:=Dz l m d q.1;have Ep:=Sh (l:=l) (m:=m) (d:=d) (r:=q.1);unfold mi iB;simp only[Ow,ab,fJ m (show m.length<=1073741824 by omega),Ff l m d q.1 hl hm];cases hr:Es q;rfl;cases hh:q.2.2.2.2.1;rfl;cases (k.length:Int) !=16;case true=>rfl
 obtain⟨b,hb,IB⟩:=Xy l m d q k (bg l m d q.1).1 hl hm (by omega) ((zL hr).2 hh);simp only[aj,af,ab,bS,hb];generalize gZ l m d q k (bg l m d q.1).1=s at hb IB⊢;cases hk:(bg l m d q.1).2.2 with|false=>rw[Ep hk];rfl|true=>?_
 cases b with|true=>cases hs:s.2.2<;>rfl|false=>rw[IB rfl];rfl
theorem CE (hn:128<=n){k:Bytes}(z:cX n (.sl .str) m)(zq:cX n dP q): cX n (.sl .str) (iB l m d q k).1/\(iB l m d q k).1.length=m.length/\cX n dP (iB l m d q k).2/\(Es q=true->fE (iB l m d q k).2.2.1=true/\(iB l m d q k).2.2.1.2.1=q.2.1.2.1):=by
 unfold iB;cases hc: !Es q||(!q.2.2.2.2.1||((k.length:Int) !=16));case true=>exact⟨z,rfl,zq,λh=>⟨(zL h).1,rfl⟩⟩
 simp only[cc,dy]at hc;have hq:=(zL hc.1).1;have hs:=Na hn (l:=l) (d:=d) (k:=k) (s:=(bg l m d q.1).1) z hq;have e0:cX n dP ((bg l m d q.1).2.1,(gZ l m d q k (bg l m d q.1).1).2.1,q.2.2.1,YX,false,q.2.2.2.2.2):=⟨⟨cr,cr,cr,cr⟩,⟨cr,cr,cr⟩,⟨cr,cr,cr⟩,⟨⟨cr,cr,cr,cr,cr,cr,cr,cr,cr,cr,cr,cr,cr,cr,cr,bP _⟩,cr,cr⟩,cr,cr⟩
 cases (bg l m d q.1).2.2&&(gZ l m d q k (bg l m d q.1).1).2.2 with|true=>exact⟨hs.1,hs.2.1,e0,λ_=>⟨hs.2.2.1,hs.2.2.2.2⟩⟩|false=>exact⟨z,rfl,⟨⟨cr,cr,cr,cr⟩,⟨cr,cr,cr⟩,⟨cr,cr,cr⟩,⟨⟨cr,cr,cr,cr,cr,cr,cr,cr,cr,cr,cr,cr,cr,cr,cr,bP _⟩,cr,cr⟩,cr,cr⟩,λ_=>⟨hq,rfl⟩⟩
def evS (k:Nat)(h:Host):Host:=
 match h.2.2.2.2.2.1[k]? with
 |some v=>(h.1,h.2.1,h.2.2.1,h.2.2.2.1,h.2.2.2.2.1,h.2.2.2.2.2.1.set k (evV v),h.2.2.2.2.2.2)
 |none=>h
def VG (k:Nat):Nat->Host->Host
 |0,h=>h
 |i+1,h=>evS k (VG k i h)
theorem aaq (k:Nat)(h:Host):kF (k+1) h (evS k h):=by unfold evS;cases h.2.2.2.2.2.1[k]? with|none=>exact kF.refl _ _|some v=>exact⟨rfl,rfl,rfl,rfl,λ_ _=>rfl,rfl,aB ..,λj hj=>aP (by omega),rfl,rfl,rfl⟩
theorem Jj (k:Nat)(h:Host):∀i,kF (k+1) h (VG k i h)
 |0=>kF.refl _ _
 |i+1=>(Jj k h i).trans (aaq k _)
theorem acW (k:Nat)(z:cX n dJ h):cX n dJ (evS k h):=by unfold evS;cases h.2.2.2.2.2.1[k]? with|none=>exact z|some v=>exact⟨z.1,z.2.1,z.2.2.1,z.2.2.2.1,z.2.2.2.2.1,IP z.2.2.2.2.2.1,z.2.2.2.2.2.2⟩
theorem VH (k:Nat)(z:cX n dJ h):∀i,cX n dJ (VG k i h)
 |0=>z
 |i+1=>acW k (VH k z i)
theorem TP (h:Host)(k:Nat)(b:Int)(h1:k<h.2.2.2.1.length)(h2:k<h.2.2.2.2.2.1.length)(hq:fE h.2.2.2.1[k].2.1=true)(hb:0<=b/\b<=31):ko h (k:Int) b=some ((),VG k ((h.2.2.2.1[k].2.1.2.2-b)%(2*h.2.2.2.1[k].2.1.2.1)).toNat h):=by
 have Ab:=dR;have q:=tt hq;unfold ko;rw[bz h1,ab];generalize h.2.2.2.1[k]=x at q⊢;rw[ak (n:=x.2.1.2.2-b),ak (n:=2*x.2.1.2.1),GH _ _,ab];have hm:0<=(x.2.1.2.2-b)%(2*x.2.1.2.1)/\(x.2.1.2.2-b)%(2*x.2.1.2.1)<32:=by have g1:=eE (x.2.1.2.2-b) (show 2*x.2.1.2.1≠0 by omega);have g2:=eH (x.2.1.2.2-b) (show 0<2*x.2.1.2.1 by omega);omega
 generalize (x.2.1.2.2-b)%(2*x.2.1.2.1)=c at hm⊢;obtain⟨c,rfl⟩:=aV hm.1;rw[az];have e0:((c:Int),h)=(((c:Int)-((0:Nat):Int)),VG k 0 h):=by simp[VG]
 rw[e0];refine ew (λi=>((c:Int)-(i:Int),VG k i h)) c (by omega) (λi nx hi=>?_) (λnx=>?_);have kk:=Jj k h i;have i1:k<(VG k i h).2.2.2.2.2.1.length:=by rw[kk.vec];exact h2
 rw[show VG k (i+1) h=evS k (VG k i h) from rfl];generalize VG k i h=s at i1⊢;simp only[oG,evS];rw[lE,ah,al i1];simp only[bz i1,ab,Xi,az];rw[ak,show(c:Int)-(i:Int)-1=(c:Int)-((i+1:Nat):Int) by omega];simp only[oG];rw[cW,af]
def FD (h:Host)(k:Nat)(f:bT×ca):Host:=(f.1,h.2.1,h.2.2.1,h.2.2.2.1.set k f.2,h.2.2.2.2)
def Ej (h:Host)(k:Nat)(b:Int)(f:bT×ca):Host:=VG k ((f.2.2.1.2.2-b)%(2*f.2.2.1.2.1)).toNat (FD h k f)
def mf (k:Nat)(h:Host):Host:=
 match h.2.2.2.1[k]? with
 |some x=>Ej h k x.2.1.2.2 (iB h.2.1 h.1 0 x h.2.2.2.2.2.2.2.2.1.2.2.1)
 |none=>h
theorem Co (hf:f.1.length=h.1.length):kF (k+1) h (Ej h k b f):=by
 have a:kF (k+1) h (FD h k f):=⟨hf,rfl,rfl,aB ..,λj hj=>aP (by omega),rfl,rfl,λ_ _=>rfl,rfl,rfl,rfl⟩
 exact a.trans (Jj k (FD h k f) _)
theorem K3 (z:cX n dJ h)(h1:cX n (.sl .str) f.1)(h2:cX n dP f.2):cX n dJ (Ej h k b f):=by
 have a:cX n dJ (FD h k f):=⟨h1,z.2.1,z.2.2.1,nH z.2.2.2.1 h2,z.2.2.2.2⟩
 exact VH k a _
theorem Qb {k:Bytes}:(iB l m d q k).1.length=m.length:=by
 have hs:(gZ l m d q k (bg l m d q.1).1).1.length=m.length:=by
  unfold gZ;cases !(cO (bg l m d q.1).1).2||(((cO (bg l m d q.1).1).1.1 !=3)||decide ((cO (bg l m d q.1).1).1.2.2.1<((dx q.2.2.2.1.1).1.length:Int)));case true=>rfl
  cases (hH l m d (cO (bg l m d q.1).1).1.2.2.2.1 (dx q.2.2.2.1.1).1 true).2;rfl;have h2:=jD l m d (cO (bg l m d q.1).1).1.2.2.2.1 (dx q.2.2.2.1.1).1 true;simp only[af,aj];unfold yC;cases !fE q.2.1|| !xz ((cO (bg l m d q.1).1).1.2.2.2.2.2,((dx q.2.2.2.1.1).1.length:Int),q.2.2.2.1.2.1,q.2.2.2.1.2.2,xG k (sK (kH q.2.2.2.1.1)));case true=>exact h2
  cases (hH l (hH l m d (cO (bg l m d q.1).1).1.2.2.2.1 (dx q.2.2.2.1.1).1 true).1 d (qt q.2.1) (NX ((cO (bg l m d q.1).1).1.2.2.2.2.2,((dx q.2.2.2.1.1).1.length:Int),q.2.2.2.1.2.1,q.2.2.2.1.2.2,xG k (sK (kH q.2.2.2.1.1))) (xS q.2.1)) true).2 with|false=>exact h2|true=>exact(jD ..).trans h2
 unfold iB;cases !Es q||(!q.2.2.2.2.1||((k.length:Int) !=16));case true=>rfl
 cases (bg l m d q.1).2.2&&(gZ l m d q k (bg l m d q.1).1).2.2 with|true=>exact hs|false=>rfl
theorem BC (k:Nat)(h:Host):kF (k+1) h (mf k h):=by unfold mf;cases h.2.2.2.1[k]? with|none=>exact kF.refl _ _|some x=>exact Co Qb
theorem Js (k:Nat)(h:Host)(n:Nat)(hn:1000<=n)(z:cX n dJ h):cX (n+0) dJ (mf k h):=by unfold mf;cases hx:h.2.2.2.1[k]? with|none=>exact z|some x=>have hf:=CE (show 128<=n by omega) (l:=h.2.1) (d:=0) (k:=h.2.2.2.2.2.2.2.2.1.2.2.1) z.1 (z.2.2.2.1.2 _ (bj hx));exact K3 z hf.1 hf.2.2.1
def xE (h:Host):Host:=bif eU h then kv mf h.2.2.2.1.length h else h
theorem WX (hn:1000<=n)(k:Bc n h):Bc n (xE h):=by unfold xE;cases eU h with|false=>exact k|true=>refine⟨(AD hn Js k.z _).mono,?_⟩;simp only[ah];rw[(uB BC h _).tx];exact k.t
theorem DX (hb:eU h=true):∀i (hi:i<h.2.2.2.1.length),Es h.2.2.2.1[i]=true:=by simp only[eU,RP,ae]at hb;exact λi hi=>aI.1 hb.2.2.2.2.2.2.1.1 _ (bC hi)
theorem H7 (h1:k<h.2.2.2.1.length)(h2:k<h.2.2.2.2.2.1.length)(hq:fE f.2.2.1=true)(hb:0<=b/\b<=31:=by omega): ko (f.1,h.2.1,h.2.2.1,h.2.2.2.1.set k f.2,h.2.2.2.2) (k:Int) b=some ((),Ej h k b f):=by
 have h3:k<(FD h k f).2.2.2.1.length:=by show k<(h.2.2.2.1.set k f.2).length;rw[aB];exact h1
 have e:(FD h k f).2.2.2.1[k]=f.2:=List.getElem_set_self _;have a:=TP (FD h k f) k b h3 h2 (by rw[e];exact hq) hb;rw[e]at a;exact a
theorem TT (h:Host)(k:Bc 900000000 h):sR h=some (xE h):=by
 have Ab:=dR;unfold sR xE;rw[mT h (k.z.mono),ab,vy h (k.sz (by omega)),ab];cases hb:eU h;rfl;have hl:=pX (by simp only[eU,ae]at hb;exact hb.2.2.2.2.1:qq h=true);have hr:=DX hb;simp only[aj,af,ah];refine ew (λi=>((i:Int),kv mf i h)) h.2.2.2.1.length (by omega) (λi nx hi=>?_) (λnx=>?_);have kk:=uB BC h i;have zz:cX 900000000 dJ (kv mf i h):=(AD (by omega) Js k.z i).mono;have i1:i<(kv mf i h).2.2.2.1.length:=by rw[kk.rx];exact hi
 have i2:i<(kv mf i h).2.2.2.2.2.1.length:=by rw[kk.vec];omega
 have e1:(kv mf i h).2.2.2.1[i]=h.2.2.2.1[i]:=by have:=kk.rxs i (aS _);rw[al i1,al hi]at this;exact dm this
 rw[show kv mf (i+1) h=mf i (kv mf i h) from rfl];generalize kv mf i h=s at zz i1 i2 e1⊢;have z1:s.1.length<=900000000:=zz.1.1;have z2:s.2.1.length<=900000000:=zz.2.1.1;have Xe:=hr i hi;rw[<-e1]at Xe;have hqd:=tt (zL Xe).1;have hf:=CE (show 128<=900000000 by omega) (l:=s.2.1) (d:=0) (k:=s.2.2.2.2.2.2.2.2.1.2.2.1) zz.1 (zz.2.2.2.1.2 _ (bC i1));have ev:=H7 (h:=s) (k:=i) (b:=s.2.2.2.1[i].2.1.2.2) (f:=iB s.2.1 s.1 0 s.2.2.2.1[i] s.2.2.2.2.2.2.2.2.1.2.2.1) i1 i2 (hf.2.2.2 Xe).1;simp only[oz,mf];rw[lE,ah,al i1];simp only[bz i1,bz hi,ab,Gs s.2.1 s.1 0 _ _ (show s.2.1.length<=10^9 by omega) (show s.1.length<=10^9 by omega),az,<-e1,ev];rw[ak];rfl;simp only[oz];rw[cW,af]
def Rv (a b:aO):Bool:=(a.1==b.1)&&((a.2.1==b.2.1)&&((a.2.2.1==b.2.2.1)&&((a.2.2.2.1==b.2.2.2.1)&&((a.2.2.2.2.2.1==b.2.2.2.2.2.1)&&((a.2.2.2.2.2.2.1==b.2.2.2.2.2.2.1)&&((a.2.2.2.2.2.2.2.1==b.2.2.2.2.2.2.2.1)&&((a.2.2.2.2.2.2.2.2.1==b.2.2.2.2.2.2.2.2.1)&&((a.2.2.2.2.2.2.2.2.2.1==b.2.2.2.2.2.2.2.2.2.1)&&((a.2.2.2.2.2.2.2.2.2.2.1==b.2.2.2.2.2.2.2.2.2.2.1)&&((a.2.2.2.2.2.2.2.2.2.2.2.2.1==b.2.2.2.2.2.2.2.2.2.2.2.2.1)&&((a.2.2.2.2.2.2.2.2.2.2.2.2.2.2.1==b.2.2.2.2.2.2.2.2.2.2.2.2.2.2.1))))))))))))
theorem aa1 (a b:aO):uS a b=some (Rv a b):=by unfold uS Rv;simp only[beq_self_eq_true,bF,gN]
def ago (s:qp)(p:aO):Bool:=(p.2.2.2.2.2.2.2.2.2.2.2.1==tmod (aq (s.1.2.2.2.2.2.2.2.2.2.2.2.1+(s.1.2.2.2.2.2.2.2.2.2.2.2.2.2.2.2.length:Int))) 4294967296)&&(p.2.2.2.2.1==tmod (aq (s.1.2.2.2.2.1+s.2.2)) 65536)
def Wj (s:qp)(p:aO):Bool:=decide (1<=s.2.1)&&(dk s.2.2 1 320&&(decide ((s.1.2.2.2.2.2.2.2.2.2.2.2.2.2.2.2.length:Int)=s.2.1*s.2.2)&&(dk (p.2.2.2.2.2.2.2.2.2.2.2.2.2.2.2.length:Int) 1 s.2.1&&decide ((s.1.2.2.2.2.2.2.2.2.2.2.2.2.2.2.2.length:Int)+(p.2.2.2.2.2.2.2.2.2.2.2.2.2.2.2.length:Int)<=320))))
def aaB (s:qp)(p:aO):Bool:=dq s.1&&(fT p&&(Rv s.1 p&&((p.2.2.2.2.2.2.2.2.1==6)&&((s.1.2.2.2.2.2.2.2.2.2.2.2.2.2.1==16)&&zW p.2.2.2.2.2.2.2.2.2.2.2.2.2.1))))
def Gd (s:qp)(p:aO):Bool:=aaB s p&&(Wj s p&&ago s p)
theorem Fy (h:fT p=true)(h6:(p.2.2.2.2.2.2.2.2.1==6)=true):dk p.2.2.2.2.2.2.2.2.2.2.2.2.2.1 0 31=true:=by simp only[fT,dq,ae]at h;exact CV (xJ h.1.1) h6
theorem D8 (h:fT p=true):p.2.2.2.2.2.2.2.2.2.2.2.2.2.2.2.length<=128:=by simp only[fT,ae,aC]at h;omega
theorem VV (s:qp)(p:aO):sO s p=some (Gd s p):=by
 unfold sO Gd aaB;rw[nY,ab,Ag,ab,aa1,ab];cases hs:dq s.1;rfl;cases hp:fT p;rfl;cases Rv s.1 p;rfl;cases h6:p.2.2.2.2.2.2.2.2.1==6 with|false=>simp only[bne,h6];rfl|true=>?_
 cases Zi:s.1.2.2.2.2.2.2.2.2.2.2.2.2.2.1==16 with|false=>simp only[bne,h6,Zi];rfl|true=>?_
 have hf:=Fy hp h6;have hsl:=AF hs;have CJ:=D8 hp;simp only[bne,h6,Zi,aj,af,ab,Jm _ hf,bF];cases zW p.2.2.2.2.2.2.2.2.2.2.2.2.2.1;rfl;simp only[aj,af,dh,ab,bF];rw[aG (show¬(4294967296:Nat)=0 by omega),aG (show¬(65536:Nat)=0 by omega)];simp only[bX,cF];rw[show((p.2.2.2.2.2.2.2.2.2.2.2.1==tmod (aq (s.1.2.2.2.2.2.2.2.2.2.2.2.1+(s.1.2.2.2.2.2.2.2.2.2.2.2.2.2.2.2.length:Int))) 4294967296)&&(p.2.2.2.2.1==tmod (aq (s.1.2.2.2.2.1+s.2.2)) 65536))=ago s p from rfl];unfold Wj;generalize ago s p=q;generalize s.1.2.2.2.2.2.2.2.2.2.2.2.2.2.2.2.length=n at hsl⊢;generalize p.2.2.2.2.2.2.2.2.2.2.2.2.2.2.2.length=m at CJ⊢;rw[ak (n:=(n:Int)+(m:Int))];by_cases h1:s.2.1<1;rw[au h1,ar (show¬1<=s.2.1 by omega)];rfl;rw[ar h1,au (show 1<=s.2.1 by omega)];cases h2:dk s.2.2 1 320;rfl;have Pp:=bf.1 h2;simp only[aj,af,ab,bF];rw[lF,lF];have e1:tmod (n:Int) s.2.2=(n:Int)%s.2.2:=cv (by omega);have e2:Int.tdiv (n:Int) s.2.2=(n:Int)/s.2.2:=Int.tdiv_eq_ediv_of_nonneg (by omega);have hdm:=Int.emod_add_mul_ediv (n:Int) s.2.2;have hq0:0<=(n:Int)/s.2.2:=Int.ediv_nonneg (by omega) (by omega);have Zm:(n:Int)/s.2.2<=(n:Int):=Int.ediv_le_self _ (by omega);rw[e1,e2,ak (n:=(n:Int)/s.2.2)];by_cases h3:(n:Int)=s.2.1*s.2.2;have h4:(n:Int)%s.2.2=0:=by rw[h3];exact Int.mul_emod_left ..
 have h5:(n:Int)/s.2.2=s.2.1:=by rw[h3];exact Int.mul_ediv_cancel _ (by omega)
 rw[h4,h5,au h3];simp only[beq_self_eq_true,aj,af,ab,bF];cases dk (m:Int) 1 s.2.1;rfl;cases decide ((n:Int)+(m:Int)<=320)<;>rfl;rw[ar h3];cases h4:(n:Int)%s.2.2==0 with
 |false=>rfl
 |true=>
  have h4':(n:Int)%s.2.2=0:=by simpa using h4
  have h5:((n:Int)/s.2.2==s.2.1)=false:=by rw[cI];intro h5;rw[h4',h5]at hdm;exact h3 (by rw[Int.mul_comm];omega)
  simp only[aj,af,h5,cb,ab,ah];rfl
def Dj (s:qp)(p:aO):qp:=bif Gd s p then((s.1.1,s.1.2.1,s.1.2.2.1,s.1.2.2.2.1,s.1.2.2.2.2.1,s.1.2.2.2.2.2.1,s.1.2.2.2.2.2.2.1,s.1.2.2.2.2.2.2.2.1,s.1.2.2.2.2.2.2.2.2.1,s.1.2.2.2.2.2.2.2.2.2.1,s.1.2.2.2.2.2.2.2.2.2.2.1,s.1.2.2.2.2.2.2.2.2.2.2.2.1,s.1.2.2.2.2.2.2.2.2.2.2.2.2.1,p.2.2.2.2.2.2.2.2.2.2.2.2.2.1,s.1.2.2.2.2.2.2.2.2.2.2.2.2.2.2.1,s.1.2.2.2.2.2.2.2.2.2.2.2.2.2.2.2++p.2.2.2.2.2.2.2.2.2.2.2.2.2.2.2),s.2.1,aq (s.2.2+1)) else s
theorem Nw {s:qp}(h:Gd s p=true):s.1.2.2.2.2.2.2.2.2.2.2.2.2.2.2.2.length+p.2.2.2.2.2.2.2.2.2.2.2.2.2.2.2.length<=320:=by simp only[Gd,Wj,ae,aC]at h;have:=h.2.1.2.2.2.2;omega
theorem aaZ (s:qp)(p:aO):CO s p=some (Dj s p):=by unfold CO Dj;rw[VV,ab];cases h:Gd s p;rfl;have:=Nw h;simp only[aj,af,ah];rw[aR]
def lC (p:aO):qp:=(p,(p.2.2.2.2.2.2.2.2.2.2.2.2.2.2.2.length:Int),1)
theorem T0 (p:aO):BS p=some (lC p):=rfl
def JC (q:ca)(s:qp):ca:=(q.1,q.2.1,q.2.2.1,s,true,q.2.2.2.2.2)
def kO (l:aw aA)(m:bT)(d:Int)(q:ca)(k:Bytes)(p:aO)(c:Bool):bT×ca:=
 bif !Es q||(!fT p||((k.length:Int) !=16)) then(m,q) else
 bif c&&(q.2.2.2.2.1&&Gd q.2.2.2.1 p) then(m,q.1,q.2.1,q.2.2.1,Dj q.2.2.2.1 p,q.2.2.2.2) else
 bif c then((iB l m d q k).1,JC (iB l m d q k).2 (lC p)) else iB l (iB l m d q k).1 d (JC (iB l m d q k).2 (lC p)) k
theorem TQ (l:aw aA)(m:bT)(d:Int)(q:ca)(k:Bytes)(p:aO)(c:Bool)(hl:l.length<=10^9)(hm:m.length<=10^9):na l m d q k p c=some (kO l m d q k p c):=by
 unfold na kO JC;simp only[Ow,Ag,ab,fJ m (show m.length<=1073741824 by omega),VV,aaZ,Gs l m d q k hl hm,T0,Gs l (iB l m d q k).1 d _ k hl (show(iB l m d q k).1.length<=10^9 by rw[Qb];exact hm)];cases Es q;rfl;cases fT p;rfl;cases (k.length:Int) !=16;case true=>rfl
 cases c;rfl;cases q.2.2.2.2.1;rfl;cases Gd q.2.2.2.1 p<;>rfl
theorem Qc {k:Bytes}(h:fE q.2.1=true):fE (iB l m d q k).2.2.1=true:=by
 unfold iB;cases !Es q||(!q.2.2.2.2.1||((k.length:Int) !=16));case true=>exact h
 have hs:fE (gZ l m d q k (bg l m d q.1).1).2.1=true:=by
  unfold gZ;cases !(cO (bg l m d q.1).1).2||(((cO (bg l m d q.1).1).1.1 !=3)||decide ((cO (bg l m d q.1).1).1.2.2.1<((dx q.2.2.2.1.1).1.length:Int)));case true=>exact h
  cases (hH l m d (cO (bg l m d q.1).1).1.2.2.2.1 (dx q.2.2.2.1.1).1 true).2;exact h;exact(Wa h).1
 cases (bg l m d q.1).2.2&&(gZ l m d q k (bg l m d q.1).1).2.2 with|true=>exact hs|false=>exact h
theorem W6 {s:qp}(h:s.1.2.2.2.2.2.2.2.2.2.2.2.2.2.2.2.length<=n):cX n dP (JC q s):=⟨⟨cr,cr,cr,cr⟩,⟨cr,cr,cr⟩,⟨cr,cr,cr⟩,⟨⟨cr,cr,cr,cr,cr,cr,cr,cr,cr,cr,cr,cr,cr,cr,cr,h⟩,cr,cr⟩,cr,cr⟩
theorem IU (hn:1000<=n){k:Bytes}{c:Bool}(z:cX n (.sl .str) m)(zq:cX n dP q)(hq:fE q.2.1=true): cX n (.sl .str) (kO l m d q k p c).1/\(kO l m d q k p c).1.length=m.length/\cX n dP (kO l m d q k p c).2/\fE (kO l m d q k p c).2.2.1=true:=by
 unfold kO;cases hc: !Es q||(!fT p||((k.length:Int) !=16));case true=>exact⟨z,rfl,zq,hq⟩
 simp only[cc,dy]at hc;have hp:=D8 hc.2.1;cases hj:c&&(q.2.2.2.2.1&&Gd q.2.2.2.1 p)with|true=>simp only[ae]at hj;have:=Nw hj.2.2;refine⟨z,rfl,⟨⟨cr,cr,cr,cr⟩,⟨cr,cr,cr⟩,⟨cr,cr,cr⟩,⟨?_,cr,cr⟩,cr,cr⟩,hq⟩;refine⟨cr,cr,cr,cr,cr,cr,cr,cr,cr,cr,cr,cr,cr,cr,cr,?_⟩;unfold Dj;rw[hj.2.2];show List.length (q.2.2.2.1.1.2.2.2.2.2.2.2.2.2.2.2.2.2.2.2++p.2.2.2.2.2.2.2.2.2.2.2.2.2.2.2)<=n;rw[ai];omega|false=>have hf:=CE (show 128<=n by omega) (l:=l) (d:=d) (k:=k) z zq;have hfq:=Qc (l:=l) (m:=m) (d:=d) (k:=k) hq;have hh:cX n dP (JC (iB l m d q k).2 (lC p)):=W6 (by show p.2.2.2.2.2.2.2.2.2.2.2.2.2.2.2.length<=n;omega);cases c with|true=>exact⟨hf.1,hf.2.1,hh,hfq⟩|false=>have Aa:=CE (show 128<=n by omega) (l:=l) (d:=d) (k:=k) hf.1 hh;exact⟨Aa.1,Aa.2.1.trans hf.2.1,Aa.2.2.1,Qc (q:=JC (iB l m d q k).2 (lC p)) hfq⟩
theorem RR {r:jz}(h:yD r=true):0<=r.2.2.2.2.2.2.2.2:=by
 by_cases h0:0<=r.2.2.2.2.2.2.2.2;exact h0;exfalso;have e:∀b:Int,dk r.2.2.2.2.2.2.2.2 0 b=false:=λb=>by rw[Bool.eq_false_iff];intro hc;have:=bf.1 hc;omega
 have e1:(r.2.2.2.2.2.2.2.2==0)=false:=by rw[cI];omega
 revert h;unfold yD;have z:∀c:Bool,(bif c then false else false)=false:=by intro c;cases c<;>rfl
 simp only[lh,ed,ab,bX,e,e1,fj,z,af];intro h;cases h
theorem YU {s:dc}{q:Int}:qx s q p= -1\/∃n:Nat,qx s q p=(n:Int)/\(n:Int)<q:=by
 unfold qx;cases hb: !fe s q|| !dq p;case true=>exact .inl rfl
 simp only[cc,dy]at hb;have hs:=hb.1;simp only[fe,ae]at hs;simp only[af];cases hd:decide (C8 s.1 p>=0)with
 |true=>obtain⟨n,hn,hl⟩:=P5 s.1 p (bh hd);simp only[ah,hn,az,dg hl];cases s.1[n].2.2.2.2.2.2.2.1==1 with|true=>exact .inl rfl|false=>have h1:=aI.1 hs.1.2 _ (bC hl);have h2:=hs.1.1.1.1;simp only[wc,ae]at h2;have h3:=RR (aI.1 h2.1 _ (bC hl));simp only[aL,cM]at h1;exact .inr ⟨s.1[n].2.2.2.2.2.2.2.2.toNat,by simp only[af];omega,by omega⟩
 |false=>
  simp only[af];cases Pr:decide (findF s.2.1 (kH p)>=0)with
  |true=>obtain⟨n,hn,hl⟩:=P4 s.2.1 (kH p) (bh Pr);simp only[ah,hn,az,dg hl];have h1:=aI.1 hs.2 _ (bC hl);have h2:=hs.1.1.1.2;simp only[nu,ae,bc]at h2;have h3:=aI.1 h2.2 n (ch.2 (by omega));unfold mE M7 at h3;rw[uv hl]at h3;simp only[ae,bf]at h3;simp only[aL,cM]at h1;exact .inr ⟨s.2.1[n].2.2.toNat,by omega,by omega⟩
  |false=>
   simp only[af];unfold IJ;cases hc: !qm s.2.2 q||decide (zV s.2.2 (kH p)<0);case true=>exact .inl rfl
   simp only[cc,dy,cM]at hc;obtain⟨n,hn,hl⟩:=Mc s.2.2 (kH p) hc.2;have h1:=hc.1;simp only[qm,ae]at h1;have h2:=bf.1 (aI.1 h1.2 _ (bC hl));simp only[af,hn,az,dg hl];exact .inr ⟨s.2.2.2[n].toNat,by omega,by omega⟩
def yN (h:Host)(a b c d:Int):Host:=(h.1,h.2.1,h.2.2.1,h.2.2.2.1,h.2.2.2.2.1,h.2.2.2.2.2.1,h.2.2.2.2.2.2.1,h.2.2.2.2.2.2.2.1,h.2.2.2.2.2.2.2.2.1,h.2.2.2.2.2.2.2.2.2.1,h.2.2.2.2.2.2.2.2.2.2.1,h.2.2.2.2.2.2.2.2.2.2.2.1,h.2.2.2.2.2.2.2.2.2.2.2.2.1,h.2.2.2.2.2.2.2.2.2.2.2.2.2.1,aq (h.2.2.2.2.2.2.2.2.2.2.2.2.2.2.1+1),a,b,c,d)
def mB (h:Host)(x:Bytes):Host:=
 bif !eU h then h else
 bif (nJ x).2 !=0 then yN h (aq (h.2.2.2.2.2.2.2.2.2.2.2.2.2.2.2.1+1)) h.2.2.2.2.2.2.2.2.2.2.2.2.2.2.2.2.1 h.2.2.2.2.2.2.2.2.2.2.2.2.2.2.2.2.2.1 h.2.2.2.2.2.2.2.2.2.2.2.2.2.2.2.2.2.2 else
 bif !vw h.2.2.2.2.2.2.2.1 (nJ x).1 then yN h h.2.2.2.2.2.2.2.2.2.2.2.2.2.2.2.1 (aq (h.2.2.2.2.2.2.2.2.2.2.2.2.2.2.2.2.1+1)) h.2.2.2.2.2.2.2.2.2.2.2.2.2.2.2.2.2.1 h.2.2.2.2.2.2.2.2.2.2.2.2.2.2.2.2.2.2 else
 bif qx h.2.2.2.2.2.2.2.2.1 (h.2.2.2.1.length:Int) (nJ x).1== -1 then yN h h.2.2.2.2.2.2.2.2.2.2.2.2.2.2.2.1 h.2.2.2.2.2.2.2.2.2.2.2.2.2.2.2.2.1 (aq (h.2.2.2.2.2.2.2.2.2.2.2.2.2.2.2.2.2.1+1)) h.2.2.2.2.2.2.2.2.2.2.2.2.2.2.2.2.2.2 else
 match h.2.2.2.1[(qx h.2.2.2.2.2.2.2.2.1 (h.2.2.2.1.length:Int) (nJ x).1).toNat]? with
 |some q=>Ej (yN h h.2.2.2.2.2.2.2.2.2.2.2.2.2.2.2.1 h.2.2.2.2.2.2.2.2.2.2.2.2.2.2.2.2.1 h.2.2.2.2.2.2.2.2.2.2.2.2.2.2.2.2.2.1 (aq (h.2.2.2.2.2.2.2.2.2.2.2.2.2.2.2.2.2.2+1))) (qx h.2.2.2.2.2.2.2.2.1 (h.2.2.2.1.length:Int) (nJ x).1).toNat q.2.1.2.2 (kO h.2.1 h.1 0 q h.2.2.2.2.2.2.2.2.1.2.2.1 (nJ x).1 h.2.2.2.2.2.2.2.2.2.2.1)
 |none=>h
theorem Ov (h:Host)(x:Bytes)(k:Bc 900000000 h)(hx:x.length<=10^9):pG h x=some (mB h x):=by
 have z:=k.z;have z1:h.1.length<=900000000:=z.1.1;have z2:h.2.1.length<=900000000:=z.2.1.1;have zf:h.2.2.2.2.2.2.2.1.2.2.length<=900000000:=z.2.2.2.2.2.2.2.1.2.2.1;have s1:h.2.2.2.2.2.2.2.2.1.1.length<=900000000:=z.2.2.2.2.2.2.2.2.1.1.1;have s2:h.2.2.2.2.2.2.2.2.1.2.1.length<=900000000:=z.2.2.2.2.2.2.2.2.1.2.1.1;have s3:h.2.2.2.2.2.2.2.2.1.2.2.2.length<=900000000:=z.2.2.2.2.2.2.2.2.1.2.2.2.1;unfold pG mB;rw[mT h (z.mono),ab,vy h (k.sz (by omega)),ab];cases hb:eU h;rfl;have hl:=pX (by simp only[eU,ae]at hb;exact hb.2.2.2.2.1:qq h=true);have hr:=DX hb;simp only[aj,af,Xr x hx,ab,QF h.2.2.2.2.2.2.2.1 _ (show h.2.2.2.2.2.2.2.1.2.2.length<=10^9 by omega),Xx h.2.2.2.2.2.2.2.2.1 _ _ (show h.2.2.2.2.2.2.2.2.1.1.length<=10^9 by omega) (show h.2.2.2.2.2.2.2.2.1.2.1.length<=10^9 by omega) (show h.2.2.2.2.2.2.2.2.1.2.2.2.length<=10^9 by omega)];generalize nJ x=f;cases f.2 !=0;case true=>rfl
 cases vw h.2.2.2.2.2.2.2.1 f.1;rfl;simp only[aj,af];have lN:=YU (s:=h.2.2.2.2.2.2.2.2.1) (q:=(h.2.2.2.1.length:Int)) (p:=f.1);generalize qx h.2.2.2.2.2.2.2.2.1 (h.2.2.2.1.length:Int) f.1=r at lN⊢;rcases lN with rfl|⟨n,rfl,hn⟩;rfl;have i1:n<h.2.2.2.1.length:=by omega
 have i2:n<h.2.2.2.2.2.1.length:=by omega
 have hq:=(zL (hr n i1)).1;have hqi:=tt hq;have ha:=IU (show 1000<=900000000 by omega) (l:=h.2.1) (d:=0) (k:=h.2.2.2.2.2.2.2.2.1.2.2.1) (p:=f.1) (c:=h.2.2.2.2.2.2.2.2.2.2.1) z.1 (z.2.2.2.1.2 _ (bC i1)) hq;have ev:=H7 (h:=yN h h.2.2.2.2.2.2.2.2.2.2.2.2.2.2.2.1 h.2.2.2.2.2.2.2.2.2.2.2.2.2.2.2.2.1 h.2.2.2.2.2.2.2.2.2.2.2.2.2.2.2.2.2.1 (aq (h.2.2.2.2.2.2.2.2.2.2.2.2.2.2.2.2.2.2+1))) (k:=n) (b:=h.2.2.2.1[n].2.1.2.2) (f:=kO h.2.1 h.1 0 h.2.2.2.1[n] h.2.2.2.2.2.2.2.2.1.2.2.1 f.1 h.2.2.2.2.2.2.2.2.2.2.1) i1 i2 ha.2.2.2;rw[show((n:Int)== -1)=false from by rw[cI];omega,az,al i1];simp only[af,bz i1,ab,TQ h.2.1 h.1 0 _ _ _ _ (show h.2.1.length<=10^9 by omega) (show h.1.length<=10^9 by omega)];rw[show(ko ((kO h.2.1 h.1 0 h.2.2.2.1[n] h.2.2.2.2.2.2.2.2.1.2.2.1 f.1 h.2.2.2.2.2.2.2.2.2.2.1).1,h.2.1,h.2.2.1,h.2.2.2.1.set n (kO h.2.1 h.1 0 h.2.2.2.1[n] h.2.2.2.2.2.2.2.2.1.2.2.1 f.1 h.2.2.2.2.2.2.2.2.2.2.1).2,h.2.2.2.2.1,h.2.2.2.2.2.1,h.2.2.2.2.2.2.1,h.2.2.2.2.2.2.2.1,h.2.2.2.2.2.2.2.2.1,h.2.2.2.2.2.2.2.2.2.1,h.2.2.2.2.2.2.2.2.2.2.1,h.2.2.2.2.2.2.2.2.2.2.2.1,h.2.2.2.2.2.2.2.2.2.2.2.2.1,h.2.2.2.2.2.2.2.2.2.2.2.2.2.1,aq (h.2.2.2.2.2.2.2.2.2.2.2.2.2.2.1+1),h.2.2.2.2.2.2.2.2.2.2.2.2.2.2.2.1,h.2.2.2.2.2.2.2.2.2.2.2.2.2.2.2.2.1,h.2.2.2.2.2.2.2.2.2.2.2.2.2.2.2.2.2.1,aq (h.2.2.2.2.2.2.2.2.2.2.2.2.2.2.2.2.2.2+1)) (n:Int) h.2.2.2.1[n].2.1.2.2)=_ from ev,ab]
theorem RL (hn:1000<=n)(x:Bytes)(k:Bc n h):Bc n (mB h x)/\(mB h x).2.2.1=h.2.2.1/\(mB h x).2.2.2.2.1.length=h.2.2.2.2.1.length:=by
 have z:=k.z;have zc:∀a b c d,Bc n (yN h a b c d):=λa b c d=>⟨⟨z.1,z.2.1,z.2.2.1,z.2.2.2.1,z.2.2.2.2.1,z.2.2.2.2.2.1,z.2.2.2.2.2.2.1,z.2.2.2.2.2.2.2.1,z.2.2.2.2.2.2.2.2.1,z.2.2.2.2.2.2.2.2.2.1,z.2.2.2.2.2.2.2.2.2.2.1,z.2.2.2.2.2.2.2.2.2.2.2.1,z.2.2.2.2.2.2.2.2.2.2.2.2.1,z.2.2.2.2.2.2.2.2.2.2.2.2.2.1,cr,cr,cr,cr,cr⟩,k.t⟩
 unfold mB;cases hb:eU h;exact⟨k,rfl,rfl⟩;have hr:=DX hb;generalize nJ x=f;cases f.2 !=0;case true=>exact⟨zc ..,rfl,rfl⟩
 cases vw h.2.2.2.2.2.2.2.1 f.1;exact⟨zc ..,rfl,rfl⟩;simp only[aj,af];generalize qx h.2.2.2.2.2.2.2.2.1 (h.2.2.2.1.length:Int) f.1=r;cases r== -1;case true=>exact⟨zc ..,rfl,rfl⟩
 simp only[af];rcases hq:h.2.2.2.1[r.toNat]? with _|q;exact⟨k,rfl,rfl⟩;obtain⟨hi,hqe⟩:=aE.1 hq;have hqd:=(zL (hr _ hi)).1;rw[hqe]at hqd;have ha:=IU hn (l:=h.2.1) (d:=0) (k:=h.2.2.2.2.2.2.2.2.1.2.2.1) (p:=f.1) (c:=h.2.2.2.2.2.2.2.2.2.2.1) z.1 (z.2.2.2.1.2 _ (bj hq)) hqd;have zc':=zc h.2.2.2.2.2.2.2.2.2.2.2.2.2.2.2.1 h.2.2.2.2.2.2.2.2.2.2.2.2.2.2.2.2.1 h.2.2.2.2.2.2.2.2.2.2.2.2.2.2.2.2.2.1 (aq (h.2.2.2.2.2.2.2.2.2.2.2.2.2.2.2.2.2.2+1));have kk:=Co (h:=yN h h.2.2.2.2.2.2.2.2.2.2.2.2.2.2.2.1 h.2.2.2.2.2.2.2.2.2.2.2.2.2.2.2.2.1 h.2.2.2.2.2.2.2.2.2.2.2.2.2.2.2.2.2.1 (aq (h.2.2.2.2.2.2.2.2.2.2.2.2.2.2.2.2.2.2+1))) (k:=r.toNat) (b:=q.2.1.2.2) (f:=kO h.2.1 h.1 0 q h.2.2.2.2.2.2.2.2.1.2.2.1 f.1 h.2.2.2.2.2.2.2.2.2.2.1) ha.2.1;exact⟨⟨K3 zc'.z ha.1 ha.2.2.1,by rw[kk.tx];exact k.t⟩,kk.tx,kk.pl⟩
theorem V8 (l:aw aA)(m:bT)(d:Int)(rx:ca)(pl:df)(st:aw Stream)(c:Int):(jn l m d rx pl st c).1.length=m.length:=by unfold jn;cases !Es rx||(!dw pl|| !dk c 0 1000)with|true=>rfl|false=>exact VK ..
def xW (b:Int)(k:Nat)(s:Int×Host):Int×Host:=
 match s.2.2.2.2.2.2.1[k]?,s.2.2.2.2.2.2.2.1[k]?,s.2.2.2.2.1[k]?,s.2.2.2.2.2.1[k]? with
 |some v,some p,some x,some pl=>
  bif p||(zN v).2 then
   (aq (s.1+(jn s.2.2.1 s.2.1 0 x pl s.2.2.2.2.2.2.2.2.2.2.1 b).2.2.2.2),
    (jn s.2.2.1 s.2.1 0 x pl s.2.2.2.2.2.2.2.2.2.2.1 b).1,s.2.2.1,s.2.2.2.1,s.2.2.2.2.1.set k (jn s.2.2.1 s.2.1 0 x pl s.2.2.2.2.2.2.2.2.2.2.1 b).2.1,s.2.2.2.2.2.1.set k (jn s.2.2.1 s.2.1 0 x pl s.2.2.2.2.2.2.2.2.2.2.1 b).2.2.1,
    s.2.2.2.2.2.2.1.set k (bif decide ((jn s.2.2.1 s.2.1 0 x pl s.2.2.2.2.2.2.2.2.2.2.1 b).2.2.2.2<b) then F1 (zN v).1 else(zN v).1),
    s.2.2.2.2.2.2.2.1.set k (!decide ((jn s.2.2.1 s.2.1 0 x pl s.2.2.2.2.2.2.2.2.2.2.1 b).2.2.2.2<b)),s.2.2.2.2.2.2.2.2.1,s.2.2.2.2.2.2.2.2.2.1,(jn s.2.2.1 s.2.1 0 x pl s.2.2.2.2.2.2.2.2.2.2.1 b).2.2.2.1,s.2.2.2.2.2.2.2.2.2.2.2)
  else(s.1,s.2.1,s.2.2.1,s.2.2.2.1,s.2.2.2.2.1,s.2.2.2.2.2.1,s.2.2.2.2.2.2.1.set k (zN v).1,s.2.2.2.2.2.2.2.1.set k false,s.2.2.2.2.2.2.2.2)
 |_,_,_,_=>s
theorem RY (b:Int)(k:Nat)(s:Int×Host):kF (k+1) s.2 (xW b k s).2:=by unfold xW;rcases s.2.2.2.2.2.2.1[k]? with _|v;exact kF.refl _ _;rcases s.2.2.2.2.2.2.2.1[k]? with _|p;exact kF.refl _ _;rcases s.2.2.2.2.1[k]? with _|x;exact kF.refl _ _;rcases s.2.2.2.2.2.1[k]? with _|pl;exact kF.refl _ _;simp only;cases p||(zN v).2 with|true=>exact⟨V8 ..,rfl,rfl,aB ..,λj hj=>aP (by omega),aB ..,aB ..,λj hj=>aP (by omega),aB ..,rfl,rfl⟩|false=>exact⟨rfl,rfl,rfl,rfl,λ_ _=>rfl,rfl,aB ..,λj hj=>aP (by omega),aB ..,rfl,rfl⟩
theorem UR (b:Int)(k:Nat)(s:Int×Host)(hn:1000<=n)(z:cX n dJ s.2):cX (n+322000) dJ (xW b k s).2:=by have z':cX (n+322000) dJ s.2:=z.mono;unfold xW;rcases s.2.2.2.2.2.2.1[k]? with _|v;exact z';rcases s.2.2.2.2.2.2.2.1[k]? with _|p;exact z';rcases h1:s.2.2.2.2.1[k]? with _|x;exact z';rcases h2:s.2.2.2.2.2.1[k]? with _|pl;exact z';simp only;cases p||(zN v).2 with|true=>have hp:=MY (by omega) (l:=s.2.2.1) (d:=0) b z.1 (z.2.2.2.1.2 _ (bj h1)) (z.2.2.2.2.1.2 _ (bj h2)) z.2.2.2.2.2.2.2.2.2.1;exact⟨hp.1.mono,z'.2.1,z'.2.2.1,nH z'.2.2.2.1 (hp.2.1.mono),nH z'.2.2.2.2.1 hp.2.2.1,IP z'.2.2.2.2.2.1,nH z'.2.2.2.2.2.2.1 trivial,z'.2.2.2.2.2.2.2.1,z'.2.2.2.2.2.2.2.2.1,hp.2.2.2.1,z'.2.2.2.2.2.2.2.2.2.2⟩|false=>exact⟨z'.1,z'.2.1,z'.2.2.1,z'.2.2.2.1,z'.2.2.2.2.1,IP z'.2.2.2.2.2.1,nH z'.2.2.2.2.2.2.1 trivial,z'.2.2.2.2.2.2.2⟩
def pj (b:Int):Nat->Host->Int×Host
 |0,h=>(0,h)
 |k+1,h=>xW b k (pj b k h)
theorem CW (b:Int)(h:Host):∀k,kF k h (pj b k h).2
 |0=>kF.refl 0 h
 |k+1=>((CW b h k).up (by omega)).trans (RY b k _)
theorem D9 (b:Int)(hn:1000<=n)(z:cX n dJ h):∀k,cX (n+322000*k) dJ (pj b k h).2
 |0=>z
 |k+1=>(UR b k _ (by omega) (D9 b hn z k)).mono
def pk (h:Host)(b:Int):Host×Int:=bif eU h&&dk b 1 1000 then((pj b h.2.2.2.1.length h).2,(pj b h.2.2.2.1.length h).1) else(h,0)
theorem RZ (hn:1000<=n)(b:Int)(k:Bc n h):Bc (n+644000) (pk h b).1:=by unfold pk;cases hb:eU h&&dk b 1 1000 with|false=>exact k.mono|true=>simp only[ae]at hb;have hl:=pX (by have:=hb.1;simp only[eU,ae]at this;exact this.2.2.2.2.1:qq h=true);refine⟨(D9 b hn k.z _).mono,?_⟩;simp only[ah];rw[(CW b h _).tx];exact bk k.t (by omega)
theorem QR (h:Host)(b:Int)(k:Bc 400000000 h):pH h b=some (pk h b):=by
 have Ab:=dR;unfold pH pk;rw[mT h (k.z.mono),ab,vy h (k.sz (by omega)),ab,dh];cases hb:eU h;rfl;cases hi0:dk b 1 1000;rfl;have hl:=pX (by simp only[eU,ae]at hb;exact hb.2.2.2.2.1:qq h=true);simp only[aj,af,ab,eS,ah];refine ew (λi=>((pj b i h).1,(i:Int),(pj b i h).2)) h.2.2.2.1.length (by omega) (λi nx hi=>?_) (λnx=>?_);have kk:=CW b h i;have zz:cX 500000000 dJ (pj b i h).2:=(D9 b (by omega) k.z i).mono;have i1:i<(pj b i h).2.2.2.2.1.length:=by rw[kk.rx];exact hi
 have i2:i<(pj b i h).2.2.2.2.2.1.length:=by rw[kk.pl];omega
 have i3:i<(pj b i h).2.2.2.2.2.2.1.length:=by rw[kk.vec];omega
 have i4:i<(pj b i h).2.2.2.2.2.2.2.1.length:=by rw[kk.UF];omega
 rw[show pj b (i+1) h=xW b i (pj b i h) from rfl];generalize pj b i h=s at zz i1 i2 i3 i4⊢;have gp:∀(V:aw Vector)(P:aw Bool),jS (s.2.1,s.2.2.1,s.2.2.2.1,s.2.2.2.2.1,s.2.2.2.2.2.1,V,P,s.2.2.2.2.2.2.2.2) (i:Int) b=some ((jn s.2.2.1 s.2.1 0 s.2.2.2.2.1[i] s.2.2.2.2.2.1[i] s.2.2.2.2.2.2.2.2.2.2.1 b).2.2.2.2,(jn s.2.2.1 s.2.1 0 s.2.2.2.2.1[i] s.2.2.2.2.2.1[i] s.2.2.2.2.2.2.2.2.2.2.1 b).1,s.2.2.1,s.2.2.2.1,s.2.2.2.2.1.set i (jn s.2.2.1 s.2.1 0 s.2.2.2.2.1[i] s.2.2.2.2.2.1[i] s.2.2.2.2.2.2.2.2.2.2.1 b).2.1,s.2.2.2.2.2.1.set i (jn s.2.2.1 s.2.1 0 s.2.2.2.2.1[i] s.2.2.2.2.2.1[i] s.2.2.2.2.2.2.2.2.2.2.1 b).2.2.1,V,P,s.2.2.2.2.2.2.2.2.1,s.2.2.2.2.2.2.2.2.2.1,(jn s.2.2.1 s.2.1 0 s.2.2.2.2.1[i] s.2.2.2.2.2.1[i] s.2.2.2.2.2.2.2.2.2.2.1 b).2.2.2.1,s.2.2.2.2.2.2.2.2.2.2.2):=by intro V P;have CJ:s.2.2.2.2.2.1[i].2.2.2.length<=500000000:=(zz.2.2.2.2.1.2 _ (bC i2)).2.2.2.1;have hm:s.2.1.length<=500000000:=zz.1.1;have hp:s.2.2.1.length<=500000000:=zz.2.1.1;unfold jS;simp only[bz i1,bz i2,ab,QO s.2.2.1 s.2.1 0 _ _ _ b (show s.2.2.1.length<=10^9 by omega) (show s.2.1.length<=10^9 by omega) CJ zz.2.2.2.2.2.2.2.2.2.1,az]
 have BN:∀V:Vector,s.2.2.2.2.2.2.1.set i V=s.2.2.2.2.2.2.1.set i V:=λ_=>rfl;unfold xW;rw[al i1,al i2,al i3,al i4];simp only[lO];rw[lE,ah];simp only[bz i3,bz i4,ab,XA,az,gp];generalize zN s.2.2.2.2.2.2.1[i]=w;generalize jn s.2.2.1 s.2.1 0 s.2.2.2.2.1[i] s.2.2.2.2.2.1[i] s.2.2.2.2.2.2.2.2.2.2.1 b=pr;have i5:∀V:Vector,i<(s.2.2.2.2.2.2.1.set i V).length:=λV=>by rw[aB];exact i3
 have i6:∀q:Bool,i<(s.2.2.2.2.2.2.2.1.set i q).length:=λq=>by rw[aB];exact i4
 have e5:∀V:Vector,idx (s.2.2.2.2.2.2.1.set i V) (i:Int)=some V:=λV=>by rw[bz (i5 V),List.getElem_set_self]
 have e6:∀q:Bool,idx (s.2.2.2.2.2.2.2.1.set i q) (i:Int)=some q:=λq=>by rw[bz (i6 q),List.getElem_set_self]
 rw[ak (n:=(i:Int)+1)];have yt:s.2.2.2.2.2.2.2.1.set i (s.2.2.2.2.2.2.2.1[i])=s.2.2.2.2.2.2.2.1:=List.set_getElem_self ..;generalize hp:s.2.2.2.2.2.2.2.1[i]=p at yt⊢;cases hw:w.2 with
 |true=>simp only[js,ah,e6,e5,ab,aj,af,JV,List.set_set];cases decide (pr.2.2.2.2<b)<;>rfl
 |false=>
  simp only[Bool.or_false,af];cases p with
  |false=>rw[yt];rfl
  |true=>
   have e7:idx s.2.2.2.2.2.2.2.1 (i:Int)=some true:=by rw[bz i4,hp]
   simp only[ah,aj,af,e5,e7,ab,JV,List.set_set];cases decide (pr.2.2.2.2<b)with|true=>rfl|false=>simp only[af,cb,yt];rfl
 simp only[lO];rw[cW,af]
theorem acq (hn:1000<=n)(k:Bc n h):Bc n (zP h):=by have:=acp hn k.z;exact⟨this.1,by rw[this.2];exact k.t⟩
def txt (_:Int):Bytes:=[]
def Em:(t:CT)->t.D->Nat
 | .int _,_=>1
 | .bool,_=>1
 | .str,_=>1
 | .sl e,xs=>(xs.map (Em e)).sum
 | .pair a b,x=>Em a x.1+Em b x.2
def mkL (f:α->Int->α)(c:α->Nat):aw α->Int->aw α
 |[],_=>[]
 |x::xs,k=>f x k::mkL f c xs (k+c x)
def mk:(t:CT)->t.D->Int->t.D
 | .int _,_,k=>k
 | .bool,_,k=>tmod k 3==0
 | .str,_,k=>txt k
 | .sl e,xs,k=>mkL (mk e) (Em e) xs k
 | .pair a b,x,k=>(mk a x.1 k,mk b x.2 (k+Em a x.1))
structure Few (h:Host):Prop where
 pl:h.2.2.2.2.1.length<=2
 w:h.2.2.1.2.2.1.length<=16
theorem aas (hb:eU h=true):Few h:=by have hl:=pX (by have:=hb;simp only[eU,ae]at this;exact this.2.2.2.2.1:qq h=true);have ht:=Eg (t:=h.2.2.1) (by simp only[eU,ae]at hb;exact hb.2.2.1);exact⟨by omega,ht⟩
theorem Bc.tx (k:Bc n h)(hn:n<=10^9):acG h.2.2.1:=
 have z:cX 1000000000 dJ h:=k.z.mono hn
 ⟨z.2.2.1.2.1.2.2.2.1,z.2.2.1.2.2.1.1,λx hx=>(z.2.2.1.2.2.1.2 x hx).2.2.1⟩
def wA (h:Host)(p:aO)(c z:Int):Host×Bool:=
 bif eU h then(((ur h.2.1 h.1 0 h.2.2.1 p c z).1,h.2.1,(ur h.2.1 h.1 0 h.2.2.1 p c z).2.1,h.2.2.2),(ur h.2.1 h.1 0 h.2.2.1 p c z).2.2) else(h,false)
theorem Xt (h:Host)(p:aO)(c z:Int)(k:Bc 900000000 h):uP h p c z=some (wA h p c z):=by have zz:cX 1000000000 dJ h:=k.z.mono;unfold uP wA;rw[mT h zz,ab,vy h (k.sz (by omega)),ab];cases eU h;rfl;simp only[aj,af,ah,Xu _ _ _ _ _ _ _ zz.2.1.1 zz.1.1 (k.tx (by omega)) zz.2.2.1.2.2.1.1 (bk k.t (by omega)),ab]
theorem Mg (hn:128<=n)(l:aw aA)(d:Int)(p:df)(z:Nat):∀(q:cP)(s:Bytes)(m:bT)(a:aw gn){x},cX n (.sl .str) m->tY l d p z q s m a=some x->cX n (.sl .str) x.2
 |[],s,m,a,x,hm,h=>by cases h;exact hm
 |b::q,s,m,a,x,hm,h=>by rw[tY]at h;cases hq:(hH l m d (nw p b) (s.take z) false).2 with|false=>rw[hq]at h;cases h|true=>rw[hq]at h;exact Mg hn l d p z q _ _ _ (B6 hn hm ..) h
theorem HI (hn:128<=n)(l:aw aA)(d:Int):∀(q:bT)(m:bT)(r:ln){x},cX n (.sl .str) m->qa l d q m r=some x->cX n (.sl .str) x.1
 |[],m,r,x,hm,h=>by cases h;exact hm
 |s::q,m,r,x,hm,h=>by rw[qa]at h;cases hq:(cK l m d r s).2.2 with|false=>rw[hq]at h;cases h|true=>rw[hq]at h;exact HI hn l d q _ _ (FC hn hm ..) h
theorem RE (hn:128<=n){q:bT}(hm:cX n (.sl .str) m):cX n (.sl .str) (rr l m d r q).1:=by unfold rr;cases hx:qa l d q m r with|none=>exact hm|some x=>exact HI hn l d q m r hm hx
theorem YZ (p:df)(n:Int):(jH p n).1.2.2.2.length+(jH p n).2.1.length=p.2.2.2.length:=by unfold jH;cases dw p&&dk n 0 (p.2.2.2.length:Int)with|false=>rfl|true=>simp only[ah,aN,aX];omega
theorem WH (a:aw lZ)(x:lZ):(bp (a++[x])).length=(bp a).length+x.2.2.length:=by simp[bp]
theorem RX:∀l:aw lZ,(∀x∈l,1<=x.2.1)->(l.length:Int)<=dE l
 |[],_=>by simp[dE]
 |y::l,h=>by have h1:=RX l (λx hx=>h x (eL _ hx));have h2:=h y (List.mem_cons_self ..);simp only[dE,cD,List.sum_cons,bq]at h1⊢;omega
structure ad7 (n:Nat) (m:List Bytes) (t:dB) (r:List Bytes×dB×Bool):Prop where
 mem:cX n (.sl .str) r.1
 tx:cX (n+1) mc r.2.1
 sum:r.2.1.2.1.2.2.2.length+(bp r.2.1.2.2.1).length<=n
 w:r.2.1.2.2.1.length<=16\/r.2.1.2.2.1=t.2.2.1
theorem YB (hn:128<=n){c:Int}(d:Int)(hm:cX n (.sl .str) m)(ht:cX n mc t)(hs:t.2.1.2.2.2.length+(bp t.2.2.1).length<=n):ad7 n m t (ur l m d t p c z):=by
 have old:ad7 n m t (m,t,false):=⟨hm,ht.mono,hs,Or.inr rfl⟩
 unfold ur;cases hg:IM t&&(dq p&&(dk z 1 t.2.1.2.1&&dk c 1 128));exact old;simp only[ae]at hg;simp only[ah];generalize vU p z.toNat=k;cases hk:EN t k;exact old;simp only[ah];rcases hx:tY l d t.2.1 z.toNat (jH t.2.1 (k:Int)).2.1 (jx p).1 m []with _|x;exact old;simp only;unfold HN;have hpm:=RE (n:=n) hn (l:=l) (d:=d) (q:=(ou x.1 c t.2.2.2).map vV) (r:=t.1) (Mg hn l d t.2.1 z.toNat _ _ _ _ hm hx);generalize rr l x.2 d t.1 ((ou x.1 c t.2.2.2).map vV)=w at hpm⊢;cases w.2.2;exact old;have hl:=YZ t.2.1 (k:Int);have hb:=WH t.2.2.1 (t.2.2.2,(k:Int)+1,(jH t.2.1 (k:Int)).2.1);have hb:(bp (t.2.2.1++[(t.2.2.2,(k:Int)+1,(jH t.2.1 (k:Int)).2.1)])).length=(bp t.2.2.1).length+(jH t.2.1 (k:Int)).2.1.length:=hb;refine⟨hpm,⟨⟨cr,cr,cr,cr⟩,⟨cr,cr,cr,?_,λ_ _=>trivial⟩,?_,cr⟩,?_,Or.inl ?_⟩;show(jH t.2.1 (k:Int)).1.2.2.2.length<=n+1;omega;exact GA (t:=iO) (k:=1) ht.2.2.1 (λy hy=>by rw[cj.1 hy];exact⟨cr,cr,by show(jH t.2.1 (k:Int)).2.1.length<=n;omega,λ_ _=>trivial⟩) (by simp);show(jH t.2.1 (k:Int)).1.2.2.2.length+(bp (t.2.2.1++[(t.2.2.2,(k:Int)+1,(jH t.2.1 (k:Int)).2.1)])).length<=n;omega;show(t.2.2.1++[_]).length<=16;have hq:=hg.1;simp only[IM,ae]at hq;have Sy:=kD hq.1;have hc:=RX t.2.2.1 (λx hx=>by have:=aI.1 hq.2.2.2.1 x hx;simp only[nm,ae,bf]at this;omega);unfold EN at hk;simp only[ae,aL,cM]at hk;rw[ai,bw];omega
theorem abO (hn:1000<=n)(p:aO)(c z:Int)(k:Bc n h):Bc (n+1) (wA h p c z).1:=by unfold wA;cases eU h;exact k.mono;have zz:=k.z;have s:=YB (by omega) (l:=h.2.1) (p:=p) (c:=c) (z:=z) 0 zz.1 zz.2.2.1 k.t;have z1:cX (n+1) dJ h:=zz.mono;exact⟨⟨s.mem.mono,z1.2.1,s.tx,z1.2.2.2⟩,bk s.sum (by omega)⟩
theorem HJ (h:Host):∀k,(gU h k).2.2.1=h.2.2.1
 |0=>rfl
 |k+1=>by show(uq k (gU h k)).2.2.1=_;rw[<-HJ h k];generalize gU h k=s;unfold uq;rcases h1:s.2.2.2.1[k]? with _|x;rfl;cases h2:s.2.2.2.2.2.1[k]? with|none=>rfl|some v=>rfl
theorem M3 (hn:1000<=n)(k:Bc n h)(f:Few h):Bc (n+645000) (gD h)/\Few (gD h):=by
 unfold gD;cases hb:eU h;exact⟨k.mono,f⟩;have hl:=pX (JH hb);have e:=Hm hn k.z hl.1;have hw:=f.w;have hp:=Au (n:=n) (by omega) k.z h.2.2.2.1.length;have ht:=(vL (n:=n+322000*h.2.2.2.1.length) (h:=h) hp.2 h.2.2.1.2.2.1.length).1.e;have h4:=nj 256 128 8;simp only[ah];have hx:=HJ (pA h) h.2.2.2.1.length;have hk:=(uZ (pA h) h.2.2.2.1.length).pl;have CJ:(pA h).2.2.2.2.1.length=h.2.2.2.2.1.length:=by show(returned h h.2.2.1.2.2.1.length).2.2.2.2.1.length=_;rw[ht];exact hp.1.pl
 refine⟨⟨(Ay (by omega) e _).mono,?_⟩,?_,?_⟩;rw[hx];show(gT 256 128 8).1.2.2.2.length+0<=_;omega;rw[hk,CJ];exact f.pl;rw[hx];show 0<=16;omega
def aat (f:iz):aw Stream->Int->Int
 |[],_=> -1
 |s::r,i=>if s.1=f then i else aat f r (i+1)
def ZB (a b:aw Stream)(f:iz):Bool:=
 match idx a (aat f a 0),idx b (aat f b 0)with
 |some x,some y=>decide (x=y)
 |_,_=>false
def age (b:Bool):Int:=bif b then 1 else 0
def Ends (o:ay α)(P:α->Prop):Prop:=∃x,o=some x/\P x
theorem Ends.pure {x:α}{P:α->Prop}(h:P x):Ends (some x) P:=⟨x,rfl,h⟩
theorem Ends.bind {o:ay α}{P:α->Prop}{k:α->ay R}{Q:R->Prop}(h:Ends o P)(hk:∀x,P x->Ends (k x) Q):Ends (aa o k) Q:=by obtain⟨x,rfl,hx⟩:=h;exact hk x hx
theorem Ends.mono {o:ay α}{P Q:α->Prop}(h:Ends o P)(hq:∀x,P x->Q x):Ends o Q:=by obtain⟨x,hx,hp⟩:=h;exact⟨x,hx,hq x hp⟩
theorem Ends.cond {c:Bool}{a b:ay α}{P:α->Prop}(h1:c=true->Ends a P)(h2:c=false->Ends b P):Ends (cond c a b) P:=by cases c with|true=>exact h1 rfl|false=>exact h2 rfl
theorem Ends.ifn {p:Prop}[Decidable p]{a:ay α}{P:α->Prop}(h:¬p)(ha:Ends a P):Ends (if p then none else a) P:=by rw[aG h];exact ha
theorem Ends.room {k:ay α}{P:α->Prop}(h:n<=1073741824)(hk:Ends k P):Ends (room n k) P:=by rw[aR h];exact hk
theorem Ends.of {o:ay α}{x:α}{P:α->Prop}(h:o=some x)(hp:P x):Ends o P:=⟨x,h,hp⟩
theorem Ends.iter {σ:Type}{T:(σ->ay R)->σ->ay R}{Q:R->Prop}(I:σ->Prop)(m:σ->Nat)(hs:∀x nx,I x->(∀y,I y->m y<m x->Ends (nx y) Q)->Ends (T nx x) Q): ∀n x,I x->m x<n->Ends (aW T n x) Q:=by intro n;induction n with|zero=>intro x _ h;omega|succ n ih=>intro x hx hm;rw[aW];exact hs x _ hx λy hy hG=>ih y hy (by omega)
theorem Ends.wy {σ:Type}{T:(σ->ay R)->σ->ay R}{Q:R->Prop}(I:σ->Prop)(m:σ->Nat){x:σ}(hx:I x)(hm:m x<=1000000000000)(hs:∀x nx,I x->(∀y,I y->m y<m x->Ends (nx y) Q)->Ends (T nx x) Q):Ends (aW T fuel x) Q:=Ends.iter I m hs fuel x hx (by have:=dR;omega)
theorem Ends.idx {xs:aw α}{k:α->ay R}{Q:R->Prop}(h0:0<=i)(h1:i<(xs.length:Int))(hk:∀(h:i.toNat<xs.length),Ends (k xs[i.toNat]) Q):Ends (aa (idx xs i) k) Q:=by
 obtain⟨n,rfl⟩:=aV h0;have hn:n<xs.length:=by omega
 rw[bz hn,ab];exact hk (by simpa using hn)
abbrev LX:=cP×Int×Int
variable {c:LX}
def Cu (c:LX):Prop:=0<=c.2.1/\c.2.1<=(c.1.length:Int)/\c.1.length<=1048576
theorem ZD (x y:Int)(n:Nat)(hy:(fY y).toNat=n)(hn:n<9223372036854775808):0<=aq (BitVec.toNat (fY x&&&fY y))/\aq (BitVec.toNat (fY x&&&fY y))<=n:=by
 have h:(fY x&&&fY y).toNat<=n:=by rw[BitVec.toNat_and,hy];exact Nat.and_le_right
 generalize (fY x&&&fY y).toNat=k at h;rw[ak];omega
theorem agb {a:cP}(ha:a.length<=1048576):Ends (yG a) Cu:=by
 unfold yG;refine Ends.wy (λx=>0<=x.2/\x.2<=4000) (λx=>(4000-x.2).toNat) ⟨by omega,by omega⟩ (by simp) λx nx hx hn=>?_;unfold xY;refine Ends.bind (P:=λb=>b=true->x.2<(a.length:Int)/\x.2<4000) (Ends.cond (λh=>Ends.pure λh2=>⟨bh h,bh h2⟩) λh=>Ends.pure λh2=>by cases h2) λq hq=>?_;refine Ends.cond (λh=>?_) (λh=>Ends.pure ⟨dY _,by simp,ha⟩);have hq:=hq h;refine Ends.idx hx.1 hq.1 λ_=>hn _ ⟨?_,?_⟩ ?_;all_goals simp only[ak (n:=x.2+1) (by omega) (by omega)]
 all_goals omega
theorem Cx (h:Cu c):Ends (jO c) λr=>(0<=r.1/\r.1<=255)/\Cu r.2:=by
 unfold jO;refine Ends.ifn (by decide) (Ends.ifn (by decide) (Ends.cond (λh1=>?_) λh1=>?_))
 ·have h1:=bh h1;refine Ends.idx h.1 h1 λ_=>Ends.pure ⟨ZD _ 255 255 rfl (by decide),?_⟩;refine⟨?_,?_,h.2.2⟩;all_goals simp only[ak (n:=c.2.1+1) (by have:=h.1;omega) (by have:=h.2.2;omega)]
  have:=h.1;omega;omega
 exact Ends.pure ⟨ZD _ 255 255 rfl (by decide),h.1,h.2.1,h.2.2⟩
theorem gq (h:Cu c){n:Int}(hn:0<n:=by omega):Ends (bZ c n) λr=>(0<=r.1/\r.1<n)/\Cu r.2:=by unfold bZ;rw[cW];simp only[af];refine Ends.cond (λh1=>?_) λh1=>?_;refine(Cx h).bind λr hr=>Ends.ifn (by omega) (Ends.pure ⟨⟨Int.tmod_nonneg _ hr.1.1,Int.tmod_lt_of_pos _ hn⟩,hr.2⟩);refine(Cx h).bind λr2 h2=>(Cx h2.2).bind λr3 h3=>(Cx h3.2).bind λr4 h4=>(Cx h4.2).bind λr5 h5=>Ends.ifn (by omega) (Ends.pure ⟨⟨Int.tmod_nonneg _ ?_,Int.tmod_lt_of_pos _ hn⟩,h5.2⟩);have a2:=h2.1;have a3:=h3.1;have a4:=h4.1;have a5:=h5.1;rw[ak (n:=r2.1*16777216),ak (n:=r3.1*65536),ak (n:=r4.1*256)];rw[ak (n:=r2.1*16777216+r3.1*65536)];rw[ak (n:=r2.1*16777216+r3.1*65536+r4.1*256)];rw[ak];omega
theorem EC (h:Cu c)(n:Int):Ends (bZ c n) λr=>(0<=r.1/\(r.1<n\/r.1=0))/\Cu r.2:=by
 rcases Int.lt_or_le 0 n with hn|hn;exact(gq h hn).mono λr hr=>⟨⟨hr.1.1,Or.inl hr.1.2⟩,hr.2⟩
 unfold bZ;rw[au hn];exact Ends.pure ⟨⟨dY _,Or.inr rfl⟩,h⟩
theorem uY (h:Cu c)(n:Int):Ends (gj c n) λr=>Cu r.2:=by unfold gj;exact(EC h n).bind λr hr=>Ends.pure hr.2
theorem iE (h:Cu c){l:cP}{P:Int->Prop}(hl:0<l.length)(hp:∀x∈l,P x):Ends (cm c l) λr=>P r.1/\Cu r.2:=by unfold cm;exact(gq h).bind λr hr=>Ends.idx hr.1.1 hr.1.2 λhi=>Ends.pure ⟨hp _ (bC hi),hr.2⟩
theorem FX (h:Cu c)(n:Int):Ends (lj c n) λr=>(r.1.length<=5000/\(0<=n->n<=5000->(r.1.length:Int)=n)/\(n<=0->r.1=[]))/\Cu r.2:=by
 have key:∀v:Int,v<=5000->∀Q:(Bytes×LX)->Prop,(∀x c,((x.length:Int)=v\/(v<=0/\x=[]))->Cu c->Q (aK x,c))->Ends (aW (nN (λy _ z=>some (aK y,z)) v) fuel (([]:cP),0,c)) Q:=by
  intro v hv Q hQ;refine Ends.wy (λx=>(x.1.length:Int)=x.2.1/\(x.2.1<=v\/x.2.1=0)/\Cu x.2.2) (λx=>(v-x.2.1).toNat) ⟨rfl,Or.inr rfl,h⟩ (by simp;omega) λx nx hx hn=>?_;unfold nN;refine Ends.cond (λh1=>?_) λh1=>Ends.pure (hQ _ _ ?_ hx.2.2)
  ·have h1:=bh h1;refine(Cx hx.2.2).bind λr hr=>Ends.room (by simp;omega) (hn _ ⟨?_,?_,hr.2⟩ ?_);all_goals simp only[ak (n:=x.2.1+1) (by omega) (by omega)]
   simp;omega;omega;omega
  have h1:=fi h1;rcases hx.2.1 with h2|h2;exact Or.inl (by omega);rcases Int.lt_or_le 0 v with h3|h3;omega;exact Or.inr ⟨h3,bO (by omega)⟩
 have hb:∀x:cP,(aK x).length=x.length:=λx=>by simp[aK]
 unfold lj;refine Ends.cond (λh1=>?_) λh1=>?_;have h1:=bh h1;refine key 5000 (by omega) _ λx c hx hc=>⟨⟨by rw[hb];rcases hx with hx|hx<;>omega,λ_ _=>by omega,λ_=>by omega⟩,hc⟩
 have h1:=fi h1;refine key n (by omega) _ λx c hx hc=>⟨⟨?_,λh0 _=>?_,λh0=>?_⟩,hc⟩
 rw[hb];rcases hx with hx|hx;omega;rw[hx.2];simp;rw[hb];rcases hx with hx|hx;omega;rw[hx.2];simp;omega;rcases hx with hx|hx;have:x=[]:=bO (by omega);rw[this];rfl;rw[hx.2];rfl
theorem RU {s k f w:Int}(h1:0<=a/\a<=65535)(h2:0<=b/\b<=65535)(h3:0<=s/\s<=4294967295)(h4:0<=k/\k<=4294967295)(h5:0<=f/\f<=31)(h6:0<=w/\w<=65535)(hx:x.length<=320):qR (6,a,b,s,k,f,w,x)=true:=by have yT:decide ((x.length:Int)>320)=false:=cW;simp only[qR,bf.2 h1,bf.2 h2,bf.2 h3,bf.2 h4,bf.2 h5,bf.2 h6,yT];rfl
theorem abM (h1:0<=a/\a<=65535)(h2:0<=b/\b<=65535)(hx:x.length<=320):qR (17,a,b,0,0,0,0,x)=true:=by have yT:decide ((x.length:Int)>320)=false:=cW;simp only[qR,bf.2 h1,bf.2 h2,yT];rfl
theorem YA (h:qR g=true)(hx:x.length<=320):qR (g.1,g.2.1,g.2.2.1,g.2.2.2.1,g.2.2.2.2.1,g.2.2.2.2.2.1,g.2.2.2.2.2.2.1,x)=true:=by have e:decide ((x.length:Int)>320)=false:=cW;unfold qR at h⊢;simp only[ae]at h⊢;exact⟨h.1,h.2.1,by rw[e];rfl,h.2.2.2⟩
theorem aaA {v t l s:Int}(h1:0<=a/\a<=281474976710655)(h2:0<=b/\b<=281474976710655)(h3: -1<=v/\v<=4095)(h4:0<=t/\t<=255)(h5:0<=i/\i<=65535)(h6:0<=l/\l<=255)(h7:0<=s/\s<=4294967295)(h8:0<=d/\d<=4294967295)(hg:qR g=true):ow (a,b,v,t,i,l,s,d,g)=true:=by simp only[ow,bf.2 h1,bf.2 h2,bf.2 h3,bf.2 h4,bf.2 h5,bf.2 h6,bf.2 h7,bf.2 h8,hg];rfl
theorem Rt (p:aO):fT p=true↔ow p=true/\p.2.2.2.2.2.2.2.2.2.2.2.2.2.2.2.length<=128:=by unfold fT dq;rw[ae,ae,cz,aC];constructor;rintro⟨⟨h1,_⟩,h2⟩;exact⟨h1,by omega⟩;rintro⟨h1,h2⟩;exact⟨⟨h1,Or.inl (by omega)⟩,by omega⟩
theorem Wg (h:qR g=true)(h6:g.1=6):(0<=g.2.1/\g.2.1<=65535)/\(0<=g.2.2.1/\g.2.2.1<=65535)/\(0<=g.2.2.2.1/\g.2.2.2.1<=4294967295)/\(0<=g.2.2.2.2.1/\g.2.2.2.2.1<=4294967295)/\(0<=g.2.2.2.2.2.1/\g.2.2.2.2.2.1<=31)/\(0<=g.2.2.2.2.2.2.1/\g.2.2.2.2.2.2.1<=65535)/\g.2.2.2.2.2.2.2.length<=320:=by have hl:=Ca h;unfold qR at h;rw[h6]at h;simp only[ae,bf,show((6:Int)==17)=false from rfl,af]at h;exact⟨h.1,h.2.1,h.2.2.2.2.1,h.2.2.2.2.2.1,h.2.2.2.2.2.2.1,h.2.2.2.2.2.2.2,hl⟩
theorem KD (h:qR g=true)(h6:g.1=6){s f:Int}(hs:0<=s/\s<=4294967295)(hf:0<=f/\f<=31)(hx:x.length<=320):qR (g.1,g.2.1,g.2.2.1,s,g.2.2.2.2.1,f,g.2.2.2.2.2.2.1,x)=true:=by have k:=Wg h h6;rw[h6];exact RU k.1 k.2.1 hs k.2.2.2.1 hf k.2.2.2.2.2.1 hx
theorem zu (h:ow p=true)(hi:0<=i/\i<=65535)(hg:qR g=true):ow (p.1,p.2.1,p.2.2.1,p.2.2.2.1,i,p.2.2.2.2.2.1,p.2.2.2.2.2.2.1,p.2.2.2.2.2.2.2.1,g)=true:=by unfold ow at h⊢;simp only[ae]at h⊢;exact⟨h.1,h.2.1,h.2.2.1,h.2.2.2.1,h.2.2.2.2.1,bf.2 hi,h.2.2.2.2.2.2.1,h.2.2.2.2.2.2.2.1,hg⟩
theorem JB (h:ow p=true):0<=p.2.2.2.2.1/\p.2.2.2.2.1<=65535:=by unfold ow at h;simp only[ae]at h;exact bf.1 h.2.2.2.2.2.1
theorem adA (h:0<=i/\i<=65535):0<=tmod (aq (i+1)) 65536/\tmod (aq (i+1)) 65536<=65535:=by rw[ak];have h1:=Int.tmod_nonneg 65536 (a:=i+1) (by omega);have h2:=Int.tmod_lt_of_pos (i+1) (b:=65536) (by omega);omega
theorem abq {s:Int}(h:0<=s/\s<=4294967295)(hn:n<=320):0<=tmod (aq (s+(n:Int))) 4294967296/\tmod (aq (s+(n:Int))) 4294967296<=4294967295:=by rw[ak];have h1:=Int.tmod_nonneg 4294967296 (a:=s+(n:Int)) (by omega);have h2:=Int.tmod_lt_of_pos (s+(n:Int)) (b:=4294967296) (by omega);omega
theorem JG (h:Cu c):Ends (qj c) λr=>(167772161<=r.1/\r.1<=167772163)/\Cu r.2:=by unfold qj;refine(gq h (by decide)).bind λr hr=>Ends.pure ⟨?_,hr.2⟩;have:=hr.1;simp only[ak (n:=167772161+r.1) (by omega) (by omega)];omega
theorem WV (h:Cu c):Ends (vn c) λr=>(0<=r.1/\r.1<=31)/\Cu r.2:=by unfold vn;exact(iE (P:=λx=>0<=x/\x<=31) h (by decide) (by decide)).bind λr hr=>Ends.pure hr
theorem agn (h:Cu c){m:Int}(h0:0<=m)(h1:m<=320):Ends (rG c m) λr=>(qR r.1=true/\(r.1.2.2.2.2.2.2.2.length:Int)<=m)/\Cu r.2:=by
 unfold rG;refine(gq h (by decide)).bind λr1 p1=>(gq p1.2 (by decide)).bind λr2 p2=>?_;refine(iE (P:=λx=>0<=x/\x<=4294967295) p2.2 (by simp) ?_).bind λr3 p3=>?_;have:=p2.1;intro x hx;simp only[cg,List.not_mem_nil,or_false]at hx;omega;refine(iE (P:=λx=>0<=x/\x<=4294967295) p3.2 (by decide) (by decide)).bind λr4 p4=>(WV p4.2).bind λr5 p5=>?_;refine(iE (P:=λx=>0<=x/\x<=65535) p5.2 (by decide) (by decide)).bind λr6 p6=>?_;rw[ak (n:=m+1)];refine(gq p6.2).bind λr7 p7=>(FX p7.2 r7.1).bind λr8 p8=>(uY p8.2 4).bind λr9 p9=>?_;have a1:=p1.1;have a7:=p7.1;have a8:=p8.1.2.1 a7.1 (by omega);rw[ak (n:=1000+r1.1)];refine Ends.cond (λ_=>Ends.pure ⟨⟨abM (by omega) (by omega) (by omega),?_⟩,p9⟩) λ_=>Ends.pure ⟨⟨RU (by omega) (by omega) p3.1 p4.1 p5.1 p6.1 (by omega),?_⟩,p9⟩;all_goals show(r8.1.length:Int)<=m
 all_goals omega
theorem MT (h:Cu c){m:Int}(h0:0<=m:=by omega)(h1:m<=320:=by omega):Ends (ku c m) λr=>(dq r.1=true/\(r.1.2.2.2.2.2.2.2.2.2.2.2.2.2.2.2.length:Int)<=m/\(r.1.2.2.2.2.2.2.2.2.1=6\/r.1.2.2.2.2.2.2.2.2.1=17))/\Cu r.2:=by
 unfold ku;refine(iE (P:=λx=>0<=x/\x<=281474976710655) h (by decide) (by decide)).bind λr1 p1=>?_;refine(iE (P:=λx=>0<=x/\x<=281474976710655) p1.2 (by decide) (by decide)).bind λr2 p2=>?_;refine(iE (P:=λx=> -1<=x/\x<=4095) p2.2 (by decide) (by decide)).bind λr3 p3=>?_;refine(iE (P:=λx=>0<=x/\x<=255) p3.2 (by decide) (by decide)).bind λr4 p4=>?_;refine(iE (P:=λx=>0<=x/\x<=65535) p4.2 (by decide) (by decide)).bind λr5 p5=>?_;refine(iE (P:=λx=>0<=x/\x<=255) p5.2 (by decide) (by decide)).bind λr6 p6=>?_;refine(JG p6.2).bind λr7 p7=>?_;refine(agn p7.2 (m:=if 128<m then 128 else m) (by split<;>omega) (by split<;>omega)).bind λr8 p8=>?_;have hh:∀g:dW,qR g=true->ow (r1.1,r2.1,r3.1,r4.1,r5.1,r6.1,r7.1,167772161,g)=true:=λg hg=>aaA p1.1 p2.1 p3.1 p4.1 p5.1 p6.1 (by have:=p7.1;omega) (by omega) hg;have hk:∀g:dW,qR g=true->g.1=6\/g.1=17:=by intro g hg;unfold qR at hg;simp only[ae]at hg;have h2:=hg.2.2.2;cases h17:g.1==17 with|true=>exact Or.inr (by simpa using h17)|false=>rw[h17]at h2;simp only[af,ae]at h2;exact Or.inl (by simpa using h2.1)
 have hl:(r8.1.2.2.2.2.2.2.2.length:Int)<=128/\(r8.1.2.2.2.2.2.2.2.length:Int)<=m:=by have:=p8.1.2;split at this<;>omega
 have short:∀c':LX,Cu c'->Ends (some ((r1.1,r2.1,r3.1,r4.1,r5.1,r6.1,r7.1,(167772161:Int),r8.1),c')) λr:aO×LX=>(dq r.1=true/\(r.1.2.2.2.2.2.2.2.2.2.2.2.2.2.2.2.length:Int)<=m/\(r.1.2.2.2.2.2.2.2.2.1=6\/r.1.2.2.2.2.2.2.2.2.1=17))/\Cu r.2:=by intro c' wx;refine Ends.pure ⟨⟨?_,hl.2,hk _ p8.1.1⟩,wx⟩;unfold dq;rw[hh _ p8.1.1,bF];have:decide ((r8.1.2.2.2.2.2.2.2.length:Int)<=128)=true:=au hl.1;show(decide ((r8.1.2.2.2.2.2.2.2.length:Int)<=128)||_)=true;rw[this,iu]
 refine Ends.cond (λk1=>Ends.cond (λk2=>Ends.cond (λk3=>?_) λ_=>short _ p8.2) λ_=>short _ p8.2) λ_=>short _ p8.2;have k3:=bh k3;refine(uY p8.2 2).bind λr9 p9=>Ends.cond (λ_=>?_) λ_=>short _ p9;rw[ak (n:=m-128),ak (n:=m-128+1)];refine(gq p9).bind λru p10=>?_;have a10:=p10.1;rw[ak (n:=128+ru.1)];refine(FX p10.2 _).bind λvR p11=>?_;have a11:=p11.1.2.1 (by omega) (by omega);have hs:=YA p8.1.1 (x:=vR.1) (by omega);refine Ends.pure ⟨⟨?_,by show(vR.1.length:Int)<=m;omega,Or.inl (by simpa using k1)⟩,p11.2⟩;unfold dq;rw[hh _ hs,bF];rw[Jn _ (CV p8.1.1 k1)]at k2;show(_||(r8.1.1==6)&&zW r8.1.2.2.2.2.2.1)=true;rw[k1,k2,eS,js]
def Plain (p:aO):Prop:=ow p=true/\p.2.2.2.2.2.2.2.2.2.2.2.2.2.2.2.length<=40
theorem Plain.ok (h:Plain p):fT p=true:=(Rt p).2 ⟨h.1,by have:=h.2;omega⟩
theorem Fz (h:Cu c):Ends (ku c 40) λr=>Plain r.1/\Cu r.2:=(MT h).mono λr hr=>⟨⟨by have:=hr.1.1;unfold dq at this;simp only[ae]at this;exact this.1,by have:=hr.1.2.1;omega⟩,hr.2⟩
theorem abg {Q:R->Prop}{k0:aw aO->LX->aO->ay R}{l:aw aO}{n:Int}(hl:l.length<=1000)(hc:Cu c)(hp:Plain p)(hk:∀c' p',Cu c'->Plain p'->Ends (k0 (l++[p]) c' p') Q):Ends (mL k0 l z n c p) Q:=by
 unfold mL;have hi:=adA (JB hp.1);have hs:=xJ hp.1;refine Ends.room (by simp;omega) (Ends.ifn (by decide) (Ends.cond (λh6=>?_) λ_=>hk _ _ hc ⟨zu (p:=p) hp.1 hi hs,hp.2⟩));have h6:p.2.2.2.2.2.2.2.2.1=6:=by simpa using h6
 refine(uY hc 8).bind λr hr=>Ends.cond (λ_=>Ends.ifn (by decide) (hk _ _ hr ⟨zu (p:=p) hp.1 hi ?_,hp.2⟩)) λ_=>hk _ _ hr ⟨zu (p:=p) hp.1 hi hs,hp.2⟩;have k:=Wg hs h6;have hlen:p.2.2.2.2.2.2.2.2.2.2.2.2.2.2.2.length<=320:=by have:=hp.2;omega
 exact KD hs h6 (abq k.2.2.1 hlen) k.2.2.2.2.1 hlen
theorem abf {Q:R->Prop}{k0:aw aO->LX->aO->ay R}{l:aw aO}{n:Int}(hl:l.length<=1000)(hz:1<=z/\z<=40)(hc:Cu c)(hp:Plain p)(hk:∀q c' p',Plain q->Cu c'->Plain p'->Ends (k0 (l++[q]) c' p') Q):Ends (mK k0 l z n c p) Q:=by
 unfold mK;refine Ends.cond (λh6=>?_) λ_=>abg hl hc hp λc' p' h1 h2=>hk _ _ _ hp h1 h2;have h6:p.2.2.2.2.2.2.2.2.1=6:=by simpa using h6
 refine(iE (P:=λx=>0<=x/\x<=31) hc (by decide) (by decide)).bind λr8 p8=>(FX p8.2 z).bind λr9 p9=>?_;have a9:=p9.1.2.1 (by omega) (by omega);have hs:=xJ hp.1;have hq:Plain (p.1,p.2.1,p.2.2.1,p.2.2.2.1,p.2.2.2.2.1,p.2.2.2.2.2.1,p.2.2.2.2.2.2.1,p.2.2.2.2.2.2.2.1,p.2.2.2.2.2.2.2.2.1,p.2.2.2.2.2.2.2.2.2.1,p.2.2.2.2.2.2.2.2.2.2.1,p.2.2.2.2.2.2.2.2.2.2.2.1,p.2.2.2.2.2.2.2.2.2.2.2.2.1,r8.1,p.2.2.2.2.2.2.2.2.2.2.2.2.2.2.1,r9.1):=⟨zu hp.1 (JB hp.1) (KD hs h6 (Wg hs h6).2.2.1 p8.1 (by omega)),by show r9.1.length<=40;omega⟩
 exact abg hl p9.2 hq λc' p' h1 h2=>hk _ _ _ hq h1 h2
theorem aex {Q:R->Prop}{k0:aw aO->Int->LX->aO->ay R}{l:aw aO}{n:Int}(hl:l.length<=1000)(hz:1<=z/\z<=40)(hc:Cu c)(hp:Plain p)(hk:∀q z' c' p',Plain q->(1<=z'/\z'<=40)->Cu c'->Plain p'->Ends (k0 (l++[q]) z' c' p') Q):Ends (nP k0 l z n c p) Q:=by unfold nP;refine(uY hc 6).bind λr6 p6=>Ends.cond (λ_=>?_) λ_=>abf hl hz p6 hp λq c' p' h1 h2 h3=>hk _ _ _ _ h1 hz h2 h3;refine(gq p6 (by decide)).bind λr7 p7=>?_;have a7:=p7.1;rw[ak (n:=1+r7.1)];exact abf hl (by omega) p7.2 hp λq c' p' h1 h2 h3=>hk _ _ _ _ h1 (by omega) h2 h3
theorem ahV {Q:R->Prop}{k0:aw aO->Int->Int->LX->aO->ay R}{l:aw aO}{n:Int}(hl:l.length<=1000)(hz:1<=z/\z<=40)(hn:0<n/\n<=1000)(hc:Cu c)(hp:Plain p)(hk:∀q z' c' p',Plain q->(1<=z'/\z'<=40)->Cu c'->Plain p'->Ends (k0 (l++[q]) z' (n-1) c' p') Q):Ends (rH k0 l z n c p) Q:=by unfold rH;have e:aq (n-1)=n-1:=ak;refine(uY hc 5).bind λr4 p4=>Ends.cond (λ_=>?_) λ_=>?_;refine(Fz p4).bind λr5 p5=>aex hl hz p5.2 p5.1 λq z' c' p' h1 h2 h3 h4=>?_;unfold nO;rw[e];exact hk _ _ _ _ h1 h2 h3 h4;refine aex hl hz p4 hp λq z' c' p' h1 h2 h3 h4=>?_;unfold nO;rw[e];exact hk _ _ _ _ h1 h2 h3 h4
theorem adw (h:Cu c){m:Int}(h0:0<m)(h1:m<=100):Ends (wV c m) λr=>((∀p∈r.1,Plain p)/\0<r.1.length/\(r.1.length:Int)<=m)/\Cu r.2:=by unfold wV;refine(Fz h).bind λr1 p1=>(gq p1.2 (by decide)).bind λr2 p2=>(gq p2.2 h0).bind λr3 p3=>?_;have a2:=p2.1;have a3:=p3.1;rw[ak (n:=r2.1*8),ak (n:=8+r2.1*8),ak (n:=1+r3.1)];refine Ends.wy (λx=>(∀p∈x.1,Plain p)/\(1<=x.2.1/\x.2.1<=40)/\0<=x.2.2.1/\(x.1.length:Int)+x.2.2.1=1+r3.1/\Cu x.2.2.2.1/\Plain x.2.2.2.2) (λx=>x.2.2.1.toNat) ⟨by simp,(by dsimp only;omega),(by dsimp only;omega),by simp,p3.2,p1.1⟩ (by simp;omega) λx nx hx hn=>?_;unfold wh;refine Ends.cond (λk=>?_) λk=>?_;have k:=bh k;refine ahV (by omega) hx.2.1 (by omega) hx.2.2.2.2.1 hx.2.2.2.2.2 λq z' c' p' h1 h2 h3 h4=>hn _ ⟨?_,h2,?_,?_,h3,h4⟩ ?_;intro y hy;rcases ax.1 hy with hy|hy;exact hx.1 y hy;simp only[cj]at hy;rw[hy];exact h1;show 0<=x.2.2.1-1;omega;show((x.1++[q]).length:Int)+(x.2.2.1-1)=1+r3.1;have:=hx.2.2.2.1;simp;omega;show(x.2.2.1-1).toNat<x.2.2.1.toNat;omega;have k:=fi k;have:=hx.2.2.2.1;have:=hx.2.2.1;exact Ends.pure ⟨⟨hx.1,(by dsimp only;omega),(by dsimp only;omega)⟩,hx.2.2.2.2.1⟩
theorem adC (h:Cu c){l:aw aO}(hl:l.length<=1000000):Ends (wW c l) λr=>(r.1.length<=l.length/\∀s∈r.1,s.2.2.1=[])/\Cu r.2:=by unfold wW;refine Ends.wy (λx=>0<=x.2.1/\(x.1.length:Int)<=x.2.1/\x.2.1<=(l.length:Int)/\(∀s∈x.1,s.2.2.1=[])/\Cu x.2.2) (λx=>((l.length:Int)-x.2.1).toNat) ⟨by simp,by simp,by simp,by simp,h⟩ (by simp;omega) λx nx hx hn=>?_;have e:x.2.1<(l.length:Int)->aq (x.2.1+1)=x.2.1+1:=λ_=>ak;unfold wi;refine Ends.cond (λk=>?_) λk=>Ends.pure ⟨⟨(by dsimp only;omega),hx.2.2.2.1⟩,hx.2.2.2.2⟩;have k:=bh k;rw[e k];have skip:∀c',Cu c'->Ends (nx (x.1,x.2.1+1,c')) _:=λc' wx=>hn _ ⟨by show 0<=x.2.1+1;omega,by show(x.1.length:Int)<=x.2.1+1;omega,by show x.2.1+1<=_;omega,hx.2.2.2.1,wx⟩ (by show((l.length:Int)-(x.2.1+1)).toNat<_;omega);refine Ends.idx hx.1 k λhi=>?_;rw[abU,ab];refine Ends.cond (λ_=>?_) λ_=>skip _ hx.2.2.2.2;rw[abY _ _ (by omega),ab];refine Ends.cond (λ_=>?_) λ_=>skip _ hx.2.2.2.2;refine(uY hx.2.2.2.2 6).bind λr4 p4=>Ends.cond (λ_=>?_) λ_=>skip _ p4;refine Ends.idx hx.1 k λhi=>(iE (P:=λ_=>True) p4 (by decide) (by simp)).bind λr6 p6=>Ends.room (by simp;omega) (hn _ ⟨by show 0<=x.2.1+1;omega,?_,by show x.2.1+1<=_;omega,?_,p6.2⟩ (by show((l.length:Int)-(x.2.1+1)).toNat<_;omega));show((x.1++[_]).length:Int)<=x.2.1+1;simp;omega;intro s hs;rcases ax.1 hs with hs|hs;exact hx.2.2.2.1 s hs;simp only[cj]at hs;rw[hs]
theorem afZ (h:Cu c):Ends (yH c) λr=>r.1.length=16/\Cu r.2:=by unfold yH;exact(FX h 16).bind λr hr=>Ends.pure ⟨by have:=hr.1.2.1 (by omega) (by omega);omega,hr.2⟩
theorem WW (h:Cu c):Ends (wX c) λr=>Cu r.2:=by unfold wX;refine(iE (P:=λ_=>True) h (by decide) (by simp)).bind λr1 p1=>(JG p1.2).bind λr2 p2=>(gq p2.2 (by decide)).bind λr3 p3=>?_;exact(iE (P:=λ_=>True) p3.2 (by decide) (by simp)).bind λr4 p4=>Ends.pure p4.2
theorem YR (h:Cu c):Ends (tI c) λr=>(r.1.1.1.length=16/\r.1.1.2.length<=8/\1<=r.1.2/\r.1.2<=4)/\Cu r.2:=by unfold tI;refine(gq h (by decide)).bind λr1 p1=>(afZ p1.2).bind λr2 p2=>(iE (P:=λx=>0<=x/\x<=8) p2.2 (by decide) (by decide)).bind λr3 p3=>?_;have a1:=p1.1;have a3:=p3.1;rw[ak (n:=1+r1.1)];refine Ends.wy (λx=>0<=x.1/\x.1+(x.2.2.2.length:Int)=r3.1/\x.2.2.1.length=16/\Cu x.2.1) (λx=>x.1.toNat) ⟨by omega,by simp,p2.1,p3.2⟩ (by simp;omega) λx nx hx hn=>?_;unfold tJ;refine Ends.cond (λk=>?_) λk=>Ends.pure ⟨⟨hx.2.2.1,by have:=hx.1;have:=hx.2.1;show x.2.2.2.length<=8;omega,by show(1:Int)<=1+r1.1;omega,by show 1+r1.1<=(4:Int);omega⟩,hx.2.2.2⟩;have k:=bh k;rw[ak (n:=x.1-1) (by omega) (by have:=hx.2.1;omega)];refine(EC hx.2.2.2 _).bind λr4 p4=>Ends.room (by have:=hx.2.1;simp;omega) (hn _ ⟨?_,?_,hx.2.2.1,p4.2⟩ ?_);show 0<=x.1-1;omega;show x.1-1+((x.2.2.2++[r4.1]).length:Int)=r3.1;have:=hx.2.1;simp;omega;show(x.1-1).toNat<x.1.toNat;omega
theorem adH (h:Cu c):Ends (wZ c) λr=>Cu r.2:=by unfold wZ;refine(gq h (by decide)).bind λr1 p1=>(iE (P:=λ_=>True) p1.2 (by decide) (by simp)).bind λr2 p2=>(JG p2.2).bind λr3 p3=>?_;refine(iE (P:=λ_=>True) p3.2 (by decide) (by simp)).bind λr4 p4=>(iE (P:=λ_=>True) p4.2 (by decide) (by simp)).bind λr5 p5=>(iE (P:=λ_=>True) p5.2 (by decide) (by simp)).bind λr6 p6=>?_;refine(iE (P:=λ_=>True) p6.2 (by decide) (by simp)).bind λr7 p7=>(iE (P:=λ_=>True) p7.2 (by decide) (by simp)).bind λr8 p8=>?_;exact Ends.cond (λ_=>(gq p8.2 (by decide)).bind λr9 p9=>Ends.pure p9.2) λ_=>Ends.pure p8.2
theorem abK (h:Cu c):Ends (vo c) λr=>r.1.length<=4/\Cu r.2:=by unfold vo;refine(gq h (by decide)).bind λr1 p1=>?_;have a1:=p1.1;refine Ends.wy (λx=>0<=x.2.1/\x.2.1+(x.1.length:Int)=r1.1/\Cu x.2.2) (λx=>x.2.1.toNat) ⟨a1.1,by simp,p1.2⟩ (by simp;omega) λx nx hx hn=>?_;unfold uz;refine Ends.cond (λk=>?_) λk=>Ends.pure ⟨by have:=hx.1;have:=hx.2.1;show x.1.length<=4;omega,hx.2.2⟩;have k:=bh k;rw[ak (n:=x.2.1-1) (by omega) (by have:=hx.2.1;omega)];refine(adH hx.2.2).bind λr2 p2=>Ends.room (by have:=hx.2.1;simp;omega) (hn _ ⟨?_,?_,p2⟩ ?_);show 0<=x.2.1-1;omega;show x.2.1-1+((x.1++[r2.1]).length:Int)=r1.1;have:=hx.2.1;simp;omega;show(x.2.1-1).toNat<x.2.1.toNat;omega
theorem K2 (t:aw Slot)(f:iz):∀n k,walk t f n k= -1\/(0<=walk t f n k/\walk t f n k<8)
 |0,_=>Or.inl rfl
 |n+1,k=>by rw[walk];have:=C0 f k;split;exact Or.inl rfl;split;exact Or.inr ⟨by omega,by omega⟩;exact K2 t f n (k+1)
theorem YY {t:aw Slot}(h:nu t=true):t.length=8:=by unfold nu at h;simp only[ae,bc]at h;exact h.1
theorem agi (t:aw Slot)(f:iz)(q:Int)(hl:t.length<=1000):Ends (wS t f q) λr=>r.1.length=t.length:=by
 unfold wS;rw[Du _ (by omega),ab,M9,ab];refine Ends.bind (P:=λb=>b=false->nu t=true) ?_ λb hb=>Ends.cond (λ_=>Ends.pure rfl) λIB=>?_;refine Ends.cond (λ_=>Ends.pure λh=>by cases h) λh=>?_;rw[ed,ab];exact Ends.pure λ_=>by simpa using h
 ·have h8:=YY (hb IB);rw[R4 _ _ h8,ab];have hw:=K2 t f 8 0;refine Ends.wy (λx=>(x.1= -1\/(0<=x.1/\x.1<8))/\0<=x.2/\x.2<=8) (λx=>(8-x.2).toNat) ⟨hw,by simp,by simp⟩ (by simp) λx nx hx hn=>?_;unfold wg;refine Ends.bind (P:=λb=>b=true->x.2<8) (Ends.cond (λh=>Ends.pure λ_=>bh h) λh=>Ends.pure λh=>by cases h) λb hb=>Ends.cond (λIB=>?_) λ_=>?_
  ·have hb:=hb IB;rw[R5,ab];have hh:=JF f;rw[ak (n:=zx f+x.2),ak (n:=x.2+1)];have m1:=Int.tmod_nonneg 8 (a:=zx f+x.2) (by omega);have m2:=Int.tmod_lt_of_pos (zx f+x.2) (b:=8) (by omega);refine Ends.ifn (by decide) (Ends.idx m1 (by omega) λ_=>Ends.cond (λ_=>hn _ ⟨Or.inr ⟨m1,m2⟩,?_,?_⟩ ?_) λ_=>hn _ ⟨hx.1,?_,?_⟩ ?_);all_goals simp only
   all_goals omega
  refine Ends.cond (λ_=>Ends.pure rfl) λh=>?_;have h:=fi h;have h0:0<=x.1/\x.1<8:=by omega
  exact Ends.idx h0.1 (by omega) λ_=>Ends.idx h0.1 (by omega) λ_=>Ends.pure (by simp)
structure uF (s:dc):Prop where
 r:s.1.length<=100
 t:s.2.1.length<=100
 k:s.2.2.1.length=16
 p:s.2.2.2.length<=100
theorem abZ (h:Cu c):Ends (ql c) λr=>(uF r.1.1/\1<=r.1.2/\r.1.2<=4)/\Cu r.2:=by
 unfold ql;have Qz:lz=some (List.replicate 8 (0,(0,0,0,0,0),0)):=by unfold lz;rw[aF (by decide),aR (by decide)];rfl
 rw[Qz,ab];refine(YR h).bind λr2 p2=>(uY p2.2 2).bind λr3 p3=>?_;have t11:∀(n:Int)(s:dc)(c':LX),n<=4->uF s->Cu c'->Ends (aW (gV (λ(_:Int) F5 Hf=>some ((Hf,r2.1.2),F5)) r2.1.2 (([]:aw jz),([]:aw Slot),([]:Bytes),([]:cP))) fuel (n,c',s)) λr:(dc×Int)×LX=>(uF r.1.1/\1<=r.1.2/\r.1.2<=4)/\Cu r.2:=by intro n s c' hn hs hc;refine Ends.wy (λx=>x.1<=4/\uF x.2.2/\Cu x.2.1) (λx=>x.1.toNat) ⟨hn,hs,hc⟩ (by simp;omega) λx nx hx hn=>?_;unfold gV;refine Ends.cond (λk=>?_) λk=>Ends.pure ⟨⟨hx.2.1,p2.1.2.2⟩,hx.2.2⟩;have k:=bh k;rw[ak (n:=x.1-1) (by omega) (by have:=hx.1;omega)];refine(WW hx.2.2).bind λvR p11=>(EC p11 _).bind λrU p12=>(agi _ _ _ (by have:=hx.2.1.t;omega)).bind λwz p13=>hn _ ⟨?_,⟨hx.2.1.r,by have:=hx.2.1.t;show wz.1.length<=100;omega,hx.2.1.k,hx.2.1.p⟩,p12.2⟩ ?_;show x.1-1<=4;have:=hx.1;omega;show(x.1-1).toNat<x.1.toNat;omega
 have t7:∀(s:dc)(c' b:LX),uF s->s.1.length<=4->Cu c'->Ends (aW (jG (λ(_:Int) y9=>aa (bZ c' 4) λru=>aW (gV (λ(_:Int) F5 Hf=>some ((Hf,r2.1.2),F5)) r2.1.2 (([]:aw jz),([]:aw Slot),([]:Bytes),([]:cP))) fuel (ru.1,ru.2,y9)) r2.1.2 b (([]:aw jz),([]:aw Slot),([]:Bytes),([]:cP))) fuel (0,s)) λr:(dc×Int)×LX=>(uF r.1.1/\1<=r.1.2/\r.1.2<=4)/\Cu r.2:=by intro s c' b hs hl hc;refine Ends.wy (λx=>0<=x.1/\x.2.1.length=s.1.length/\uF x.2) (λx=>((s.1.length:Int)-x.1).toNat) ⟨by simp,rfl,hs⟩ (by simp;omega) λx nx hx hn=>?_;unfold jG;refine Ends.cond (λk=>?_) λk=>(gq hc (by decide)).bind λru p10=>t11 _ _ _ (by have:=p10.1;omega) hx.2.2 p10.2;have k:=bh k;rw[ak (n:=x.1+1) (by omega) (by have:=hx.2.1;omega)];refine Ends.idx hx.1 k λ_=>Ends.ifn (by have:=p2.1.2.2;omega) (Ends.idx hx.1 k λ_=>Ends.idx hx.1 k λ_=>hn _ ⟨?_,?_,⟨?_,hx.2.2.t,hx.2.2.k,hx.2.2.p⟩⟩ ?_);show 0<=x.1+1;have:=hx.1;omega;show(List.set _ _ _).length=_;rw[aB];exact hx.2.1;show(List.set _ _ _).length<=100;rw[aB];exact hx.2.2.r;show((s.1.length:Int)-(x.1+1)).toNat<_;have:=hx.2.1;omega
 refine Ends.cond (λ_=>(abK p3).bind λr4 p4=>t7 _ _ _ ⟨by have:=p4.1;show r4.1.length<=100;omega,by simp,p2.1.1,by have:=p2.1.2.1;show r2.1.1.2.length<=100;omega⟩ p4.1 p4.2) λ_=>t7 _ _ _ ⟨by simp,by simp,p2.1.1,by have:=p2.1.2.1;show r2.1.1.2.length<=100;omega⟩ (by simp) p3
theorem P3 (h:Cu c):Ends (tN c) λr=>(r.1.1=2/\(r.1.2.2=[7]\/r.1.2.2=[]))/\Cu r.2:=by unfold tN;exact(uY h 4).bind λr1 p1=>(uY p1 2).bind λr2 p2=>Ends.cond (λ_=>Ends.pure ⟨⟨rfl,Or.inl rfl⟩,p2⟩) λ_=>Ends.pure ⟨⟨rfl,Or.inr rfl⟩,p2⟩
def H8 (a:Act):Prop:=a.2.1.2.2.2.2.2.2.2.2.2.2.2.2.2.2.2.length<=1000/\a.2.2.2.2.1.length<=382/\0<=a.1/\a.1<=6
def Ev (r:Bool)(a:Act):Prop:=H8 a/\(a.1=6->r=true)
theorem Ez {r:Bool}{l:aw Act}{a:Act}(h:Ev r a):(l++[a]).length<=l.length+1/\∀y∈l++[a],y∈l\/Ev r y:=by refine⟨by simp,λy hy=>?_⟩;rcases ax.1 hy with hy|hy;exact Or.inl hy;rw[cj.1 hy];exact Or.inr h
theorem SI {Q:R->Prop}{k0:aw Act->LX->ay R}{r:Bool}{l:aw Act}{x:Int}{b:Bool}(hl:l.length<=1000)(hc:Cu c)(hk:∀l' c',l'.length<=l.length+1->(∀y∈l',y∈l\/Ev r y)->Cu c'->Ends (k0 l' c') Q):Ends (kb k0 r l ps i x b c) Q:=by
 have add:∀(a:Act)(c':LX),Ev r a->Cu c'->Ends (k0 (l++[a]) c') Q:=λa c' ha wx=>by have k:=Ez (r:=r) (l:=l) (a:=a) ha;exact hk _ _ k.1 k.2 wx
 have keep:∀c',Cu c'->Ends (k0 l c') Q:=λc' wx=>hk _ _ (by omega) (λy hy=>Or.inl hy) wx;unfold kb;refine Ends.cond (λ_=>(gq hc (by decide)).bind λr9 p9=>Ends.room (by simp;omega) (by exact add _ _ (by simp[Ev,H8]) p9.2)) λ_=>?_;refine Ends.cond (λ_=>(MT hc).bind λru p10=>(gq p10.2 (by decide)).bind λvR p11=>(iE (P:=λ_=>True) p11.2 (by decide) (by simp)).bind λrU p12=>Ends.room (by simp;omega) (by exact add _ _ ⟨⟨by have:=p10.1.2.1;show ru.1.2.2.2.2.2.2.2.2.2.2.2.2.2.2.2.length<=1000;omega,by simp⟩,by simp⟩ p12.2)) λ_=>?_;refine Ends.cond (λ_=>Ends.room (by simp;omega) (by exact add _ _ (by simp[Ev,H8]) hc)) λ_=>?_;exact Ends.cond (λ_=>Ends.cond (λkr=>Ends.room (by simp;omega) (by exact add _ _ ⟨by simp[H8],λ_=>kr⟩ hc)) λ_=>keep _ hc) λ_=>keep _ hc
theorem ZA {Q:R->Prop}{k0:aw Act->LX->ay R}{r:Bool}{l:aw Act}{x:Int}{b:Bool}(hl:l.length<=1000)(hc:Cu c)(hk:∀l' c',l'.length<=l.length+1->(∀y∈l',y∈l\/Ev r y)->Cu c'->Ends (k0 l' c') Q):Ends (mN k0 r l ps i x b c) Q:=by unfold mN;refine Ends.cond (λ_=>Ends.room (by simp;omega) ?_) λ_=>?_;have k:=Ez (r:=r) (l:=l) (a:=(4,(0,0,0,0,0,0,0,0,0,0,0,0,0,0,0,([]:Bytes)),0,0,([]:Bytes),0)) (by simp[Ev,H8]);exact hk _ _ k.1 k.2 hc;exact Ends.cond (λ_=>SI hl hc hk) λ_=>Ends.cond (λ_=>SI hl hc hk) λ_=>SI hl hc hk
theorem ad9 {Q:R->Prop}{k0:aw Act->LX->ay R}{r:Bool}{l:aw Act}(hl:l.length<=900)(hx:x.length<=382)(hc:Cu c)(hk:∀l' c',l'.length<=l.length+2->(∀y∈l',y∈l\/Ev r y)->Cu c'->Ends (k0 l' c') Q):Ends (nS k0 r l ps i x c) Q:=by unfold nS;have k:=Ez (r:=r) (l:=l) (a:=(2,(0,0,0,0,0,0,0,0,0,0,0,0,0,0,0,([]:Bytes)),0,0,x,0)) ⟨⟨by simp,hx,by simp,by simp⟩,by simp⟩;generalize hL:l++[((2,(0,0,0,0,0,0,0,0,0,0,0,0,0,0,0,([]:Bytes)),0,0,x,0):Act)]=L at k⊢;have hk2:∀l' c',l'.length<=L.length+1->(∀y∈l',y∈L\/Ev r y)->Cu c'->Ends (k0 l' c') Q:=λl' c' h1 h2 h3=>hk _ _ (by omega) (λy hy=>by rcases h2 y hy with h|h;exact k.2 y h;exact Or.inr h) h3;refine Ends.room (by simp;omega) ((gq hc (by decide)).bind λr8 p8=>?_);refine Ends.cond (λ_=>Ends.room (by simp;omega) ?_) λ_=>?_;have k:=Ez (r:=r) (l:=L) (a:=(3,(0,0,0,0,0,0,0,0,0,0,0,0,0,0,0,([]:Bytes)),0,0,([]:Bytes),0)) (by simp[Ev,H8]);exact hk2 _ _ k.1 k.2 p8.2;exact Ends.cond (λ_=>ZA (by omega) p8.2 hk2) λ_=>ZA (by omega) p8.2 hk2
theorem agZ {Q:R->Prop}{k0:aw Act->Int->LX->ay R}{r:Bool}{l:aw Act}(hl:l.length<=900)(h0:0<=i)(h1:i<(ps.length:Int))(hn:ps.length<=1000)(hc:Cu c)(hk:∀l' c',l'.length<=l.length+2->(∀y∈l',y∈l\/Ev r y)->Cu c'->Ends (k0 l' (i+1) c') Q):Ends (rK k0 r l ps i c) Q:=by
 have e:aq (i+1)=i+1:=ak;unfold rK;refine Ends.idx h0 h1 λhi=>?_;have hf:=Mm ps[i.toNat];rw[YI,ab];refine(uY hc 12).bind λr4 p4=>Ends.cond (λ_=>?_) λ_=>ad9 hl hf p4 λl' c' g1 g2 g3=>by unfold nR;rw[e];exact hk _ _ g1 g2 g3
 refine(EC p4 _).bind λr5 p5=>(FX p5.2 1).bind λr6 p6=>?_;rw[FN _ _ _,ab];exact ad9 hl (by rw[vK];exact hf) p6.2 λl' c' g1 g2 g3=>by unfold nR;rw[e];exact hk _ _ g1 g2 g3
theorem acI (h:Cu c)(r:Bool):Ends (xf c r) λx=>(x.1.length<=20/\∀a∈x.1,Ev r a)/\Cu x.2:=by unfold xf;refine(adw h (m:=10) (by omega) (by omega)).bind λr1 p1=>?_;have hn:=p1.1.2.2;refine Ends.wy (λx=>0<=x.2.1/\(x.1.length:Int)<=2*x.2.1/\x.2.1<=(r1.1.length:Int)/\(∀a∈x.1,Ev r a)/\Cu x.2.2) (λx=>((r1.1.length:Int)-x.2.1).toNat) ⟨by simp,by simp,by simp,by simp,p1.2⟩ (by simp;omega) λx nx hx hn=>?_;unfold wm;refine Ends.cond (λk=>?_) λk=>Ends.pure ⟨⟨by have:=hx.2.1;have:=hx.2.2.1;show x.1.length<=20;omega,hx.2.2.2.1⟩,hx.2.2.2.2⟩;have k:=bh k;have h2:=hx.2.1;refine agZ (by omega) hx.1 k (by omega) hx.2.2.2.2 λl' c' g1 g2 g3=>hn _ ⟨?_,?_,?_,?_,g3⟩ ?_;show 0<=x.2.1+1;have:=hx.1;omega;show(l'.length:Int)<=2*(x.2.1+1);omega;show x.2.1+1<=(r1.1.length:Int);omega;intro a ha;rcases g2 a ha with h|h;exact hx.2.2.2.1 a h;exact h;show((r1.1.length:Int)-(x.2.1+1)).toNat<((r1.1.length:Int)-x.2.1).toNat;omega
end
end Go.Pu
