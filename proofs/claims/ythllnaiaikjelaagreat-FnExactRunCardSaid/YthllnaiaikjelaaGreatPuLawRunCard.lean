import Derived.KernelRfl
import Derived.Test.YthllnaiaikjelaaGreatPure
import Derived.Test.YthllnaiaikjelaaGreatPuX2
namespace Go.Pu
open Go.Dn
open List (range)
open Int (tmod)
set_option linter.unusedSimpArgs false
set_option linter.unusedVariables false
noncomputable section
variable {s x:Bytes} {e:CT} {c:cn} {h:Host} {d:Int} {f:Int->au Bytes} {k:Nat} {p:aR} {r:bk} {t:bX} {R α:Type} {l:ar aC} {ps:ar Port} {m:bp}
/- Flushes: the program's and the reference's results are one. -/
def JN (x:K5):Bool:=du x.1 0 65535&&(du x.2.1 0 65535&&(du x.2.2.1 0 65535&&(du x.2.2.2.1 0 65535&&du x.2.2.2.2 0 4294967295)))
theorem Yt (x:K5):nU x=some (JN x):=by simp_all[nU,cr,ch,JN]
theorem Zf (x:K5):oz x=some (JN x):=by simp_all[oz,cm,ch,JN]
def afh (x:K5)(p:Int):Bytes:=bif JN x&&du p 0 1 then((((cw x.1++cw x.2.1)++cw x.2.2.1)++cw x.2.2.2.1)++gT x.2.2.2.2)++gT p else []
theorem amw (x:K5)(p:Int):mY x p=some (afh x p):=by have h1:=bQ x.1;have h2:=bQ x.2.1;have h3:=bQ x.2.2.1;have h4:=bQ x.2.2.2.1;have h5:=dD x.2.2.2.2;have h6:=dD p;unfold mY afh;simp only[Yt,cr,ab,mG,zu];grind[ab,aQ]
theorem anG (x:K5)(p:Int):ng x p=some (afh x p):=by have h1:=bQ x.1;have h2:=bQ x.2.1;have h3:=bQ x.2.2.1;have h4:=bQ x.2.2.2.1;have h5:=dD x.2.2.2.2;have h6:=dD p;unfold ng afh;simp only[Zf,cm,ab,iU,lK];grind[ab,aQ]
def Il (l:ar aC)(m:bp)(d:Int)(q:Cx)(x:K5):bp×Cx×Bool:=
 bif !iG q|| !JN x then(m,q,false) else
 bif !(oQ l m d (ow q) (afh x (II q)) true).2 then(m,q,false) else
 ((oQ l m d (ow q) (afh x (II q)) true).1,(q.1,q.2.1,tmod (q.2.2+1) (2*q.2.1)),true)
theorem amG (l:ar aC)(m:bp)(d:Int)(q:Cx)(x:K5)(hl:l.length<=10^9)(hm:m.length<=10^9):ry l m d q x=some (Il l m d q x):=by unfold ry Il;simp only[RP,Yt,ab,gx m (show m.length<=1073741824 by omega),Yy,amw];cases hq:iG q;rfl;have h:=ou hq;have hs:=Uk hq;cases JN x;rfl;simp only[ai,ae,ab,bO,YC q hq,J2 l m d _ _ hl hm (show ow q<=9223372036854775807 by unfold ow;omega)];grind[YW,aj]
theorem anP (l:ar aC)(m:bp)(d:Int)(q:Cx)(x:K5)(hl:l.length<=10^9)(hm:m.length<=10^9):rT l m d q x=some (Il l m d q x):=by
 unfold rT Il;simp only[Su,Zf,ab,iT m (show m.length<=1073741824 by omega),anG];cases hq:iG q;rfl;have h:=ou hq;have hs:=Uk hq;cases JN x;rfl;have e:ak (q.1+ak (16*tmod q.2.2 q.2.1))=ow q:=by grind[aj,ow]
 simp only[ai,ae,ab,bO,Zi q hq,e,FP l m d _ _ hl hm (show ow q<=9223372036854775807 by unfold ow;omega)];grind[aj]
theorem akk {n:Nat}(hn:128<=n)(z:bt n (.sl .str) m)(l:ar aC)(d:Int)(q:Cx)(x:K5):bt n (.sl .str) (Il l m d q x).1/\(Il l m d q x).1.length=m.length:=by grind[Il,MH,mQ]
theorem apa {q:Cx}{x:K5}(h:iG q=true):iG (Il l m d q x).2.1=true/\(Il l m d q x).2.1.1=q.1/\(Il l m d q x).2.1.2.1=q.2.1:=by have hq:=ou h;grind[Il,iG,bq,NB]
def nw (l:ar aC)(m:bp)(d:Int)(q:bk)(k:Bytes)(s:Bytes):bp×Cx×Bool:=
 bif !(eL s).2||(((eL s).1.1 !=3)||decide ((eL s).1.2.2.1<((eS q.2.2.2.1.1).1.length:Int))) then(m,q.2.1,false) else
 bif !(oQ l m d (eL s).1.2.2.2.1 (eS q.2.2.2.1.1).1 true).2 then(m,q.2.1,false) else
 Il l (oQ l m d (eL s).1.2.2.2.1 (eS q.2.2.2.1.1).1 true).1 d q.2.1 ((eL s).1.2.2.2.2.2,((eS q.2.2.2.1.1).1.length:Int),q.2.2.2.1.2.1,q.2.2.2.1.2.2,HR k (EO (oL q.2.2.2.1.1)))
theorem akI (l:ar aC)(m:bp)(d:Int)(q:bk)(k s:Bytes)(hl:l.length<=10^9)(hm:m.length<=10^9)(hs:s.length<=10^9):D1 l m d q s k=some (nw l m d q k s):=by
 unfold D1 nw;have lg:=UQ (s:=s);simp only[adX s hs,Jy,ab,iT m (show m.length<=1073741824 by omega)];generalize eL s=x at lg⊢;cases hx:x.2;rfl;have hd:=lg hx;simp only[uD,ah,bq]at hd;cases x.1.1 !=3;case true=>rfl
 cases decide (x.1.2.2.1<((eS q.2.2.2.1.1).1.length:Int));all_goals grind[ab,FP,Wo,QW,anP,mQ]
theorem ajB (l:ar aC)(m:bp)(d:Int)(q:bk)(k s:Bytes)(hl:l.length<=10^9)(hm:m.length<=10^9)(hs:s.length<=10^9)(hh:dL q.2.2.2.1.1=true):∃b,Bc l m d q k s=some (b,nw l m d q k s)/\(b=false->nw l m d q k s=(m,q.2.1,false)):=by
 unfold Bc nw;have lg:=UQ (s:=s);simp only[acG s hs,Je,ab,Jc hh];generalize eL s=x at lg⊢;cases hx:x.2;exact⟨false,rfl,λ_=>rfl⟩;have hd:=lg hx;simp only[uD,ah,bq]at hd;cases x.1.1 !=3;case true=>simp_all
 cases decide (x.1.2.2.1<((eS q.2.2.2.1.1).1.length:Int));case true=>simp_all
 simp only[ai,ae,ab,bO,J2 l m d _ _ hl hm (show x.1.2.2.2.1<=9223372036854775807 by omega)];cases (oQ l m d x.1.2.2.2.1 (eS q.2.2.2.1.1).1 true).2;exact⟨false,rfl,λ_=>rfl⟩;simp only[ai,ae,Vz,ab,Qg,amG l _ d _ _ hl (show(oQ l m d x.1.2.2.2.1 (eS q.2.2.2.1.1).1 true).1.length<=10^9 by rw[mQ];exact hm)];grind
theorem akQ {n:Nat}(hn:128<=n){q:bk}{k:Bytes}(z:bt n (.sl .str) m)(hq:iG q.2.1=true): bt n (.sl .str) (nw l m d q k s).1/\(nw l m d q k s).1.length=m.length/\iG (nw l m d q k s).2.1=true/\(nw l m d q k s).2.1.1=q.2.1.1/\(nw l m d q k s).2.1.2.1=q.2.1.2.1:=by
 unfold nw;cases !(eL s).2||(((eL s).1.1 !=3)||decide ((eL s).1.2.2.1<((eS q.2.2.2.1.1).1.length:Int)));case true=>grind
 cases (oQ l m d (eL s).1.2.2.2.1 (eS q.2.2.2.1.1).1 true).2;all_goals grind[MH,mQ,akk,apa]
def jY (l:ar aC)(m:bp)(d:Int)(q:bk)(k:Bytes):bp×bk:=
 bif !QK q||(!q.2.2.2.2.1||((k.length:Int) !=16)) then(m,q) else
 bif (cc l m d q.1).2.2&&(nw l m d q k (cc l m d q.1).1).2.2 then
  ((nw l m d q k (cc l m d q.1).1).1,(cc l m d q.1).2.1,(nw l m d q k (cc l m d q.1).1).2.1,q.2.2.1,akT,false,q.2.2.2.2.2)
 else(m,(cc l m d q.1).2.1,q.2.1,q.2.2.1,akT,false,ak (q.2.2.2.2.2+q.2.2.2.1.2.2))
theorem aeq {r:kl}(h:(cc l m d r).2.2=false):(cc l m d r).2.1=r:=by grind[cc]
theorem Ev {q:bk}(h:QK q=true):iG q.2.1=true/\(q.2.2.2.2.1=true->dL q.2.2.2.1.1=true):=by grind[QK]
theorem Ss (l:ar aC)(m:bp)(d:Int)(q:bk)(k:Bytes)(hl:l.length<=10^9)(hm:m.length<=10^9):qN l m d q k=some (jY l m d q k):=by
 have ht:=D6 l m d q.1;unfold qN jY;simp only[aba,ab,iT m (show m.length<=1073741824 by omega),Q3 l m d q.1 hl hm,akI l m d q k _ hl hm (show(cc l m d q.1).1.length<=10^9 by omega)];cases QK q;rfl;cases q.2.2.2.2.1;rfl;cases (k.length:Int) !=16;case true=>rfl
 simp only[ai,ae,ab,bO];cases (cc l m d q.1).2.2;rfl;cases (nw l m d q k (cc l m d q.1).1).2.2<;>rfl
theorem RO (l:ar aC)(m:bp)(d:Int)(q:bk)(k:Bytes)(hl:l.length<=10^9)(hm:m.length<=10^9):pY l m d q k=some (jY l m d q k):=by
 have ht:=D6 l m d q.1;have Nn:=aeq (l:=l) (m:=m) (d:=d) (r:=q.1);unfold pY jY;simp only[aas,ab,gx m (show m.length<=1073741824 by omega),Qp l m d q.1 hl hm];cases hr:QK q;rfl;cases hh:q.2.2.2.2.1;rfl;cases (k.length:Int) !=16;case true=>rfl
 obtain⟨b,hb,LI⟩:=ajB l m d q k (cc l m d q.1).1 hl hm (by omega) ((Ev hr).2 hh);simp only[ai,ae,ab,bO,hb];generalize nw l m d q k (cc l m d q.1).1=s at hb LI⊢;cases hk:(cc l m d q.1).2.2 with|false=>rw[Nn hk];rfl|true=>?_
 cases b with|true=>cases hs:s.2.2<;>rfl|false=>rw[LI rfl];rfl
theorem Ni {n:Nat}(hn:128<=n){q:bk}{k:Bytes}(z:bt n (.sl .str) m)(zq:bt n dR q): bt n (.sl .str) (jY l m d q k).1/\(jY l m d q k).1.length=m.length/\bt n dR (jY l m d q k).2/\(QK q=true->iG (jY l m d q k).2.2.1=true/\(jY l m d q k).2.2.1.2.1=q.2.1.2.1):=by
 unfold jY;cases hc: !QK q||(!q.2.2.2.2.1||((k.length:Int) !=16));case true=>grind[Ev]
 simp only[dy,ef]at hc;have hq:=(Ev hc.1).1;have hs:=akQ hn (l:=l) (d:=d) (k:=k) (s:=(cc l m d q.1).1) z hq;have e0:bt n dR ((cc l m d q.1).2.1,(nw l m d q k (cc l m d q.1).1).2.1,q.2.2.1,akT,false,q.2.2.2.2.2):=⟨⟨bF,bF,bF,bF⟩,⟨bF,bF,bF⟩,⟨bF,bF,bF⟩,⟨⟨bF,bF,bF,bF,bF,bF,bF,bF,bF,bF,bF,bF,bF,bF,bF,eh _⟩,bF,bF⟩,bF,bF⟩
 cases (cc l m d q.1).2.2&&(nw l m d q k (cc l m d q.1).1).2.2 with|true=>grind|false=>exact⟨z,rfl,⟨⟨bF,bF,bF,bF⟩,⟨bF,bF,bF⟩,⟨bF,bF,bF⟩,⟨⟨bF,bF,bF,bF,bF,bF,bF,bF,bF,bF,bF,bF,bF,bF,bF,eh _⟩,bF,bF⟩,bF,bF⟩,λ_=>⟨hq,rfl⟩⟩
def evS (k:Nat)(h:Host):Host:=
 match h.2.2.2.2.2.1[k]? with
 |some v=>(h.1,h.2.1,h.2.2.1,h.2.2.2.1,h.2.2.2.2.1,h.2.2.2.2.2.1.set k (evV v),h.2.2.2.2.2.2)
 |none=>h
def evH (k:Nat):Nat->Host->Host
 |0,h=>h
 |i+1,h=>evS k (evH k i h)
theorem alN (k:Nat)(h:Host):mE (k+1) h (evS k h):=by unfold evS;cases h.2.2.2.2.2.1[k]? with|none=>exact mE.refl _ _|some v=>exact⟨rfl,rfl,rfl,rfl,λ_ _=>rfl,rfl,aL ..,λj hj=>aZ (by omega),rfl,rfl,rfl⟩
theorem PQ (k:Nat)(h:Host):∀i,mE (k+1) h (evH k i h)
 |0=>mE.refl _ _
 |i+1=>(PQ k h i).trans (alN k _)
theorem aoH {n:Nat}(k:Nat)(z:bt n cS h):bt n cS (evS k h):=by unfold evS;cases h.2.2.2.2.2.1[k]? with|none=>exact z|some v=>exact⟨z.1,z.2.1,z.2.2.1,z.2.2.2.1,z.2.2.2.2.1,Uu z.2.2.2.2.2.1,z.2.2.2.2.2.2⟩
theorem ahH {n:Nat}(k:Nat)(z:bt n cS h):∀i,bt n cS (evH k i h)
 |0=>z
 |i+1=>aoH k (ahH k z i)
theorem afF (h:Host)(k:Nat)(b:Int)(h1:k<h.2.2.2.1.length)(h2:k<h.2.2.2.2.2.1.length)(hq:iG h.2.2.2.1[k].2.1=true)(hb:0<=b/\b<=31):mL h (k:Int) b=some ((),evH k ((h.2.2.2.1[k].2.1.2.2-b)%(2*h.2.2.2.1[k].2.1.2.1)).toNat h):=by
 have Ae:=da;have q:=ou hq;unfold mL;rw[aN h1,ab];generalize h.2.2.2.1[k]=x at q⊢;rw[aj (n:=x.2.1.2.2-b) (by omega) (by omega),aj (n:=2*x.2.1.2.1) (by omega) (by omega),R4 _ _,ab];have hm:0<=(x.2.1.2.2-b)%(2*x.2.1.2.1)/\(x.2.1.2.2-b)%(2*x.2.1.2.1)<32:=by have g1:=Int.emod_nonneg (x.2.1.2.2-b) (show 2*x.2.1.2.1≠0 by omega);have g2:=gG (x.2.1.2.2-b) (show 0<2*x.2.1.2.1 by omega);omega
 generalize (x.2.1.2.2-b)%(2*x.2.1.2.1)=c at hm⊢;obtain⟨c,rfl⟩:=aD hm.1;rw[aw];have e0:((c:Int),h)=(((c:Int)-((0:Nat):Int)),evH k 0 h):=by simp[evH]
 rw[e0];refine bz (λi=>((c:Int)-(i:Int),evH k i h)) c (by omega) (λi nx hi=>?_) (λnx=>?_);have kk:=PQ k h i;have i1:k<(evH k i h).2.2.2.2.2.1.length:=by rw[kk.vec];exact h2
 rw[show evH k (i+1) h=evS k (evH k i h) from rfl];generalize evH k i h=s at i1⊢;simp only[tM,evS];rw[gL,af,al i1];simp only[aN i1,ab,ajg,aw];rw[aj (by omega) (by omega),show(c:Int)-(i:Int)-1=(c:Int)-((i+1:Nat):Int) by omega];simp only[tM];rw[fG,ae]
theorem agI (h:Host)(k:Nat)(b:Int)(h1:k<h.2.2.2.1.length)(h2:k<h.2.2.2.2.2.1.length)(hq:iG h.2.2.2.1[k].2.1=true)(hb:0<=b/\b<=31):mU h (k:Int) b=some ((),evH k ((h.2.2.2.1[k].2.1.2.2-b)%(2*h.2.2.2.1[k].2.1.2.1)).toNat h):=by
 have Ae:=da;have q:=ou hq;unfold mU;rw[aN h1,ab,ab];generalize h.2.2.2.1[k]=x at q⊢;have em:ak (BitVec.toNat (gv (x.2.1.2.2-b)&&&gv (2*x.2.1.2.1-1)))=(x.2.1.2.2-b)%(2*x.2.1.2.1):=by
  have key:∀j:Nat,j<63->2*x.2.1.2.1=2^j->ak (BitVec.toNat (gv (x.2.1.2.2-b)&&&gv (2*x.2.1.2.1-1)))=(x.2.1.2.2-b)%(2*x.2.1.2.1):=by intro j hj e;have:=I1 (x.2.1.2.2-b) j hj;rw[<-e]at this;rw[this];have g1:=Int.emod_nonneg (x.2.1.2.2-b) (show 2*x.2.1.2.1≠0 by omega);have g2:=gG (x.2.1.2.2-b) (show 0<2*x.2.1.2.1 by omega);exact aj (by omega) (by omega)
  rcases q.2.2.1 with e|e|e|e;exact key 2 (by omega) (by rw[e];rfl);exact key 3 (by omega) (by rw[e];rfl);exact key 4 (by omega) (by rw[e];rfl);exact key 5 (by omega) (by rw[e];rfl)
 rw[aj (n:=x.2.1.2.2-b) (by omega) (by omega),aj (n:=2*x.2.1.2.1) (by omega) (by omega),aj (n:=2*x.2.1.2.1-1) (by omega) (by omega),em];have hm:0<=(x.2.1.2.2-b)%(2*x.2.1.2.1)/\(x.2.1.2.2-b)%(2*x.2.1.2.1)<32:=by have g1:=Int.emod_nonneg (x.2.1.2.2-b) (show 2*x.2.1.2.1≠0 by omega);have g2:=gG (x.2.1.2.2-b) (show 0<2*x.2.1.2.1 by omega);omega
 generalize (x.2.1.2.2-b)%(2*x.2.1.2.1)=c at hm⊢;obtain⟨c,rfl⟩:=aD hm.1;rw[aw];refine bz (λi=>((i:Int),evH k i h)) c (by omega) (λi nx hi=>?_) (λnx=>?_);have kk:=PQ k h i;have i1:k<(evH k i h).2.2.2.2.2.1.length:=by rw[kk.vec];exact h2
 rw[show evH k (i+1) h=evS k (evH k i h) from rfl];generalize evH k i h=s at i1⊢;simp only[um,evS];rw[gL,af,al i1];simp only[aN i1,ab,akr,aw];rw[aj (by omega) (by omega)];rfl;simp only[um];rw[fG,ae]
def Oq (h:Host)(k:Nat)(f:bp×bk):Host:=(f.1,h.2.1,h.2.2.1,h.2.2.2.1.set k f.2,h.2.2.2.2)
def SB (h:Host)(k:Nat)(b:Int)(f:bp×bk):Host:=evH k ((f.2.2.1.2.2-b)%(2*f.2.2.1.2.1)).toNat (Oq h k f)
def lA (k:Nat)(h:Host):Host:=
 match h.2.2.2.1[k]? with
 |some x=>SB h k x.2.1.2.2 (jY h.2.1 h.1 0 x h.2.2.2.2.2.2.2.2.1.2.2.1)
 |none=>h
theorem M3 {b:Int}{f:bp×bk}(hf:f.1.length=h.1.length):mE (k+1) h (SB h k b f):=by
 have a:mE (k+1) h (Oq h k f):=⟨hf,rfl,rfl,aL ..,λj hj=>aZ (by omega),rfl,rfl,λ_ _=>rfl,rfl,rfl,rfl⟩
 exact a.trans (PQ k (Oq h k f) _)
theorem WV {n:Nat}{b:Int}{f:bp×bk}(z:bt n cS h)(h1:bt n (.sl .str) f.1)(h2:bt n dR f.2):bt n cS (SB h k b f):=by
 have a:bt n cS (Oq h k f):=⟨h1,z.2.1,z.2.2.1,qy z.2.2.2.1 h2,z.2.2.2.2⟩
 exact ahH k a _
theorem Vd {q:bk}{k:Bytes}:(jY l m d q k).1.length=m.length:=by
 have hs:(nw l m d q k (cc l m d q.1).1).1.length=m.length:=by
  unfold nw;cases !(eL (cc l m d q.1).1).2||(((eL (cc l m d q.1).1).1.1 !=3)||decide ((eL (cc l m d q.1).1).1.2.2.1<((eS q.2.2.2.1.1).1.length:Int)));case true=>rfl
  cases (oQ l m d (eL (cc l m d q.1).1).1.2.2.2.1 (eS q.2.2.2.1.1).1 true).2;rfl;have h2:=mQ l m d (eL (cc l m d q.1).1).1.2.2.2.1 (eS q.2.2.2.1.1).1 true;simp only[ae,ai];unfold Il;cases !iG q.2.1|| !JN ((eL (cc l m d q.1).1).1.2.2.2.2.2,((eS q.2.2.2.1.1).1.length:Int),q.2.2.2.1.2.1,q.2.2.2.1.2.2,HR k (EO (oL q.2.2.2.1.1)));case true=>exact h2
  cases (oQ l (oQ l m d (eL (cc l m d q.1).1).1.2.2.2.1 (eS q.2.2.2.1.1).1 true).1 d (ow q.2.1) (afh ((eL (cc l m d q.1).1).1.2.2.2.2.2,((eS q.2.2.2.1.1).1.length:Int),q.2.2.2.1.2.1,q.2.2.2.1.2.2,HR k (EO (oL q.2.2.2.1.1))) (II q.2.1)) true).2 with|false=>exact h2|true=>exact(mQ ..).trans h2
 unfold jY;grind
theorem HP (k:Nat)(h:Host):mE (k+1) h (lA k h):=by grind[lA,mE.refl,M3,Vd]
theorem OX (k:Nat)(h:Host)(n:Nat)(hn:1000<=n)(z:bt n cS h):bt (n+0) cS (lA k h):=by unfold lA;cases hx:h.2.2.2.1[k]? with|none=>exact z|some x=>have hf:=Ni (show 128<=n by omega) (l:=h.2.1) (d:=0) (k:=h.2.2.2.2.2.2.2.2.1.2.2.1) z.1 (z.2.2.2.1.2 _ (bM hx));exact WV z hf.1 hf.2.2.1
def JV (h:Host):Host:=bif fy h then iV lA h.2.2.2.1.length h else h
theorem ai4 {n:Nat}(hn:1000<=n)(k:D8 n h):D8 n (JV h):=by unfold JV;cases fy h with|false=>exact k|true=>refine⟨(Hz hn OX k.z _).mono,?_⟩;simp only[af];rw[(xh HP h _).tx];exact k.t
theorem GN (hb:fy h=true):∀i (hi:i<h.2.2.2.1.length),QK h.2.2.2.1[i]=true:=by grind[fy,Y4]
theorem Tz {b:Int}{f:bp×bk}(h1:k<h.2.2.2.1.length)(h2:k<h.2.2.2.2.2.1.length)(hq:iG f.2.2.1=true)(hb:0<=b/\b<=31:=by omega): mL (f.1,h.2.1,h.2.2.1,h.2.2.2.1.set k f.2,h.2.2.2.2) (k:Int) b=some ((),SB h k b f):=by
 have h3:k<(Oq h k f).2.2.2.1.length:=by show k<(h.2.2.2.1.set k f.2).length;rw[aL];exact h1
 have e:(Oq h k f).2.2.2.1[k]=f.2:=List.getElem_set_self _;have a:=afF (Oq h k f) k b h3 h2 (by rw[e];exact hq) hb;rw[e]at a;exact a
theorem TA {b:Int}{f:bp×bk}(h1:k<h.2.2.2.1.length)(h2:k<h.2.2.2.2.2.1.length)(hq:iG f.2.2.1=true)(hb:0<=b/\b<=31:=by omega): mU (f.1,h.2.1,h.2.2.1,h.2.2.2.1.set k f.2,h.2.2.2.2) (k:Int) b=some ((),SB h k b f):=by
 have h3:k<(Oq h k f).2.2.2.1.length:=by show k<(h.2.2.2.1.set k f.2).length;rw[aL];exact h1
 have e:(Oq h k f).2.2.2.1[k]=f.2:=List.getElem_set_self _;have c:=agI (Oq h k f) k b h3 h2 (by rw[e];exact hq) hb;rw[e]at c;exact c
theorem afK (h:Host)(k:D8 900000000 h):AD h=some (JV h):=by
 have Ae:=da;unfold AD JV;rw[ko h (k.z.mono),ab,As h (k.sz),ab];cases hb:fy h;rfl;have hl:=px (by simp only[fy,ah]at hb;exact hb.2.2.2.2.1:zR h=true);have hr:=GN hb;simp only[ai,ae,af];refine bz (λi=>((i:Int),iV lA i h)) h.2.2.2.1.length (by omega) (λi nx hi=>?_) (λnx=>?_);have kk:=xh HP h i;have zz:bt 900000000 cS (iV lA i h):=(Hz (by omega) OX k.z i).mono;have i1:i<(iV lA i h).2.2.2.1.length:=by rw[kk.rx];exact hi
 have i2:i<(iV lA i h).2.2.2.2.2.1.length:=by rw[kk.vec];omega
 have e1:(iV lA i h).2.2.2.1[i]=h.2.2.2.1[i]:=by have:=kk.rxs i (ba _);rw[al i1,al hi]at this;exact cY this
 rw[show iV lA (i+1) h=lA i (iV lA i h) from rfl];generalize iV lA i h=s at zz i1 i2 e1⊢;have z1:s.1.length<=900000000:=zz.1.1;have z2:s.2.1.length<=900000000:=zz.2.1.1;have hrx:=hr i hi;rw[<-e1]at hrx;have hqd:=ou (Ev hrx).1;have hf:=Ni (show 128<=900000000 by omega) (l:=s.2.1) (d:=0) (k:=s.2.2.2.2.2.2.2.2.1.2.2.1) zz.1 (zz.2.2.2.1.2 _ (aE i1));have ev:=Tz (h:=s) (k:=i) (b:=s.2.2.2.1[i].2.1.2.2) (f:=jY s.2.1 s.1 0 s.2.2.2.1[i] s.2.2.2.2.2.2.2.2.1.2.2.1) i1 i2 (hf.2.2.2 hrx).1;simp only[tE,lA];rw[gL,af,al i1];simp only[aN i1,aN hi,ab,RO s.2.1 s.1 0 _ _ (show s.2.1.length<=10^9 by omega) (show s.1.length<=10^9 by omega),aw,<-e1,ev];rw[aj (by omega) (by omega)];rfl;simp only[tE];rw[fG,ae]
theorem agN (h:Host)(k:D8 900000000 h):BZ h=some (JV h):=by
 have Ae:=da;unfold BZ JV;rw[kz h (k.z.mono),ab];have hv:h.2.2.2.1.length<=900000000:=k.z.2.2.2.1.1;cases hb:fy h with
 |false=>
  obtain⟨g,hg⟩:∃g,fuel=g+1:=⟨fuel-1,by omega⟩
  rw[hg,aH,oC,vw h (k.sz),hb];cases decide ((0:Int)<(h.2.2.2.1.length:Int))<;>rfl
 |true=>
  have hl:=px (by simp only[fy,ah]at hb;exact hb.2.2.2.2.1:zR h=true);have hr:=GN hb;simp only[af];refine bz (λi=>((i:Int),iV lA i h)) h.2.2.2.1.length (by omega) (λi nx hi=>?_) (λnx=>?_);have kk:=xh HP h i;have zz:bt 900000000 cS (iV lA i h):=(Hz (by omega) OX k.z i).mono;have i1:i<(iV lA i h).2.2.2.1.length:=by rw[kk.rx];exact hi
  have i2:i<(iV lA i h).2.2.2.2.2.1.length:=by rw[kk.vec];omega
  have e1:(iV lA i h).2.2.2.1[i]=h.2.2.2.1[i]:=by have:=kk.rxs i (ba _);rw[al i1,al hi]at this;exact cY this
  have em:=kk.maps;have es:=kk.ste;rw[show iV lA (i+1) h=lA i (iV lA i h) from rfl];generalize iV lA i h=s at zz i1 i2 e1 em es⊢;have z1:s.1.length<=900000000:=zz.1.1;have z2:s.2.1.length<=900000000:=zz.2.1.1;have hrx:=hr i hi;rw[<-e1]at hrx;have hqd:=ou (Ev hrx).1;have hf:=Ni (show 128<=900000000 by omega) (l:=s.2.1) (d:=0) (k:=s.2.2.2.2.2.2.2.2.1.2.2.1) zz.1 (zz.2.2.2.1.2 _ (aE i1));have ev:=TA (h:=s) (k:=i) (b:=s.2.2.2.1[i].2.1.2.2) (f:=jY s.2.1 s.1 0 s.2.2.2.1[i] s.2.2.2.2.2.2.2.2.1.2.2.1) i1 i2 (hf.2.2.2 hrx).1;simp only[oC,lA,vw h (k.sz),hb];rw[gL,af,al i1];simp only[aN i1,aN hi,ab,af,<-em,<-es,<-e1,Ss s.2.1 s.1 0 _ _ (show s.2.1.length<=10^9 by omega) (show s.1.length<=10^9 by omega),aw,ev];rw[aj (by omega) (by omega)];rfl;simp only[oC];rw[fG,ae,ab,ae]
def V1 (a b:aR):Bool:=(a.1==b.1)&&((a.2.1==b.2.1)&&((a.2.2.1==b.2.2.1)&&((a.2.2.2.1==b.2.2.2.1)&&((a.2.2.2.2.2.1==b.2.2.2.2.2.1)&&((a.2.2.2.2.2.2.1==b.2.2.2.2.2.2.1)&&((a.2.2.2.2.2.2.2.1==b.2.2.2.2.2.2.2.1)&&((a.2.2.2.2.2.2.2.2.1==b.2.2.2.2.2.2.2.2.1)&&((a.2.2.2.2.2.2.2.2.2.1==b.2.2.2.2.2.2.2.2.2.1)&&((a.2.2.2.2.2.2.2.2.2.2.1==b.2.2.2.2.2.2.2.2.2.2.1)&&((a.2.2.2.2.2.2.2.2.2.2.2.2.1==b.2.2.2.2.2.2.2.2.2.2.2.2.1)&&((a.2.2.2.2.2.2.2.2.2.2.2.2.2.2.1==b.2.2.2.2.2.2.2.2.2.2.2.2.2.2.1))))))))))))
theorem anO (a b:aR):DW a b=some (V1 a b):=by simp_all[DW,V1]
theorem amF (a b:aR):Dr a b=some (V1 a b):=by simp_all[Dr,V1]
def aq1 (s:kY)(p:aR):Bool:=(p.2.2.2.2.2.2.2.2.2.2.2.1==tmod (ak (s.1.2.2.2.2.2.2.2.2.2.2.2.1+(s.1.2.2.2.2.2.2.2.2.2.2.2.2.2.2.2.length:Int))) 4294967296)&&(p.2.2.2.2.1==tmod (ak (s.1.2.2.2.2.1+s.2.2)) 65536)
def Zd (s:kY)(p:aR):Bool:=decide (1<=s.2.1)&&(du s.2.2 1 320&&(decide ((s.1.2.2.2.2.2.2.2.2.2.2.2.2.2.2.2.length:Int)=s.2.1*s.2.2)&&(du (p.2.2.2.2.2.2.2.2.2.2.2.2.2.2.2.length:Int) 1 s.2.1&&decide ((s.1.2.2.2.2.2.2.2.2.2.2.2.2.2.2.2.length:Int)+(p.2.2.2.2.2.2.2.2.2.2.2.2.2.2.2.length:Int)<=320))))
def al9 (s:kY)(p:aR):Bool:=dL s.1&&(fX p&&(V1 s.1 p&&((p.2.2.2.2.2.2.2.2.1==6)&&((s.1.2.2.2.2.2.2.2.2.2.2.2.2.2.1==16)&&Mb p.2.2.2.2.2.2.2.2.2.2.2.2.2.1))))
def Rx (s:kY)(p:aR):Bool:=al9 s p&&(Zd s p&&aq1 s p)
theorem QD (h:fX p=true)(h6:(p.2.2.2.2.2.2.2.2.1==6)=true):du p.2.2.2.2.2.2.2.2.2.2.2.2.2.1 0 31=true:=by grind[fX,dL,Sm,Vo]
theorem Pf (h:fX p=true):p.2.2.2.2.2.2.2.2.2.2.2.2.2.2.2.length<=128:=by grind[fX]
theorem ail (s:kY)(p:aR):BU s p=some (Rx s p):=by
 unfold BU Rx al9;rw[qG,ab,CX,ab,anO,ab];cases hs:dL s.1;rfl;cases hp:fX p;rfl;cases V1 s.1 p;rfl;cases h6:p.2.2.2.2.2.2.2.2.1==6 with|false=>simp only[bne,h6];rfl|true=>?_
 cases h16:s.1.2.2.2.2.2.2.2.2.2.2.2.2.2.1==16 with|false=>simp only[bne,h6,h16];rfl|true=>?_
 have hf:=QD hp h6;have hsl:=C5 hs;have HF:=Pf hp;simp only[bne,h6,h16,ai,ae,ab,U9 _ hf,bj];cases Mb p.2.2.2.2.2.2.2.2.2.2.2.2.2.1;rfl;simp only[ai,ae,cm,ab,bj,ch];have xx:(bif !du s.2.1 1 320 then some true else bif !du s.2.2 1 320 then some true else bif !((s.1.2.2.2.2.2.2.2.2.2.2.2.2.2.2.2.length:Int)==ak (s.2.1*s.2.2)) then some true else bif !du (p.2.2.2.2.2.2.2.2.2.2.2.2.2.2.2.length:Int) 1 s.2.1 then some true else some (decide (ak ((s.1.2.2.2.2.2.2.2.2.2.2.2.2.2.2.2.length:Int)+(p.2.2.2.2.2.2.2.2.2.2.2.2.2.2.2.length:Int))>320)))=some (!Zd s p):=by
  unfold Zd;generalize s.1.2.2.2.2.2.2.2.2.2.2.2.2.2.2.2.length=n at hsl⊢;generalize p.2.2.2.2.2.2.2.2.2.2.2.2.2.2.2.length=m at HF⊢;rw[aj (n:=(n:Int)+(m:Int)) (by omega) (by omega)];cases h2:du s.2.2 1 320 with
  |false=>cases du s.2.1 1 320<;>cases decide (1<=s.2.1)<;>rfl
  |true=>
   have h2':=bq.1 h2;by_cases h1:1<=s.2.1;rw[ax h1];by_cases h3:s.2.1<=320;have hb:s.2.1*s.2.2<=320*320:=Int.mul_le_mul h3 h2'.2 (by omega) (by omega);have Yi:0<=s.2.1*s.2.2:=Int.mul_nonneg (by omega) (by omega);rw[bq.2 ⟨h1,h3⟩,aj (n:=s.2.1*s.2.2) (by omega) (by omega)];by_cases h4:(n:Int)=s.2.1*s.2.2;rw[show((n:Int)==s.2.1*s.2.2)=true from by rw[bn];exact h4,ax h4];cases du (m:Int) 1 s.2.1 with|false=>rfl|true=>by_cases h5:(n:Int)+(m:Int)<=320;rw[ax h5,aq (show¬(n:Int)+(m:Int)>320 by omega)];rfl;rw[aq h5,ax (show(n:Int)+(m:Int)>320 by omega)];rfl
   rw[show((n:Int)==s.2.1*s.2.2)=false from by rw[cz];exact h4,aq h4];rfl;have hb:321*1<=s.2.1*s.2.2:=Int.mul_le_mul (by omega) (by omega) (by omega) (by omega);rw[show du s.2.1 1 320=false from by rw[Bool.eq_false_iff];intro hc;have:=bq.1 hc;omega,aq (show¬(n:Int)=s.2.1*s.2.2 by omega)];rfl;rw[aq h1,show du s.2.1 1 320=false from by rw[Bool.eq_false_iff];intro hc;have:=bq.1 hc;omega];rfl
 simp only[bne,ch]at xx⊢;rw[cY xx];cases Zd s p;rfl;rw[ny,ny];simp only[ai,ae,ch,ab,cF,bj];rfl
theorem ahR (s:kY)(p:aR):Aw s p=some (Rx s p):=by
 unfold Aw Rx al9;rw[nC,ab,CK,ab,amF,ab];cases hs:dL s.1;rfl;cases hp:fX p;rfl;cases V1 s.1 p;rfl;cases h6:p.2.2.2.2.2.2.2.2.1==6 with|false=>simp only[bne,h6];rfl|true=>?_
 cases h16:s.1.2.2.2.2.2.2.2.2.2.2.2.2.2.1==16 with|false=>simp only[bne,h6,h16];rfl|true=>?_
 have hf:=QD hp h6;have hsl:=C5 hs;have HF:=Pf hp;simp only[bne,h6,h16,ai,ae,ab,U8 _ hf,bj];cases Mb p.2.2.2.2.2.2.2.2.2.2.2.2.2.1;rfl;simp only[ai,ae,cr,ab,bj];rw[aK (show¬(4294967296:Nat)=0 by omega),aK (show¬(65536:Nat)=0 by omega)];simp only[ch,cF];rw[show((p.2.2.2.2.2.2.2.2.2.2.2.1==tmod (ak (s.1.2.2.2.2.2.2.2.2.2.2.2.1+(s.1.2.2.2.2.2.2.2.2.2.2.2.2.2.2.2.length:Int))) 4294967296)&&(p.2.2.2.2.1==tmod (ak (s.1.2.2.2.2.1+s.2.2)) 65536))=aq1 s p from rfl];unfold Zd;generalize aq1 s p=q;generalize s.1.2.2.2.2.2.2.2.2.2.2.2.2.2.2.2.length=n at hsl⊢;generalize p.2.2.2.2.2.2.2.2.2.2.2.2.2.2.2.length=m at HF⊢;rw[aj (n:=(n:Int)+(m:Int)) (by omega) (by omega)];by_cases h1:s.2.1<1;rw[ax h1,aq (show¬1<=s.2.1 by omega)];rfl;rw[aq h1,ax (show 1<=s.2.1 by omega)];cases h2:du s.2.2 1 320;rfl;have h2':=bq.1 h2;simp only[ai,ae,ab,bj];rw[ny,ny];have e1:tmod (n:Int) s.2.2=(n:Int)%s.2.2:=fu (by omega);have e2:Int.tdiv (n:Int) s.2.2=(n:Int)/s.2.2:=Int.tdiv_eq_ediv_of_nonneg (by omega);have hdm:=Int.emod_add_mul_ediv (n:Int) s.2.2;have hq0:0<=(n:Int)/s.2.2:=Int.ediv_nonneg (by omega) (by omega);have hq1:(n:Int)/s.2.2<=(n:Int):=Int.ediv_le_self _ (by omega);rw[e1,e2,aj (n:=(n:Int)/s.2.2) (by omega) (by omega)];by_cases h3:(n:Int)=s.2.1*s.2.2;have h4:(n:Int)%s.2.2=0:=by rw[h3];exact Int.mul_emod_left ..
 have h5:(n:Int)/s.2.2=s.2.1:=by rw[h3];exact Int.mul_ediv_cancel _ (by omega)
 rw[h4,h5,ax h3];simp only[gC,ai,ae,ab,bj];cases du (m:Int) 1 s.2.1;rfl;cases decide ((n:Int)+(m:Int)<=320)<;>rfl;rw[aq h3];cases h4:(n:Int)%s.2.2==0 with
 |false=>rfl
 |true=>
  have h4':(n:Int)%s.2.2=0:=by simpa using h4
  have h5:((n:Int)/s.2.2==s.2.1)=false:=by rw[cz];intro h5;rw[h4',h5]at hdm;exact h3 (by rw[Int.mul_comm];omega)
  simp only[ai,ae,h5,bB,ab,af];rfl
def YG (s:kY)(p:aR):kY:=bif Rx s p then((s.1.1,s.1.2.1,s.1.2.2.1,s.1.2.2.2.1,s.1.2.2.2.2.1,s.1.2.2.2.2.2.1,s.1.2.2.2.2.2.2.1,s.1.2.2.2.2.2.2.2.1,s.1.2.2.2.2.2.2.2.2.1,s.1.2.2.2.2.2.2.2.2.2.1,s.1.2.2.2.2.2.2.2.2.2.2.1,s.1.2.2.2.2.2.2.2.2.2.2.2.1,s.1.2.2.2.2.2.2.2.2.2.2.2.2.1,p.2.2.2.2.2.2.2.2.2.2.2.2.2.1,s.1.2.2.2.2.2.2.2.2.2.2.2.2.2.2.1,s.1.2.2.2.2.2.2.2.2.2.2.2.2.2.2.2++p.2.2.2.2.2.2.2.2.2.2.2.2.2.2.2),s.2.1,ak (s.2.2+1)) else s
theorem ZO {s:kY}(h:Rx s p=true):s.1.2.2.2.2.2.2.2.2.2.2.2.2.2.2.2.length+p.2.2.2.2.2.2.2.2.2.2.2.2.2.2.2.length<=320:=by grind[Rx,Zd]
theorem anK (s:kY)(p:aR):NJ s p=some (YG s p):=by unfold NJ YG;rw[ail,ab];cases h:Rx s p;rfl;have:=ZO h;grind[aQ]
theorem amC (s:kY)(p:aR):Ns s p=some (YG s p):=by unfold Ns YG;rw[ahR,ab];cases h:Rx s p;rfl;have:=ZO h;grind[aQ]
def singleR (p:aR):kY:=(p,(p.2.2.2.2.2.2.2.2.2.2.2.2.2.2.2.length:Int),1)
theorem afU (p:aR):Mv p=some (singleR p):=rfl
theorem agW (p:aR):MS p=some (singleR p):=rfl
def Yj (q:bk)(s:kY):bk:=(q.1,q.2.1,q.2.2.1,s,true,q.2.2.2.2.2)
def lX (l:ar aC)(m:bp)(d:Int)(q:bk)(k:Bytes)(p:aR)(c:Bool):bp×bk:=
 bif !QK q||(!fX p||((k.length:Int) !=16)) then(m,q) else
 bif c&&(q.2.2.2.2.1&&Rx q.2.2.2.1 p) then(m,q.1,q.2.1,q.2.2.1,YG q.2.2.2.1 p,q.2.2.2.2) else
 bif c then((jY l m d q k).1,Yj (jY l m d q k).2 (singleR p)) else jY l (jY l m d q k).1 d (Yj (jY l m d q k).2 (singleR p)) k
theorem afG (l:ar aC)(m:bp)(d:Int)(q:bk)(k:Bytes)(p:aR)(c:Bool)(hl:l.length<=10^9)(hm:m.length<=10^9):rC l m d q k p c=some (lX l m d q k p c):=by
 unfold rC lX Yj;simp only[aas,CK,ab,gx m (show m.length<=1073741824 by omega),ahR,amC,RO l m d q k hl hm,afU,RO l (jY l m d q k).1 d _ k hl (show(jY l m d q k).1.length<=10^9 by rw[Vd];exact hm)];cases QK q;rfl;cases fX p;rfl;cases (k.length:Int) !=16;case true=>rfl
 cases c;rfl;cases q.2.2.2.2.1;rfl;cases Rx q.2.2.2.1 p<;>rfl
theorem agJ (l:ar aC)(m:bp)(d:Int)(q:bk)(k:Bytes)(p:aR)(c:Bool)(hl:l.length<=10^9)(hm:m.length<=10^9):rX l m d q k p c=some (lX l m d q k p c):=by
 unfold rX lX Yj;simp only[aba,CX,ab,iT m (show m.length<=1073741824 by omega),ail,anK,Ss l m d q k hl hm,agW,Ss l (jY l m d q k).1 d _ k hl (show(jY l m d q k).1.length<=10^9 by rw[Vd];exact hm)];cases QK q;rfl;cases fX p;rfl;cases (k.length:Int) !=16;case true=>rfl
 cases c;rfl;cases q.2.2.2.2.1;rfl;cases Rx q.2.2.2.1 p<;>rfl
theorem ai9 {n:Nat}{q:bk}{s:kY}(h:s.1.2.2.2.2.2.2.2.2.2.2.2.2.2.2.2.length<=n):bt n dR (Yj q s):=⟨⟨bF,bF,bF,bF⟩,⟨bF,bF,bF⟩,⟨bF,bF,bF⟩,⟨⟨bF,bF,bF,bF,bF,bF,bF,bF,bF,bF,bF,bF,bF,bF,bF,h⟩,bF,bF⟩,bF,bF⟩
theorem OM {n:Nat}(hn:1000<=n){q:bk}{k:Bytes}{c:Bool}(z:bt n (.sl .str) m)(zq:bt n dR q)(hq:iG q.2.1=true): bt n (.sl .str) (lX l m d q k p c).1/\(lX l m d q k p c).1.length=m.length/\bt n dR (lX l m d q k p c).2/\iG (lX l m d q k p c).2.2.1=true:=by
 unfold lX;cases hc: !QK q||(!fX p||((k.length:Int) !=16));case true=>grind
 simp only[dy,ef]at hc;have hp:=Pf hc.2.1;cases hj:c&&(q.2.2.2.2.1&&Rx q.2.2.2.1 p)with|true=>simp only[ah]at hj;have:=ZO hj.2.2;refine⟨z,rfl,⟨⟨bF,bF,bF,bF⟩,⟨bF,bF,bF⟩,⟨bF,bF,bF⟩,⟨?_,bF,bF⟩,bF,bF⟩,hq⟩;refine⟨bF,bF,bF,bF,bF,bF,bF,bF,bF,bF,bF,bF,bF,bF,bF,?_⟩;unfold YG;rw[hj.2.2];show List.length (q.2.2.2.1.1.2.2.2.2.2.2.2.2.2.2.2.2.2.2.2++p.2.2.2.2.2.2.2.2.2.2.2.2.2.2.2)<=n;rw[ay];omega|false=>grind[Ni,Yj,jY,singleR,ai9]
theorem adH {r:gF}(h:Jt r=true):0<=r.2.2.2.2.2.2.2.2:=by
 by_cases h0:0<=r.2.2.2.2.2.2.2.2;exact h0;exfalso;have e:∀b:Int,du r.2.2.2.2.2.2.2.2 0 b=false:=λb=>by rw[Bool.eq_false_iff];intro hc;have:=bq.1 hc;omega
 have e1:(r.2.2.2.2.2.2.2.2==0)=false:=by rw[cz];omega
 revert h;unfold Jt;have z:∀c:Bool,(bif c then false else false)=false:=by intro c;cases c<;>rfl
 simp only[oG,cm,ab,ch,e,e1,fU,z,ae];intro h;cases h
theorem Zp {s:fI}{q:Int}:zA s q p= -1\/∃n:Nat,zA s q p=(n:Int)/\(n:Int)<q:=by
 unfold zA;cases hb: !jd s q|| !dL p;case true=>exact .inl rfl
 simp only[dy,ef]at hb;have hs:=hb.1;simp only[jd,ah]at hs;simp only[ae];cases hd:decide (L9 s.1 p>=0)with
 |true=>obtain⟨n,hn,hl⟩:=U7 s.1 p (iY hd);simp only[af,hn,aw,dx hl];cases s.1[n].2.2.2.2.2.2.2.1==1 with|true=>exact .inl rfl|false=>have h1:=aP.1 hs.1.2 _ (aE hl);have h2:=hs.1.1.1.1;simp only[Ht,ah]at h2;have h3:=adH (aP.1 h2.1 _ (aE hl));simp only[aW,cM]at h1;exact .inr ⟨s.1[n].2.2.2.2.2.2.2.2.toNat,by grind,by omega⟩
 |false=>
  simp only[ae];cases hd2:decide (findF s.2.1 (oL p)>=0)with
  |true=>obtain⟨n,hn,hl⟩:=U6 s.2.1 (oL p) (iY hd2);simp only[af,hn,aw,dx hl];have h1:=aP.1 hs.2 _ (aE hl);have h2:=hs.1.1.1.2;simp only[Cl,ah,bn]at h2;have h3:=aP.1 h2.2 n (bU.2 (by omega));unfold qF Ze at h3;rw[CV hl]at h3;simp only[ah,bq]at h3;simp only[aW,cM]at h1;exact .inr ⟨s.2.1[n].2.2.toNat,by omega,by omega⟩
  |false=>
   simp only[ae];unfold NL;cases hc: !F7 s.2.2 q||decide (Iy s.2.2 (oL p)<0);case true=>exact .inl rfl
   simp only[dy,ef,cM]at hc;obtain⟨n,hn,hl⟩:=RA s.2.2 (oL p) hc.2;have h1:=hc.1;simp only[F7,ah]at h1;have h2:=bq.1 (aP.1 h1.2 _ (aE hl));simp only[ae,hn,aw,dx hl];exact .inr ⟨s.2.2.2[n].toNat,by omega,by omega⟩
def JP (h:Host)(a b c d:Int):Host:=(h.1,h.2.1,h.2.2.1,h.2.2.2.1,h.2.2.2.2.1,h.2.2.2.2.2.1,h.2.2.2.2.2.2.1,h.2.2.2.2.2.2.2.1,h.2.2.2.2.2.2.2.2.1,h.2.2.2.2.2.2.2.2.2.1,h.2.2.2.2.2.2.2.2.2.2.1,h.2.2.2.2.2.2.2.2.2.2.2.1,h.2.2.2.2.2.2.2.2.2.2.2.2.1,h.2.2.2.2.2.2.2.2.2.2.2.2.2.1,ak (h.2.2.2.2.2.2.2.2.2.2.2.2.2.2.1+1),a,b,c,d)
def qD (h:Host)(x:Bytes):Host:=
 bif !fy h then h else
 bif (jI x).2 !=0 then JP h (ak (h.2.2.2.2.2.2.2.2.2.2.2.2.2.2.2.1+1)) h.2.2.2.2.2.2.2.2.2.2.2.2.2.2.2.2.1 h.2.2.2.2.2.2.2.2.2.2.2.2.2.2.2.2.2.1 h.2.2.2.2.2.2.2.2.2.2.2.2.2.2.2.2.2.2 else
 bif !Ah h.2.2.2.2.2.2.2.1 (jI x).1 then JP h h.2.2.2.2.2.2.2.2.2.2.2.2.2.2.2.1 (ak (h.2.2.2.2.2.2.2.2.2.2.2.2.2.2.2.2.1+1)) h.2.2.2.2.2.2.2.2.2.2.2.2.2.2.2.2.2.1 h.2.2.2.2.2.2.2.2.2.2.2.2.2.2.2.2.2.2 else
 bif zA h.2.2.2.2.2.2.2.2.1 (h.2.2.2.1.length:Int) (jI x).1== -1 then JP h h.2.2.2.2.2.2.2.2.2.2.2.2.2.2.2.1 h.2.2.2.2.2.2.2.2.2.2.2.2.2.2.2.2.1 (ak (h.2.2.2.2.2.2.2.2.2.2.2.2.2.2.2.2.2.1+1)) h.2.2.2.2.2.2.2.2.2.2.2.2.2.2.2.2.2.2 else
 match h.2.2.2.1[(zA h.2.2.2.2.2.2.2.2.1 (h.2.2.2.1.length:Int) (jI x).1).toNat]? with
 |some q=>SB (JP h h.2.2.2.2.2.2.2.2.2.2.2.2.2.2.2.1 h.2.2.2.2.2.2.2.2.2.2.2.2.2.2.2.2.1 h.2.2.2.2.2.2.2.2.2.2.2.2.2.2.2.2.2.1 (ak (h.2.2.2.2.2.2.2.2.2.2.2.2.2.2.2.2.2.2+1))) (zA h.2.2.2.2.2.2.2.2.1 (h.2.2.2.1.length:Int) (jI x).1).toNat q.2.1.2.2 (lX h.2.1 h.1 0 q h.2.2.2.2.2.2.2.2.1.2.2.1 (jI x).1 h.2.2.2.2.2.2.2.2.2.2.1)
 |none=>h
theorem Ql (h:Host)(x:Bytes)(k:D8 900000000 h)(hx:x.length<=10^9):qc h x=some (qD h x):=by
 have z:=k.z;have z1:h.1.length<=900000000:=z.1.1;have z2:h.2.1.length<=900000000:=z.2.1.1;have zf:h.2.2.2.2.2.2.2.1.2.2.length<=900000000:=z.2.2.2.2.2.2.2.1.2.2.1;have s1:h.2.2.2.2.2.2.2.2.1.1.length<=900000000:=z.2.2.2.2.2.2.2.2.1.1.1;have s2:h.2.2.2.2.2.2.2.2.1.2.1.length<=900000000:=z.2.2.2.2.2.2.2.2.1.2.1.1;have s3:h.2.2.2.2.2.2.2.2.1.2.2.2.length<=900000000:=z.2.2.2.2.2.2.2.2.1.2.2.2.1;unfold qc qD;rw[ko h (z.mono),ab,As h (k.sz),ab];cases hb:fy h;rfl;have hl:=px (by grind[fy]:zR h=true);have hr:=GN hb;simp only[ai,ae,RQ x hx,ab,acz h.2.2.2.2.2.2.2.1 _ (show h.2.2.2.2.2.2.2.1.2.2.length<=10^9 by omega),ajz h.2.2.2.2.2.2.2.2.1 _ _ (show h.2.2.2.2.2.2.2.2.1.1.length<=10^9 by omega) (show h.2.2.2.2.2.2.2.2.1.2.1.length<=10^9 by omega) (show h.2.2.2.2.2.2.2.2.1.2.2.2.length<=10^9 by omega)];generalize jI x=f;cases f.2 !=0;case true=>rfl
 cases Ah h.2.2.2.2.2.2.2.1 f.1;rfl;simp only[ai,ae];have nm:=Zp (s:=h.2.2.2.2.2.2.2.2.1) (q:=(h.2.2.2.1.length:Int)) (p:=f.1);generalize zA h.2.2.2.2.2.2.2.2.1 (h.2.2.2.1.length:Int) f.1=r at nm⊢;rcases nm with rfl|⟨n,rfl,hn⟩;rfl;have i1:n<h.2.2.2.1.length:=by omega
 have i2:n<h.2.2.2.2.2.1.length:=by omega
 have hq:=(Ev (hr n i1)).1;have hqi:=ou hq;have ha:=OM (show 1000<=900000000 by omega) (l:=h.2.1) (d:=0) (k:=h.2.2.2.2.2.2.2.2.1.2.2.1) (p:=f.1) (c:=h.2.2.2.2.2.2.2.2.2.2.1) z.1 (z.2.2.2.1.2 _ (aE i1)) hq;have ev:=Tz (h:=JP h h.2.2.2.2.2.2.2.2.2.2.2.2.2.2.2.1 h.2.2.2.2.2.2.2.2.2.2.2.2.2.2.2.2.1 h.2.2.2.2.2.2.2.2.2.2.2.2.2.2.2.2.2.1 (ak (h.2.2.2.2.2.2.2.2.2.2.2.2.2.2.2.2.2.2+1))) (k:=n) (b:=h.2.2.2.1[n].2.1.2.2) (f:=lX h.2.1 h.1 0 h.2.2.2.1[n] h.2.2.2.2.2.2.2.2.1.2.2.1 f.1 h.2.2.2.2.2.2.2.2.2.2.1) i1 i2 ha.2.2.2;rw[show((n:Int)== -1)=false from by rw[cz];omega,aw,al i1];simp only[ae,aN i1,ab,afG h.2.1 h.1 0 _ _ _ _ (show h.2.1.length<=10^9 by omega) (show h.1.length<=10^9 by omega)];rw[show(mL ((lX h.2.1 h.1 0 h.2.2.2.1[n] h.2.2.2.2.2.2.2.2.1.2.2.1 f.1 h.2.2.2.2.2.2.2.2.2.2.1).1,h.2.1,h.2.2.1,h.2.2.2.1.set n (lX h.2.1 h.1 0 h.2.2.2.1[n] h.2.2.2.2.2.2.2.2.1.2.2.1 f.1 h.2.2.2.2.2.2.2.2.2.2.1).2,h.2.2.2.2.1,h.2.2.2.2.2.1,h.2.2.2.2.2.2.1,h.2.2.2.2.2.2.2.1,h.2.2.2.2.2.2.2.2.1,h.2.2.2.2.2.2.2.2.2.1,h.2.2.2.2.2.2.2.2.2.2.1,h.2.2.2.2.2.2.2.2.2.2.2.1,h.2.2.2.2.2.2.2.2.2.2.2.2.1,h.2.2.2.2.2.2.2.2.2.2.2.2.2.1,ak (h.2.2.2.2.2.2.2.2.2.2.2.2.2.2.1+1),h.2.2.2.2.2.2.2.2.2.2.2.2.2.2.2.1,h.2.2.2.2.2.2.2.2.2.2.2.2.2.2.2.2.1,h.2.2.2.2.2.2.2.2.2.2.2.2.2.2.2.2.2.1,ak (h.2.2.2.2.2.2.2.2.2.2.2.2.2.2.2.2.2.2+1)) (n:Int) h.2.2.2.1[n].2.1.2.2)=_ from ev,ab]
theorem Q0 (h:Host)(x:Bytes)(k:D8 900000000 h)(hx:x.length<=10^9):qR h x=some (qD h x):=by
 have z:=k.z;have z1:h.1.length<=900000000:=z.1.1;have z2:h.2.1.length<=900000000:=z.2.1.1;have zf:h.2.2.2.2.2.2.2.1.2.2.length<=900000000:=z.2.2.2.2.2.2.2.1.2.2.1;have s1:h.2.2.2.2.2.2.2.2.1.1.length<=900000000:=z.2.2.2.2.2.2.2.2.1.1.1;have s2:h.2.2.2.2.2.2.2.2.1.2.1.length<=900000000:=z.2.2.2.2.2.2.2.2.1.2.1.1;have s3:h.2.2.2.2.2.2.2.2.1.2.2.2.length<=900000000:=z.2.2.2.2.2.2.2.2.1.2.2.2.1;unfold qR qD;rw[kz h (z.mono),ab,vw h (k.sz),ab];cases hb:fy h;rfl;have hl:=px (by grind[fy]:zR h=true);have hr:=GN hb;simp only[ai,ae,Sv x hx,ab,adS h.2.2.2.2.2.2.2.1 _ (show h.2.2.2.2.2.2.2.1.2.2.length<=10^9 by omega),akG h.2.2.2.2.2.2.2.2.1 _ _ (show h.2.2.2.2.2.2.2.2.1.1.length<=10^9 by omega) (show h.2.2.2.2.2.2.2.2.1.2.1.length<=10^9 by omega) (show h.2.2.2.2.2.2.2.2.1.2.2.2.length<=10^9 by omega)];generalize jI x=f;cases f.2 !=0;case true=>rfl
 cases Ah h.2.2.2.2.2.2.2.1 f.1;rfl;simp only[ai,ae];have nm:=Zp (s:=h.2.2.2.2.2.2.2.2.1) (q:=(h.2.2.2.1.length:Int)) (p:=f.1);generalize zA h.2.2.2.2.2.2.2.2.1 (h.2.2.2.1.length:Int) f.1=r at nm⊢;rcases nm with rfl|⟨n,rfl,hn⟩;rfl;have i1:n<h.2.2.2.1.length:=by omega
 have i2:n<h.2.2.2.2.2.1.length:=by omega
 have hq:=(Ev (hr n i1)).1;have hqi:=ou hq;have ha:=OM (show 1000<=900000000 by omega) (l:=h.2.1) (d:=0) (k:=h.2.2.2.2.2.2.2.2.1.2.2.1) (p:=f.1) (c:=h.2.2.2.2.2.2.2.2.2.2.1) z.1 (z.2.2.2.1.2 _ (aE i1)) hq;have ev:=TA (h:=JP h h.2.2.2.2.2.2.2.2.2.2.2.2.2.2.2.1 h.2.2.2.2.2.2.2.2.2.2.2.2.2.2.2.2.1 h.2.2.2.2.2.2.2.2.2.2.2.2.2.2.2.2.2.1 (ak (h.2.2.2.2.2.2.2.2.2.2.2.2.2.2.2.2.2.2+1))) (k:=n) (b:=h.2.2.2.1[n].2.1.2.2) (f:=lX h.2.1 h.1 0 h.2.2.2.1[n] h.2.2.2.2.2.2.2.2.1.2.2.1 f.1 h.2.2.2.2.2.2.2.2.2.2.1) i1 i2 ha.2.2.2;rw[show((n:Int)== -1)=false from by rw[cz];omega,aq (show¬(n:Int)<0 by omega),aw,al i1];simp only[ae,aN i1,ab,agJ h.2.1 h.1 0 _ _ _ _ (show h.2.1.length<=10^9 by omega) (show h.1.length<=10^9 by omega)];rw[show(mU ((lX h.2.1 h.1 0 h.2.2.2.1[n] h.2.2.2.2.2.2.2.2.1.2.2.1 f.1 h.2.2.2.2.2.2.2.2.2.2.1).1,h.2.1,h.2.2.1,h.2.2.2.1.set n (lX h.2.1 h.1 0 h.2.2.2.1[n] h.2.2.2.2.2.2.2.2.1.2.2.1 f.1 h.2.2.2.2.2.2.2.2.2.2.1).2,h.2.2.2.2.1,h.2.2.2.2.2.1,h.2.2.2.2.2.2.1,h.2.2.2.2.2.2.2.1,h.2.2.2.2.2.2.2.2.1,h.2.2.2.2.2.2.2.2.2.1,h.2.2.2.2.2.2.2.2.2.2.1,h.2.2.2.2.2.2.2.2.2.2.2.1,h.2.2.2.2.2.2.2.2.2.2.2.2.1,h.2.2.2.2.2.2.2.2.2.2.2.2.2.1,ak (h.2.2.2.2.2.2.2.2.2.2.2.2.2.2.1+1),h.2.2.2.2.2.2.2.2.2.2.2.2.2.2.2.1,h.2.2.2.2.2.2.2.2.2.2.2.2.2.2.2.2.1,h.2.2.2.2.2.2.2.2.2.2.2.2.2.2.2.2.2.1,ak (h.2.2.2.2.2.2.2.2.2.2.2.2.2.2.2.2.2.2+1)) (n:Int) h.2.2.2.1[n].2.1.2.2)=_ from ev,ab]
theorem MJ {n:Nat}(hn:1000<=n)(x:Bytes)(k:D8 n h):D8 n (qD h x)/\(qD h x).2.2.1=h.2.2.1/\(qD h x).2.2.2.2.1.length=h.2.2.2.2.1.length:=by
 have z:=k.z;have zc:∀a b c d,D8 n (JP h a b c d):=λa b c d=>⟨⟨z.1,z.2.1,z.2.2.1,z.2.2.2.1,z.2.2.2.2.1,z.2.2.2.2.2.1,z.2.2.2.2.2.2.1,z.2.2.2.2.2.2.2.1,z.2.2.2.2.2.2.2.2.1,z.2.2.2.2.2.2.2.2.2.1,z.2.2.2.2.2.2.2.2.2.2.1,z.2.2.2.2.2.2.2.2.2.2.2.1,z.2.2.2.2.2.2.2.2.2.2.2.2.1,z.2.2.2.2.2.2.2.2.2.2.2.2.2.1,bF,bF,bF,bF,bF⟩,k.t⟩
 unfold qD;cases hb:fy h;exact⟨k,rfl,rfl⟩;have hr:=GN hb;generalize jI x=f;cases f.2 !=0;case true=>exact⟨zc ..,rfl,rfl⟩
 cases Ah h.2.2.2.2.2.2.2.1 f.1;exact⟨zc ..,rfl,rfl⟩;simp only[ai,ae];generalize zA h.2.2.2.2.2.2.2.2.1 (h.2.2.2.1.length:Int) f.1=r;cases r== -1;case true=>exact⟨zc ..,rfl,rfl⟩
 simp only[ae];rcases hq:h.2.2.2.1[r.toNat]? with _|q;exact⟨k,rfl,rfl⟩;obtain⟨hi,hqe⟩:=aJ.1 hq;have hqd:=(Ev (hr _ hi)).1;rw[hqe]at hqd;have ha:=OM hn (l:=h.2.1) (d:=0) (k:=h.2.2.2.2.2.2.2.2.1.2.2.1) (p:=f.1) (c:=h.2.2.2.2.2.2.2.2.2.2.1) z.1 (z.2.2.2.1.2 _ (bM hq)) hqd;have zc':=zc h.2.2.2.2.2.2.2.2.2.2.2.2.2.2.2.1 h.2.2.2.2.2.2.2.2.2.2.2.2.2.2.2.2.1 h.2.2.2.2.2.2.2.2.2.2.2.2.2.2.2.2.2.1 (ak (h.2.2.2.2.2.2.2.2.2.2.2.2.2.2.2.2.2.2+1));have kk:=M3 (h:=JP h h.2.2.2.2.2.2.2.2.2.2.2.2.2.2.2.1 h.2.2.2.2.2.2.2.2.2.2.2.2.2.2.2.2.1 h.2.2.2.2.2.2.2.2.2.2.2.2.2.2.2.2.2.1 (ak (h.2.2.2.2.2.2.2.2.2.2.2.2.2.2.2.2.2.2+1))) (k:=r.toNat) (b:=q.2.1.2.2) (f:=lX h.2.1 h.1 0 q h.2.2.2.2.2.2.2.2.1.2.2.1 f.1 h.2.2.2.2.2.2.2.2.2.2.1) ha.2.1;exact⟨⟨WV zc'.z ha.1 ha.2.2.1,by rw[kk.tx];exact k.t⟩,kk.tx,kk.pl⟩
theorem ao9 (l:ar aC)(m:bp)(d:Int)(rx:bk)(pl:cJ)(st:ar Stream)(c:Int):(mr l m d rx pl st c).1.length=m.length:=by grind[mr,ahJ]
def KI (b:Int)(k:Nat)(s:Int×Host):Int×Host:=
 match s.2.2.2.2.2.2.1[k]?,s.2.2.2.2.2.2.2.1[k]?,s.2.2.2.2.1[k]?,s.2.2.2.2.2.1[k]? with
 |some v,some p,some x,some pl=>
  bif p||(LD v).2 then
   (ak (s.1+(mr s.2.2.1 s.2.1 0 x pl s.2.2.2.2.2.2.2.2.2.2.1 b).2.2.2.2),
    (mr s.2.2.1 s.2.1 0 x pl s.2.2.2.2.2.2.2.2.2.2.1 b).1,s.2.2.1,s.2.2.2.1,s.2.2.2.2.1.set k (mr s.2.2.1 s.2.1 0 x pl s.2.2.2.2.2.2.2.2.2.2.1 b).2.1,s.2.2.2.2.2.1.set k (mr s.2.2.1 s.2.1 0 x pl s.2.2.2.2.2.2.2.2.2.2.1 b).2.2.1,
    s.2.2.2.2.2.2.1.set k (bif decide ((mr s.2.2.1 s.2.1 0 x pl s.2.2.2.2.2.2.2.2.2.2.1 b).2.2.2.2<b) then Rh (LD v).1 else(LD v).1),
    s.2.2.2.2.2.2.2.1.set k (!decide ((mr s.2.2.1 s.2.1 0 x pl s.2.2.2.2.2.2.2.2.2.2.1 b).2.2.2.2<b)),s.2.2.2.2.2.2.2.2.1,s.2.2.2.2.2.2.2.2.2.1,(mr s.2.2.1 s.2.1 0 x pl s.2.2.2.2.2.2.2.2.2.2.1 b).2.2.2.1,s.2.2.2.2.2.2.2.2.2.2.2)
  else(s.1,s.2.1,s.2.2.1,s.2.2.2.1,s.2.2.2.2.1,s.2.2.2.2.2.1,s.2.2.2.2.2.2.1.set k (LD v).1,s.2.2.2.2.2.2.2.1.set k false,s.2.2.2.2.2.2.2.2)
 |_,_,_,_=>s
theorem adM (b:Int)(k:Nat)(s:Int×Host):mE (k+1) s.2 (KI b k s).2:=by unfold KI;rcases s.2.2.2.2.2.2.1[k]? with _|v;exact mE.refl _ _;rcases s.2.2.2.2.2.2.2.1[k]? with _|p;exact mE.refl _ _;rcases s.2.2.2.2.1[k]? with _|x;exact mE.refl _ _;rcases s.2.2.2.2.2.1[k]? with _|pl;exact mE.refl _ _;simp only;cases p||(LD v).2 with|true=>exact⟨ao9 ..,rfl,rfl,aL ..,λj hj=>aZ (by omega),aL ..,aL ..,λj hj=>aZ (by omega),aL ..,rfl,rfl⟩|false=>exact⟨rfl,rfl,rfl,rfl,λ_ _=>rfl,rfl,aL ..,λj hj=>aZ (by omega),aL ..,rfl,rfl⟩
theorem agF (b:Int)(k:Nat)(s:Int×Host){n:Nat}(hn:1000<=n)(z:bt n cS s.2):bt (n+322000) cS (KI b k s).2:=by have z':bt (n+322000) cS s.2:=z.mono;unfold KI;rcases s.2.2.2.2.2.2.1[k]? with _|v;exact z';rcases s.2.2.2.2.2.2.2.1[k]? with _|p;exact z';rcases h1:s.2.2.2.2.1[k]? with _|x;exact z';rcases h2:s.2.2.2.2.2.1[k]? with _|pl;exact z';simp only;cases p||(LD v).2 with|true=>have hp:=YV (by omega) (l:=s.2.2.1) (d:=0) b z.1 (z.2.2.2.1.2 _ (bM h1)) (z.2.2.2.2.1.2 _ (bM h2)) z.2.2.2.2.2.2.2.2.2.1;exact⟨hp.1.mono,z'.2.1,z'.2.2.1,qy z'.2.2.2.1 (hp.2.1.mono),qy z'.2.2.2.2.1 hp.2.2.1,Uu z'.2.2.2.2.2.1,qy z'.2.2.2.2.2.2.1 trivial,z'.2.2.2.2.2.2.2.1,z'.2.2.2.2.2.2.2.2.1,hp.2.2.2.1,z'.2.2.2.2.2.2.2.2.2.2⟩|false=>exact⟨z'.1,z'.2.1,z'.2.2.1,z'.2.2.2.1,z'.2.2.2.2.1,Uu z'.2.2.2.2.2.1,qy z'.2.2.2.2.2.2.1 trivial,z'.2.2.2.2.2.2.2⟩
def lJ (b:Int):Nat->Host->Int×Host
 |0,h=>(0,h)
 |k+1,h=>KI b k (lJ b k h)
theorem Gq (b:Int)(h:Host):∀k,mE k h (lJ b k h).2
 |0=>mE.refl 0 h
 |k+1=>((Gq b h k).up (by omega)).trans (adM b k _)
theorem KH (b:Int){n:Nat}(hn:1000<=n)(z:bt n cS h):∀k,bt (n+322000*k) cS (lJ b k h).2
 |0=>z
 |k+1=>(agF b k _ (by omega) (KH b hn z k)).mono
def BS (h:Host)(b:Int):Host×Int:=bif fy h&&du b 1 1000 then((lJ b h.2.2.2.1.length h).2,(lJ b h.2.2.2.1.length h).1) else(h,0)
theorem adN {n:Nat}(hn:1000<=n)(b:Int)(k:D8 n h):D8 (n+644000) (BS h b).1:=by unfold BS;cases hb:fy h&&du b 1 1000 with|false=>exact k.mono|true=>simp only[ah]at hb;have hl:=px (by grind[fy]:zR h=true);refine⟨(KH b hn k.z _).mono,?_⟩;simp only[af];rw[(Gq b h _).tx];exact aF k.t (by omega)
theorem acR (h:Host)(b:Int)(k:D8 400000000 h):vS h b=some (BS h b):=by
 have Ae:=da;unfold vS BS;rw[ko h (k.z.mono),ab,As h (k.sz),ab,cr];cases hb:fy h;rfl;cases hi0:du b 1 1000;rfl;have hl:=px (by simp only[fy,ah]at hb;exact hb.2.2.2.2.1:zR h=true);simp only[ai,ae,ab,cB,af];refine bz (λi=>((lJ b i h).1,(i:Int),(lJ b i h).2)) h.2.2.2.1.length (by omega) (λi nx hi=>?_) (λnx=>?_);have kk:=Gq b h i;have zz:bt 500000000 cS (lJ b i h).2:=(KH b (by omega) k.z i).mono;have i1:i<(lJ b i h).2.2.2.2.1.length:=by rw[kk.rx];exact hi
 have i2:i<(lJ b i h).2.2.2.2.2.1.length:=by rw[kk.pl];omega
 have i3:i<(lJ b i h).2.2.2.2.2.2.1.length:=by rw[kk.vec];omega
 have i4:i<(lJ b i h).2.2.2.2.2.2.2.1.length:=by rw[kk.pol];omega
 rw[show lJ b (i+1) h=KI b i (lJ b i h) from rfl];generalize lJ b i h=s at zz i1 i2 i3 i4⊢;have gp:∀(V:ar Vector)(P:ar Bool),mq (s.2.1,s.2.2.1,s.2.2.2.1,s.2.2.2.2.1,s.2.2.2.2.2.1,V,P,s.2.2.2.2.2.2.2.2) (i:Int) b=some ((mr s.2.2.1 s.2.1 0 s.2.2.2.2.1[i] s.2.2.2.2.2.1[i] s.2.2.2.2.2.2.2.2.2.2.1 b).2.2.2.2,(mr s.2.2.1 s.2.1 0 s.2.2.2.2.1[i] s.2.2.2.2.2.1[i] s.2.2.2.2.2.2.2.2.2.2.1 b).1,s.2.2.1,s.2.2.2.1,s.2.2.2.2.1.set i (mr s.2.2.1 s.2.1 0 s.2.2.2.2.1[i] s.2.2.2.2.2.1[i] s.2.2.2.2.2.2.2.2.2.2.1 b).2.1,s.2.2.2.2.2.1.set i (mr s.2.2.1 s.2.1 0 s.2.2.2.2.1[i] s.2.2.2.2.2.1[i] s.2.2.2.2.2.2.2.2.2.2.1 b).2.2.1,V,P,s.2.2.2.2.2.2.2.2.1,s.2.2.2.2.2.2.2.2.2.1,(mr s.2.2.1 s.2.1 0 s.2.2.2.2.1[i] s.2.2.2.2.2.1[i] s.2.2.2.2.2.2.2.2.2.2.1 b).2.2.2.1,s.2.2.2.2.2.2.2.2.2.2.2):=by intro V P;have HF:s.2.2.2.2.2.1[i].2.2.2.length<=500000000:=(zz.2.2.2.2.1.2 _ (aE i2)).2.2.2.1;have hm:s.2.1.length<=500000000:=zz.1.1;have hp:s.2.2.1.length<=500000000:=zz.2.1.1;unfold mq;simp only[aN i1,aN i2,ab,acO s.2.2.1 s.2.1 0 _ _ _ b (show s.2.2.1.length<=10^9 by omega) (show s.2.1.length<=10^9 by omega) HF zz.2.2.2.2.2.2.2.2.2.1,aw]
 have IA:∀V:Vector,s.2.2.2.2.2.2.1.set i V=s.2.2.2.2.2.2.1.set i V:=λ_=>rfl;unfold KI;rw[al i1,al i2,al i3,al i4];simp only[pn];rw[gL,af];simp only[aN i3,aN i4,ab,ajD,aw,gp];generalize LD s.2.2.2.2.2.2.1[i]=w;generalize mr s.2.2.1 s.2.1 0 s.2.2.2.2.1[i] s.2.2.2.2.2.1[i] s.2.2.2.2.2.2.2.2.2.2.1 b=pr;have i5:∀V:Vector,i<(s.2.2.2.2.2.2.1.set i V).length:=λV=>by rw[aL];exact i3
 have i6:∀q:Bool,i<(s.2.2.2.2.2.2.2.1.set i q).length:=λq=>by rw[aL];exact i4
 have e5:∀V:Vector,idx (s.2.2.2.2.2.2.1.set i V) (i:Int)=some V:=λV=>by rw[aN (i5 V),List.getElem_set_self]
 have e6:∀q:Bool,idx (s.2.2.2.2.2.2.2.1.set i q) (i:Int)=some q:=λq=>by rw[aN (i6 q),List.getElem_set_self]
 rw[aj (n:=(i:Int)+1) (by omega) (by omega)];have HT:s.2.2.2.2.2.2.2.1.set i (s.2.2.2.2.2.2.2.1[i])=s.2.2.2.2.2.2.2.1:=List.set_getElem_self ..;generalize hp:s.2.2.2.2.2.2.2.1[i]=p at HT⊢;cases hw:w.2 with
 |true=>simp only[jA,af,e6,e5,ab,ai,ae,VF,dF];cases decide (pr.2.2.2.2<b)<;>rfl
 |false=>
  simp only[Bool.or_false,ae];cases p with
  |false=>rw[HT];rfl
  |true=>
   have e7:idx s.2.2.2.2.2.2.2.1 (i:Int)=some true:=by rw[aN i4,hp]
   simp only[af,ai,ae,e5,e7,ab,VF,dF];cases decide (pr.2.2.2.2<b)with|true=>rfl|false=>simp only[ae,bB,HT];rfl
 simp only[pn];rw[fG,ae]
theorem ad9 (h:Host)(b:Int)(k:D8 400000000 h):wP h b=some (BS h b):=by
 have Ae:=da;unfold wP BS;rw[kz h (k.z.mono),ab,vw h (k.sz),ab,cm];cases hb:fy h;rfl;cases hi0:du b 1 1000;rfl;have hl:=px (by simp only[fy,ah]at hb;exact hb.2.2.2.2.1:zR h=true);simp only[ai,ae,ab,cB,af];refine bz (λi=>((lJ b i h).1,(i:Int),(lJ b i h).2)) h.2.2.2.1.length (by omega) (λi nx hi=>?_) (λnx=>?_);have kk:=Gq b h i;have zz:bt 500000000 cS (lJ b i h).2:=(KH b (by omega) k.z i).mono;have i1:i<(lJ b i h).2.2.2.2.1.length:=by rw[kk.rx];exact hi
 have i2:i<(lJ b i h).2.2.2.2.2.1.length:=by rw[kk.pl];omega
 have i3:i<(lJ b i h).2.2.2.2.2.2.1.length:=by rw[kk.vec];omega
 have i4:i<(lJ b i h).2.2.2.2.2.2.2.1.length:=by rw[kk.pol];omega
 have em:=kk.maps;rw[show lJ b (i+1) h=KI b i (lJ b i h) from rfl];generalize lJ b i h=s at zz i1 i2 i3 i4 em⊢;have HF:s.2.2.2.2.2.1[i].2.2.2.length<=500000000:=(zz.2.2.2.2.1.2 _ (aE i2)).2.2.2.1;have hm:s.2.1.length<=500000000:=zz.1.1;have hp:s.2.2.1.length<=500000000:=zz.2.1.1;have gp:=ad8 s.2.2.1 s.2.1 0 s.2.2.2.2.1[i] s.2.2.2.2.2.1[i] s.2.2.2.2.2.2.2.2.2.2.1 b (show s.2.2.1.length<=10^9 by omega) (show s.2.1.length<=10^9 by omega) HF zz.2.2.2.2.2.2.2.2.2.1;unfold KI;rw[al i1,al i2,al i3,al i4];simp only[pD];rw[gL,af,<-em];simp only[aN i1,aN i2,aN i3,aN i4,ab,akK,aw,gp];generalize LD s.2.2.2.2.2.2.1[i]=w;generalize mr s.2.2.1 s.2.1 0 s.2.2.2.2.1[i] s.2.2.2.2.2.1[i] s.2.2.2.2.2.2.2.2.2.2.1 b=pr;have i5:∀V:Vector,i<(s.2.2.2.2.2.2.1.set i V).length:=λV=>by rw[aL];exact i3
 have i6:∀q:Bool,i<(s.2.2.2.2.2.2.2.1.set i q).length:=λq=>by rw[aL];exact i4
 have e5:∀V:Vector,idx (s.2.2.2.2.2.2.1.set i V) (i:Int)=some V:=λV=>by rw[aN (i5 V),List.getElem_set_self]
 have e6:∀q:Bool,idx (s.2.2.2.2.2.2.2.1.set i q) (i:Int)=some q:=λq=>by rw[aN (i6 q),List.getElem_set_self]
 rw[aj (n:=(i:Int)+1) (by omega) (by omega)];generalize s.2.2.2.2.2.2.2.1[i]=p;cases p with|true=>simp only[jB,af,e6,e5,ab,ai,ae,Wt,dF];cases decide (pr.2.2.2.2<b)<;>rfl|false=>simp only[cC,ae,e6,e5,ab,Wt,dF];cases w.2 with|false=>rfl|true=>simp only[ai,ae,af];cases decide (pr.2.2.2.2<b)<;>rfl
 simp only[pD];rw[aq (by have:=(Gq b h h.2.2.2.1.length).rx;omega),ae]
theorem aes {n:Nat}(hn:1000<=n)(k:D8 n h):D8 n (EE h):=by have:=an9 hn k.z;exact⟨this.1,by rw[this.2];exact k.t⟩
theorem Ol (K:Int->Bytes->au R):∀(n:Nat)(v:Int)(s:Bytes)(m:Nat),0<=v->v<=1000000000000000->v<10^n->s.length+n<=1000->n<m->∃s':Bytes,s'.length<=1000/\∃v',aH (wB K) m (v,s)=K v' s'
 |0,v,s,m,h0,_,h1,hs,hm=>by
  have hv:v=0:=by simp at h1;omega
  subst hv;cases m with|zero=>omega|succ m=>exact⟨s,by omega,0,by rw[aH];rfl⟩
 |n+1,v,s,m,h0,hb,h1,hs,hm=>by cases m with|zero=>omega|succ m=>rw[aH];simp only[wB];by_cases hv:v>0;have hq:Int.tdiv v 10=v/10:=Int.tdiv_eq_ediv_of_nonneg h0;rw[ax hv];simp only[af];rw[ny,aQ (by simp[aU];omega),ny,hq,aj (n:=v/10) (by omega) (by omega)];exact Ol K n (v/10) _ m (by omega) (by omega) (by rw[Int.pow_succ]at h1;omega) (by simp[aU];omega) (by omega);rw[aq hv];exact⟨s,by omega,v,rfl⟩
theorem Xm (k:Int)(h1:1<=k)(h2:k<=1000000000000000):∃s,cf k=some s:=by have Ae:=da;unfold cf;rw[fG];simp only[ae];obtain⟨s,hs,v,h⟩:=Ol (λ(_:Int) (y2:Bytes)=>room (List.length ([109]:Bytes)+List.length y2) (some (([109]:Bytes)++y2))) 16 k [] fuel (by omega) h2 (by omega) (by simp) (by omega);rw[h,aQ (by simp;omega)];exact⟨_,rfl⟩
def txt (k:Int):Bytes:=(cf k).getD []
theorem jv (k:Int)(h1:1<=k)(h2:k<=1000000000000000):cf k=some (txt k):=by obtain⟨s,hs⟩:=Xm k h1 h2;rw[txt,hs];rfl
def jX:(t:CT)->t.D->Nat
 | .int _,_=>1
 | .bool,_=>1
 | .str,_=>1
 | .sl e,xs=>(xs.map (jX e)).sum
 | .pair a b,x=>jX a x.1+jX b x.2
def mkL (f:α->Int->α)(c:α->Nat):ar α->Int->ar α
 |[],_=>[]
 |x::xs,k=>f x k::mkL f c xs (k+c x)
def mk:(t:CT)->t.D->Int->t.D
 | .int _,_,k=>k
 | .bool,_,k=>tmod k 3==0
 | .str,_,k=>txt k
 | .sl e,xs,k=>mkL (mk e) (jX e) xs k
 | .pair a b,x,k=>(mk a x.1 k,mk b x.2 (k+jX a x.1))
def ly:(t:CT)->t.D->Nat
 | .int _,_=>0
 | .bool,_=>0
 | .str,_=>0
 | .sl e,xs=>jX (.sl e) xs
 | .pair a b,x=>ly a x.1+ly b x.2
def mkT:(t:CT)->t.D->Int->t.D
 | .int _,x,_=>x
 | .bool,x,_=>x
 | .str,x,_=>x
 | .sl e,xs,k=>mk (.sl e) xs k
 | .pair a b,x,k=>(mkT a x.1 k,mkT b x.2 (k+ly a x.1))
theorem R2 {k:IntKind}(x k':Int):mk (.int k) x k'=k':=rfl
theorem Nv (x:Bool)(k:Int):mk .bool x k=(tmod k 3==0):=rfl
theorem R3 (x:Bytes)(k:Int):mk .str x k=txt k:=rfl
theorem Ig {a b:CT}(x:a.D×b.D)(k:Int):mk (.pair a b) x k=(mk a x.1 k,mk b x.2 (k+jX a x.1)):=rfl
theorem nM {k:IntKind}(x:Int):jX (.int k) x=1:=rfl
theorem kI (x:Bool):jX .bool x=1:=rfl
theorem nN (x:Bytes):jX .str x=1:=rfl
theorem kJ {a b:CT}(x:a.D×b.D):jX (.pair a b) x=jX a x.1+jX b x.2:=rfl
theorem ah5 {k:IntKind}(x k':Int):mkT (.int k) x k'=x:=rfl
theorem ac8 (x:Bool)(k:Int):mkT .bool x k=x:=rfl
theorem ah6 (x:Bytes)(k:Int):mkT .str x k=x:=rfl
theorem ac9 {a b:CT}(x:a.D×b.D)(k:Int):mkT (.pair a b) x k=(mkT a x.1 k,mkT b x.2 (k+ly a x.1)):=rfl
theorem abJ {k:IntKind}(x:Int):ly (.int k) x=0:=rfl
theorem XT (x:Bool):ly .bool x=0:=rfl
theorem abK (x:Bytes):ly .str x=0:=rfl
theorem XU {a b:CT}(x:a.D×b.D):ly (.pair a b) x=ly a x.1+ly b x.2:=rfl
theorem ne3:¬(3:Int)=0:=by omega
theorem JQ {n:Int}(h:¬n<0):decide (n<0)=false:=aq h
theorem rk {l:ar α}{i:Nat}(x:α)(h:i<l.length):idx (l.set i x) (i:Int)=some x:=by rw[No,List.getElem?_set_self h]
theorem YN {T:((ar e.D×Int×Int×ar e.D)->au (Int×ar e.D))->(ar e.D×Int×Int×ar e.D)->au (Int×ar e.D)}
 (hs:∀(l:ar e.D)(i:Nat)(hi:i<l.length)(k:Int) nx,1<=k->k+jX e l[i]<=1000000000000000->l.length<=1000000000000->bt 1000000000000 e l[i]->
  T nx (l,k,(i:Int),l)=nx (l.set i (mk e l[i] k),k+jX e l[i],(i:Int)+1,l.set i (mk e l[i] k)))
 (hf:∀(l:ar e.D)(k:Int) nx,T nx (l,k,(l.length:Int),l)=some (k,l)):
 ∀(xs pre:ar e.D)(k:Int)(n:Nat),1<=k->k+jX (.sl e) xs<=1000000000000000->pre.length+xs.length<=1000000000000->(∀x∈xs,bt 1000000000000 e x)->xs.length<n->
  aH T n (pre++xs,k,(pre.length:Int),pre++xs)=some (k+jX (.sl e) xs,pre++mk (.sl e) xs k)
 |[],pre,k,n,_,_,_,_,hn=>by cases n with|zero=>omega|succ n=>rw[aH,bD,hf];simp[jX,mk,mkL]
 |x::xs,pre,k,n,h1,h2,h3,h4,hn=>by
  cases n with
  |zero=>omega
  |succ n=>
   have hc:jX (.sl e) (x::xs)=jX e x+jX (.sl e) xs:=by simp[jX]
   have hi:pre.length<(pre++x::xs).length:=by simp
   have hx:(pre++x::xs)[pre.length]=x:=by simp
   simp only[bJ]at h3 hn;rw[aH,hs _ pre.length hi k _ h1 (by rw[hx];omega) (by simp;omega) (by rw[hx];exact h4 x (by simp)),hx];have IA:(pre++x::xs).set pre.length (mk e x k)=(pre++[mk e x k])++xs:=by rw[List.set_append_right _ _ (ba _),hZ,List.set_cons_zero,aX];rfl
   have hl:((pre.length:Int)+1)=(((pre++[mk e x k]).length:Nat):Int):=by simp
   rw[IA,hl,YN hs hf xs _ _ n (by omega) (by omega) (by simp;omega) (λy hy=>h4 y (by simp[hy])) (by omega)];rw[hc];congr 1;refine Prod.ext (by simp only;omega) ?_;simp only[mk,mkL,aX,List.singleton_append]
theorem Yk {T:ar e.D->((Int×Int)->au Int)->(Int×Int)->au Int}
 (hs:∀(l:ar e.D)(i:Nat)(hi:i<l.length)(x:e.D)(k:Int) nx,l[i]=mk e x k->1<=k->k+jX e x<=1000000000000000->l.length<=1000000000000->bt 1000000000000 e x->
  T l nx (k,(i:Int))=nx (k+jX e x,(i:Int)+1))
 (hf:∀(l:ar e.D)(k:Int) nx,T l nx (k,(l.length:Int))=some k):
 ∀(xs pre:ar e.D)(k:Int)(n:Nat),1<=k->k+jX (.sl e) xs<=1000000000000000->pre.length+xs.length<=1000000000000->(∀x∈xs,bt 1000000000000 e x)->xs.length<n->
  aH (T (pre++mk (.sl e) xs k)) n (k,(pre.length:Int))=some (k+jX (.sl e) xs)
 |[],pre,k,n,_,_,_,_,hn=>by
  cases n with
  |zero=>omega
  |succ n=>
   have:pre++mk (.sl e) ([]:ar e.D) k=pre:=by simp[mk,mkL]
   rw[aH,this,hf];simp[jX]
 |x::xs,pre,k,n,h1,h2,h3,h4,hn=>by
  cases n with
  |zero=>omega
  |succ n=>
   have hc:jX (.sl e) (x::xs)=jX e x+jX (.sl e) xs:=by simp[jX]
   have hm:pre++mk (.sl e) (x::xs) k=(pre++[mk e x k])++mk (.sl e) xs (k+jX e x):=by simp[mk,mkL]
   have hlen:∀(ys:ar e.D)(k:Int),(mk (.sl e) ys k).length=ys.length:=by intro ys;induction ys with|nil=>intro k;rfl|cons y ys ih=>intro k;have:=ih (k+jX e y);simp only[mk,mkL,bJ]at this⊢;omega
   simp only[bJ]at h3 hn;rw[aH,hm,hs _ pre.length (by simp) x k _ (by simp) h1 (by omega) (by have:=hlen xs (k+jX e x);simp;omega) (h4 x (by simp))];have hl:((pre.length:Int)+1)=(((pre++[mk e x k]).length:Nat):Int):=by simp
   rw[hl,Yk hs hf xs _ _ n (by omega) (by omega) (by simp;omega) (λy hy=>h4 y (by simp[hy])) (by omega),hc];congr 1;omega
def XN (t:CT)(mark:t.D->Int->au (Int×t.D)):Prop:=∀(a:t.D)(_:bt 1000000000000 t a)(k:Int)(_:1<=k)(_:k+jX t a<=1000000000000000),mark a k=some (k+jX t a,mk t a k)
def ZH (t:CT)(held:t.D->Int->au Int):Prop:=∀(a:t.D)(_:bt 1000000000000 t a)(k:Int)(_:1<=k)(_:k+jX t a<=1000000000000000),held (mk t a k) k=some (k+jX t a)
theorem aaB {T:((ar e.D×Int×Int×ar e.D)->au (Int×ar e.D))->(ar e.D×Int×Int×ar e.D)->au (Int×ar e.D)}(hs:∀(l:ar e.D)(i:Nat)(hi:i<l.length)(k:Int) nx,1<=k->k+jX e l[i]<=1000000000000000->l.length<=1000000000000->bt 1000000000000 e l[i]-> T nx (l,k,(i:Int),l)=nx (l.set i (mk e l[i] k),k+jX e l[i],(i:Int)+1,l.set i (mk e l[i] k)))(hf:∀(l:ar e.D)(k:Int) nx,T nx (l,k,(l.length:Int),l)=some (k,l)):XN (.sl e) (λa k=>aH T fuel (a,k,0,a)):=by have Ae:=da;intro a h k h1 h2;have hl:a.length<=1000000000000:=h.1;exact YN hs hf a [] k fuel h1 h2 (by simp;omega) h.2 (by omega)
theorem aaA {H:ar e.D->((Int×Int)->au Int)->(Int×Int)->au Int}(gs:∀(l:ar e.D)(i:Nat)(hi:i<l.length)(x:e.D)(k:Int) nx,l[i]=mk e x k->1<=k->k+jX e x<=1000000000000000->l.length<=1000000000000->bt 1000000000000 e x-> H l nx (k,(i:Int))=nx (k+jX e x,(i:Int)+1))(gf:∀(l:ar e.D)(k:Int) nx,H l nx (k,(l.length:Int))=some k):ZH (.sl e) (λa k=>aH (H a) fuel (k,0)):=by have Ae:=da;intro a h k h1 h2;have hl:a.length<=1000000000000:=h.1;exact Yk gs gf a [] k fuel h1 h2 (by simp;omega) h.2 (by omega)
def MtM (t:CT)(mark:t.D->Int->au (Int×t.D)):Prop:=∀(a:t.D)(_:bt 1000000000000 t a)(k:Int)(_:1<=k)(_:k+ly t a<=1000000000000000),mark a k=some (k+ly t a,mkT t a k)
def MtH (t:CT)(held:t.D->Int->au Int):Prop:=∀(a:t.D)(_:bt 1000000000000 t a)(k:Int)(_:1<=k)(_:k+ly t a<=1000000000000000),held (mkT t a k) k=some (k+ly t a)
theorem XN.top {mark:ar e.D->Int->au (Int×ar e.D)}(h:XN (.sl e) mark):MtM (.sl e) mark:=h
theorem ZH.top {held:ar e.D->Int->au Int}(h:ZH (.sl e) held):MtH (.sl e) held:=h
def OkW:{t:CT}->Nst FM t->Prop
 |_,.sl (e:=e) m=>XN (.sl e) m
 |_,.pair a b=>OkW a/\OkW b
 |_,_=>True
theorem aaW {R:Type}(hf:∀k,1<=k->k<=1000000000000000->f k=some (txt k)){l:ar α}{i:Nat}(hi:i<l.length):∀{t:CT}(n:Nst FM t)(_:OkW n)(g:α->t.D)(s:α->t.D->α)(_:∀y v,g (s y v)=v)(_:∀y v w,s (s y v) w=s y w)(x:α)(k:Int)(K:ar α->Int->au R),1<=k->k+jX t (g x)<=1000000000000000->bt 1000000000000 t (g x)->
 IL f (i:Int) n g s (l.set i x) (l.set i x) k K=K (l.set i (s x (mk t (g x) k))) (k+jX t (g x))
 |_,.int _,_,g,s,_,_,x,k,K,h1,h2,_=>by simp only[nM]at h2⊢;rw[IL,rk x hi,ab,ab,aw,dF,aj (by omega) (by omega)];rfl
 |_,.bool,_,g,s,_,_,x,k,K,h1,h2,_=>by simp only[kI]at h2⊢;rw[IL,rk x hi,ab,ab,aw,dF,aj (by omega) (by omega)];rfl
 |_,.str,_,g,s,_,_,x,k,K,h1,h2,_=>by simp only[nN]at h2⊢;rw[IL,hf k h1 (by omega),ab,rk x hi,ab,ab,aw,dF,aj (by omega) (by omega)];rfl
 |_,.sl m,hn,g,s,_,_,x,k,K,h1,h2,h3=>by rw[IL,rk x hi,ab,ab,hn (g x) h3 k h1 h2,ab,aw,dF]
 |_,.pair (a:=ca) (b:=cb) a b,hn,g,s,l1,l2,x,k,K,h1,h2,h3=>by rw[kJ]at h2⊢;have e1:=aaW (R:=R) hf hi a hn.1 (λy=>(g y).1) (λy v=>s y (v,(g y).2)) (λy v=>by simp only[l1]) (λy v w=>by simp only[l1,l2]) x k;rw[IL,e1 _ h1 (by show k+((jX ca (g x).1:Nat):Int)<=_;omega) h3.1];have e2:=aaW (R:=R) hf hi b hn.2 (λy=>(g y).2) (λy v=>s y ((g y).1,v)) (λy v=>by simp only[l1]) (λy v w=>by simp only[l1,l2]) (s x (mk ca (g x).1 k,(g x).2)) (k+jX ca (g x).1) K (by omega) (by simp only[l1];omega) (by simp only[l1];exact h3.2);rw[e2];simp only[l1,l2,Ig];congr 1;omega
theorem Lx (n:Nst FM e){T:((ar e.D×Int×Int×ar e.D)->au (Int×ar e.D))->(ar e.D×Int×Int×ar e.D)->au (Int×ar e.D)}(hf:∀k,1<=k->k<=1000000000000000->f k=some (txt k))(hn:OkW n)(he:∀(l:ar e.D)(k i:Int) nx,T nx (l,k,i,l)=cond (decide (i<(l.length:Int))) (IL f i n (λy=>y) (λ_ v=>v) l l k (λL k'=>nx (L,k',ak (i+1),L))) (some (k,l))):XN (.sl e) (λa k=>aH T fuel (a,k,0,a)):=by
 refine aaB (λl i hi k nx h1 h2 h3 hx=>?_) (λl k nx=>?_)
 ·have hl:l=l.set i l[i]:=(List.set_getElem_self hi).symm;rw[he,gL,af];conv=>lhs;rw[hl]
  rw[aaW hf hi n hn (λy=>y) (λ_ v=>v) (λ_ _=>rfl) (λ_ _ _=>rfl) l[i] k _ h1 h2 hx];rw[aj (by omega) (by omega)]
 rw[he,fG];rfl
def OkV:{t:CT}->Nst FH t->Prop
 |_,.sl (e:=e) m=>ZH (.sl e) m
 |_,.pair a b=>OkV a/\OkV b
 |_,_=>True
theorem aaV (hf:∀k,1<=k->k<=1000000000000000->f k=some (txt k)){v:ar α}{i:Nat}(hi:i<v.length)(bad:Int->au R):∀{t:CT}(n:Nst FH t)(_:OkV n)(g:α->t.D)(K:Int->au R)(x:t.D)(k:Int),1<=k->k+jX t x<=1000000000000000->bt 1000000000000 t x->g v[i]=mk t x k->
 Ju f (i:Int) v bad n g K k=K (k+jX t x)
 |_,.int _,_,g,K,x,k,h1,h2,_,h4=>by simp only[nM]at h2⊢;have h5:g v[i]=k:=h4;rw[Ju,aN hi,ab,h5,bne_self_eq_false,ae,aj (by omega) (by omega)];rfl
 |_,.bool,_,g,K,x,k,h1,h2,_,h4=>by simp only[kI]at h2⊢;have h5:g v[i]=(tmod k 3==0):=h4;rw[Ju,aN hi,ab,h5,gC,ai,ae,aj (by omega) (by omega)];rfl
 |_,.str,_,g,K,x,k,h1,h2,_,h4=>by simp only[nN]at h2⊢;have h5:g v[i]=txt k:=h4;rw[Ju,aN hi,ab,hf k h1 (by omega),ab,h5,gC,ai,ae,aj (by omega) (by omega)];rfl
 |_,.sl m,hn,g,K,x,k,h1,h2,h3,h4=>by rw[Ju,aN hi,ab,h4,hn x h3 k h1 h2,ab,fG,ae]
 |_,.pair a b,hn,g,K,x,k,h1,h2,h3,h4=>by rw[kJ]at h2⊢;rw[Ig]at h4;rw[Ju,aaV hf hi bad a hn.1 _ _ x.1 k h1 (by omega) h3.1 (by simp only[h4]),aaV hf hi bad b hn.2 _ _ x.2 _ (by omega) (by omega) h3.2 (by simp only[h4])];congr 1;omega
theorem MC (n:Nst FH e){H:ar e.D->((Int×Int)->au Int)->(Int×Int)->au Int}{bad:ar e.D->Int->Int->au Int}(hf:∀k,1<=k->k<=1000000000000000->f k=some (txt k))(hn:OkV n)(he:∀(l:ar e.D)(k i:Int) nx,H l nx (k,i)=cond (decide (i<(l.length:Int))) (Ju f i l (bad l i) n (λy=>y) (λk'=>nx (k',ak (i+1))) k) (some k)):ZH (.sl e) (λa k=>aH (H a) fuel (k,0)):=by refine aaA (λl i hi x k nx hm h1 h2 h3 hx=>?_) (λl k nx=>?_);rw[he,gL,af,aaV hf hi _ n hn _ _ x k h1 h2 hx hm,aj (by omega) (by omega)];rw[he,fG];rfl
theorem ZR:∀{t:CT}{x:t.D},ly t x<=jX t x
 | .int _,_=>by simp[ly]
 | .bool,_=>by simp[ly]
 | .str,_=>by simp[ly]
 | .sl _,_=>ba _
 | .pair a b,x=>by simp only[ly,jX];exact Nat.add_le_add ZR ZR
def wt:CT->Nat
 | .sl e=>wt e
 | .pair a b=>wt a+wt b
 |_=>1
theorem ZT:∀{t:CT}{x:t.D},jX t x<=wt t*(mm t x+1)
 | .int _,_=>by simp[jX,wt]
 | .bool,_=>by simp[jX,wt]
 | .str,_=>by simp[jX,wt]
 | .sl e,xs=>by
  have h:∀l:ar e.D,(l.map (jX e)).sum<=wt e*((l.map (mm e)).sum+l.length):=by
   intro l;induction l with
   |nil=>simp
   |cons y l ih=>
    have:=ZT (t:=e) (x:=y);simp only[ew,List.sum_cons,bJ];have e1:wt e*(mm e y+(l.map (mm e)).sum+(l.length+1))=wt e*(mm e y+1)+wt e*((l.map (mm e)).sum+l.length):=by rw[<-Nat.mul_add];congr 1;omega
    omega
  have h1:=h xs;simp only[jX,wt,mm];refine aF h1 (Nat.mul_le_mul_left _ (by omega))
 | .pair a b,x=>by have h1:=ZT (t:=a) (x:=x.1);have h2:=ZT (t:=b) (x:=x.2);simp only[jX,wt,mm];rw[cx];exact Nat.add_le_add (aF h1 (Nat.mul_le_mul_left _ (by omega))) (aF h2 (Nat.mul_le_mul_left _ (by omega)))
def T0 (n:Nat):CT->Nat
 | .sl e=>n*T0 n e
 | .pair a b=>T0 n a+T0 n b
 |_=>1
theorem ma {n:Nat}:∀{t:CT}{x:t.D},bt n t x->jX t x<=T0 n t
 | .int _,_,_=>by simp[jX,T0]
 | .bool,_,_=>by simp[jX,T0]
 | .str,_,_=>by simp[jX,T0]
 | .sl e,xs,h=>by
  have h1:∀l:ar e.D,(∀x∈l,bt n e x)->(l.map (jX e)).sum<=l.length*T0 n e:=by intro l;induction l with|nil=>simp|cons y l ih=>intro hl;have:=ma (hl y (by simp));have:=ih (λx hx=>hl x (by simp[hx]));simp only[ew,List.sum_cons,bJ,cx,eH];omega
  simp only[jX,T0];exact aF (h1 xs h.2) (cD _ h.1)
 | .pair a b,x,h=>by simp only[jX,T0];exact Nat.add_le_add (ma h.1) (ma h.2)
theorem ZS {n:Nat}:∀{xs:ar e.D},(∀x∈xs,bt n e x)->jX (.sl e) xs<=xs.length*T0 n e
 |[],_=>by simp[jX]
 |y::l,h=>by have h1:=ma (h y (by simp));have h2:=ZS (xs:=l) (λx hx=>h x (by simp[hx]));simp only[jX,ew,List.sum_cons,bJ,cx,eH]at h2⊢;omega
structure PB (h:Host):Prop where
 pl:h.2.2.2.2.1.length<=2
 w:h.2.2.1.2.2.1.length<=16
theorem alQ (hb:fy h=true):PB h:=by have hl:=px (by grind[fy]:zR h=true);have ht:=K0 (t:=h.2.2.1) (by grind[fy]);exact⟨by omega,ht⟩
theorem PR {a b:Host}(f:PB a)(h:mE k a b):PB b:=⟨by rw[h.pl];exact f.pl,by rw[h.tx];exact f.w⟩
theorem abZ (f:PB h):PB (EE h):=by grind[EE,PR,xh,KZ]
theorem ai0 (f:PB h):PB (JV h):=by grind[JV,PR,xh,HP]
theorem ai1 (b:Int)(f:PB h):PB (BS h b).1:=by grind[BS,PR,Gq]
theorem PU (f:PB h):PB (gY h):=by unfold gY;cases fy h with|false=>exact f|true=>refine⟨f.pl,?_⟩;simp only[af];generalize (if(h.2.2.1.2.2.1.length:Int)<ak ((lL h.2.1 h.1 0 h.2.2.1.1).2.2.1+(lL h.2.1 h.1 0 h.2.2.1.1).2.2.2) then(h.2.2.1.2.2.1.length:Int) else ak ((lL h.2.1 h.1 0 h.2.2.1.1).2.2.1+(lL h.2.1 h.1 0 h.2.2.1.1).2.2.2))=q;unfold nz;cases Tv ((lL h.2.1 h.1 0 h.2.2.1.1).1,h.2.2.1.2)&&du q 0 (h.2.2.1.2.2.1.length:Int)with|false=>exact f.w|true=>show(h.2.2.1.2.2.1.drop q.toNat).length<=16;rw[bl];have:=f.w;omega
theorem alP {n:Nat}(z:bt n cS h)(f:PB h):jX cS h<=400*(n+1):=by
 have hw:h.2.2.1.2.2.1.length*T0 n kZ<=16*T0 n kZ:=cD _ f.w;have hp:h.2.2.2.2.1.length*T0 n jT<=2*T0 n jT:=cD _ f.pl;have s:jX cS h=jX (.sl .str) h.1+(jX (.sl eG) h.2.1+((4+(jX jT h.2.2.1.2.1+(jX (.sl kZ) h.2.2.1.2.2.1+1)))+(jX (.sl dR) h.2.2.2.1+(jX (.sl jT) h.2.2.2.2.1+(jX (.sl gZ) h.2.2.2.2.2.1+(jX (.sl .bool) h.2.2.2.2.2.2.1+(jX Ag h.2.2.2.2.2.2.2.1+(jX pN h.2.2.2.2.2.2.2.2.1+(jX (.sl eD) h.2.2.2.2.2.2.2.2.2.1+(1+(jX (.sl .str) h.2.2.2.2.2.2.2.2.2.2.2.1+(jX (.sl (.int .i64)) h.2.2.2.2.2.2.2.2.2.2.2.2.1+(jX (.sl (.int .i64)) h.2.2.2.2.2.2.2.2.2.2.2.2.2.1+5))))))))))))):=by kernel_rfl
 have e1:jX (.sl .str) h.1<=n*1:=aF (ma z.1) (fY (by kernel_rfl));have e2:jX (.sl eG) h.2.1<=n*4:=aF (ma z.2.1) (fY (by kernel_rfl));have e3:=aF (ZS z.2.2.1.2.2.1.2) hw;have e4:jX (.sl dR) h.2.2.2.1<=n*30:=aF (ma z.2.2.2.1) (fY (by kernel_rfl));have e5:=aF (ZS z.2.2.2.2.1.2) hp;have e6:jX (.sl gZ) h.2.2.2.2.2.1<=n*6:=aF (ma z.2.2.2.2.2.1) (fY (by kernel_rfl));have e7:jX (.sl .bool) h.2.2.2.2.2.2.1<=n*1:=aF (ma z.2.2.2.2.2.2.1) (fY (by kernel_rfl));have e8:jX Ag h.2.2.2.2.2.2.2.1<=1+(1+n*1):=aF (ma z.2.2.2.2.2.2.2.1) (fY (by kernel_rfl));have e9:jX pN h.2.2.2.2.2.2.2.2.1<=T0 n pN:=ma z.2.2.2.2.2.2.2.2.1;have e10:jX (.sl eD) h.2.2.2.2.2.2.2.2.2.1<=n*8:=aF (ma z.2.2.2.2.2.2.2.2.2.1) (fY (by kernel_rfl));have e11:jX (.sl .str) h.2.2.2.2.2.2.2.2.2.2.2.1<=n*1:=aF (ma z.2.2.2.2.2.2.2.2.2.2.2.1) (fY (by kernel_rfl));have e12:jX (.sl (.int .i64)) h.2.2.2.2.2.2.2.2.2.2.2.2.1<=n*1:=aF (ma z.2.2.2.2.2.2.2.2.2.2.2.2.1) (fY (by kernel_rfl));have e13:jX (.sl (.int .i64)) h.2.2.2.2.2.2.2.2.2.2.2.2.2.1<=n*1:=aF (ma z.2.2.2.2.2.2.2.2.2.2.2.2.2.1) (fY (by kernel_rfl));have e14:jX jT h.2.2.1.2.1<=1+(1+(1+n*1)):=aF (ma z.2.2.1.2.1) (fY (by kernel_rfl));have q1:T0 n kZ=1+(1+n*1):=by kernel_rfl
 have q2:T0 n jT=1+(1+(1+n*1)):=by kernel_rfl
 have q3:T0 n pN=n*9+(n*7+(1+n*1)):=by kernel_rfl
 rw[s];omega
def aok (a:Act):au Bool:=
 aa (aa (some (du a.1 0 6)) λr1=>cond (!r1) (some true) (some (decide ((a.2.2.2.2.1.length:Int)>600)))) λq2=>
 cond q2 (some false) (
 aa (cond (a.1 !=0) (cond (!((a.2.1.1==0)&&((a.2.1.2.1==0)&&((a.2.1.2.2.1==0)&&((a.2.1.2.2.2.1==0)&&((a.2.1.2.2.2.2.1==0)&&((a.2.1.2.2.2.2.2.1==0)&&((a.2.1.2.2.2.2.2.2.1==0)&&((a.2.1.2.2.2.2.2.2.2.1==0)&&((a.2.1.2.2.2.2.2.2.2.2.1==0)&&((a.2.1.2.2.2.2.2.2.2.2.2.1==0)&&((a.2.1.2.2.2.2.2.2.2.2.2.2.1==0)&&((a.2.1.2.2.2.2.2.2.2.2.2.2.2.1==0)&&((a.2.1.2.2.2.2.2.2.2.2.2.2.2.2.1==0)&&((a.2.1.2.2.2.2.2.2.2.2.2.2.2.2.2.1==0)&&((a.2.1.2.2.2.2.2.2.2.2.2.2.2.2.2.2.1==0)&&((a.2.1.2.2.2.2.2.2.2.2.2.2.2.2.2.2.2==([]:Bytes))&&true))))))))))))))))) (some true) (cond (a.2.2.1 !=0) (some true) (some (a.2.2.2.1 !=0)))) (some false)) λq3=>
 cond q3 (some false) (
 aa (cond (a.1==2) (cond (a.1==5) (some true) (some (a.2.2.2.2.2==0))) (cond (a.2.2.2.2.1==([]:Bytes)) (cond (a.1==5) (some true) (some (a.2.2.2.2.2==0))) (some false))) λq4=>some q4))
theorem aiD (a:Act):∃b,aok a=some b:=by simp_all[aok,ch]
def Rs (a:Act):Bool:=(aok a).getD false
theorem ahr (a:Act):aok a=some (Rs a):=by obtain⟨b,hb⟩:=aiD a;simp[Rs,hb]
theorem aij (a:Act):CZ a=some (Rs a):=by rw[<-ahr];unfold CZ;rw[cm];rfl
theorem ahO (a:Act):GQ a=some (Rs a):=by rw[<-ahr];unfold GQ;rw[cr];rfl
theorem D8.tx {n:Nat}(k:D8 n h)(hn:n<=10^9):aeR h.2.2.1:=
 have z:bt 1000000000 cS h:=k.z.mono hn
 ⟨z.2.2.1.2.1.2.2.2.1,z.2.2.1.2.2.1.1,λx hx=>(z.2.2.1.2.2.1.2 x hx).2.2.1⟩
def LB (h:Host)(p:aR)(c z:Int):Host×Bool:=
 bif fy h then(((IP h.2.1 h.1 0 h.2.2.1 p c z).1,h.2.1,(IP h.2.1 h.1 0 h.2.2.1 p c z).2.1,h.2.2.2),(IP h.2.1 h.1 0 h.2.2.1 p c z).2.2) else(h,false)
theorem ajt (h:Host)(p:aR)(c z:Int)(k:D8 900000000 h):Dm h p c z=some (LB h p c z):=by have zz:bt 1000000000 cS h:=k.z.mono;unfold Dm LB;rw[ko h zz,ab,As h (k.sz),ab];cases fy h;rfl;simp only[ai,ae,af,aju _ _ _ _ _ _ _ zz.2.1.1 zz.1.1 (k.tx (by omega)) zz.2.2.1.2.2.1.1 (aF k.t (by omega)),ab]
theorem akA (h:Host)(p:aR)(c z:Int)(k:D8 900000000 h):DS h p c z=some (LB h p c z):=by have zz:bt 1000000000 cS h:=k.z.mono;unfold DS LB;rw[kz h zz,ab,vw h (k.sz),ab];cases fy h;rfl;simp only[ai,ae,af,akB _ _ _ _ _ _ _ zz.2.1.1 zz.1.1 (k.tx (by omega)) zz.2.2.1.2.2.1.1 (aF k.t (by omega)),ab]
theorem Yb {n:Nat}(hn:128<=n)(l:ar aC)(d:Int)(p:cJ)(z:Nat):∀(q:cI)(s:Bytes)(m:bp)(a:ar fH){x},bt n (.sl .str) m->Fb l d p z q s m a=some x->bt n (.sl .str) x.2
 |[],s,m,a,x,hm,h=>by cases h;exact hm
 |b::q,s,m,a,x,hm,h=>by rw[Fb]at h;cases hq:(oQ l m d (nq p b) (s.take z) false).2 with|false=>grind|true=>rw[hq]at h;exact Yb hn l d p z q _ _ _ (MH hn hm ..) h
theorem Tb {n:Nat}(hn:128<=n)(l:ar aC)(d:Int):∀(q:bp)(m:bp)(r:kl){x},bt n (.sl .str) m->FN l d q m r=some x->bt n (.sl .str) x.1
 |[],m,r,x,hm,h=>by cases h;exact hm
 |s::q,m,r,x,hm,h=>by rw[FN]at h;cases hq:(dW l m d r s).2.2 with|false=>grind|true=>rw[hq]at h;exact Tb hn l d q _ _ (QG hn hm ..) h
theorem adw {n:Nat}(hn:128<=n){q:bp}{r:kl}(hm:bt n (.sl .str) m):bt n (.sl .str) (BO l m d r q).1:=by unfold BO;cases hx:FN l d q m r with|none=>exact hm|some x=>exact Tb hn l d q m r hm hx
theorem akX (p:cJ)(n:Int):(mw p n).1.2.2.2.length+(mw p n).2.1.length=p.2.2.2.length:=by grind[mw]
theorem aiK (a:ar ie)(x:ie):(cG (a++[x])).length=(cG a).length+x.2.2.length:=by simp[cG]
theorem adK:∀l:ar ie,(∀x∈l,1<=x.2.1)->(l.length:Int)<=eK l
 |[],_=>by simp[eK]
 |y::l,h=>by have h1:=adK l (λx hx=>h x (dK _ hx));grind[eK]
structure apJ (n:Nat) (m:List Bytes) (t:bX) (r:List Bytes×bX×Bool):Prop where
 mem:bt n (.sl .str) r.1
 tx:bt (n+1) uz r.2.1
 sum:r.2.1.2.1.2.2.2.length+(cG r.2.1.2.2.1).length<=n
 w:r.2.1.2.2.1.length<=16\/r.2.1.2.2.1=t.2.2.1
theorem Za {n:Nat}(hn:128<=n){c z:Int}(d:Int)(hm:bt n (.sl .str) m)(ht:bt n uz t)(hs:t.2.1.2.2.2.length+(cG t.2.2.1).length<=n):apJ n m t (IP l m d t p c z):=by
 have old:apJ n m t (m,t,false):=⟨hm,ht.mono,hs,Or.inr rfl⟩
 unfold IP;cases hg:Tv t&&(dL p&&(du z 1 t.2.1.2.1&&du c 1 128));exact old;simp only[ah]at hg;simp only[af];generalize uB p z.toNat=k;cases hk:ab5 t k;exact old;simp only[af];rcases hx:Fb l d t.2.1 z.toNat (mw t.2.1 (k:Int)).2.1 (jO p).1 m []with _|x;exact old;simp only;unfold aif;have hpm:=adw (n:=n) hn (l:=l) (d:=d) (q:=(rb x.1 c t.2.2.2).map Fl) (r:=t.1) (Yb hn l d t.2.1 z.toNat _ _ _ _ hm hx);generalize BO l x.2 d t.1 ((rb x.1 c t.2.2.2).map Fl)=w at hpm⊢;cases w.2.2;exact old;have hl:=akX t.2.1 (k:Int);have hb:=aiK t.2.2.1 (t.2.2.2,(k:Int)+1,(mw t.2.1 (k:Int)).2.1);have hb:(cG (t.2.2.1++[(t.2.2.2,(k:Int)+1,(mw t.2.1 (k:Int)).2.1)])).length=(cG t.2.2.1).length+(mw t.2.1 (k:Int)).2.1.length:=hb;refine⟨hpm,⟨⟨bF,bF,bF,bF⟩,⟨bF,bF,bF,?_,λ_ _=>trivial⟩,?_,bF⟩,?_,Or.inl ?_⟩;show(mw t.2.1 (k:Int)).1.2.2.2.length<=n+1;omega;exact Ji (t:=kZ) (k:=1) ht.2.2.1 (λy hy=>by rw[dC.1 hy];exact⟨bF,bF,by show(mw t.2.1 (k:Int)).2.1.length<=n;omega,λ_ _=>trivial⟩) (by simp);show(mw t.2.1 (k:Int)).1.2.2.2.length+(cG (t.2.2.1++[(t.2.2.2,(k:Int)+1,(mw t.2.1 (k:Int)).2.1)])).length<=n;omega;show(t.2.2.1++[_]).length<=16;have hq:=hg.1;simp only[Tv,ah]at hq;have hrg:=tY hq.1;have hc:=adK t.2.2.1 (λx hx=>by have:=aP.1 hq.2.2.2.1 x hx;simp only[jR,ah,bq]at this;omega);unfold ab5 at hk;simp only[ah,aW,cM]at hk;rw[ay,aS];omega
theorem anD {n:Nat}(hn:1000<=n)(p:aR)(c z:Int)(k:D8 n h):D8 (n+1) (LB h p c z).1:=by unfold LB;cases fy h;exact k.mono;have zz:=k.z;have s:=Za (by omega) (l:=h.2.1) (p:=p) (c:=c) (z:=z) 0 zz.1 zz.2.2.1 k.t;have z1:bt (n+1) cS h:=zz.mono;exact⟨⟨s.mem.mono,z1.2.1,s.tx,z1.2.2.2⟩,aF s.sum (by omega)⟩
theorem alS {n:Nat}(hn:1000<=n)(p:aR)(c z:Int)(k:D8 n h)(f:PB h):PB (LB h p c z).1:=by unfold LB;cases fy h;exact f;have s:=Za (by omega) (l:=h.2.1) (p:=p) (c:=c) (z:=z) 0 k.z.1 k.z.2.2.1 k.t;refine⟨f.pl,?_⟩;rcases s.w with w|w;exact w;show(IP h.2.1 h.1 0 h.2.2.1 p c z).2.1.2.2.1.length<=16;rw[w];exact f.w
theorem abY {n:Nat}(hn:1000<=n)(x:Bytes)(k:D8 n h)(f:PB h):PB (qD h x):=by have:=MJ hn x k;exact⟨by rw[this.2.2];exact f.pl,by rw[this.2.1];exact f.w⟩
theorem Tc (h:Host):∀k,(fC h k).2.2.1=h.2.2.1
 |0=>rfl
 |k+1=>by show(Hs k (fC h k)).2.2.1=_;rw[<-Tc h k];grind[Hs]
theorem Sh {n:Nat}(hn:1000<=n)(k:D8 n h)(f:PB h):D8 (n+645000) (BR h)/\PB (BR h):=by
 unfold BR;cases hb:fy h;exact⟨k.mono,f⟩;have hl:=px (O3 hb);have e:=L6 hn k.z hl.1;have hw:=f.w;have hp:=Hq (n:=n) (by omega) k.z h.2.2.2.1.length;have ht:=(zX (n:=n+322000*h.2.2.2.1.length) (h:=h) hp.2 h.2.2.1.2.2.1.length).1.e;have h4:=BL 256 128 8;simp only[af];have hx:=Tc (vL h) h.2.2.2.1.length;have hk:=(ye (vL h) h.2.2.2.1.length).pl;have HF:(vL h).2.2.2.2.1.length=h.2.2.2.2.1.length:=by show(returned h h.2.2.1.2.2.1.length).2.2.2.2.1.length=_;rw[ht];exact hp.1.pl
 refine⟨⟨(FO (by omega) e _).mono,?_⟩,?_,?_⟩;rw[hx];show(mP 256 128 8).1.2.2.2.length+0<=_;omega;rw[hk,HF];exact f.pl;rw[hx];show 0<=16;omega
def alT (f:gM):ar Stream->Int->Int
 |[],_=> -1
 |s::r,i=>if s.1=f then i else alT f r (i+1)
def ali (a b:ar Stream)(f:gM):Bool:=
 match idx a (alT f a 0),idx b (alT f b 0)with
 |some x,some y=>decide (x=y)
 |_,_=>false
def aAy (b:Bool):Int:=bif b then 1 else 0
def TB (h:Host)(a:Act):Host×Int:=
 bif !fy h|| !Rs a then(h, -1) else
 bif a.1==0 then((LB h a.2.1 a.2.2.1 a.2.2.2.1).1,aAy (LB h a.2.1 a.2.2.1 a.2.2.2.1).2) else
 bif a.1==1 then(gY h,0) else
 bif a.1==2 then(qD h a.2.2.2.2.1,0) else
 bif a.1==3 then(JV h,0) else
 bif a.1==4 then(EE h,0) else
 bif a.1==5 then BS h a.2.2.2.2.2 else(BR h,0)
theorem ajj (h:Host)(a:Act)(k:D8 90000000 h)(hx:a.2.2.2.2.1.length<=10^9):J4 h a=some (TB h a):=by
 have z:bt 1000000000 cS h:=k.z.mono;unfold J4 TB;rw[As h (k.sz),ab,ahO,ab];cases fy h;simp only[bB,af,jB,ab,ko h z];cases Rs a;simp only[ai,bB,af,ae,jA,ab,ko h z];simp only[ai,ae,bO,ab,ajt h _ _ _ (k.mono),Qq h (k.mono),Ql h _ (k.mono) hx,afK h (k.mono),acV h (k.sz) z,acR h _ (k.mono),Og h (k.sz) (k.z.mono)];cases a.1==0;case true=>(simp only[af];cases (LB h a.2.1 a.2.2.1 a.2.2.2.1).2<;>rfl)
 cases a.1==1;all_goals grind
theorem akt (h:Host)(a:Act)(k:D8 90000000 h)(hx:a.2.2.2.2.1.length<=10^9):KO h a=some (TB h a):=by
 have z:bt 1000000000 cS h:=k.z.mono;unfold KO TB;rw[vw h (k.sz),ab,aij,ab];cases fy h;simp only[bB,af,jB,ab,kz h z];cases Rs a;simp only[ai,bB,af,ae,jA,ab,kz h z];simp only[ai,ae,bO,ab,akA h _ _ _ (k.mono),Q4 h (k.mono),Q0 h _ (k.mono) hx,agN h (k.mono),aec h (k.sz) z,ad9 h _ (k.mono),Oz h (k.sz) (k.z.mono)];cases a.1==0;case true=>(simp only[af];cases (LB h a.2.1 a.2.2.1 a.2.2.2.1).2<;>rfl)
 cases a.1==1;all_goals grind
theorem aol {n:Nat}(hn:1000<=n)(a:Act)(k:D8 n h)(f:fy h=true\/PB h):D8 (n+645000) (TB h a).1/\(fy h=true\/PB h->PB (TB h a).1\/(TB h a).1=h):=by
 have f:PB h:=f.elim alQ id;unfold TB;cases !fy h|| !Rs a;case true=>exact⟨k.mono,λ_=>Or.inr rfl⟩
 simp only[ae];cases a.1==0;case true=>exact⟨(anD hn _ _ _ k).mono,λ_=>Or.inl (alS hn _ _ _ k f)⟩
 cases a.1==1;case true=>exact⟨(F9 (by omega) k).mono,λ_=>Or.inl (PU f)⟩
 cases a.1==2;case true=>exact⟨(MJ hn _ k).1.mono,λ_=>Or.inl (abY hn _ k f)⟩
 cases a.1==3;case true=>exact⟨(ai4 hn k).mono,λ_=>Or.inl (ai0 f)⟩
 cases a.1==4;case true=>exact⟨(aes hn k).mono,λ_=>Or.inl (abZ f)⟩
 cases a.1==5 with|true=>exact⟨(adN hn _ k).mono,λ_=>Or.inl (ai1 _ f)⟩|false=>grind[Sh]
theorem alg {n:Nat}(hn:1000<=n)(a:Act)(k:D8 n h)(f:PB h):D8 (n+645000) (TB h a).1/\PB (TB h a).1:=by grind[aol]
theorem alW {n:Int}{l:cI}:(range l.length).all (Md n l)=true↔(∀x∈l,0<=x/\x<=n-1)/\l.Nodup:=by
 rw[aP];constructor;intro h;have k:∀i (hi:i<l.length),(0<=l[i]/\l[i]<=n-1)/\l[i]∉l.take i:=by intro i hi;have:=h i (bU.2 hi);unfold Md at this;rw[dx hi,ah,bq]at this;exact⟨this.1,by simpa using this.2⟩
 refine⟨λx hx=>?_,?_⟩;obtain⟨i,hi,rfl⟩:=List.getElem_of_mem hx;exact(k i hi).1;rw[List.Nodup,List.pairwise_iff_getElem];intro i j hi hj hij he;refine(k j hj).2 ?_;rw[<-he];exact List.mem_take_iff_getElem.2 ⟨i,by omega,rfl⟩;rintro⟨h1,h2⟩ i hi;have hi:=bU.1 hi;unfold Md;rw[dx hi,ah,bq];refine⟨h1 _ (aE hi),?_⟩;have:l[i]∉l.take i:=by intro hm;obtain⟨j,hj,he⟩:=List.mem_take_iff_getElem.1 hm;rw[List.Nodup,List.pairwise_iff_getElem]at h2;exact h2 j i (by omega) hi (by omega) he
 simpa using this
theorem anm {p:cJ}:ga p=true↔(0<=p.1/\p.1<=130944)/\(1<=p.2.1/\p.2.1<=512)/\(0<=p.2.2.1/\p.2.2.1<=16)/\(∀x∈p.2.2.2,0<=x/\x<=p.2.2.1-1)/\p.2.2.2.Nodup:=by grind[ga,bq,alW]
theorem ann {p:cJ}(h:ga p=true){l:cI}(hl:l.Sublist p.2.2.2):ga (p.1,p.2.1,p.2.2.1,l)=true:=by grind[anm]
theorem adL {n:Int}{s:ie}:jR n s=true↔(1<=s.2.1/\s.2.1<=n)/\0<=s.1/\s.1<=65535:=by grind[jR,bq]
structure aoj (t:bX):Prop where
 ring:fT t.1=true
 next:0<=t.2.2.2/\t.2.2.2<=65535
 sent:∀x∈t.2.2.1,(1<=x.2.1/\x.2.1<=t.1.2.1)/\0<=x.1/\x.1<=65535
 pool:ga (Uf t.2.1 (cG t.2.2.1))=true
 jX:eK t.2.2.1<=t.1.2.1
theorem aoj.free (h:aoj t):ga t.2.1=true:=ann h.pool (List.sublist_append_left _ _)
theorem aq6:Tv t=true↔aoj t:=by constructor;intro h;unfold Tv at h;simp only[ah,bq,aP,adL,bK]at h;obtain⟨h1,h2,h3,h4,h5,h6⟩:=h;unfold PZ at h5;simp only[ah]at h5;exact⟨h1,h3,h4,h5.2,h6⟩;·intro h;unfold Tv PZ;simp only[ah,bq,aP,adL,bK];exact⟨h.ring,h.free,h.next,h.sent,⟨h.free,h.pool⟩,h.jX⟩
theorem adq (p:aR):fX p=true↔Mh p=true/\p.2.2.2.2.2.2.2.2.2.2.2.2.2.2.2.length<=128:=by grind[fX,dL]
structure aeO (n:Int) (r:bk):Prop where
 ring:fT r.1=true
 dev:iG r.2.1=true
 drv:iG r.2.2.1=true
 base:r.2.1.1=r.2.2.1.1
 size:r.2.1.2.1=r.2.2.1.2.1
 drop:0<=r.2.2.2.2.2/\r.2.2.2.2.2<=n
 held:r.2.2.2.2.1=true->dL r.2.2.2.1.1=true/\(0<=r.2.2.2.1.2.1/\r.2.2.2.1.2.1<=320)/\1<=r.2.2.2.1.2.2/\r.2.2.2.1.2.2<=320
 free:r.2.2.2.2.1=false->r.2.2.2.1=akT
theorem anz (r:bk):QK r=true↔aeO 1000000000000 r:=by constructor;intro h;unfold QK at h;simp only[ah,bn,bq]at h;obtain⟨⟨h1,h2,h3,h4,h5,h6⟩,h7⟩:=h;refine⟨h1,h2,h3,h4,h5,h6,λhh=>?_,λhh=>?_⟩;rw[hh,af]at h7;simp only[ah,bq]at h7;exact⟨h7.1,h7.2.1,h7.2.2⟩;rw[hh,ae]at h7;exact(anV _).1 h7;intro h;unfold QK;simp only[ah,bn,bq];refine⟨⟨h.ring,h.dev,h.drv,h.base,h.size,h.drop⟩,?_⟩;cases hh:r.2.2.2.2.1 with|true=>have:=h.held hh;simp only[af,ah,bq];exact⟨this.1,this.2.1,this.2.2⟩|false=>exact(anV _).2 (h.free hh)
theorem aeO.mono {n m:Int}(h:aeO n r)(hn:n<=m:=by omega):aeO m r:=⟨h.ring,h.dev,h.drv,h.base,h.size,⟨h.drop.1,by have:=h.drop.2;omega⟩,h.held,h.free⟩
theorem aeO.rx {n:Int}(h:aeO n r)(hn:n<=1000000000000):QK r=true:=(anz r).2 (h.mono hn)
structure Good (n:Int) (h:Host):Prop where
 mem:iw h.1=true
 maps:fO h.2.1=true
 tx:aoj h.2.2.1
 flt:il h.2.2.2.2.2.2.2.1=true
 lens:zR h=true
 ste:jd h.2.2.2.2.2.2.2.2.1 (h.2.2.2.1.length:Int)=true
 rx:∀r∈h.2.2.2.1,aeO n r
 pool:∀p∈h.2.2.2.2.1,ga p=true
 vec:∀v∈h.2.2.2.2.2.1,uq v=true
 jX:∀x∈kK h,0<=x/\x<=n
theorem Good.mono {n m:Int}(g:Good n h)(hn:n<=m:=by omega):Good m h:=⟨g.mem,g.maps,g.tx,g.flt,g.lens,g.ste,λr hr=>(g.rx r hr).mono hn,g.pool,g.vec,λx hx=>⟨(g.jX x hx).1,by have:=(g.jX x hx).2;omega⟩⟩
theorem amh (h:Host):fy h=true↔Good 1000000000000 h:=by unfold fy Y4;simp only[ah,aP,bq,aq6,anz];constructor;rintro⟨h1,h2,h3,h4,h5,h6,⟨h7,h8,h9⟩,h10⟩;exact⟨h1,h2,h3,h4,h5,h6,h7,h8,h9,h10⟩;intro g;exact⟨g.mem,g.maps,g.tx,g.flt,g.lens,g.ste,⟨g.rx,g.pool,g.vec⟩,g.jX⟩
theorem Good.ok {n:Int}(g:Good n h)(hn:n<=1000000000000):fy h=true:=(amh h).2 (g.mono hn)
structure Ux (n:Int) (c:cn):Prop where
 apY:(gR c.2.2.1).2=true
 len:c.1.length=c.2.2.1.length/\c.2.1.length=c.2.2.1.length
 fns:jZ c.2.1 (gR c.2.2.1).1=true
 arp:¬pR c.2.2.2.1<0
 clock:Gw c.2.2.2.2.1=true
 host:∀(i:Nat)(h:Host)(b:bC),c.1[i]?=some h->c.2.2.1[i]?=some b->Good n h/\h.2.2.2.2.2.2.2.1=b.1
 place:∀i,i<c.1.length->MF c.2.1 i=true
 arq:∀b∈c.2.2.1,b.2.1<=n/\b.2.2.2<=n
 fnn:∀f∈c.2.1,f.2.2.2.2.1<=n/\f.2.2.2.2.2<=n
theorem Ux.mono {n m:Int}(g:Ux n c)(h:n<=m:=by omega):Ux m c:=⟨g.apY,g.len,g.fns,g.arp,g.clock,λi a b h1 h2=>⟨(g.host i a b h1 h2).1.mono h,(g.host i a b h1 h2).2⟩,g.place,λb hb=>⟨by have:=(g.arq b hb).1;omega,by have:=(g.arq b hb).2;omega⟩,λf hf=>⟨by have:=(g.fnn f hf).1;omega,by have:=(g.fnn f hf).2;omega⟩⟩
theorem Ux.ok {n:Int}(g:Ux n c)(hn:n<=1000000000000):gW c=true:=by
 unfold gW;rw[g.apY,g.fns,g.clock,aq g.arp];simp only[bB,bj];rw[ah,ah,aP,aP];refine⟨?_,?_,?_⟩;unfold Oj;rw[g.len.1,g.len.2];simp;intro i hi;have hi:=bU.1 hi;have hj:i<c.2.2.1.length:=by have:=g.len.1;omega
 rw[JK i hi hj];have q:=g.host i _ _ (al hi) (al hj);rw[q.1.ok hn,abP q.2];rfl;intro i hi;exact g.place i (bU.1 hi)
theorem map_take {β:Type}(f:α->β)(l:ar α)(i:Nat)(hi:i<l.length):(l.take i).map f++[f l[i]]=(l.take (i+1)).map f:=by grind[aO]
theorem ES (m:bC)(h:m.1.2.2.length<=10^9):mz m=some m:=by grind[mz,pT,ab]
theorem yJ (m:bC)(h:m.1.2.2.length<=10^9):sc m=some m:=by grind[sc,qE,ab]
theorem Od (l:ar bC)(h:l.length<=10^9)(hx:∀m∈l,m.1.2.2.length<=10^9):uO l=some l:=by unfold uO;refine(bz (λi=>(l.take i,(i:Int))) l.length (by omega) (λi nx hi=>?_) (λnx=>?_));simp only[tO];rw[gL,aN hi,aj (by omega) (by omega)];simp only[af,ab,ES _ (hx _ (aE hi))];rw[aQ (by simp;omega),<-aO hi];rfl;simp only[tO];rw[fG,bA];rfl
theorem Ar (l:ar az)(h:l.length<=10^9):ka l=some l:=by grind[ka,fb]
theorem UN (h:gW c=true):c.1.length=c.2.2.1.length/\c.2.1.length=c.2.2.1.length:=by grind[gW,Gi]
theorem Np {l:ar α}(h:k<l.length)(x:α):idx (l.set k x) (k:Int)=some x:=by rw[No,List.getElem?_set_self h]
theorem aph (l:ar α)(k:Nat)(x:α):(l.set k x).length=l.length:=aL ..
def Gv (f:Filter)(v:Int):Filter×Bool:=bif il f&&(!hasB f.2.2 v&&il (f.1,f.2.1,ins v f.2.2)) then((f.1,f.2.1,ins v f.2.2),true) else(f,false)
theorem acB (f:Filter)(v:Int)(h:f.2.2.length<=100000000):Fv f v=some (Gv f v):=by have hi:=Uc v f.2.2;simp only[Fv,pT f (by omega),uK f (by omega),HV f.2.2 v (by omega),ahP f.2.2 v (by omega),uK (f.1,f.2.1,ins v f.2.2) (show(ins v f.2.2).length<=10^9 by omega),ab,Gv];cases il f<;>cases hasB f.2.2 v<;>cases il (f.1,f.2.1,ins v f.2.2)<;>rfl
theorem ap9 {l:cI}(h:(range l.length).all (OH l)=true):∀(k j:Nat),j<k->k<l.length->l.getD j 0<l.getD k 0:=by
 rw[aP]at h;intro k;induction k with
 |zero=>intro j hj;omega
 |succ k ih=>
  intro j hj hk;have h1:=h (k+1) (bU.2 hk);simp only[OH,ah,aW,Bool.and_eq_false_iff,cM]at h1;have h2:¬l.getD (k+1) 0<=l.getD (k+1-1) 0:=by rcases h1.2 with h2|h2;omega;exact h2
  rw[Nat.add_sub_cancel]at h2;rcases bS j k with h3|h3;have:=ih j h3 (by omega);omega;have:j=k:=by omega
  subst this;omega
theorem aox (f:Filter)(v:Int)(hf:il f=true)(hv:hasB f.2.2 v=true)(q:Bool):il (f.1,q,f.2.2.take (f.2.2.findIdx (λx=> !decide (x<v)))++[v]++f.2.2.drop (f.2.2.findIdx (λx=> !decide (x<v))))=false:=by
 have azT:=ap9 (by simp only[il,ah]at hf;exact hf.1);generalize f.2.2=l at*;obtain⟨k,hk,hkv⟩:=List.mem_iff_getElem.1 (P0.1 hv);have hex:∃x∈l,(λx=> !decide (x<v)) x=true:=⟨l[k],aE hk,by simp[hkv]⟩
 have hj:=List.findIdx_lt_length_of_exists hex;have aAb:l.findIdx (λx=> !decide (x<v))<=k:=by rcases bS k (l.findIdx (λx=> !decide (x<v)))with h|h;have:=List.not_of_lt_findIdx h;simp[hkv]at this;exact h
 generalize l.findIdx (λx=> !decide (x<v))=j at*;have hle:l[j]<=v:=by
  rcases bS j k with h|h;have:=azT k j h hk;rw[dx hk,dx hj,hkv]at this;omega;have:j=k:=by omega
  subst this;omega
 rw[Bool.eq_false_iff];intro hb;simp only[il,ah,aP]at hb;have hlen:(l.take j++[v]++l.drop j).length=l.length+1:=by simp;omega
 have h1:=hb.1 (j+1) (bU.2 (by omega));have hl1:(l.take j++[v]).length=j+1:=by simp;omega
 have e1:(l.take j++[v]++l.drop j).getD (j+1) 0=l[j]:=by rw[List.getD_eq_getElem?_getD,bw (by omega),hl1,hZ,bR,dZ,al hj];rfl
 have e2:(l.take j++[v]++l.drop j).getD j 0=v:=by
  have ht:(l.take j).length=j:=by simp;omega
  rw[List.getD_eq_getElem?_getD,bI (by omega),bw (by omega),ht,hZ];rfl
 simp only[OH,ah,aW,Bool.and_eq_false_iff,cM,Nat.add_sub_cancel,e1,e2]at h1;rcases h1.2 with h2|h2;omega;exact h2 hle
theorem adT (f:Filter)(v:Int)(h:f.2.2.length<=100000000):FU f v=some (Gv f v):=by
 unfold FU;rw[qE f (by omega),ab]
 let K:=λy4=>aa (sub f.2.2 0 y4) λx5=>
     room (List.length ([]:cI)+List.length x5) (
     room (List.length (([])++x5)+List.length ([v])) (
     aa (sub f.2.2 y4 ((List.length f.2.2))) λx6=>
     room (List.length ((([])++x5)++([v]))+List.length x6) (
     aa (
      aa (gz f) λr7=>
      cond (!r7) (
       some true) (
       aa (gz (f.1,f.2.1,((([])++x5)++([v]))++x6)) λr8=>
       some (!r8))) λq9=>
     cond q9 (
      aa (some f) λsi=>
      some (si,false)) (
      some ((f.1,f.2.1,((([])++x5)++([v]))++x6),true)))))
 show aH (sD K v f (0,false,([])) f) fuel 0=_;rw[Ge (hit:=K) (fin:=K (f.2.2.length)) (λx=> !decide (x<v)) f.2.2 (by omega) (λi hi nx=>?hs) (λnx=>?hf)]
 case hs=>
  grind[sD,aN,aj,ab]
 case hf=>
  simp_all[sD]
 refine Eq.trans (ab3 (λx=> !decide (x<v)) K f.2.2) ?_;have e:=af1 v f.2.2;have d:=aox f v;grind[Uc,WB,Jz,ab,aQ,zw,Gv,il,P0]
def CE (f:Filter)(v:Int):Filter×Bool:=bif il f&&hasB f.2.2 v then((f.1,f.2.1,f.2.2.filter (λx=>x !=v)),true) else(f,false)
theorem SL (p:Int->Bool)(l:cI)(i:Nat)(hi:i<l.length):(l.take (i+1)).filter p=bif p l[i] then(l.take i).filter p++[l[i]] else(l.take i).filter p:=by grind[aO]
theorem Ld (p:Int->Bool)(l:cI)(i:Nat):((l.take i).filter p).length<=l.length:=aF (List.length_filter_le _ _) (by simp;omega)
theorem aal (f:Filter)(v:Int)(h:f.2.2.length<=10^9):Dg f v=some (CE f v):=by simp only[Dg,pT f h,uK f h,HV f.2.2 v h,ab,CE];cases il f;rfl;cases hasB f.2.2 v;rfl;refine(bz (λi=>((i:Int),f.1,f.2.1,(f.2.2.take i).filter (λx=>x !=v))) f.2.2.length (by omega) (λi nx hi=>?_) (λnx=>?_));have hl:=Ld (λx=>x !=v) f.2.2 i;simp only[vO];rw[gL,aN hi,aj (by omega) (by omega),SL _ _ i hi];simp only[af,ab];rw[aQ (by simp only[aS];omega)];cases f.2.2[i] !=v<;>rfl;simp only[vO];rw[fG,bA];rfl
theorem aa2 (f:Filter)(v:Int)(h:f.2.2.length<=10^9):DL f v=some (CE f v):=by simp only[DL,qE f h,zw f h,KL f.2.2 v h,ab,CE];cases il f;rfl;cases hasB f.2.2 v;rfl;refine(bz (λi=>((i:Int),f.1,f.2.1,(f.2.2.take i).filter (λx=>x !=v))) f.2.2.length (by omega) (λi nx hi=>?_) (λnx=>?_));have hl:=Ld (λx=>x !=v) f.2.2 i;simp only[wL];rw[gL,aN hi,aj (by omega) (by omega),SL _ _ i hi];simp only[af,ab];rw[aQ (by simp only[aS];omega)];cases f.2.2[i] !=v<;>rfl;simp only[wL];rw[fG,bA];rfl
def Ak (f:Filter)(m:Cx):Filter×Int:=
 bif m.2.1==1 then(bif il (m.2.2,f.2) then((m.2.2,f.2),1) else(f,0))
 else bif m.2.1==2 then(bif (Gv f m.2.2).2 then((Gv f m.2.2).1,1) else(f,0))
 else bif m.2.1==3 then(bif (CE f m.2.2).2 then((CE f m.2.2).1,1) else(f,0))
 else bif m.2.1==4 then(f,f.1) else(f,0)
theorem acF (f:Filter)(m:Cx)(h:f.2.2.length<=100000000):FB f m=some (Ak f m):=by grind[FB,pT,uK,acB,aal,ab,Ak]
theorem adW (f:Filter)(m:Cx)(h:f.2.2.length<=100000000):yZ f m=some (Ak f m):=by grind[yZ,qE,zw,adT,aa2,ab,Ak]
theorem ZU (f:Filter)(m:Cx){n:Nat}(h:f.2.2.length<=n)(hn:8<=n):(Ak f m).1.2.2.length<=n:=by grind[CE,il,Ak,Gv]
def tw (b:bC)(m:Cx):bC×Int:=
 bif xl b then(bif m.1==b.2.1 then(b,b.2.2.1) else bif m.1==b.2.1+1 then(((Ak b.1 m).1,m.1,(Ak b.1 m).2,b.2.2.2+1),(Ak b.1 m).2) else(b, -1)) else(b, -1)
theorem ac5 {b:bC}(h:xl b=true):0<=b.2.1/\b.2.1<=1000000000000/\0<=b.2.2.2/\b.2.2.2<=1000000000000:=by grind[xl,bq]
theorem afN (b:bC)(m:Cx)(h:b.1.2.2.length<=100000000):rn b m=some (tw b m):=by simp only[rn,ES b (by omega),acL b (by omega),acF b.1 m h,ab,tw,bne];cases hm:xl b with|false=>rfl|true=>have vG:=ac5 hm;grind[aj]
theorem agQ (b:bC)(m:Cx)(h:b.1.2.2.length<=100000000)(hm1:m.1<=9223372036854775807):rN b m=some (tw b m):=by
 simp only[rN,yJ b (by omega),ad5 b (by omega),adW b.1 m h,ab,tw,bne];cases hm:xl b with
 |false=>rfl
 |true=>
  have vG:=ac5 hm;rw[aj (n:=b.2.2.2+1) (by omega) (by omega)];by_cases h1:m.1=b.2.1;rw[bn.2 h1];rfl;have e1:=cz.2 h1;rw[e1];by_cases h2:m.1<=b.2.1;have e2:(m.1==b.2.1+1)=false:=cz.2 (by omega);rw[e2,ax h2];rfl;rw[aq h2,aj (by omega) (by omega)];have e3:(m.1-1==b.2.1)=(m.1==b.2.1+1):=by rw[dU,bn,bn];omega
  rw[e3];cases m.1==b.2.1+1<;>rfl
def xm (ms:ar bC)(k:Nat)(m:Cx):ar bC×Int:=
 match ms[k]? with
 |none=>(ms, -1)
 |some b=>bif (gR (ms.set k (tw b m).1)).2 then(ms.set k (tw b m).1,(tw b m).2)
  else(ms.set k (b.1,m.1,0,ak (b.2.2.2+1)),0)
theorem Mg (b:bC)(m:Cx){n:Nat}(h:b.1.2.2.length<=n)(hn:8<=n):(tw b m).1.1.2.2.length<=n:=by have:=ZU b.1 m h hn;grind[tw]
theorem Kw {l:ar α}{x y:α}(h:y∈l.set k x):y∈l\/y=x:=eR h
theorem RM (ms:ar bC)(k:Nat)(m:Cx)(hk:k<ms.length)(hl:ms.length<=10^9)(h:∀b∈ms,b.1.2.2.length<=100000000):tN ms (k:Int) m=some (xm ms k m):=by
 have hb:=h _ (aE hk);have hp:∀b∈ms.set k (tw ms[k] m).1,b.1.2.2.length<=10^9:=by grind[Mg]
 unfold tN xm;simp only[Od ms hl (λb hb=>by grind),aN hk,afN _ m hb,ab,al hk,aw,HW _ hp,ES ms[k] (by omega)];simp only[Np hk,ab,dF];grind
theorem Sq (ms:ar bC)(k:Nat)(m:Cx)(hk:k<ms.length)(hl:ms.length<=10^9)(h:∀b∈ms,b.1.2.2.length<=100000000)(hm1:m.1<=9223372036854775807):zb ms (k:Int) m=some (xm ms k m):=by
 have hb:=h _ (aE hk);have hp:∀b∈ms.set k (tw ms[k] m).1,b.1.2.2.length<=10^9:=by intro b ig;rcases Kw ig with h1|rfl;have:=h b h1;omega;have:=Mg ms[k] m hb (by omega);omega
 unfold zb xm;refine(bz (λi=>(ms.take i,(i:Int))) ms.length (by omega) (λi nx hi=>?_) (λnx=>?_));simp only[se];rw[gL,aN hi,aj (by omega) (by omega)];have:=h _ (aE hi);simp only[af,ab,yJ ms[i] (by omega)];rw[aQ (by simp;omega),<-aO hi];rfl;simp only[se];rw[fG,bA];simp only[ae,aN hk,agQ _ m hb hm1,ab,al hk,aw,Is _ hp,yJ ms[k] (show ms[k].1.2.2.length<=10^9 by omega)];simp only[Np hk,ab,dF];cases (gR (ms.set k (tw ms[k] m).1)).2<;>rfl
theorem Iv (ms:ar bC)(k:Nat)(m:Cx):(xm ms k m).1.length=ms.length:=by unfold xm;split;rfl;rename_i b _;cases (gR (ms.set k (tw b m).1)).2<;>exact aph ..
theorem OO (ms:ar bC)(k:Nat)(m:Cx){n:Nat}(hn:8<=n)(h:∀b∈ms,b.1.2.2.length<=n):∀b∈(xm ms k m).1,b.1.2.2.length<=n:=by
 intro b hb;unfold xm at hb;split at hb;exact h b hb;rename_i b0 Yi;have h0:=h b0 (bM Yi);cases hp:(gR (ms.set k (tw b0 m).1)).2 with
 |true=>rw[hp]at hb;rcases Kw hb with h1|rfl;exact h b h1;exact Mg b0 m h0 hn
 |false=>rw[hp]at hb;rcases Kw hb with h1|rfl;exact h b h1;exact h0
theorem vM (c:cn)(z:bt 1000000000 gB c):kx c=some c:=by have h0:=z.1.1;unfold kx;simp only[Ar _ z.2.1.1,Od _ z.2.2.1.1 (λm hm=>(z.2.2.1.2 m hm).1.2.2.1),mN,nB _ z.2.2.2.1.1,nP _ z.2.2.2.2.2.1.1,nB _ z.2.2.2.2.2.2.1,ab];refine(bz (λi=>((i:Int),c.1.take i,c.2)) c.1.length (by omega) (λi nx hi=>?_) (λnx=>?_));simp only[wq];rw[gL,aN hi,aj (by omega) (by omega)];simp only[af,ab,ko _ (z.1.2 _ (aE hi))];rw[aQ (by simp;omega),<-aO hi];rfl;simp only[wq];rw[fG,bA];rfl
theorem wH (c:cn)(z:bt 1000000000 gB c):ml c=some c:=by have h0:=z.1.1;have h1:=z.2.2.1.1;unfold ml;simp only[fb z.2.1.1,fb z.2.2.2.1.1,fb z.2.2.2.2.2.1.1,fb z.2.2.2.2.2.2.1,bH];refine(bz (λi=>((i:Int),c.1.take i,c.2.1,([]),c.2.2.2)) c.1.length (by omega) (λi nx hi=>?_) (λnx=>?_));simp only[zd];rw[gL,aN hi,aj (by omega) (by omega)];simp only[af,ab,kz _ (z.1.2 _ (aE hi))];rw[aQ (by simp;omega),<-aO hi];rfl;simp only[zd];rw[fG,bA];refine(bz (λi=>((i:Int),c.1,c.2.1,c.2.2.1.take i,c.2.2.2)) c.2.2.1.length (by omega) (λi nx hi=>?_) (λnx=>?_));simp only[ze];rw[gL,aN hi,aj (by omega) (by omega)];simp only[af,ab,yJ _ (z.2.2.1.2 _ (aE hi)).1.2.2.1];rw[aQ (by simp;omega),<-aO hi];rfl;simp only[ze];rw[fG,bA];rfl
def WU (h:Host)(f:Filter):Host:=(h.1,h.2.1,h.2.2.1,h.2.2.2.1,h.2.2.2.2.1,h.2.2.2.2.2.1,h.2.2.2.2.2.2.1,f,h.2.2.2.2.2.2.2.2)
def jm (c:cn)(a:Int)(m:Cx):cn×Int:=
 bif gW c&&du a 0 ((c.2.2.1.length:Int)-1) then
  (match c.1[a.toNat]?,(xm c.2.2.1 a.toNat m).1[a.toNat]? with
  |some h,some b=>((c.1.set a.toNat (WU h b.1),c.2.1,(xm c.2.2.1 a.toNat m).1,c.2.2.2),(xm c.2.2.1 a.toNat m).2)
  |_,_=>(c, -1))
 else(c, -1)
theorem TI (c:cn)(a:Int)(m:Cx)(z:bt 100000000 gB c)(k:Uv c):rl c a m=some (jm c a m):=by
 have z9:bt 1000000000 gB c:=z.mono;have hl:=z.2.2.1.1;unfold rl jm;simp only[vM c z9,Jd c k,cr,ab,ch];rw[aj (by omega) (by omega)];cases hc:gW c;rfl;cases ha:du a 0 ((c.2.2.1.length)-1);rfl;have hL:=UN hc;have vG:=bq.1 ha;obtain⟨n,rfl⟩:=aD vG.1;have hn:n<c.2.2.1.length:=by omega
 have HE:n<c.1.length:=by omega
 have hb:=RM c.2.2.1 n m hn (by omega) (λb hb=>(z.2.2.1.2 b hb).1.2.2.1);have hbl:=Iv c.2.2.1 n m;have LU:=OO c.2.2.1 n m (by omega) (λb hb=>(z.2.2.1.2 b hb).1.2.2.1);have Dc:n<(xm c.2.2.1 n m).1.length:=by omega
 have:=LU _ (aE Dc);simp only[ai,ae,cB,af,hb,ab,aN Dc,aN HE,pT (xm c.2.2.1 n m).1[n].1 (by omega),aw,al HE,al Dc];rfl
theorem TU (c:cn)(a:Int)(m:Cx)(z:bt 100000000 gB c)(k:Uv c)(hm1:m.1<=9223372036854775807):rL c a m=some (jm c a m):=by
 have z9:bt 1000000000 gB c:=z.mono;have hl:=z.2.2.1.1;unfold rL jm;simp only[wH c z9,Jx c k,ab,ch];have he:(cond (!gW c) true (cond (decide (a<0)) true (decide (a>=(c.2.2.1.length)))))= !(gW c&&du a 0 ((c.2.2.1.length)-1)):=by
  cases gW c;rfl;simp only[du,ai,ae,bj];by_cases h1:a<0;rw[ax h1,aq (show¬(0<=a) by omega)];rfl;rw[aq h1,ax (show(0<=a) by omega)];by_cases h2:a>=(c.2.2.1.length)
  rw[ax h2,fG];rfl;rw[aq h2,gL];rfl
 rw[he];cases hc:gW c;rfl;cases ha:du a 0 ((c.2.2.1.length)-1);rfl;have hL:=UN hc;have vG:=bq.1 ha;obtain⟨n,rfl⟩:=aD vG.1;have hn:n<c.2.2.1.length:=by omega
 have HE:n<c.1.length:=by omega
 have hb:=Sq c.2.2.1 n m hn (by omega) (λb hb=>(z.2.2.1.2 b hb).1.2.2.1) hm1;have hbl:=Iv c.2.2.1 n m;have LU:=OO c.2.2.1 n m (by omega) (λb hb=>(z.2.2.1.2 b hb).1.2.2.1);have Dc:n<(xm c.2.2.1 n m).1.length:=by omega
 have:=LU _ (aE Dc);simp only[ai,ae,cB,af,hb,ab,aN Dc,aN HE,qE (xm c.2.2.1 n m).1[n].1 (by omega),aw,al HE,al Dc];rfl
structure tt (ps:List Port):Prop where
 n:ps.length<=10^9
 v:∀p∈ps,p.2.1.length<=10^9
def ach (ps:ar Port)(e:Int)(p:aR):Bool:=lH ps&&(dL p&&du e 0 ((ps.length:Int)-1))
def abo (x:Port)(p:aR):Int:=bif p.2.2.1== -1 then x.2.2.1 else p.2.2.1
def lz (ps:ar Port)(e:Int)(p:aR):Int:=
 bif !ach ps e p then-1 else
 bif !hasB (ps.getD e.toNat oZ).2.1 (abo (ps.getD e.toNat oZ) p)||((e !=0)&&((ps.getD e.toNat oZ).2.2.2&&((ps.getD e.toNat oZ).1 !=p.2.1))) then-1 else abo (ps.getD e.toNat oZ) p
theorem aha (h:dL p=true):(decide (p.2.2.1<0))=(p.2.2.1== -1):=by grind[dL,Mh,bq]
theorem O7 (ps:ar Port)(e:Int)(p:aR)(z:tt ps):pW ps e p=some (lz ps e p):=by
 have hn:=z.n;unfold pW lz ach;rw[Nq ps hn z.v,ab];cases hp:lH ps;rfl;rw[nC,ab];cases hs:dL p;rfl;rw[aj (n:=(ps.length:Int)-1) (by omega) (by omega),cr];cases he:du e 0 ((ps.length:Int)-1);rfl;have h1:=bq.1 he;obtain⟨e,rfl⟩:=aD h1.1;have hl:e<ps.length:=by omega
 have hv:=z.v _ (aE hl);simp only[ai,ae,ab,cB,aN hl,aw,dx hl,HV _ _ hv,abo];cases p.2.2.1== -1<;>simp only[af,ae]<;>cases hasB ps[e].2.1 p.2.2.1<;>cases hasB ps[e].2.1 ps[e].2.2.1<;>cases (e:Int) !=0<;>cases ps[e].2.2.2<;>cases ps[e].1 !=p.2.1<;>rfl
theorem Pj (ps:ar Port)(e:Int)(p:aR)(z:tt ps):qK ps e p=some (lz ps e p):=by
 have hn:=z.n;unfold qK lz ach;rw[NF ps hn z.v,ab];cases hp:lH ps;rfl;rw[qG,ab];cases hs:dL p;rfl;rw[aj (n:=(ps.length:Int)-1) (by omega) (by omega),cm];cases he:du e 0 ((ps.length:Int)-1);rfl;have h1:=bq.1 he;obtain⟨e,rfl⟩:=aD h1.1;have hl:e<ps.length:=by omega
 have hv:=z.v _ (aE hl);rw[aha hs];simp only[ai,ae,ab,cB,aN hl,aw,dx hl,KL _ _ hv,abo];cases p.2.2.1== -1<;>simp only[af,ae]<;>cases hasB ps[e].2.1 p.2.2.1<;>cases hasB ps[e].2.1 ps[e].2.2.1<;>cases (e:Int) !=0<;>cases ps[e].2.2.2<;>cases ps[e].1 !=p.2.1<;>rfl
def IG (ps:ar Port)(o v:Int)(p:aR):aR:=
 bif lH ps&&(du o 0 ((ps.length:Int)-1)&&(hasB (ps.getD o.toNat oZ).2.1 v&&dL p)) then
  (bif v==(ps.getD o.toNat oZ).2.2.1 then(p.1,p.2.1, -1,p.2.2.2) else(p.1,p.2.1,v,p.2.2.2)) else pk0
theorem akx (ps:ar Port)(o v:Int)(p:aR)(z:tt ps):wQ ps o v p=some (IG ps o v p):=by
 have hn:=z.n;unfold wQ IG;rw[NF ps hn z.v,ab];cases hp:lH ps;rfl;rw[aj (n:=(ps.length:Int)-1) (by omega) (by omega),cm];cases he:du o 0 ((ps.length:Int)-1);rfl;have h1:=bq.1 he;obtain⟨o,rfl⟩:=aD h1.1;have hl:o<ps.length:=by omega
 have hv:=z.v _ (aE hl);simp only[ai,ae,ab,bj,aN hl,aw,dx hl,KL _ _ hv,qG];cases hasB ps[o].2.1 v<;>cases dL p<;>cases v==ps[o].2.2.1<;>rfl
theorem ajp (ps:ar Port)(o v:Int)(p:aR)(z:tt ps):vU ps o v p=some (IG ps o v p):=by
 have hn:=z.n;unfold vU IG;rw[Nq ps hn z.v,ab];cases hp:lH ps;rfl;rw[aj (n:=(ps.length:Int)-1) (by omega) (by omega),cr];cases he:du o 0 ((ps.length:Int)-1);rfl;have h1:=bq.1 he;obtain⟨o,rfl⟩:=aD h1.1;have hl:o<ps.length:=by omega
 have hv:=z.v _ (aE hl);simp only[ai,ae,ab,bj,aN hl,aw,dx hl,HV _ _ hv,nC];cases hasB ps[o].2.1 v<;>cases dL p<;>cases v==ps[o].2.2.1<;>rfl
def Oi (ps:ar Port)(e v:Int)(j:Nat):Bool:=((j:Int) !=e)&&hasB (ps.getD j oZ).2.1 v
def kj (l:ei):cI:=l.map Int.ofNat
def bcB (p:aR):Bool:=p.1==281474976710655
theorem SK {q:Nat->Bool}(l:ei)(i:Nat)(hi:i<l.length):(l.take (i+1)).filter q=bif q l[i] then(l.take i).filter q++[l[i]] else(l.take i).filter q:=by grind[aO]
theorem U5 {q:Nat->Bool}(l:ei)(i:Nat):((l.take i).filter q).length<=l.length:=aF (List.length_filter_le _ _) (by simp;omega)
theorem VB (ps:ar Port)(e v:Int)(l:ei)(hl:l.length<=10^9)(hb:∀j∈l,j<ps.length)(z:tt ps): aH (gH (λ(y7:cI) (y8:Int)=>some y7) ps e v (kj l) ((kj l).length:Int)) fuel (([]:cI),0)=some (kj (l.filter (Oi ps e v))):=by
 refine bz (λi=>(kj ((l.take i).filter (Oi ps e v)),(i:Int))) l.length (by omega) (λi nx hi=>?_) (λnx=>?_);have hj:=hb _ (aE hi);have hv:=z.v _ (aE hj);have SU:i<(kj l).length:=by simpa[kj]using hi
 have e1:(kj l)[i]'SU=(l[i]:Int):=by simp[kj]
 have hf:=U5 (q:=Oi ps e v) l i;simp only[gH];rw[ax (by simpa[kj]using hi),aN SU,e1,aj (by omega) (by omega)];simp only[af,ab,aN hj,HV _ _ hv];rw[SK l i hi,Oi,dx hj];have hr:∀k:au cI,room (List.length (kj ((l.take i).filter (Oi ps e v)))+List.length ([(l[i]:Int)])) k=k:=λk=>aQ (by simp only[kj,bW,aS];omega);cases (l[i]:Int) !=e with|false=>rfl|true=>cases hasB ps[l[i]].2.1 v with|false=>rfl|true=>simp only[af,ab,cB];rw[hr];simp[kj]
 simp only[gH];rw[aq (by simp[kj]),bA];rfl
def GM (ps:ar Port)(p:aR):Nat->Nat
 |0=>0
 |i+1=>bif (ps.getD (i+1) oZ).1==p.1 then i+1 else GM ps p i
def Ck (ps:ar Port)(e:Int)(p:aR):ei:=
 (range ps.length).filter λj=>Oi ps e (lz ps e p) j&&((j==GM ps p (ps.length-1))||bcB p)
def KT (ps:ar Port)(e:Int)(p:aR):cI:=bif decide (lz ps e p<0) then [] else kj (Ck ps e p)
theorem Tk (ps:ar Port)(e:Int)(p:aR)(z:tt ps):oH ps e p=some (KT ps e p):=by
 have hn:=z.n;unfold oH KT;rw[Pj ps e p z,ab];cases hd:decide (lz ps e p<0);case true=>rfl
 have hp:lH ps=true:=by cases hp:lH ps with|true=>rfl|false=>unfold lz ach at hd;rw[hp]at hd;simp at hd
 have h1:1<=ps.length:=by simp only[lH,ah,bq]at hp;omega
 simp only[ae];refine bz (λi=>((GM ps p i:Int),((i+1:Nat):Int))) (ps.length-1) (by omega) (λi nx hi=>?_) (λnx=>?_);have hj:i+1<ps.length:=by omega
 simp only[oI];rw[gL,aN hj,aj (by omega) (by omega),GM,dx hj];simp only[af,ab];cases ps[i+1].1==p.1<;>rfl
 ·simp only[oI];rw[fG,ae];generalize hv:lz ps e p=v;have hsw:Ck ps e p=(range ps.length).filter λj=>Oi ps e v j&&((j==GM ps p (ps.length-1))||bcB p):=by rw[Ck,hv]
  rw[hsw];generalize hq:(λj=>Oi ps e v j&&((j==GM ps p (ps.length-1))||bcB p))=q;refine bz (λi=>(kj (((range ps.length).take i).filter q),(i:Int))) ps.length (by omega) (λi nx hi=>?_) (λnx=>?_)
  ·have hvv:=z.v _ (aE hi);have SU:i<(range ps.length).length:=by simpa using hi
   have hf:=U5 (q:=q) (range ps.length) i;simp only[ni];rw[gL,aN hi,aj (by omega) (by omega)];simp only[af,ab,KL _ _ hvv];rw[SK (range ps.length) i SU,List.getElem_range];have eq:q i=(((i:Int) !=e)&&hasB ps[i].2.1 v&&(((i:Int)==(GM ps p (ps.length-1):Int))||(p.1==281474976710655))):=by rw[<-hq];simp only[Oi,dx hi,bcB];congr 2;rw[dU,bn,bn];omega
   have hr:∀k:au cI,room (List.length (kj (((range ps.length).take i).filter q))+List.length ([(i:Int)])) k=k:=λk=>aQ (by simp only[kj,bW,aS];rw[List.length_range]at hf;omega);rw[eq];cases (i:Int) !=e;rfl;cases hasB ps[i].2.1 v;rfl;simp only[af,ab,bj];cases ((i:Int)==(GM ps p (ps.length-1):Int))<;>cases p.1==281474976710655<;>simp only[af,ae,ab,bO,jA,jB]<;>first|rfl|(rw[hr];simp[kj])
  simp only[ni];rw[fG,bN (by simp)];rfl
theorem Ye (q:Nat->Bool):∀l:ei,(JU q l= -1/\∀j∈l,q j=false)\/∃j∈l,q j=true/\JU q l=(j:Int)
 |[]=> .inl ⟨rfl,by simp⟩
 |j::l=>by rw[JU];cases hj:q j with|true=>grind|false=>simp only[ae];rcases Ye q l with⟨h1,h2⟩|⟨k,h1,h2,h3⟩;all_goals grind
theorem Vs:∀i,(∀j,1<=j->j<=i->((ps.getD j oZ).1==p.1)=false)->GM ps p i=0
 |0,_=>rfl
 |i+1,h=>by rw[GM,h (i+1) (by omega) (by omega)];exact Vs i λj h1 h2=>h j h1 (by omega)
theorem Yn (hk:1<=k)(h:((ps.getD k oZ).1==p.1)=true):∀i,k<=i->(∀j,1<=j->j<=i->((ps.getD j oZ).1==p.1)=true->j=k)->GM ps p i=k
 |0,hi,_=>by omega
 |i+1,hi,hu=>by rw[GM];by_cases he:k=i+1;rw[<-he,h];rfl;cases hq:(ps.getD (i+1) oZ).1==p.1 with|true=>grind|false=>exact Yn hk h i (by omega) λj h1 h2=>hu j h1 (by omega)
theorem ah1 (hp:lH ps=true){i j:Nat}(h1:1<=i)(hij:i<j)(hj:j<ps.length):((ps.getD i oZ).1==(ps.getD j oZ).1)=false:=by simp only[lH,ah,aP,bU,V5,aW]at hp;grind
theorem filter_one {q:Nat->Bool}{n:Nat}(hk:k<n):(range n).filter (λj=>q j&&(j==k))=[k].filter q:=by
 have h1:(range n).filter (λj=>j==k)=[k]:=by
  induction n with
  |zero=>omega
  |succ n ih=>
   rw[List.range_succ,List.filter_append];by_cases he:k=n;subst he;have:(range k).filter (λj=>j==k)=[]:=by rw[List.filter_eq_nil_iff];intro j hj;have:=bU.1 hj;simp;omega
   rw[this];simp;rw[ih (by omega)];have:([n]:ei).filter (λj=>j==k)=[]:=by simp;omega
   rw[this];rfl
 have h2:(λj=>q j&&(j==k))=λj=>q j&&(λj=>j==k) j:=rfl;rw[h2,<-List.filter_filter,h1]
theorem Mt (ps:ar Port)(e:Int)(p:aR)(z:tt ps):oa ps e p=some (KT ps e p):=by
 have hn:=z.n;unfold oa KT;rw[O7 ps e p z,ab];cases hd:decide (lz ps e p<0);case true=>rfl
 have hp:lH ps=true:=by cases hp:lH ps with|true=>rfl|false=>unfold lz ach at hd;rw[hp]at hd;simp at hd
 have h1:1<=ps.length/\ps.length<=8:=by simp only[lH,ah,bq]at hp;omega
 have aAa:∀j,j<ps.length->(ps.getD j oZ).1<=281474976710654:=by intro j hj;simp only[lH,ah,aP,bU,V5,Ug,il,bq]at hp;exact(hp.2 j hj).1.1.2.1.2
 simp only[ae,acX ps p.1 hn,ab];generalize hv:lz ps e p=v;have hsw:Ck ps e p=(range ps.length).filter λj=>Oi ps e v j&&((j==GM ps p (ps.length-1))||bcB p):=by rw[Ck,hv]
 rw[hsw];have aql:bcB p=true->∀j,j<ps.length->((ps.getD j oZ).1==p.1)=false:=by
  intro hb j hj;have:=aAa j hj;have hb:p.1=281474976710655:=by simpa[bcB]using hb
  rw[hb,cz];omega
 rcases Ye (λj=>(j !=0)&&((ps.getD j oZ).1==p.1)) (List.range' 0 ps.length)with⟨hf,Nn⟩|⟨k,hk,hq,hf⟩;have Nn:∀j,1<=j->j<ps.length->((ps.getD j oZ).1==p.1)=false:=by intro j h2 h3;have:=Nn j (by simp;omega);simp only[Bool.and_eq_false_iff,bne_eq_false_iff_eq]at this;rcases this with h|h;omega;exact h
 have hh:GM ps p (ps.length-1)=0:=Vs _ λj h2 h3=>Nn j h2 (by omega);rw[hf,show decide ((-1:Int)>=0)=false from rfl,ae,hh];rw[show(p.1==281474976710655)=bcB p from rfl];cases hb:bcB p with|true=>simp only[af,jA,gw];refine bz (λi=>(kj (range i),(i:Int))) ps.length (by omega) (λi nx hi=>?_) (λnx=>?_);simp only[na];rw[gL,aQ (by simp only[kj,bW,List.length_range,aS];omega),aj (by omega) (by omega),List.range_succ];simp only[af,kj,eu];rfl;simp only[na];rw[fG,ae];exact VB ps e v (range ps.length) (by simp;omega) (λj hj=>bU.1 hj) z|false=>simp only[ae,Bool.or_false];rw[filter_one (by omega)];exact VB ps e v [0] (by simp) (by simp;omega) z
 have hkl:k<ps.length:=by simp at hk;omega
 simp only[ah,bne_iff_ne]at hq;have hb:bcB p=false:=by cases hb:bcB p with|false=>rfl|true=>rw[aql hb k hkl]at hq;cases hq.2
 have hh:GM ps p (ps.length-1)=k:=Yn (by omega) hq.2 _ (by omega) λj h2 h3 h4=>by rcases Nat.lt_trichotomy j k with g|g|g;have:=ah1 hp h2 g hkl;have a:=bn.1 h4;have b:=bn.1 hq.2;rw[a,b]at this;simp at this;exact g;have:=ah1 hp (show 1<=k by omega) g (show j<ps.length by omega);have a:=bn.1 h4;have b:=bn.1 hq.2;rw[a,b]at this;simp at this
 rw[hf,gL,af,hh,hb];simp only[Bool.or_false];rw[filter_one hkl];exact VB ps e v [k] (by simp) (by simp;omega) z
theorem To {e:Int}:∀j∈Ck ps e p,j<ps.length:=λj hj=>bU.1 (List.mem_filter.1 hj).1
theorem MV (ps:ar Port)(e:Int)(p:aR):(Ck ps e p).length<=ps.length:=aF (List.length_filter_le _ _) (by simp)
theorem Uh (ms:ar bC):tt (gR ms).1:=⟨(Nx ms).1,(Nx ms).2⟩
structure Cp (n:Nat) (c:cn):Prop where
 z:bt n gB c
 h:∀x∈c.1,D8 n x
theorem Cp.mono {n m:Nat}(k:Cp n c)(hn:n<=m:=by omega):Cp m c:=⟨k.z.mono hn,λx hx=>(k.h x hx).mono hn⟩
theorem Cp.sz {n:Nat}(k:Cp n c)(hn:n<=10^9:=by omega):Uv c:=by have z:bt 1000000000 gB c:=k.z.mono hn;exact⟨z.1.1,z.2.1.1,λm hm=>(z.2.2.1.2 m hm).1.2.2.1,λx hx=>(k.h x hx).sz hn⟩
theorem Cp.of (k:mm gB c<=1048576):Cp 1048576 c:=by refine⟨KU k,λh hh=>D8.of ?_⟩;grind[Pd,mm]
theorem JL (h:gW c=true):(gR c.2.2.1).1.length=c.1.length+1/\(gR c.2.2.1).1.length<=8/\c.1.length<=3:=by unfold gW at h;simp only[ah]at h;have hl:=(Gi h.2.1).1;have h2:=h.1;have h3:=adv h2;unfold gR at h2⊢;cases hc:du (c.2.2.1.length:Int) 1 3&&(c.2.2.1.all xl&&lH (KA c.2.2.1))with|false=>grind|true=>simp only[ah]at hc;have:=(Ve c.2.2.1 0 ([0],[]) ⟨by simp,rfl,by simp⟩ hc.2.1).2.1;grind[KA]
def ap3 (c:cn)(f:Bytes):cn:=(c.1,c.2.1,c.2.2.1,c.2.2.2.1,c.2.2.2.2.1,c.2.2.2.2.2.1,c.2.2.2.2.2.2++[f])
def adO (c:cn)(k:Nat)(h:Host):cn:=(c.1.set k h,c.2)
def df (ps:ar Port)(v:Int)(p:aR)(c:cn)(j:Nat):cn:=
 bif j==0 then ap3 c (GG (IG ps (j:Int) v p)).1 else
 match c.1[j-1]? with
 |some h=>adO c (j-1) (qD h (GG (IG ps (j:Int) v p)).1)
 |none=>c
theorem QP {n:Nat}(z:Cp n c)(zh:D8 n h):Cp n (adO c k h):=by refine⟨⟨qy z.z.1 zh.z,z.z.2⟩,λx hx=>?_⟩;rcases eR hx with g|g;exact z.h x g;rw[g];exact zh
theorem aog {n:Nat}{f:Bytes}(z:Cp n c)(hf:f.length<=n):Cp (n+1) (ap3 c f):=by have z':=z.mono (show n<=n+1 by omega);refine⟨⟨z'.z.1,z'.z.2.1,z'.z.2.2.1,z'.z.2.2.2.1,z'.z.2.2.2.2.1,z'.z.2.2.2.2.2.1,?_⟩,z'.h⟩;exact Ji (t:=.str) (k:=1) z.z.2.2.2.2.2.2 (λy hy=>by rw[dC.1 hy];exact hf) (by simp)
theorem anT {n:Nat}(hn:1000<=n){v:Int}{j:Nat}(z:Cp n c):Cp (n+1) (df ps v p c j)/\(df ps v p c j).1.length=c.1.length:=by have hf:=Nj (IG ps (j:Int) v p);unfold df;cases j==0 with|true=>exact⟨aog z (by omega),rfl⟩|false=>simp only[ae];cases hx:c.1[j-1]? with|none=>exact⟨z.mono,rfl⟩|some h=>have hr:=MJ hn (GG (IG ps (j:Int) v p)).1 (z.h h (bM hx));exact⟨(QP z hr.1).mono,aL ..⟩
def Sj (ps:ar Port)(v:Int)(p:aR)(c:cn)(l:ei):cn:=l.foldl (df ps v p) c
theorem Uj {ps:ar Port}{v:Int}{p:aR}:∀(l:ei){c:cn}{n:Nat},1000<=n->Cp n c->Cp (n+l.length) (Sj ps v p c l)/\(Sj ps v p c l).1.length=c.1.length
 |[],c,n,_,z=>⟨z,rfl⟩
 |j::l,c,n,hn,z=>by have h1:=anT (ps:=ps) (v:=v) (p:=p) (j:=j) hn z;have:=Uj (ps:=ps) (v:=v) (p:=p) l (show 1000<=n+1 by omega) h1.1;exact⟨this.1.mono (by grind),this.2.trans h1.2⟩
theorem Y7 (ps:ar Port)(v:Int)(p:aR)(c:cn)(l:ei)(i:Nat)(hi:i<l.length):Sj ps v p c (l.take (i+1))=df ps v p (Sj ps v p c (l.take i)) l[i]:=by rw[aO hi,Sj,List.foldl_append];rfl
theorem SZ (K:cn->au R)(ps:ar Port)(v:Int)(p:aR)(c B:cn)(l:ei)(hl:l.length<=8)(hj:∀j∈l,j<=c.1.length)(z:Cp 800000000 c)(zp:tt ps): aH (mH (λ(_:Int) (LQ:cn)=>K LQ) ps v (kj l) ((kj l).length:Int) p B) fuel (0,c)=K (Sj ps v p c l):=by
 refine bz (λi=>((i:Int),Sj ps v p c (l.take i))) l.length (by omega) (λi nx hi=>?_) (λnx=>?_);have SU:i<(kj l).length:=by simpa[kj]using hi
 have e1:(kj l)[i]'SU=(l[i]:Int):=by simp[kj]
 have hz:=Uj (ps:=ps) (v:=v) (p:=p) (l.take i) (by omega) z;have hzz:=hz.1.mono (show 800000000+(l.take i).length<=900000000 by rw[bm];omega);have hji:=hj _ (aE hi);have iA:=Nj (IG ps (l[i]:Int) v p);rw[Y7 ps v p c l i hi];have hn:=hz.2;generalize Sj ps v p c (l.take i)=W at hn hzz⊢;have hw:W.2.2.2.2.2.2.length<=900000000:=hzz.z.2.2.2.2.2.2.1;simp only[mH];rw[ax (by simpa[kj]using hi),aN SU,e1,aj (n:=(i:Int)+1) (by omega) (by omega)];simp only[af,ab,ajp ps _ v p zp,Yv,df];have hcl:c.1.length<=800000000:=z.z.1.1;by_cases h0:l[i]=0;rw[show((l[i]:Int)==0)=true from by simp[h0],show(l[i]==0)=true from by simp[h0]];simp only[af];rw[aQ (by simp only[aS];omega)];rfl;rw[show((l[i]:Int)==0)=false from by simp[h0],show(l[i]==0)=false from by simp[h0]];have hk:l[i]-1<W.1.length:=by omega
 rw[aj (n:=(l[i]:Int)-1) (by omega) (by omega),show(l[i]:Int)-1=((l[i]-1:Nat):Int) by omega];simp only[ae,aN hk,ab,Ql _ _ (hzz.h _ (aE hk)) (aF iA (by omega)),aw,al hk];rfl;simp only[mH];rw[aq (by simp[kj]),ae,bA]
theorem Tf (K:cn->au R)(ps:ar Port)(v:Int)(p:aR)(c:cn)(l:ei)(hl:l.length<=8)(hj:∀j∈l,j<=c.1.length)(z:Cp 800000000 c)(zp:tt ps): aH (oK (λ(_:Int) (Gt:cn)=>K Gt) ps (kj l) v p) fuel (0,c)=K (Sj ps v p c l):=by
 refine bz (λi=>((i:Int),Sj ps v p c (l.take i))) l.length (by omega) (λi nx hi=>?_) (λnx=>?_);have SU:i<(kj l).length:=by simpa[kj]using hi
 have e1:(kj l)[i]'SU=(l[i]:Int):=by simp[kj]
 have hz:=Uj (ps:=ps) (v:=v) (p:=p) (l.take i) (by omega) z;have hzz:=hz.1.mono (show 800000000+(l.take i).length<=900000000 by rw[bm];omega);have hji:=hj _ (aE hi);have iA:=Nj (IG ps (l[i]:Int) v p);rw[Y7 ps v p c l i hi];have hn:=hz.2;generalize Sj ps v p c (l.take i)=W at hn hzz⊢;have hw:W.2.2.2.2.2.2.length<=900000000:=hzz.z.2.2.2.2.2.2.1;simp only[oK];rw[ax (by simpa[kj]using hi),aN SU,e1,aj (n:=(i:Int)+1) (by omega) (by omega)];simp only[af,ab,akx ps _ v p zp,Zg,df];have hcl:c.1.length<=800000000:=z.z.1.1;by_cases h0:l[i]=0;rw[show((l[i]:Int)==0)=true from by simp[h0],show(l[i]==0)=true from by simp[h0]];simp only[af];rw[aQ (by simp only[aS];omega)];rfl;rw[show((l[i]:Int)==0)=false from by simp[h0],show(l[i]==0)=false from by simp[h0]];have hk:l[i]-1<W.1.length:=by omega
 rw[aj (n:=(l[i]:Int)-1) (by omega) (by omega),show(l[i]:Int)-1=((l[i]-1:Nat):Int) by omega];simp only[ae,aN hk,ab,Q0 _ _ (hzz.h _ (aE hk)) (aF iA (by omega)),aw,al hk];rfl;simp only[oK];rw[aq (by simp[kj]),ae,bA]
def yq (c:cn)(e:Int)(p:aR):cn:=
 bif decide (lz (gR c.2.2.1).1 e p<0) then c else Sj (gR c.2.2.1).1 (lz (gR c.2.2.1).1 e p) p c (Ck (gR c.2.2.1).1 e p)
def D5 (c:cn)(e:Int)(p:aR):cn:=bif gW c&&fX p then yq c e p else c
theorem Tj (c:cn)(e:Int)(p:aR)(k:Cp 800000000 c)(h:gW c=true):vD c e p=some ((),yq c e p):=by have z9:bt 1000000000 gB c:=k.z.mono;have hn:=JL h;have zp:=Uh c.2.2.1;unfold vD yq;simp only[Is _ (λm hm=>(z9.2.2.1.2 m hm).1.2.2.1),ab,Pj _ e p zp,Tk _ e p zp];generalize (gR c.2.2.1).1=ps at hn zp⊢;unfold KT;cases decide (lz ps e p<0)with|true=>exact Tf (λc=>some ((),c)) ps (lz ps e p) p c [] (by simp) (by simp) k zp|false=>exact Tf (λc=>some ((),c)) ps (lz ps e p) p c (Ck ps e p) (by grind[MV]) (λj hj=>by have:=To j hj;omega) k zp
theorem Wn (c:cn)(e:Int)(p:aR)(k:Cp 800000000 c):yK c e p=some (D5 c e p):=by unfold yK D5;simp only[wH c (k.z.mono),Jx c (k.sz),CX,ab];grind[ab,Tj]
theorem Mq (c:cn)(e:Int)(p:aR)(k:Cp 800000000 c):sm c e p=some (D5 c e p):=by have z9:bt 1000000000 gB c:=k.z.mono;unfold sm D5;simp only[vM c z9,Jd c (k.sz),CK,ab];cases h:gW c;rfl;cases fX p;rfl;have hn:=JL h;have zp:=Uh c.2.2.1;unfold yq;simp only[ai,ae,ab,cB,af,HW _ (λm hm=>(z9.2.2.1.2 m hm).1.2.2.1),O7 _ e p zp,Mt _ e p zp];generalize (gR c.2.2.1).1=ps at hn zp⊢;unfold KT;cases decide (lz ps e p<0)with|true=>exact SZ (λc=>some c) ps (lz ps e p) p c _ [] (by simp) (by simp) k zp|false=>exact SZ (λc=>some c) ps (lz ps e p) p c _ (Ck ps e p) (by grind[MV]) (λj hj=>by have:=To j hj;omega) k zp
theorem Tn {n:Nat}(hn:1000<=n){e:Int}(z:Cp n c)(h:gW c=true):Cp (n+8) (yq c e p)/\(yq c e p).1.length=c.1.length:=by have h3:=JL h;unfold yq;generalize (gR c.2.2.1).1=ps at h3⊢;cases decide (lz ps e p<0)with|true=>exact⟨z.mono,rfl⟩|false=>have h8:=MV ps e p;have:=Uj (ps:=ps) (v:=lz ps e p) (p:=p) (Ck ps e p) hn z;exact⟨this.1.mono,this.2⟩
def KR (c:cn):cn:=(c.1,c.2.1,c.2.2.1,c.2.2.2.1,c.2.2.2.2.1,c.2.2.2.2.2.1++[c.2.2.2.2.1.1],c.2.2.2.2.2.2)
def yd (c:cn)(x:Bytes):cn:=bif !gW c then c else bif (jI x).2==0 then yq (KR c) 0 (jI x).1 else KR c
theorem Sw {n:Nat}(z:Cp n c):Cp (n+1) (KR c):=by have z':=z.mono (show n<=n+1 by omega);refine⟨⟨z'.z.1,z'.z.2.1,z'.z.2.2.1,z'.z.2.2.2.1,z'.z.2.2.2.2.1,?_,z'.z.2.2.2.2.2.2⟩,z'.h⟩;exact Ji (t:=.int .i64) (k:=1) z.z.2.2.2.2.2.1 (λ_ _=>trivial) (by simp)
theorem TJ (c:cn)(x:Bytes)(k:Cp 700000000 c)(hx:x.length<=10^9):vN c x=some (yd c x):=by have hl:c.2.2.2.2.2.1.length<=700000000:=k.z.2.2.2.2.2.1.1;have ks:=(Sw k).mono (show 700000000+1<=800000000 by omega);unfold vN yd;rw[vM c (k.z.mono),ab,Jd c (k.sz),ab];cases h:gW c;rfl;have hs:gW (KR c)=true:=h;grind[aQ,RQ,ab,jI,Mq,KR,D5]
theorem TV (c:cn)(x:Bytes)(k:Cp 700000000 c)(hx:x.length<=10^9):wJ c x=some (yd c x):=by have hl:c.2.2.2.2.2.1.length<=700000000:=k.z.2.2.2.2.2.1.1;have ks:=(Sw k).mono (show 700000000+1<=800000000 by omega);unfold wJ yd;rw[wH c (k.z.mono),ab,Jx c (k.sz),ab];cases h:gW c;rfl;have hs:gW (KR c)=true:=h;grind[aQ,Sv,ab,Tj,KR]
theorem adD {n:Nat}(hn:1000<=n)(x:Bytes)(z:Cp n c):Cp (n+9) (yd c x)/\(yd c x).1.length=c.1.length:=by unfold yd;cases h:gW c;exact⟨z.mono,rfl⟩;have zs:=Sw z;simp only[ai,ae];cases (jI x).2==0 with|true=>have:=Tn (show 1000<=n+1 by omega) (e:=0) (p:=(jI x).1) zs (show gW (KR c)=true from h);exact⟨this.1,this.2⟩|false=>exact⟨zs.mono,rfl⟩
theorem ahb {n:Nat}(hn:1000<=n)(e:Int)(p:aR)(z:Cp n c):Cp (n+8) (D5 c e p)/\(D5 c e p).1.length=c.1.length:=by unfold D5;cases h:gW c;exact⟨z.mono,rfl⟩;cases fX p with|false=>exact⟨z.mono,rfl⟩|true=>exact Tn hn z h
def MT (b:Cx)(n:Int):Cx×Bool:=bif Nb b&&du n 0 b.2.2 then((b.1,b.2.1,ak (b.2.2-n)),true) else(b,false)
theorem akE (b:Cx)(n:Int):wU b n=some (MT b n):=by grind[wU,MT,KK,ab,cm]
theorem ajx (b:Cx)(n:Int):vX b n=some (MT b n):=by grind[vX,MT,O5,ab,cr]
def UU (f:az):az:=(f.1,f.2.1,f.2.2.1,f.2.2.2.1,f.2.2.2.2.1,ak (f.2.2.2.2.2+1))
def apZ (f:az)(b:Cx):az:=(f.1,f.2.1,b,f.2.2.2.1,ak (f.2.2.2.2.1+1),f.2.2.2.2.2)
def aqQ (ps:ar Port)(f:az)(p:aR):Bool:=f.2.2.2.1&&(!decide (lz ps f.2.1 p<0)&&(MT f.2.2.1 ((eS p).1.length:Int)).2)
def Ew (l:ar az)(ps:ar Port)(a:Int)(p:aR):ar az×cI×Bool:=
 bif jZ l ps&&(fX p&&(!decide (a<0)&& !decide (a>=(l.length:Int)))) then
  match l[a.toNat]? with
  |some f=>bif aqQ ps f p then(l.set a.toNat (apZ f (MT f.2.2.1 ((eS p).1.length:Int)).1),KT ps f.2.1 p,true) else(l.set a.toNat (UU f),[],false)
  |none=>(l,[],false)
 else(l,[],false)
theorem akC (l:ar az)(ps:ar Port)(a:Int)(p:aR)(h:l.length<=10^9)(z:tt ps):DX l ps a p=some (Ew l ps a p):=by
 unfold DX Ew;rw[aQ (by grind)];simp only[bH,Oy l ps h z.1 z.2,CX,ab];cases jZ l ps;rfl;cases fX p;rfl;by_cases h0:a<0;rw[ax h0];rfl;by_cases h1:a>=(l.length:Int)
 simp_all;obtain⟨a,rfl⟩:=aD (by omega:0<=a);have ha:a<l.length:=by omega
 rw[aq h0,aq h1];simp only[aw,al ha,aN ha,ab,ai,bB,ae,af,cB,Jy,akE,Pj _ _ p z,Tk _ _ p z,aqQ];generalize l[a]=f;cases h3:f.2.2.2.1 with|false=>grind[ab,UU]|true=>simp only[ai,ae,bj,Np ha,ab,dF];cases decide (lz ps f.2.1 p<0)with|true=>grind[ab,UU]|false=>simp only[bB,ae,bj,ab];cases (MT f.2.2.1 ((eS p).1.length:Int)).2 with|false=>grind[UU]|true=>rfl
theorem ajv (l:ar az)(ps:ar Port)(a:Int)(p:aR)(h:l.length<=10^9)(z:tt ps):Ds l ps a p=some (Ew l ps a p):=by
 unfold Ds Ew;rw[Ar l h,ab,aj (n:=(l.length:Int)-1) (by omega) (by omega)];simp only[Of l ps h z.1 z.2,CK,ab,cr];cases jZ l ps;rfl;cases fX p;rfl;rw[show du a 0 ((l.length:Int)-1)=(!decide (a<0)&& !decide (a>=(l.length:Int))) from by grind[bq]];by_cases h0:a<0;rw[ax h0];rfl;by_cases h1:a>=(l.length:Int)
 simp_all;obtain⟨a,rfl⟩:=aD (by omega:0<=a);have ha:a<l.length:=by omega
 rw[aq h0,aq h1];simp only[aw,al ha,aN ha,ab,ai,bB,ae,af,cB,Je,ajx,O7 _ _ p z,Mt _ _ p z,aqQ];generalize l[a]=f;cases h3:f.2.2.2.1 with|false=>grind[ab,UU]|true=>simp only[ai,ae,bj,Np ha,ab,dF];cases decide (lz ps f.2.1 p<0)with|true=>grind[ab,UU]|false=>simp only[bB,ae,bj,ab,Mt _ _ p z];cases (MT f.2.2.1 ((eS p).1.length:Int)).2 with|false=>grind[UU]|true=>grind[apZ]
theorem Sn (l:ar az)(ps:ar Port)(a:Int)(p:aR):(Ew l ps a p).1.length=l.length:=by unfold Ew;grind
theorem anE {l:ar az}{a:Int}(h:fX p=false):Ew l ps a p=(l,[],false):=by grind[Ew]
theorem aqV:fX pk0=false:=by decide
theorem anr (h:((jI x).2==0)=false):fX (jI x).1=false:=by grind[jI,aqV]
theorem abH (h:mm gB c<=1048576):ly gB c<=600000000000000:=by have c0:jX gB c<=wt gB*(mm gB c+1):=ZT;simp_all[wt,jX,ly];omega
def Pv (h:Host):bp:=h.2.2.2.2.2.2.2.2.2.2.2.1
theorem SA (h:Host):(Pv h).length<=(Pv (gY h)).length/\(Pv (gY h)).length<=(Pv h).length+5440:=by have hA:=Gs h.2.1 h.1 0 17 [] 0 0 h.2.2.1.1 (λx hx=>by cases hx);unfold gY;cases fy h;exact⟨ba _,Nat.le_add_right _ _⟩;rw[show tq h.2.1 h.1 0 17 [] 0 0 h.2.2.1.1=lL h.2.1 h.1 0 h.2.2.1.1 from rfl]at hA;simp_all[Pv]
def S3 (h:Host):bp:=(Pv (gY h)).drop (Pv h).length
theorem R7 (h:Host):(S3 h).length<=5440:=by grind[SA,S3]
def MM (ps:ar Port)(k:Int)(c:cn)(x:Bytes):cn:=
 bif (Ew c.2.1 ps k (jI x).1).2.2 then D5 (c.1,(Ew c.2.1 ps k (jI x).1).1,c.2.2) (ak (k+1)) (jI x).1 else(c.1,(Ew c.2.1 ps k (jI x).1).1,c.2.2)
theorem aaZ {n:Nat}{l:ar az}(h:l.length=c.2.1.length)(z:Cp n c):Cp n (c.1,l,c.2.2):=by refine⟨⟨z.z.1,⟨?_,λ_ _=>⟨bF,bF,⟨bF,bF,bF⟩,bF,bF,bF⟩⟩,z.z.2.2⟩,z.h⟩;have:=z.z.2.1.1;grind
theorem anC {n:Nat}(hn:1000<=n){k:Int}(z:Cp n c):Cp (n+8) (MM ps k c x)/\(MM ps k c x).1.length=c.1.length:=by have zs:=aaZ (l:=(Ew c.2.1 ps k (jI x).1).1) (Sn ..) z;unfold MM;cases (Ew c.2.1 ps k (jI x).1).2.2 with|false=>exact⟨zs.mono,rfl⟩|true=>exact ahb hn _ _ zs
theorem anB {k:Int}(h:((jI x).2==0)=false):MM ps k c x=c:=by grind[MM,anE,anr]
def Jv (ps:ar Port)(k:Int)(c:cn)(l:bp):cn:=l.foldl (MM ps k) c
theorem QO {ps:ar Port}{k:Int}:∀(l:bp){c:cn}{n:Nat},1000<=n->Cp n c->Cp (n+8*l.length) (Jv ps k c l)/\(Jv ps k c l).1.length=c.1.length
 |[],c,n,_,z=>⟨z,rfl⟩
 |x::l,c,n,hn,z=>by have h1:=anC hn (ps:=ps) (k:=k) (x:=x) z;have:=QO (ps:=ps) (k:=k) l (show 1000<=n+8 by omega) h1.1;exact⟨this.1.mono (by grind),this.2.trans h1.2⟩
theorem Wi (ps:ar Port)(k:Int)(c:cn)(l:bp)(i:Nat)(hi:i<l.length):Jv ps k c (l.take (i+1))=MM ps k (Jv ps k c (l.take i)) l[i]:=by rw[aO hi,Jv,List.foldl_append];rfl
theorem acE (K:Int->cn->au R)(ps:ar Port)(k:Int)(l:bp)(c B:cn)(hl:l.length<=5440)(hx:∀x∈l,x.length<=10^9)(z:Cp 700000000 c)(zp:tt ps): aH (kO K k ps l (l.length:Int) B) fuel (0,c)=K (l.length:Int) (Jv ps k c l):=by
 have Ae:=da;refine bz (λi=>((i:Int),Jv ps k c (l.take i))) l.length (by omega) (λi nx hi=>?_) (λnx=>?_);have hz:=(QO (ps:=ps) (k:=k) (l.take i) (by omega) z).1.mono (show 700000000+8*(l.take i).length<=800000000 by rw[bm];omega);rw[Wi ps k c l i hi];generalize Jv ps k c (l.take i)=W at hz⊢;simp only[kO];rw[gL,af,aN hi,ab,RQ _ (hx _ (aE hi)),ab,aj (n:=(i:Int)+1) (by omega) (by omega)];cases hf:(jI l[i]).2==0 with|false=>rw[anB hf];simp only[bne,hf,bB,af];rfl|true=>have zs:=aaZ (l:=(Ew W.2.1 ps k (jI l[i]).1).1) (Sn ..) hz;simp only[bne,hf,ai,ae];rw[ajv _ _ _ _ (aF hz.z.2.1.1 (by omega)) zp,ab,Mq _ _ _ zs,ab,MM];cases (Ew W.2.1 ps k (jI l[i]).1).2.2<;>rfl
 simp only[kO];rw[fG,ae,bA]
theorem adV (K:Int->cn->au R)(ps:ar Port)(k:Int)(l:bp)(c B:cn)(hl:l.length<=5440)(hx:∀x∈l,x.length<=10^9)(z:Cp 700000000 c)(zp:tt ps): aH (kU K k l ps B) fuel (0,c)=K (l.length:Int) (Jv ps k c l):=by have Ae:=da;refine bz (λi=>((i:Int),Jv ps k c (l.take i))) l.length (by omega) (λi nx hi=>?_) (λnx=>?_);have hz:=(QO (ps:=ps) (k:=k) (l.take i) (by omega) z).1.mono (show 700000000+8*(l.take i).length<=800000000 by rw[bm];omega);rw[Wi ps k c l i hi];generalize Jv ps k c (l.take i)=W at hz⊢;have zs:=aaZ (l:=(Ew W.2.1 ps k (jI l[i]).1).1) (Sn ..) hz;simp only[kU];rw[gL,af,aN hi,ab,Sv _ (hx _ (aE hi)),ab,aj (n:=(i:Int)+1) (by omega) (by omega),akC _ _ _ _ (aF hz.z.2.1.1 (by omega)) zp,ab,Wn _ _ _ zs,ab,MM];cases (Ew W.2.1 ps k (jI l[i]).1).2.2<;>rfl;simp only[kU];rw[fG,ae,bA]
def C8 (c:cn)(k:Int):cn:=
 bif gW c&&(!decide (k<0)&& !decide (k>=(c.1.length:Int))) then
  match c.1[k.toNat]? with
  |some h=>Jv (gR c.2.2.1).1 k (adO c k.toNat (gY h)) (S3 h)
  |none=>c
 else c
theorem afH (c:cn)(k:Int)(z:Cp 600000000 c):tA c k=some (C8 c k):=by
 have z9:bt 1000000000 gB c:=z.z.mono;have hl:c.2.1.length<=600000000:=z.z.2.1.1;unfold tA C8;rw[vM c z9,ab,Jd c (z.sz),ab,cr,aj (n:=(c.2.1.length:Int)-1) (by omega) (by omega)];cases hb:gW c;rfl;have h2:c.1.length=c.2.1.length:=by grind[gW,Gi]
 rw[show du k 0 ((c.2.1.length:Int)-1)=(!decide (k<0)&& !decide (k>=(c.1.length:Int))) from by grind[bq]];by_cases h0:k<0;rw[ax h0];rfl;by_cases h1:k>=(c.1.length:Int)
 simp_all;obtain⟨k,rfl⟩:=aD (by omega:0<=k);have hk:k<c.1.length:=by omega
 rw[aq h0,aq h1];have hz:=z.h _ (aE hk);have zt:=F9 (by omega) hz;have zc:Cp 700000000 (adO c k (gY c.1[k])):=(QP (z.mono (show 600000000<=600005440 by omega)) zt).mono;have hg:=SA c.1[k];have hw:∀x∈S3 c.1[k],x.length<=10^9:=λx hx=>aF (zt.z.2.2.2.2.2.2.2.2.2.2.2.1.2 x (List.mem_of_mem_drop hx)) (by omega);have hn:=R7 c.1[k];have zp:=Uh c.2.2.1;simp only[aw,al hk,aN hk,Np hk,ab,ai,bB,ae,af,cB,HW _ (λm hm=>(z9.2.2.1.2 m hm).1.2.2.1),Qq _ (hz.mono)];rw[show sub (gY c.1[k]).2.2.2.2.2.2.2.2.2.2.2.1 ((c.1[k].2.2.2.2.2.2.2.2.2.2.2.1).length:Int) (((gY c.1[k]).2.2.2.2.2.2.2.2.2.2.2.1).length:Int)=some (S3 c.1[k]) from Jz _ _ hg.1];grind[ab,nB,acE,adO]
theorem agK (c:cn)(k:Int)(z:Cp 600000000 c):ua c k=some (C8 c k):=by
 have z9:bt 1000000000 gB c:=z.z.mono;unfold ua C8;rw[wH c z9,ab,Jx c (z.sz),ab];cases hb:gW c;rfl;by_cases h0:k<0;rw[ax h0];rfl;by_cases h1:k>=(c.1.length:Int)
 simp_all;obtain⟨k,rfl⟩:=aD (by omega:0<=k);have hk:k<c.1.length:=by omega
 rw[aq h0,aq h1];have hz:=z.h _ (aE hk);have zt:=F9 (by omega) hz;have zc:Cp 700000000 (adO c k (gY c.1[k])):=(QP (z.mono (show 600000000<=600005440 by omega)) zt).mono;have hg:=SA c.1[k];have hw:∀x∈S3 c.1[k],x.length<=10^9:=λx hx=>aF (zt.z.2.2.2.2.2.2.2.2.2.2.2.1.2 x (List.mem_of_mem_drop hx)) (by omega);have hn:=R7 c.1[k];have zp:=Uh c.2.2.1;simp only[aw,al hk,aN hk,Np hk,ab,ai,bB,ae,af,cB,Is _ (λm hm=>(z9.2.2.1.2 m hm).1.2.2.1),Q4 _ (hz.mono)];rw[show sub (gY c.1[k]).2.2.2.2.2.2.2.2.2.2.2.1 ((c.1[k].2.2.2.2.2.2.2.2.2.2.2.1).length:Int) (((gY c.1[k]).2.2.2.2.2.2.2.2.2.2.2.1).length:Int)=some (S3 c.1[k]) from Jz _ _ hg.1];grind[ab,aQ,adV,adO]
theorem ae7 {n:Nat}(hn:1000<=n)(k:Int)(z:Cp n c):Cp (n+48960) (C8 c k)/\(C8 c k).1.length=c.1.length:=by unfold C8;cases gW c&&(!decide (k<0)&& !decide (k>=(c.1.length:Int)));exact⟨z.mono,rfl⟩;simp only[af];cases hx:c.1[k.toNat]? with|none=>exact⟨z.mono,rfl⟩|some h=>have zt:=F9 (by omega) (z.h h (bM hx));have zc:=QP (k:=k.toNat) (z.mono (show n<=n+5440 by omega)) zt;have:=QO (ps:=(gR c.2.2.1).1) (k:=k) (S3 h) (by omega) zc;have hl:=R7 h;refine⟨this.1.mono,this.2.trans ?_⟩;show(c.1.set _ _).length=_;rw[aL]
structure W4 (a b:Host):Prop where
 maps:b.2.1=a.2.1
 mem:b.1.length=a.1.length
theorem W4.refl (a:Host):W4 a a:=⟨rfl,rfl⟩
theorem W4.trans {a b c:Host}(h:W4 a b)(g:W4 b c):W4 a c:=⟨g.maps.trans h.maps,g.mem.trans h.mem⟩
theorem W4.of {a b:Host}(h:mE k a b):W4 a b:=⟨h.maps,h.mem⟩
theorem apq (l:ar aC)(m:bp)(d:Int)(q:bk)(k s:Bytes):(nw l m d q k s).1.length=m.length:=by unfold nw;cases !(eL s).2||(((eL s).1.1 !=3)||decide ((eL s).1.2.2.1<((eS q.2.2.2.1.1).1.length:Int)));all_goals grind[Il,mQ]
theorem aoK (l:ar aC)(m:bp)(d:Int)(q:bk)(k:Bytes):(jY l m d q k).1.length=m.length:=by unfold jY;cases !QK q||(!q.2.2.2.2.1||((k.length:Int) !=16));all_goals grind[apq]
theorem alj (l:ar aC)(m:bp)(d:Int)(q:bk)(k:Bytes)(p:aR)(c:Bool):(lX l m d q k p c).1.length=m.length:=by unfold lX;cases !QK q||(!fX p||((k.length:Int) !=16));all_goals grind[aoK]
def flt (h:Host):Filter:=h.2.2.2.2.2.2.2.1
theorem Ux.at {n:Int}(g:Ux n c){i:Nat}(hi:c.1[i]?=some h):Good n h:=by obtain⟨iJ,_⟩:=aJ.1 hi;exact(g.host i h _ hi (al (by have:=g.len.1;omega))).1
structure XM (a b:cn):Prop where
 boxes:b.2.2.1=a.2.2.1
 flash:b.2.2.2.1=a.2.2.2.1
 clock:b.2.2.2.2.1=a.2.2.2.2.1
 stamps:b.2.2.2.2.2.1=a.2.2.2.2.2.1
 len:b.1.length=a.1.length
 up:∃w,b.2.2.2.2.2.2=a.2.2.2.2.2.2++w
theorem XM.refl (a:cn):XM a a:=⟨rfl,rfl,rfl,rfl,rfl,⟨[],(bD _).symm⟩⟩
theorem XM.trans {a b:cn}(h:XM a b)(g:XM b c):XM a c:=by obtain⟨w,hw⟩:=h.up;obtain⟨u,hu⟩:=g.up;exact⟨g.boxes.trans h.boxes,g.flash.trans h.flash,g.clock.trans h.clock,g.stamps.trans h.stamps,g.len.trans h.len,⟨w++u,by rw[hu,hw,aX]⟩⟩
def Ends (o:au α)(P:α->Prop):Prop:=∃x,o=some x/\P x
theorem Ends.pure {x:α}{P:α->Prop}(h:P x):Ends (some x) P:=⟨x,rfl,h⟩
theorem Ends.bind {o:au α}{P:α->Prop}{k:α->au R}{Q:R->Prop}(h:Ends o P)(hk:∀x,P x->Ends (k x) Q):Ends (aa o k) Q:=by obtain⟨x,rfl,hx⟩:=h;exact hk x hx
theorem Ends.mono {o:au α}{P Q:α->Prop}(h:Ends o P)(hq:∀x,P x->Q x):Ends o Q:=by obtain⟨x,hx,hp⟩:=h;exact⟨x,hx,hq x hp⟩
theorem Ends.cond {c:Bool}{a b:au α}{P:α->Prop}(h1:c=true->Ends a P)(h2:c=false->Ends b P):Ends (cond c a b) P:=by grind
theorem Ends.room {n:Nat}{k:au α}{P:α->Prop}(h:n<=1073741824)(hk:Ends k P):Ends (room n k) P:=by rw[aQ h];exact hk
theorem Ends.of {o:au α}{x:α}{P:α->Prop}(h:o=some x)(hp:P x):Ends o P:=⟨x,h,hp⟩
theorem Ends.idx {xs:ar α}{i:Int}{k:α->au R}{Q:R->Prop}(h0:0<=i)(h1:i<(xs.length:Int))(hk:∀(h:i.toNat<xs.length),Ends (k xs[i.toNat]) Q):Ends (aa (idx xs i) k) Q:=by grind[aN,ab]
abbrev Cur:=cI×Int×Int
def Cu (c:Cur):Prop:=0<=c.2.1/\c.2.1<=(c.1.length:Int)/\c.1.length<=1048576
def Plain (p:aR):Prop:=Mh p=true/\p.2.2.2.2.2.2.2.2.2.2.2.2.2.2.2.length<=40
theorem Plain.ok (h:Plain p):fX p=true:=(adq p).2 ⟨h.1,by have:=h.2;omega⟩
def ara (a:Act):Prop:=a.2.1.2.2.2.2.2.2.2.2.2.2.2.2.2.2.2.length<=1000/\a.2.2.2.2.1.length<=382/\0<=a.1/\a.1<=6
structure ak9 (n:Int) (a:dm):Prop where
 kind:0<=a.1/\a.1<=2
 fn:0<=a.2.1/\a.2.1<n
 act:ara a.2.2.1
 ok:Rs a.2.2.1=true
 msg:0<=a.2.2.2.1.1/\a.2.2.2.1.1<=6
 img:a.2.2.2.2.1.length<=96
 part:0<=a.2.2.2.2.2/\a.2.2.2.2.2<=100
theorem ak9.put {n:Int}{a:dm}(h:ak9 n a){x:Act}(h1:ara x)(h2:Rs x=true):ak9 n (a.1,a.2.1,x,a.2.2.2):=⟨h.kind,h.fn,h1,h2,h.msg,h.img,h.part⟩
def abB (f:bp):Int:=if jM (f.getD 0 [])<0/\jM (f.getD 1 [])<0 then-1 else if jM (f.getD 1 [])>jM (f.getD 0 []) then jM (f.getD 1 []) else jM (f.getD 0 [])
theorem ajh {f:bp}(h:iS f=true):pU f=some (abB f):=by obtain⟨e,h0,h1⟩:=zF h;unfold pU;rw[Vx,ab];unfold pR abB;rw[h,af];generalize f.getD 0 []=x at e h0 h1⊢;generalize f.getD 1 []=y at e h0 h1⊢;subst e;by_cases a:jM x<0/\jM y<0;rw[aM a,aM a];rfl;rw[aK a,aK a];by_cases b:jM y>jM x;rw[aM b,aM b,fG,ae,show idx [x,y] 1=some y from rfl,ab,Qr y];rfl;rw[aK b,aK b,fG,ae,show idx [x,y] 0=some x from rfl,ab,Qr x];rfl
theorem aks {f:bp}(h:iS f=true):qH f=some (abB f):=by obtain⟨e,h0,h1⟩:=zF h;unfold qH;rw[Wl,ab];unfold pR abB;rw[h,af];generalize f.getD 0 []=x at e h0 h1⊢;generalize f.getD 1 []=y at e h0 h1⊢;subst e;by_cases a:jM x<0/\jM y<0;rw[aM a,aM a];rfl;rw[aK a,aK a];by_cases b:jM y>jM x;rw[aM b,aM b,fG,ae,show idx [x,y] 1=some y from rfl,ab,Um y (by omega)];rfl;rw[aK b,aK b,fG,ae,show idx [x,y] 0=some x from rfl,ab,Um x (by omega)];rfl
theorem ae0 {f:bp}(h:¬pR f<0):iS f=true:=by grind[pR]
theorem ai3 {f:bp}(h:iS f=true){k:Int}(hk:0<=k/\k<=1)(hs:s.length=96):iS (f.set k.toNat s)=true/\∀i:Nat,(i:Int)≠k->(f.set k.toNat s).getD i []=f.getD i []:=by obtain⟨e,h0,h1⟩:=zF h;refine⟨?_,λi hi=>?_⟩;rw[e];rcases(by omega:k=0\/k=1)with rfl|rfl;unfold iS;show((((2:Nat):Int)==2)&&(((s.length:Int)==96)&&(((f.getD 1 []).length:Int)==96)))=true;rw[hs,h1];rfl;unfold iS;show((((2:Nat):Int)==2)&&((((f.getD 0 []).length:Int)==96)&&((s.length:Int)==96)))=true;rw[hs,h0];rfl;rw[List.getD_eq_getElem?_getD,List.getD_eq_getElem?_getD,aZ (by omega)]
theorem aiy (h:¬jM s<0):12<=s.length:=by grind[jM]
def QH (b:Cx)(n:Int):Cx:=
 bif Nb b&&du n 0 1000000 then(b.1,b.2.1,if b.2.1<ak (b.2.2+ak (b.1*n)) then b.2.1 else ak (b.2.2+ak (b.1*n))) else b
theorem afT (b:Cx)(n:Int):tJ b n=some (QH b n):=by grind[tJ,QH,O5,ab,cr]
theorem agV (b:Cx)(n:Int):ui b n=some (QH b n):=by grind[ui,QH,KK,ab,cm]
def Hn (f:α->α)(l:ar α)(i:Nat):ar α:=(l.take i).map f++l.drop i
theorem Gl (f:α->α)(l:ar α)(i:Nat):(Hn f l i).length=l.length:=by grind[Hn]
theorem Gk (f:α->α){l:ar α}{i:Nat}(h:i<l.length):idx (Hn f l i) (i:Int)=some l[i]:=by grind[No,Hn]
theorem Gm (f:α->α){l:ar α}{i:Nat}(h:i<l.length):(Hn f l i).set i (f l[i])=Hn f l (i+1):=by grind[Hn,cg,aO]
theorem Gj (f:α->α)(l:ar α):Hn f l l.length=l.map f:=by grind[Hn]
def Zw (n:Int)(f:az):az:=(f.1,f.2.1,QH f.2.2.1 n,f.2.2.2)
theorem acW (l:ar az)(n:Int)(h:l.length<=10^9):rF l n=some (l.map (Zw n)):=by unfold rF;rw[Ar l h,ab];refine bz (λi=>(Hn (Zw n) l i,(i:Int))) l.length (by omega) (λi nx hi=>?_) (λnx=>?_);simp only[nb];rw[gL,Gk _ hi,aj (by omega) (by omega)];simp only[af,ab,afT,aw];rw[<-Gm _ hi];rfl;simp only[nb];rw[fG,ae,Gj]
theorem aed (l:ar az)(n:Int)(h:l.length<=10^9):sa l n=some (l.map (Zw n)):=by unfold sa;rw[fb h,bH];refine bz (λi=>(Hn (Zw n) l i,(i:Int))) l.length (by omega) (λi nx hi=>?_) (λnx=>?_);simp only[nj,Gl];rw[gL,Gk _ hi,aj (by omega) (by omega)];simp only[af,ab,agV,aw];rw[<-Gm _ hi];rfl;simp only[nj,Gl];rw[fG,ae,Gj]
def XO (a b:cn):Prop:=∀(i:Nat)(h:Host),b.1[i]?=some h->∃h0,a.1[i]?=some h0/\W4 h0 h
theorem XO.refl (a:cn):XO a a:=λi h e=>⟨h,e,W4.refl h⟩
theorem XO.trans {a b:cn}(h:XO a b)(g:XO b c):XO a c:=by intro i x e;obtain⟨y,e1,s1⟩:=g i x e;obtain⟨w,e2,s2⟩:=h i y e1;exact⟨w,e2,s2.trans s1⟩
theorem agC (K:Int->cn->au R)(b:cn)(hs:ar Host)(X:ar az×ar bC×bp×kl×cI×bp)(hl:hs.length<=1000)(z:∀h∈hs,D8 90000000 h):aH (so K (hs.length:Int) b) fuel (0,hs,X)=K (hs.length:Int) (hs.map BR,X):=by refine bz (λi=>((i:Int),Hn BR hs i,X)) hs.length (by omega) (λi nx hi=>?_) (λnx=>?_);simp only[so];have zh:=z _ (aE hi);rw[gL,Gk _ hi,aj (by omega) (by omega)];simp only[af,ab,Og _ (zh.sz) (zh.z.mono),aw];rw[<-Gm _ hi];rfl;simp only[so];rw[fG,ae,Gj]
theorem akZ (K:Int->cn->au R)(b:cn)(hs:ar Host)(X:ar az×ar bC×bp×kl×cI×bp)(hl:hs.length<=1000)(z:∀h∈hs,D8 90000000 h):aH (sq K (hs.length:Int) b) fuel (0,hs,X)=K (hs.length:Int) (hs.map EE,X):=by refine bz (λi=>((i:Int),Hn EE hs i,X)) hs.length (by omega) (λi nx hi=>?_) (λnx=>?_);simp only[sq];have zh:=z _ (aE hi);rw[gL,Gk _ hi,aj (by omega) (by omega)];simp only[af,ab,acV _ (zh.sz) (zh.z.mono),aw];rw[<-Gm _ hi];rfl;simp only[sq];rw[fG,ae,Gj]
theorem ahB {N M:Nat}(hN:N<=M)(z:Cp N c){f:Host->Host}(hf:∀h∈c.1,D8 M (f h)):Cp M (c.1.map f,c.2):=by have z':=z.mono hN;refine⟨⟨⟨by show(c.1.map f).length<=M;rw[bW];exact z'.z.1.1,λx hx=>?_⟩,z'.z.2⟩,λx hx=>?_⟩;obtain⟨h,hh,rfl⟩:=List.mem_map.1 hx;exact(hf h hh).z;obtain⟨h,hh,rfl⟩:=List.mem_map.1 hx;exact hf h hh
theorem adF (K:Int->cn->au R)(b4:cn)(hs:ar Host)(Y X:ar az×ar bC×bp×kl×cI×bp)(hl:hs.length<=1000)(z:∀h∈hs,D8 90000000 h):aH (nH K (hs,Y) b4) fuel (0,hs,X)=K (hs.length:Int) (hs.map BR,X):=by refine bz (λi=>((i:Int),Hn BR hs i,X)) hs.length (by omega) (λi nx hi=>?_) (λnx=>?_);simp only[nH,Gl];have zh:=z _ (aE hi);rw[gL,Gk _ hi,aN hi,aj (by omega) (by omega)];simp only[af,ab,Oz _ (zh.sz) (zh.z.mono),aw];rw[<-Gm _ hi];rfl;simp only[nH,Gl];rw[fG,ae,Gj]
theorem ahj (K:Int->cn->au R)(b4:cn)(hs:ar Host)(Y X:ar az×ar bC×bp×kl×cI×bp)(hl:hs.length<=1000)(z:∀h∈hs,D8 90000000 h):aH (nI K (hs,Y) b4) fuel (0,hs,X)=K (hs.length:Int) (hs.map EE,X):=by refine bz (λi=>((i:Int),Hn EE hs i,X)) hs.length (by omega) (λi nx hi=>?_) (λnx=>?_);simp only[nI,Gl];have zh:=z _ (aE hi);rw[gL,Gk _ hi,aN hi,aj (by omega) (by omega)];simp only[af,ab,aec _ (zh.sz) (zh.z.mono),aw];rw[<-Gm _ hi];rfl;simp only[nI,Gl];rw[fG,ae,Gj]
def GA:Nat->Bytes->Bytes
 |0,s=>s
 |j+1,s=>(GA j s).set j 255
theorem JT (s:Bytes):∀n,(GA n s).length=s.length
 |0=>rfl
 |n+1=>by rw[GA,aL,JT s n]
theorem RD (s:Bytes):∀n,n<=s.length->GA n s=List.replicate n 255++s.drop n
 |0,_=>rfl
 |n+1,h=>by rw[GA,RD s n (by omega),List.set_append_right _ _ (by simp),List.length_replicate,hZ,cg (by omega),List.set_cons_zero,List.replicate_succ',aX];rfl
theorem ints_set (s:Bytes)(i:Nat)(x:UInt8):(dc s).set i (x.toNat:Int)=dc (s.set i x):=(List.map_set ..).symm
theorem VH {i:Nat}(h:i<s.length):idx (dc s) (i:Int)=some (((s[i].toNat:Nat)):Int):=by grind[aN,dc]
theorem ad4 (n:Nat)(h:n<=1000000):mj (n:Int) 255=some (List.replicate n 255):=by
 unfold mj;rw[zip,aQ (by omega),aw];have e0:List.replicate n (0)=dc (List.replicate n 0):=by simp[dc]
 rw[e0];refine bz (λi=>(dc (GA i (List.replicate n 0)),(i:Int))) n (by omega) (λi nx hi=>?_) (λnx=>?_);have hl:i<(GA i (List.replicate n 0)).length:=by rw[JT];simpa using hi
 simp only[nK];rw[gL,af,VH hl,ab,ab,aj (by omega) (by omega),aw];exact congrArg (λz=>nx (z,((i+1)))) (ints_set _ i 255);simp only[nK];rw[fG,ae,CB,RD _ _ (by simp)];simp
def Rt (d:Bytes)(a:Nat):Nat->Bytes->Bytes
 |0,s=>s
 |j+1,s=>(Rt d a j s).set (a+j) ((Rt d a j s).getD (a+j) 0&&&d.getD j 0)
theorem LZ (d:Bytes)(a:Nat)(s:Bytes):∀n,(Rt d a n s).length=s.length
 |0=>rfl
 |n+1=>by rw[Rt,aL,LZ d a s n]
theorem arn (x y:UInt8):gU (BitVec.toNat (BitVec.ofInt (IntKind.bits .u8) (x.toNat:Int)&&&BitVec.ofInt (IntKind.bits .u8) (y.toNat:Int)):Int)=(((x&&&y).toNat:Nat):Int):=by
 have e:BitVec.toNat (BitVec.ofInt 8 (x.toNat)&&&BitVec.ofInt 8 (y.toNat))=(x&&&y).toNat:=by simp_all
 show((BitVec.toNat (BitVec.ofInt 8 (x.toNat)&&&BitVec.ofInt 8 (y.toNat))):Int)%256=_;omega
theorem apc {a:Nat}(h:a<s.length)(x:UInt8):xv s (a:Int) [x]=s.set a x:=by grind[xv,fP,List.set_eq_take_append_cons_drop]
def D3 (x:dj):Bool:=du x.2.1 0 1&&(bif x.1==0 then(x.2.2.1==0)&&(x.2.2.2==([]:Bytes)) else(x.1==1)&&(du (x.2.2.2.length:Int) 1 8&&du x.2.2.1 0 (ak (96-(x.2.2.2.length:Int)))))
theorem afV (x:dj):vR x=some (D3 x):=by unfold vR D3;grind[cr,ab]
theorem agX (x:dj):wO x=some (D3 x):=by unfold wO D3;grind[cm,ab]
def CQ (a b:Int):Int:=if a<b then a else b
def Q8 (f:bp)(x:dj)(part:Int):bp:=
 bif !iS f||(!D3 x||decide (part<0)) then f else
 f.set x.2.1.toNat (bif x.1==0 then GA (CQ 96 part).toNat (f.getD x.2.1.toNat []) else Rt x.2.2.2 x.2.2.1.toNat (CQ (x.2.2.2.length:Int) part).toNat (f.getD x.2.1.toNat []))
theorem akP (f:bp)(x:dj)(part:Int):(Q8 f x part).length=f.length:=by grind[Q8]
theorem Sy {x:dj}(h:D3 x=true):(0<=x.2.1/\x.2.1<=1)/\((x.1==0)=false->x.2.2.2.length<=8/\0<=x.2.2.1/\x.2.2.1+(x.2.2.2.length:Int)<=96):=by grind[D3,bq,aj]
theorem RG {f:bp}(h:iS f=true){k:Int}(hk:0<=k/\k<=1):∃n:Nat,k=(n:Int)/\∃hn:n<f.length,f[n]=f.getD n []/\(f.getD n []).length=96:=by obtain⟨e,h0,h1⟩:=zF h;grind
theorem acU (f:bp)(x:dj)(part:Int)(hl:f.length<=10^9):pV f x part=some (Q8 f x part):=by
 unfold pV Q8;rw[mN,nB f hl,ab,ab,RN,ab,afV,ab];cases hf:iS f;rfl;cases hx:D3 x;rfl;cases hp:decide (part<0);case true=>rfl
 have hp:=iI hp;obtain⟨hb,hw⟩:=Sy hx;obtain⟨n,en,hn,e0,h96⟩:=RG hf hb;simp only[ai,ae,ab,bO,en,aN hn,aw];rw[aQ (by rw[e0];omega),e0];generalize f.getD n []=s at h96;cases hk:x.1==0 with
 |true=>
  rw[af,af];have hm:0<=CQ 96 part/\CQ 96 part<=96:=by unfold CQ;split<;>omega
  have em:(if(96)<part then 96 else part)=(((CQ 96 part).toNat)):=by unfold CQ at hm⊢;omega
  refine bz (λi=>(dc (GA i s),(i:Int))) (CQ 96 part).toNat (by omega) (λi nx hi=>?_) (λnx=>?_);have hl:i<(GA i s).length:=by rw[JT];omega
  simp only[pg];rw[em,gL,af,VH hl,ab,ab,aj (by omega) (by omega),aw];exact congrArg (λz=>nx (z,((i+1)))) (ints_set _ i 255);simp only[pg];rw[em,fG,ae,CB]
 |false=>
  obtain⟨h8,ha,h9⟩:=hw hk;obtain⟨a,ea⟩:=aD ha;rw[ae,ae,ea,aw];have hm:0<=CQ (x.2.2.2.length) part/\CQ (x.2.2.2.length) part<=(x.2.2.2.length):=by unfold CQ;split<;>omega
  have em:(if(x.2.2.2.length)<part then(x.2.2.2.length:Int) else part)=(((CQ (x.2.2.2.length) part).toNat):Int):=by unfold CQ at hm⊢;omega
  refine bz (λi=>(dc (Rt x.2.2.2 a i s),(i:Int))) (CQ (x.2.2.2.length) part).toNat (by omega) (λi nx hi=>?_) (λnx=>?_);have hl:a+i<(Rt x.2.2.2 a i s).length:=by rw[LZ];omega
  have hd:i<x.2.2.2.length:=by omega
  simp only[nV];rw[em,gL,af,ea,aj (by omega) (by omega),show(a:Int)+(i)=((a+i:Nat)) by omega,VH hl,aN hd,ab,ab,ab,ab,aj (by omega) (by omega),aw,arn];rw[ints_set,Rt,dx hl,dx hd];rfl;simp only[nV];rw[em,fG,ae,CB]
theorem aeb (f:bp)(x:dj)(part:Int)(hl:f.length<=10^9):qJ f x part=some (Q8 f x part):=by
 unfold qJ Q8;rw[fb hl,NC,ab,agX,ab];cases hf:iS f;rfl;cases hx:D3 x;rfl;cases hp:decide (part<0);case true=>rfl
 have hp:=iI hp;obtain⟨hb,hw⟩:=Sy hx;obtain⟨n,en,hn,e0,h96⟩:=RG hf hb;simp only[ai,ae,ab,bO,en,aN hn,aw,bH];rw[e0];generalize f.getD n []=s at h96;cases hk:x.1==0 with
 |true=>
  rw[af,af];have hm:0<=CQ 96 part/\CQ 96 part<=96:=by unfold CQ;split<;>omega
  have em:(if(96)<part then 96 else part)=(((CQ 96 part).toNat)):=by unfold CQ at hm⊢;omega
  rw[em,ad4 _ (by omega),ab,FQ _ _ _ (by omega),ab];have e:xv s 0 (List.replicate (CQ 96 part).toNat 255)=GA (CQ 96 part).toNat s:=by rw[RD _ _ (by omega)];unfold xv fP;rw[ax (by rw[List.length_replicate];omega),af];simp
  rw[e]
 |false=>
  obtain⟨h8,ha,h9⟩:=hw hk;obtain⟨a,ea⟩:=aD ha;rw[ae,ae,ea,aw];have hm:0<=CQ (x.2.2.2.length) part/\CQ (x.2.2.2.length) part<=(x.2.2.2.length):=by unfold CQ;split<;>omega
  have em:(if(x.2.2.2.length)<part then(x.2.2.2.length:Int) else part)=(((CQ (x.2.2.2.length) part).toNat):Int):=by unfold CQ at hm⊢;omega
  refine bz (λi=>(Rt x.2.2.2 a i s,(i:Int))) (CQ (x.2.2.2.length) part).toNat (by omega) (λi nx hi=>?_) (λnx=>?_);have hl:a+i<(Rt x.2.2.2 a i s).length:=by rw[LZ];omega
  have hd:i<x.2.2.2.length:=by omega
  simp only[pB];rw[em,gL,af,ea,aj (by omega) (by omega),show(a:Int)+(i)=((a+i:Nat)) by omega,aN hl,aN hd,ab,ab,arn,FQ _ _ _ (by rw[LZ];omega),ab,aj (by omega) (by omega)];have e:aU [(((((Rt x.2.2.2 a i s)[a+i]&&&x.2.2.2[i]).toNat)))]=[(Rt x.2.2.2 a i s)[a+i]&&&x.2.2.2[i]]:=CB [_];rw[e,apc hl,Rt,dx hl,dx hd];rfl;simp only[pB];rw[em,fG,ae]
def asa:dj:=(0,0,0,([]:Bytes))
def yr (s:Bytes)(b:Int):Nat->ar dj
 |0=>[(0,b,0,([]:Bytes))]
 |i+1=>yr s b i++[(1,b,((8+8*i:Nat):Int),(s.drop (8+8*i)).take 8)]
theorem zD (s:Bytes)(b:Int):∀i,(yr s b i).length=i+1
 |0=>rfl
 |i+1=>by rw[yr,ay,zD s b i];rfl
def C2 (f:bp)(s:Bytes):ar dj:=
 bif !iS f||(decide ((s.length:Int)>96)||decide (jM s<0)) then [] else
 yr s (bif pR f==0 then 1 else 0) ((s.length-1)/8)++[(1,(bif pR f==0 then 1 else 0),0,s.take 8)]
theorem Wy (f:bp)(s:Bytes):(C2 f s).length<=14:=by
 unfold C2;cases hc: !iS f||(decide ((s.length:Int)>96)||decide (jM s<0));case true=>exact eh _
 rw[ae,ay,zD];grind
theorem Zr {a:Nat}(h:a<=s.length){j:Int}(hj:j=if(s.length:Int)<((a+8:Nat):Int) then(s.length:Int) else((a+8:Nat):Int)):sub s (a:Int) j=some ((s.drop a).take 8):=by grind[sub,aw,List.drop_take]
theorem ajA (f:bp)(s:Bytes)(hs:s.length<=10^9):wj f s=some (C2 f s):=by
 unfold wj C2;rw[RN,ab,Qr s hs,ab];cases hf:iS f;rfl;cases h96:decide ((s.length:Int)>96);case true=>rfl
 cases hv:decide (jM s<0);case true=>rfl
 have h12:=aiy (iI hv);have key:∀b:Int,aH (jy (λy6 y7=>aa (sub s 0 (if(s.length:Int)<8 then(s.length) else 8)) λx8=>room (List.length y6+List.length [((1,b,0,x8))]) (some (y6++[(1,b,0,x8)]))) s b) fuel ([(0,b,0,([]))],8)=some (yr s b ((s.length-1)/8)++[(1,b,0,s.take 8)]):=by intro b;refine bz (λi=>(yr s b i,((8+8*i:Nat):Int))) ((s.length-1)/8) (by omega) (λi nx hi=>?_) (λnx=>?_);simp only[jy];rw[gL,af,aj (by omega) (by omega),Zr (by omega) (by rfl),ab,aQ (by rw[zD,aS];omega),yr];exact congrArg (λz=>nx (yr s b i++[(1,b,((8+8*i):Int),(s.drop (8+8*i)).take 8)],z)) (by omega);simp only[jy];rw[fG,ae,ny,D4 (by omega) (by omega),ab,aQ (by rw[zD,aS];omega)];rfl
 simp only[ai,ae,ab,bO,Vx];cases pR f==0;exact key 0;exact key 1
theorem akH (f:bp)(s:Bytes)(hs:s.length<=10^9):xc f s=some (C2 f s):=by
 unfold xc C2;rw[NC,ab,Um s hs,ab];cases hf:iS f;rfl;cases h96:decide ((s.length:Int)>96);case true=>rfl
 cases hv:decide (jM s<0);case true=>rfl
 have h12:=aiy (iI hv);have key:∀b:Int,room (List.length ([]:ar dj)+List.length [((0,b,0,([]:Bytes)))]) (aH (jz (λy6 y7=>aa (sub s 0 8) λx8=>room (List.length y6+List.length [((1,b,0,x8))]) (some (y6++[(1,b,0,x8)]))) s b) fuel (([])++[(0,b,0,([]))],8))=some (yr s b ((s.length-1)/8)++[(1,b,0,s.take 8)]):=by intro b;refine bz (λi=>(yr s b i,((8+8*i:Nat):Int))) ((s.length-1)/8) (by omega) (λi nx hi=>?_) (λnx=>?_);simp only[jz];rw[gL,af,aj (by omega) (by omega),Zr (by omega) (by omega),ab,aQ (by rw[zD,aS];omega),yr];exact congrArg (λz=>nx (yr s b i++[(1,b,((8+8*i):Int),(s.drop (8+8*i)).take 8)],z)) (by omega);simp only[jz];rw[fG,ae,D4 (by omega) (by omega),ab,aQ (by rw[zD,aS];omega)];rfl
 simp only[ai,ae,ab,bO,Wl];cases pR f==0;exact key 0;exact key 1
def XJ (f:bp)(l:ar dj)(n part:Int):Nat->bp
 |0=>f
 |i+1=>Q8 (XJ f l n part i) (l.getD i asa) (if(i:Int)<n then 96 else part)
theorem MZ (f:bp)(l:ar dj)(n part:Int):∀i,(XJ f l n part i).length=f.length
 |0=>rfl
 |i+1=>by rw[XJ,akP,MZ f l n part i]
def aoc (f:bp)(l:ar dj)(n part:Int):bp:=XJ f l n part (min l.length (n.toNat+1))
theorem afY (f:bp)(l:ar dj)(n part:Int)(hf:f.length<=10^9)(hl:l.length<=1000)(hn:0<=n/\n<=1000)(hp:0<=part):AM f l n part=some (aoc f l n part):=by
 unfold AM aoc;rw[mN,nB f hf,ab,ab,fG,ae,fG,ab,ae];refine bz (λi=>((i:Int),XJ f l n part i)) (min l.length n.toNat) (by omega) (λi nx hi=>?_) (λnx=>?_);have SU:i<l.length:=by omega
 simp only[tK];rw[gL,af,gL,ab,af,aN SU,ab,acU _ _ _ (by rw[MZ];exact hf),ab,aj (by omega) (by omega),XJ,dx SU,zip];rfl;simp only[tK];have e:(cond (decide ((((min l.length n.toNat:Nat)):Int)<(l.length))) (some (decide ((((min l.length n.toNat)))<n))) (some false))=some false:=by by_cases h:(((min l.length n.toNat:Nat)):Int)<(l.length);rw[ax h,af,fG];rw[aq h];rfl
 rw[e,ab,ae];by_cases h:n<(l.length);obtain⟨k,hk⟩:=aD hn.1;subst hk;have hk2:k<l.length:=by omega
 rw[ax h,af,aN hk2,ab,aw,jw (by omega),acU _ _ _ (by rw[MZ];exact hf),ab,jw (by omega),XJ,dx hk2,ny];rw[aq h,ae,hG (by omega),hG (by omega)]
theorem agZ (f:bp)(l:ar dj)(n part:Int)(hf:f.length<=10^9)(hl:l.length<=1000)(hn:0<=n/\n<=1000)(hp:0<=part):Ca f l n part=some (aoc f l n part):=by
 unfold Ca aoc;rw[fb hf,fG,ae,fG,ab,ae,bH];refine bz (λi=>((i:Int),XJ f l n part i)) (min l.length (n.toNat+1)) (by omega) (λi nx hi=>?_) (λnx=>?_);have SU:i<l.length:=by omega
 simp only[uj];rw[gL,af,gL,ab,af,aj (by omega) (by omega),aN SU,XJ,dx SU];by_cases h:(i)<n;rw[ax h,af,ab,aeb _ _ _ (by rw[MZ];exact hf),ab,aM h];rfl;rw[aq h,ae,ab,aeb _ _ _ (by rw[MZ];exact hf),ab,aK h];rfl;simp only[uj];have e:(cond (decide ((((min l.length (n.toNat+1):Nat)):Int)<(l.length))) (some (decide ((((min l.length (n.toNat+1))))<=n))) (some false))=some false:=by by_cases h:(((min l.length (n.toNat+1):Nat)):Int)<(l.length);rw[ax h,af,fG];rw[aq h];rfl
 rw[e,ab,ae]
theorem aeh {f:bp}(h:iS f=true)(x:dj)(part:Int):iS (Q8 f x part)=true:=by
 unfold Q8;cases hc: !iS f||(!D3 x||decide (part<0));case true=>exact h
 simp only[dy,ef]at hc;obtain⟨hb,_⟩:=Sy hc.2.1;obtain⟨n,en,hn,e0,h96⟩:=RG h hb;refine(ai3 h hb ?_).1;rw[en,aw];cases x.1==0;rw[ae,LZ];exact h96;rw[af,JT];exact h96
theorem K1 {f:bp}(h:iS f=true)(l:ar dj)(n part:Int):∀i,iS (XJ f l n part i)=true
 |0=>h
 |i+1=>aeh (K1 h l n part i) _ _
def Vf (k:kl)(n:Int):kl:=(ak (k.1+ak (n-(if k.2.2.2<n then k.2.2.2 else n))),k.2.1,k.2.2.1,ak (k.2.2.2-(if k.2.2.2<n then k.2.2.2 else n)))
theorem ak5 (a b c:Int):ak (ak (a+b)-c)=ak (a+ak (b-c)):=by simp only[ak,gU,IntKind.wrap,IntKind.bits,IntKind.signed];simp;omega
def alh (k:kl)(n:Int):kl:=
 bif !Gw k|| !du n 0 1000000 then k else
 bif !Gw ((Vf k (ak (Int.tdiv (ak (k.2.1+ak (k.2.2.1*n))) 1048576))).1,tmod (ak (k.2.1+ak (k.2.2.1*n))) 1048576,(Vf k (ak (Int.tdiv (ak (k.2.1+ak (k.2.2.1*n))) 1048576))).2.2) then k else
 ((Vf k (ak (Int.tdiv (ak (k.2.1+ak (k.2.2.1*n))) 1048576))).1,tmod (ak (k.2.1+ak (k.2.2.1*n))) 1048576,(Vf k (ak (Int.tdiv (ak (k.2.1+ak (k.2.2.1*n))) 1048576))).2.2)
theorem acC (k:kl)(n:Int):tz k n=some (alh k n):=by grind[RT,Vf,tz,alh,Ys,cr,ab,du]
theorem adU (k:kl)(n:Int):tZ k n=some (alh k n):=by
 have eg:∀m,F6 k m=some (Vf k m):=λm=>by unfold F6 Vf;rw[ak5]
 grind[tZ,alh,Sp,cm,ab]
end
end Go.Pu
section
namespace Go.Pu
open Go.Dn
open List (range)
open Int (tmod)
set_option linter.unusedVariables false
set_option linter.unusedSimpArgs false
set_option maxRecDepth 100000
set_option maxHeartbeats 4000000
theorem DF:XN (.sl (.int .i64)) ed:=by
 refine aaB (e:=(.int .i64)) (T:=qo (λ_ y _ z=>some (y,z))) (λl i hi k nx h1 h2 h3 hx=>?_) (λl k nx=>?_)
 ·try simp only[kJ,nM,kI,nN,dg,dh,<-dJ]at h2
  simp only[qo];rw[gL];simp (disch:=omega) only[af,aN hi,ab,rk,aL,dF,aw,aj,aK,ne3,jv];try simp only[Ig,R2,Nv,R3,kJ,nM,kI,nN,dg,dh,<-dJ]
 simp only[qo];rw[fG];rfl
theorem Hp:XN (.sl .str) ja:=by
 refine aaB (e:=.str) (T:=lR (λ_ y _ z=>some (y,z))) (λl i hi k nx h1 h2 h3 hx=>?_) (λl k nx=>?_)
 ·try simp only[kJ,nM,kI,nN,dg,dh,<-dJ]at h2
  simp only[lR];rw[gL];simp (disch:=omega) only[af,aN hi,ab,rk,aL,dF,aw,aj,aK,ne3,jv];try simp only[Ig,R2,Nv,R3,kJ,nM,kI,nN,dg,dh,<-dJ]
 simp only[lR];rw[fG];rfl
theorem ade:XN (.sl eG) tU:=Lx (e:=eG) (T:=vh (λ_ y _ z=>some (y,z))) (f:=cf) (.pair (.int _) (.pair (.int _) (.pair (.int _) .bool))) jv ⟨bF,⟨bF,⟨bF,bF⟩⟩⟩ (λl k i nx=>by kernel_rfl)
theorem am5:XN (.sl kZ) BC:=Lx (e:=kZ) (T:=BD (λ_ y _ z=>some (y,z))) (f:=cf) (.pair (.int _) (.pair (.int _) (.sl (e:=(.int .i64)) ed))) jv ⟨bF,⟨bF,DF⟩⟩ (λl k i nx=>by kernel_rfl)
theorem adf:XN (.sl dR) tV:=Lx (e:=dR) (T:=vi (λ_ y _ z=>some (y,z))) (f:=cf) (.pair (.pair (.int _) (.pair (.int _) (.pair (.int _) (.int _)))) (.pair (.pair (.int _) (.pair (.int _) (.int _))) (.pair (.pair (.int _) (.pair (.int _) (.int _))) (.pair (.pair (.pair (.int _) (.pair (.int _) (.pair (.int _) (.pair (.int _) (.pair (.int _) (.pair (.int _) (.pair (.int _) (.pair (.int _) (.pair (.int _) (.pair (.int _) (.pair (.int _) (.pair (.int _) (.pair (.int _) (.pair (.int _) (.pair (.int _) .str))))))))))))))) (.pair (.int _) (.int _))) (.pair .bool (.int _)))))) jv ⟨⟨bF,⟨bF,⟨bF,bF⟩⟩⟩,⟨⟨bF,⟨bF,bF⟩⟩,⟨⟨bF,⟨bF,bF⟩⟩,⟨⟨⟨bF,⟨bF,⟨bF,⟨bF,⟨bF,⟨bF,⟨bF,⟨bF,⟨bF,⟨bF,⟨bF,⟨bF,⟨bF,⟨bF,⟨bF,bF⟩⟩⟩⟩⟩⟩⟩⟩⟩⟩⟩⟩⟩⟩⟩,⟨bF,bF⟩⟩,⟨bF,bF⟩⟩⟩⟩⟩ (λl k i nx=>by kernel_rfl)
theorem am3:XN (.sl jT) Bx:=Lx (e:=jT) (T:=Bz (λ_ y _ z=>some (y,z))) (f:=cf) (.pair (.int _) (.pair (.int _) (.pair (.int _) (.sl (e:=(.int .i64)) ed)))) jv ⟨bF,⟨bF,⟨bF,DF⟩⟩⟩ (λl k i nx=>by kernel_rfl)
theorem agi:XN (.sl gZ) wC:=Lx (e:=gZ) (T:=xu (λ_ y _ z=>some (y,z))) (f:=cf) (.pair (.int _) (.pair (.int _) (.pair (.int _) (.pair (.int _) (.pair .bool .bool))))) jv ⟨bF,⟨bF,⟨bF,⟨bF,⟨bF,bF⟩⟩⟩⟩⟩ (λl k i nx=>by kernel_rfl)
theorem am1:XN (.sl .bool) Bs:=by
 refine aaB (e:=.bool) (T:=og (λ_ y _ z=>some (y,z))) (λl i hi k nx h1 h2 h3 hx=>?_) (λl k nx=>?_)
 ·try simp only[kJ,nM,kI,nN,dg,dh,<-dJ]at h2
  simp only[og];rw[gL];simp (disch:=omega) only[af,aN hi,ab,rk,aL,dF,aw,aj,aK,ne3,jv];try simp only[Ig,R2,Nv,R3,kJ,nM,kI,nN,dg,dh,<-dJ]
 simp only[og];rw[fG];rfl
theorem am4:XN (.sl tu) BA:=Lx (e:=tu) (T:=BB (λ_ y _ z=>some (y,z))) (f:=cf) (.pair (.int _) (.pair (.int _) (.pair (.int _) (.pair (.int _) (.pair (.int _) (.pair (.int _) (.pair (.int _) (.pair (.int _) (.int _))))))))) jv ⟨bF,⟨bF,⟨bF,⟨bF,⟨bF,⟨bF,⟨bF,⟨bF,bF⟩⟩⟩⟩⟩⟩⟩⟩ (λl k i nx=>by kernel_rfl)
theorem am6:XN (.sl np) BE:=Lx (e:=np) (T:=BF (λ_ y _ z=>some (y,z))) (f:=cf) (.pair (.int _) (.pair (.pair (.int _) (.pair (.int _) (.pair (.int _) (.pair (.int _) (.int _))))) (.int _))) jv ⟨bF,⟨⟨bF,⟨bF,⟨bF,⟨bF,bF⟩⟩⟩⟩,bF⟩⟩ (λl k i nx=>by kernel_rfl)
theorem agh:XN (.sl eD) wA:=Lx (e:=eD) (T:=xt (λ_ y _ z=>some (y,z))) (f:=cf) (.pair (.pair (.int _) (.pair (.int _) (.pair (.int _) (.pair (.int _) (.int _))))) (.pair (.int _) (.pair .str .bool))) jv ⟨⟨bF,⟨bF,⟨bF,⟨bF,bF⟩⟩⟩⟩,⟨bF,⟨bF,bF⟩⟩⟩ (λl k i nx=>by kernel_rfl)
theorem am2:XN (.sl cS) G4:=Lx (e:=cS) (T:=Bv (λ_ y _ z=>some (y,z))) (f:=cf) (.pair (.sl (e:=.str) ja) (.pair (.sl (e:=eG) tU) (.pair (.pair (.pair (.int _) (.pair (.int _) (.pair (.int _) (.int _)))) (.pair (.pair (.int _) (.pair (.int _) (.pair (.int _) (.sl (e:=(.int .i64)) ed)))) (.pair (.sl (e:=kZ) BC) (.int _)))) (.pair (.sl (e:=dR) tV) (.pair (.sl (e:=jT) Bx) (.pair (.sl (e:=gZ) wC) (.pair (.sl (e:=.bool) Bs) (.pair (.pair (.int _) (.pair .bool (.sl (e:=(.int .i64)) ed))) (.pair (.pair (.sl (e:=tu) BA) (.pair (.sl (e:=np) BE) (.pair .str (.sl (e:=(.int .i64)) ed)))) (.pair (.sl (e:=eD) wA) (.pair .bool (.pair (.sl (e:=.str) ja) (.pair (.sl (e:=(.int .i64)) ed) (.pair (.sl (e:=(.int .i64)) ed) (.pair (.int _) (.pair (.int _) (.pair (.int _) (.pair (.int _) (.int _))))))))))))))))))) jv ⟨Hp,⟨ade,⟨⟨⟨bF,⟨bF,⟨bF,bF⟩⟩⟩,⟨⟨bF,⟨bF,⟨bF,DF⟩⟩⟩,⟨am5,bF⟩⟩⟩,⟨adf,⟨am3,⟨agi,⟨am1,⟨⟨bF,⟨bF,DF⟩⟩,⟨⟨am4,⟨am6,⟨bF,DF⟩⟩⟩,⟨agh,⟨bF,⟨Hp,⟨DF,⟨DF,⟨bF,⟨bF,⟨bF,⟨bF,bF⟩⟩⟩⟩⟩⟩⟩⟩⟩⟩⟩⟩⟩⟩⟩⟩⟩⟩ (λl k i nx=>by kernel_rfl)
theorem NX:XN (.sl cA) nt:=Lx (e:=cA) (T:=lE (λ_ y _ z=>some (y,z))) (f:=cf) (.pair (.int _) (.pair (.int _) (.pair (.pair (.int _) (.pair (.int _) (.int _))) (.pair .bool (.pair (.int _) (.int _)))))) jv ⟨bF,⟨bF,⟨⟨bF,⟨bF,bF⟩⟩,⟨bF,⟨bF,bF⟩⟩⟩⟩⟩ (λl k i nx=>by kernel_rfl)
theorem adb:XN (.sl fQ) Bw:=Lx (e:=fQ) (T:=vg (λ_ y _ z=>some (y,z))) (f:=cf) (.pair (.pair (.int _) (.pair .bool (.sl (e:=(.int .i64)) ed))) (.pair (.int _) (.pair (.int _) (.int _)))) jv ⟨⟨bF,⟨bF,DF⟩⟩,⟨bF,⟨bF,bF⟩⟩⟩ (λl k i nx=>by kernel_rfl)
theorem adn:MtM (.sl .str) Bu:=by intro a h k h1 h2;simp (disch:=omega) only[Bu,ab,Hp.top a h]
theorem T3 (a:cn):ly gB a=ly (.sl cS) a.1+(ly (.sl cA) a.2.1+(ly (.sl fQ) a.2.2.1+(ly (.sl .str) a.2.2.2.1+((0+(0+(0+0)))+(ly (.sl (.int .i64)) a.2.2.2.2.2.1+(ly (.sl .str) a.2.2.2.2.2.2)))))):=rfl
theorem ah2 (a:cn)(k:Int):mkT gB a k=(mkT (.sl cS) a.1 (k),mkT (.sl cA) a.2.1 (k+((ly (.sl cS) a.1:Nat):Int)),mkT (.sl fQ) a.2.2.1 (k+((ly (.sl cS) a.1:Nat):Int)+((ly (.sl cA) a.2.1:Nat):Int)),mkT (.sl .str) a.2.2.2.1 (k+((ly (.sl cS) a.1:Nat):Int)+((ly (.sl cA) a.2.1:Nat):Int)+((ly (.sl fQ) a.2.2.1:Nat):Int)),a.2.2.2.2.1,mkT (.sl (.int .i64)) a.2.2.2.2.2.1 (k+((ly (.sl cS) a.1:Nat):Int)+((ly (.sl cA) a.2.1:Nat):Int)+((ly (.sl fQ) a.2.2.1:Nat):Int)+((ly (.sl .str) a.2.2.2.1:Nat):Int)),mkT (.sl .str) a.2.2.2.2.2.2 (k+((ly (.sl cS) a.1:Nat):Int)+((ly (.sl cA) a.2.1:Nat):Int)+((ly (.sl fQ) a.2.2.1:Nat):Int)+((ly (.sl .str) a.2.2.2.1:Nat):Int)+((ly (.sl (.int .i64)) a.2.2.2.2.2.1:Nat):Int))):=by simp only[ac9,ah5,ac8,ah6,XU,abJ,XT,abK,dg,Int.natCast_zero,Int.add_zero,<-dJ]
theorem ah7:MtM gB xS:=by intro a h k h1 h2;rw[T3]at h2;simp (disch:=omega) only[xS,ab,am2.top _ h.1,NX.top _ h.2.1,adb.top _ h.2.2.1,adn _ h.2.2.2.1,Hp.top _ h.2.2.2.1,DF.top _ h.2.2.2.2.2.1,adn _ h.2.2.2.2.2.2,Hp.top _ h.2.2.2.2.2.2];rw[ah2,T3];refine congrArg some (Prod.ext (by simp only;omega) ?_);first|rfl|simp only[ac9,ah5,ac8,ah6,XU,abJ,XT,abK,dg,Int.natCast_zero,Int.add_zero,<-dJ]
theorem Db:ZH (.sl (.int .i64)) dQ:=by
 refine aaA (e:=(.int .i64)) (H:=λv=>qn (λy _=>some y) (λ_ y _=>some y) v 0) (λl i hi x k nx hm h1 h2 h3 hx=>?_) (λl k nx=>?_)
 ·try simp only[kJ,nM,kI,nN,dg,dh,<-dJ]at h2
  try simp only[Ig,R2,Nv,R3,kJ,nM,kI,nN,dg,dh,<-dJ]at hm
  simp only[qn];rw[gL];simp (disch:=omega) only[af,aN hi,hm,ab,bne_self_eq_false,gC,ai,ae,aj,aK,ne3,JQ,jv];try simp only[kJ,nM,kI,nN,dg,dh,<-dJ]
 simp only[qn];rw[fG];rfl
theorem GI:ZH (.sl .str) iZ:=by
 refine aaA (e:=.str) (H:=λv=>lQ (λy _=>some y) (λ_ y _=>some y) v 0) (λl i hi x k nx hm h1 h2 h3 hx=>?_) (λl k nx=>?_)
 ·try simp only[kJ,nM,kI,nN,dg,dh,<-dJ]at h2
  try simp only[Ig,R2,Nv,R3,kJ,nM,kI,nN,dg,dh,<-dJ]at hm
  simp only[lQ];rw[gL];simp (disch:=omega) only[af,aN hi,hm,ab,bne_self_eq_false,gC,ai,ae,aj,aK,ne3,JQ,jv];try simp only[kJ,nM,kI,nN,dg,dh,<-dJ]
 simp only[lQ];rw[fG];rfl
theorem ack:ZH (.sl eG) tR:=MC (e:=eG) (H:=λv=>vd (λy _=>some y) (λ_ y _=>some y) v 0) (bad:=λ_ i k=>some (-1)) (f:=cf) (.pair (.int _) (.pair (.int _) (.pair (.int _) .bool))) jv ⟨bF,⟨bF,⟨bF,bF⟩⟩⟩ (λl k i nx=>by kernel_rfl)
theorem al6:ZH (.sl kZ) Bo:=MC (e:=kZ) (H:=λv=>Bp (λy _=>some y) (λ_ y _=>some y) v 0) (bad:=λ_ i k=>some (-1)) (f:=cf) (.pair (.int _) (.pair (.int _) (.sl (e:=(.int .i64)) dQ))) jv ⟨bF,⟨bF,Db⟩⟩ (λl k i nx=>by kernel_rfl)
theorem acm:ZH (.sl dR) tS:=MC (e:=dR) (H:=λv=>ve (λy _=>some y) (λ_ y _=>some y) v 0) (bad:=λ_ i k=>some (-1)) (f:=cf) (.pair (.pair (.int _) (.pair (.int _) (.pair (.int _) (.int _)))) (.pair (.pair (.int _) (.pair (.int _) (.int _))) (.pair (.pair (.int _) (.pair (.int _) (.int _))) (.pair (.pair (.pair (.int _) (.pair (.int _) (.pair (.int _) (.pair (.int _) (.pair (.int _) (.pair (.int _) (.pair (.int _) (.pair (.int _) (.pair (.int _) (.pair (.int _) (.pair (.int _) (.pair (.int _) (.pair (.int _) (.pair (.int _) (.pair (.int _) .str))))))))))))))) (.pair (.int _) (.int _))) (.pair .bool (.int _)))))) jv ⟨⟨bF,⟨bF,⟨bF,bF⟩⟩⟩,⟨⟨bF,⟨bF,bF⟩⟩,⟨⟨bF,⟨bF,bF⟩⟩,⟨⟨⟨bF,⟨bF,⟨bF,⟨bF,⟨bF,⟨bF,⟨bF,⟨bF,⟨bF,⟨bF,⟨bF,⟨bF,⟨bF,⟨bF,⟨bF,bF⟩⟩⟩⟩⟩⟩⟩⟩⟩⟩⟩⟩⟩⟩⟩,⟨bF,bF⟩⟩,⟨bF,bF⟩⟩⟩⟩⟩ (λl k i nx=>by kernel_rfl)
theorem al4:ZH (.sl jT) Bk:=MC (e:=jT) (H:=λv=>Bl (λy _=>some y) (λ_ y _=>some y) v 0) (bad:=λ_ i k=>some (-1)) (f:=cf) (.pair (.int _) (.pair (.int _) (.pair (.int _) (.sl (e:=(.int .i64)) dQ)))) jv ⟨bF,⟨bF,⟨bF,Db⟩⟩⟩ (λl k i nx=>by kernel_rfl)
theorem afA:ZH (.sl gZ) wz:=MC (e:=gZ) (H:=λv=>xr (λy _=>some y) (λ_ y _=>some y) v 0) (bad:=λ_ i k=>some (-1)) (f:=cf) (.pair (.int _) (.pair (.int _) (.pair (.int _) (.pair (.int _) (.pair .bool .bool))))) jv ⟨bF,⟨bF,⟨bF,⟨bF,⟨bF,bF⟩⟩⟩⟩⟩ (λl k i nx=>by kernel_rfl)
theorem al2:ZH (.sl .bool) Bg:=by
 refine aaA (e:=.bool) (H:=λv=>oe (λy _=>some y) (λ_ y _=>some y) v 0) (λl i hi x k nx hm h1 h2 h3 hx=>?_) (λl k nx=>?_)
 ·try simp only[kJ,nM,kI,nN,dg,dh,<-dJ]at h2
  try simp only[Ig,R2,Nv,R3,kJ,nM,kI,nN,dg,dh,<-dJ]at hm
  simp only[oe];rw[gL];simp (disch:=omega) only[af,aN hi,hm,ab,bne_self_eq_false,gC,ai,ae,aj,aK,ne3,JQ,jv];try simp only[kJ,nM,kI,nN,dg,dh,<-dJ]
 simp only[oe];rw[fG];rfl
theorem al5:ZH (.sl tu) Bm:=MC (e:=tu) (H:=λv=>Bn (λy _=>some y) (λ_ y _=>some y) v 0) (bad:=λ_ i k=>some (-1)) (f:=cf) (.pair (.int _) (.pair (.int _) (.pair (.int _) (.pair (.int _) (.pair (.int _) (.pair (.int _) (.pair (.int _) (.pair (.int _) (.int _))))))))) jv ⟨bF,⟨bF,⟨bF,⟨bF,⟨bF,⟨bF,⟨bF,⟨bF,bF⟩⟩⟩⟩⟩⟩⟩⟩ (λl k i nx=>by kernel_rfl)
theorem al7:ZH (.sl np) Bq:=MC (e:=np) (H:=λv=>Br (λy _=>some y) (λ_ y _=>some y) v 0) (bad:=λ_ i k=>some (-1)) (f:=cf) (.pair (.int _) (.pair (.pair (.int _) (.pair (.int _) (.pair (.int _) (.pair (.int _) (.int _))))) (.int _))) jv ⟨bF,⟨⟨bF,⟨bF,⟨bF,⟨bF,bF⟩⟩⟩⟩,bF⟩⟩ (λl k i nx=>by kernel_rfl)
theorem afz:ZH (.sl eD) wy:=MC (e:=eD) (H:=λv=>xq (λy _=>some y) (λ_ y _=>some y) v 0) (bad:=λ_ i k=>some (-1)) (f:=cf) (.pair (.pair (.int _) (.pair (.int _) (.pair (.int _) (.pair (.int _) (.int _))))) (.pair (.int _) (.pair .str .bool))) jv ⟨⟨bF,⟨bF,⟨bF,⟨bF,bF⟩⟩⟩⟩,⟨bF,⟨bF,bF⟩⟩⟩ (λl k i nx=>by kernel_rfl)
theorem al3:ZH (.sl cS) G3:=MC (e:=cS) (H:=λv=>Bi (λy _=>some y) (λ_ y _=>some y) v 0) (bad:=λ_ i k=>some (-1)) (f:=cf) (.pair (.sl (e:=.str) iZ) (.pair (.sl (e:=eG) tR) (.pair (.pair (.pair (.int _) (.pair (.int _) (.pair (.int _) (.int _)))) (.pair (.pair (.int _) (.pair (.int _) (.pair (.int _) (.sl (e:=(.int .i64)) dQ)))) (.pair (.sl (e:=kZ) Bo) (.int _)))) (.pair (.sl (e:=dR) tS) (.pair (.sl (e:=jT) Bk) (.pair (.sl (e:=gZ) wz) (.pair (.sl (e:=.bool) Bg) (.pair (.pair (.int _) (.pair .bool (.sl (e:=(.int .i64)) dQ))) (.pair (.pair (.sl (e:=tu) Bm) (.pair (.sl (e:=np) Bq) (.pair .str (.sl (e:=(.int .i64)) dQ)))) (.pair (.sl (e:=eD) wy) (.pair .bool (.pair (.sl (e:=.str) iZ) (.pair (.sl (e:=(.int .i64)) dQ) (.pair (.sl (e:=(.int .i64)) dQ) (.pair (.int _) (.pair (.int _) (.pair (.int _) (.pair (.int _) (.int _))))))))))))))))))) jv ⟨GI,⟨ack,⟨⟨⟨bF,⟨bF,⟨bF,bF⟩⟩⟩,⟨⟨bF,⟨bF,⟨bF,Db⟩⟩⟩,⟨al6,bF⟩⟩⟩,⟨acm,⟨al4,⟨afA,⟨al2,⟨⟨bF,⟨bF,Db⟩⟩,⟨⟨al5,⟨al7,⟨bF,Db⟩⟩⟩,⟨afz,⟨bF,⟨GI,⟨Db,⟨Db,⟨bF,⟨bF,⟨bF,⟨bF,bF⟩⟩⟩⟩⟩⟩⟩⟩⟩⟩⟩⟩⟩⟩⟩⟩⟩⟩ (λl k i nx=>by kernel_rfl)
theorem NT:ZH (.sl cA) ns:=MC (e:=cA) (H:=λv=>lD (λy _=>some y) (λ_ y _=>some y) v 0) (bad:=λ_ i k=>some (-1)) (f:=cf) (.pair (.int _) (.pair (.int _) (.pair (.pair (.int _) (.pair (.int _) (.int _))) (.pair .bool (.pair (.int _) (.int _)))))) jv ⟨bF,⟨bF,⟨⟨bF,⟨bF,bF⟩⟩,⟨bF,⟨bF,bF⟩⟩⟩⟩⟩ (λl k i nx=>by kernel_rfl)
theorem acj:ZH (.sl fQ) Bj:=MC (e:=fQ) (H:=λv=>vc (λy _=>some y) (λ_ y _=>some y) v 0) (bad:=λ_ i k=>some (-1)) (f:=cf) (.pair (.pair (.int _) (.pair .bool (.sl (e:=(.int .i64)) dQ))) (.pair (.int _) (.pair (.int _) (.int _)))) jv ⟨⟨bF,⟨bF,Db⟩⟩,⟨bF,⟨bF,bF⟩⟩⟩ (λl k i nx=>by kernel_rfl)
theorem acw:MtH (.sl .str) Bh:=by intro a h k h1 h2;simp (disch:=omega) only[Bh,ab,GI.top a h,JQ,ae]
theorem aoR:MtH gB sT:=by intro a h k h1 h2;rw[T3]at h2;rw[ah2];simp (disch:=omega) only[sT,ab,al3.top _ h.1,NT.top _ h.2.1,acj.top _ h.2.2.1,acw _ h.2.2.2.1,GI.top _ h.2.2.2.1,Db.top _ h.2.2.2.2.2.1,acw _ h.2.2.2.2.2.2,GI.top _ h.2.2.2.2.2.2,JQ,ae];rw[T3];refine congrArg some (by omega)
theorem ada:XN (.sl gn) Bt:=Lx (e:=gn) (T:=vf (λ_ y _ z=>some (y,z))) (f:=cf) (.pair (.int _) (.pair (.int _) (.pair (.pair (.int _) (.pair (.pair (.int _) (.pair (.int _) (.pair (.int _) (.pair (.int _) (.pair (.int _) (.pair (.int _) (.pair (.int _) (.pair (.int _) (.pair (.int _) (.pair (.int _) (.pair (.int _) (.pair (.int _) (.pair (.int _) (.pair (.int _) (.pair (.int _) .str))))))))))))))) (.pair (.int _) (.pair (.int _) (.pair .str (.int _)))))) (.pair (.pair (.int _) (.pair (.int _) (.int _))) (.pair .str (.int _)))))) jv ⟨bF,⟨bF,⟨⟨bF,⟨⟨bF,⟨bF,⟨bF,⟨bF,⟨bF,⟨bF,⟨bF,⟨bF,⟨bF,⟨bF,⟨bF,⟨bF,⟨bF,⟨bF,⟨bF,bF⟩⟩⟩⟩⟩⟩⟩⟩⟩⟩⟩⟩⟩⟩⟩,⟨bF,⟨bF,⟨bF,bF⟩⟩⟩⟩⟩,⟨⟨bF,⟨bF,bF⟩⟩,⟨bF,bF⟩⟩⟩⟩⟩ (λl k i nx=>by kernel_rfl)
end Go.Pu
end
namespace Go.Pu
open Go.Dn
open List (range)
open Int (tmod)
set_option linter.unusedSimpArgs false
set_option linter.unusedVariables false
noncomputable section
variable {c:cn}
theorem Ry {a:Int}{m:Cx}{n:Nat}(hn:8<=n)(z:bt n gB c):bt n gB (jm c a m).1:=by have hb:=OO c.2.2.1 a.toNat m hn (λb hb=>(z.2.2.1.2 b hb).1.2.2.1);have hl:=Iv c.2.2.1 a.toNat m;unfold jm;cases gW c&&du a 0 ((c.2.2.1.length:Int)-1);exact z;simp only[af];split;rename_i h b h1 h2;have e2:=bM h2;have e1:=bM h1;refine⟨⟨?_,λx hx=>?_⟩,z.2.1,⟨?_,λx hx=>?_⟩,z.2.2.2⟩;show(c.1.set _ _).length<=n;rw[aL];exact z.1.1;rcases Kw hx with g|rfl;exact z.1.2 _ g;obtain⟨w1,w2,w3,w4,w5,w6,w7,w8,w9⟩:=z.1.2 _ e1;exact⟨w1,w2,w3,w4,w5,w6,w7,⟨bF,bF,⟨hb _ e2,λ_ _=>trivial⟩⟩,w9⟩;show(xm c.2.2.1 a.toNat m).1.length<=n;rw[hl];exact z.2.2.1.1;exact⟨⟨bF,bF,⟨hb _ hx,λ_ _=>trivial⟩⟩,bF,bF,bF⟩;exact z
def okC (c:cn)(a:dm):Bool:=Rs a.2.2.1&&(du a.2.1 0 ((c.2.1.length:Int)-1)&&(du a.1 0 2&&du a.2.2.2.2.2 0 100))
noncomputable def XI (c:cn)(a:dm):bp:=aoc c.2.2.2.1 (C2 c.2.2.2.1 a.2.2.2.2.1) a.2.2.2.2.2 3
noncomputable def C9 (c:cn)(a:dm):cn×Int:=
 bif !gW c|| !okC c a then(c, -1) else
 bif a.1==1 then jm c a.2.1 a.2.2.2.1 else
 bif a.1==2 then((c.1.map BR,c.2.1,c.2.2.1,XI c a,c.2.2.2.2),abB (XI c a)) else
 bif a.2.2.1.1==1 then(C8 c a.2.1,0) else
 bif a.2.2.1.1==2 then(yd c a.2.2.1.2.2.2.2.1,0) else
 bif a.2.2.1.1==4 then((c.1.map EE,c.2.1.map (Zw 1),c.2.2.1,c.2.2.2.1,alh c.2.2.2.2.1 1,c.2.2.2.2.2),0) else
 match c.1[a.2.1.toNat]? with
 |some h=>((c.1.set a.2.1.toNat (TB h a.2.2.1).1,c.2),(TB h a.2.2.1).2)
 |none=>(c, -1)
theorem PJ (h:gW c=true):(c.1.length=c.2.1.length/\c.1.length<=3)/\iS c.2.2.2.1=true/\∀x∈c.1,fy x=true:=by have h3:=(JL h).2.2;unfold gW at h;simp only[ah,aW,cM]at h;have hl:=Gi h.2.1;refine⟨⟨by omega,h3⟩,ae0 h.2.2.2.1.1,λx hx=>?_⟩;obtain⟨i,hi,rfl⟩:=List.getElem_of_mem hx;have:=aP.1 h.2.2.2.2.1 i (bU.2 hi);grind[JK]
theorem Yf {f:bp}(h:iS f=true):f.length=2:=by rw[(zF h).1];rfl
theorem acI (c:cn)(a:dm)(z:Cp 50000000 c)(hx:a.2.2.1.2.2.2.2.1.length<=10^9)(hs:a.2.2.2.2.1.length<=10^9):HX c a=some (C9 c a):=by
 have z9:bt 1000000000 gB c:=z.z.mono;have zh:∀h∈c.1,D8 90000000 h:=λh hh=>(z.h h hh).mono;unfold HX C9;rw[vM c z9,ab,Jd c (z.sz),ab];cases hb:gW c;rfl;obtain⟨⟨hl,h3⟩,hf,_⟩:=PJ hb;have lg:AQ a (c.2.1.length:Int)=some (okC c a):=by unfold AQ okC;simp only[ahO,cr,ab];rw[aj (n:=(c.2.1.length:Int)-1) (by omega) (by omega)];cases Rs a.2.2.1<;>cases du a.2.1 0 ((c.2.1.length:Int)-1)<;>cases du a.1 0 2<;>rfl
 simp only[ai,ae,lg,ab,cC];cases ho:okC c a;rfl;simp only[ai,ae];unfold okC at ho;simp only[ah,bq]at ho;cases a.1==1;case true=>rw[TI c _ _ (z.z.mono) (z.sz)];rfl
 cases a.1==2 with
 |true=>simp only[af,ae];have hu:=K1 hf (C2 c.2.2.2.1 a.2.2.2.2.1) a.2.2.2.2.2 3 (min (C2 c.2.2.2.1 a.2.2.2.2.1).length (a.2.2.2.2.2.toNat+1));rw[ajA _ _ hs,ab,afY _ _ _ _ (by rw[Yf hf];omega) (aF (Wy ..) (by omega)) (by omega) (by omega),ab,agC _ _ c.1 _ (by omega) zh];show aa (pU (XI c a)) _=_;rw[ajh (f:=XI c a) hu];rfl
 |false=>
  simp only[ae];cases a.2.2.1.1==1;case true=>rw[afH c _ (z.mono)];rfl
  cases a.2.2.1.1==2;case true=>rw[TJ c _ (z.mono) hx];rfl
  cases a.2.2.1.1==4 with|true=>grind[akZ,acW,ab,acC]|false=>grind[aN,ab,ajj]
theorem adY (c:cn)(a:dm)(z:Cp 50000000 c)(hx:a.2.2.1.2.2.2.2.1.length<=10^9)(hs:a.2.2.2.2.1.length<=10^9)(hm:a.2.2.2.1.1<=9223372036854775807):It c a=some (C9 c a):=by
 have z9:bt 1000000000 gB c:=z.z.mono;have zh:∀h∈c.1,D8 90000000 h:=λh hh=>(z.h h hh).mono;unfold It C9;rw[wH c z9,ab,Jx c (z.sz),ab];cases hb:gW c;rfl;obtain⟨⟨hl,h3⟩,hf,_⟩:=PJ hb;have lg:(aa (CZ a.2.2.1) λr3=>cond (!r3) (some true) (cond (decide (a.2.1<0)) (some true) (cond (decide (a.2.1>=(c.1.length:Int))) (some true) (aa (aI a.1 0 2) λr4=>cond (!r4) (some true) (aa (aI a.2.2.2.2.2 0 100) λr5=>some (!r5))))))=some (!okC c a):=by unfold okC;rw[aij,ab,cm,cm,show du a.2.1 0 ((c.2.1.length:Int)-1)=(!decide (a.2.1<0)&& !decide (a.2.1>=(c.1.length:Int))) from by grind[bq]];cases Rs a.2.2.1<;>cases decide (a.2.1<0)<;>cases decide (a.2.1>=(c.1.length:Int))<;>cases du a.1 0 2<;>cases du a.2.2.2.2.2 0 100<;>rfl
 simp only[ai,ae,lg,ab,cC];cases ho:okC c a;rfl;simp only[ai,ae];unfold okC at ho;simp only[ah,bq]at ho;cases a.1==1;case true=>rw[TU c _ _ (z.z.mono) (z.sz) hm];rfl
 cases a.1==2 with
 |true=>simp only[af,ae];have hu:=K1 hf (C2 c.2.2.2.1 a.2.2.2.2.1) a.2.2.2.2.2 3 (min (C2 c.2.2.2.1 a.2.2.2.2.1).length (a.2.2.2.2.2.toNat+1));rw[akH _ _ hs,ab,agZ _ _ _ _ (by rw[Yf hf];omega) (aF (Wy ..) (by omega)) (by omega) (by omega),ab];show aH (nH _ (c.1,c.2) _) fuel (0,c.1,_)=_;rw[adF _ _ c.1 _ _ (by omega) zh];show aa (qH (XI c a)) _=_;rw[aks (f:=XI c a) hu];rfl
 |false=>
  simp only[ae];cases a.2.2.1.1==1;case true=>rw[agK c _ (z.mono)];rfl
  cases a.2.2.1.1==2;case true=>rw[TV c _ (z.mono) hx];rfl
  cases a.2.2.1.1==4 with|true=>simp only[af,ae];show aH (nI _ (c.1,c.2) _) fuel (0,c.1,c.2)=_;rw[ahj _ _ c.1 _ _ (by omega) zh];grind[aed,ab,adU]|false=>grind[aN,ab,akt]
def Iu (c:cn):Prop:=∀h∈c.1,PB h
theorem U3 (f:Iu c){k:Nat}{h:Host}(fh:PB h):Iu (adO c k h):=λx hx=>by rcases eR hx with e|e;exact f x e;rw[e];exact fh
theorem alR {h:Host}(x:Bytes)(f:PB h):PB (qD h x):=by
 have c:∀a b c d,PB (JP h a b c d):=λ_ _ _ _=>⟨f.pl,f.w⟩
 unfold qD;cases !fy h;case true=>exact f
 cases (jI x).2 !=0;case true=>exact c _ _ _ _
 cases !Ah h.2.2.2.2.2.2.2.1 (jI x).1;case true=>exact c _ _ _ _
 cases zA h.2.2.2.2.2.2.2.2.1 (h.2.2.2.1.length:Int) (jI x).1== -1;case true=>exact c _ _ _ _
 simp only[ae];cases h.2.2.2.1[(zA h.2.2.2.2.2.2.2.2.1 (h.2.2.2.1.length:Int) (jI x).1).toNat]? with|none=>exact f|some q=>exact PR (c _ _ _ _) (M3 (alj ..))
theorem afu (ps:ar Port)(v:Int)(p:aR)(j:Nat)(f:Iu c):Iu (df ps v p c j):=by unfold df;cases j==0 with|true=>exact f|false=>simp only[ae];cases hc:c.1[j-1]? with|none=>exact f|some h=>exact U3 f (alR _ (f h (bM hc)))
theorem X7 (ps:ar Port)(v:Int)(p:aR):∀(l:ei){c:cn},Iu c->Iu (Sj ps v p c l)
 |[],c,f=>f
 |j::l,c,f=>X7 ps v p l (afu ps v p j f)
theorem N3 (e:Int)(p:aR)(f:Iu c):Iu (yq c e p):=by grind[yq,X7]
theorem U2 (ps:ar Port)(k:Int):∀(l:bp){c:cn},Iu c->Iu (Jv ps k c l)
 |[],c,f=>f
 |x::l,c,f=>by refine U2 ps k l (c:=MM ps k c x) ?_;grind[MM,Iu,D5,N3]
theorem aoJ (k:Int)(f:Iu c):Iu (C8 c k):=by unfold C8;cases gW c&&(!decide (k<0)&& !decide (k>=(c.1.length:Int)));exact f;simp only[af];cases hc:c.1[k.toNat]? with|none=>exact f|some h=>exact U2 _ _ _ (U3 f (PU (f h (bM hc))))
theorem Z6 (x:Bytes)(f:Iu c):Iu (yd c x):=by
 unfold yd;cases !gW c;case true=>exact f
 cases (jI x).2==0 with|true=>exact N3 _ _ (c:=KR c) f|false=>exact f
theorem ah3 {a:Int}{m:Cx}{x:Host}(hx:x∈(jm c a m).1.1):x∈c.1\/∃h f,h∈c.1/\x=WU h f:=by unfold jm at hx;cases hb:gW c&&du a 0 ((c.2.2.1.length:Int)-1)with|false=>rw[hb]at hx;exact Or.inl hx|true=>rw[hb]at hx;simp only[af]at hx;split at hx;rename_i h b h1 h2;rcases eR hx with e|e;exact Or.inl e;exact Or.inr ⟨h,b.1,bM h1,e⟩;exact Or.inl hx
theorem aou (c:cn)(a:Int)(m:Cx):(jm c a m).1.1.length=c.1.length:=by unfold jm;grind
theorem aff {N:Nat}(hN:1000<=N)(a:dm)(z:Cp N c)(f:Iu c):Cp (N+645000) (C9 c a).1/\(C9 c a).1.1.length=c.1.length/\Iu (C9 c a).1:=by
 have z':Cp (N+645000) c:=z.mono;unfold C9;cases hc: !gW c|| !okC c a;case true=>exact⟨z',rfl,f⟩
 simp only[dy,ef]at hc;obtain⟨⟨hl,h3⟩,hf,hh⟩:=PJ hc.1;simp only[ae];cases a.1==1 with
 |true=>have zl:=Ry (a:=a.2.1) (m:=a.2.2.2.1) (show 8<=N+645000 by omega) z'.z;refine⟨⟨zl,λx hx=>⟨zl.1.2 x hx,?_⟩⟩,aou ..,λx hx=>?_⟩;rcases ah3 hx with e|⟨h,g,e1,rfl⟩;exact(z'.h x e).t;exact(z'.h h e1).t;rcases ah3 hx with e|⟨h,g,e1,rfl⟩;exact f x e;exact⟨(f h e1).pl,(f h e1).w⟩
 |false=>
  simp only[ae];cases a.1==2 with
  |true=>
   have zm:=ahB (M:=N+645000) (by omega) z (f:=BR) λh hq=>(Sh hN (z.h h hq) (f h hq)).1;have hu:=K1 hf (C2 c.2.2.2.1 a.2.2.2.2.1) a.2.2.2.2.2 3 (min (C2 c.2.2.2.1 a.2.2.2.2.1).length (a.2.2.2.2.2.toNat+1));have hu:iS (XI c a)=true:=hu;obtain⟨fe,f0,f1⟩:=zF hu;have fz:bt (N+645000) (.sl .str) (XI c a):=by rw[fe];refine⟨by show 2<=N+645000;omega,λx hx=>?_⟩;rcases cq.1 hx with e|hx;rw[e];show((XI c a).getD 0 []).length<=_;omega;rw[dC.1 hx];show((XI c a).getD 1 []).length<=_;omega
   refine⟨⟨⟨zm.z.1,zm.z.2.1,zm.z.2.2.1,fz,zm.z.2.2.2.2⟩,zm.h⟩,bW ..,λx hx=>?_⟩;obtain⟨h,hq,rfl⟩:=List.mem_map.1 hx;exact(Sh hN (z.h h hq) (f h hq)).2
  |false=>
   simp only[ae]
   cases a.2.2.1.1==1;case true=>
    have zt:=ae7 hN a.2.1 z
    exact⟨zt.1.mono,zt.2,aoJ _ f⟩
   cases a.2.2.1.1==2;case true=>
    have zr:=adD hN a.2.2.1.2.2.2.2.1 z
    exact⟨zr.1.mono,zr.2,Z6 _ f⟩
   cases a.2.2.1.1==4 with
   |true=>have zm:=ahB (M:=N+645000) (by omega) z (f:=EE) λh hq=>(aes hN (z.h h hq)).mono;refine⟨⟨⟨zm.z.1,⟨?_,λ_ _=>⟨bF,bF,⟨bF,bF,bF⟩,bF,bF,bF⟩⟩,zm.z.2.2.1,zm.z.2.2.2.1,⟨bF,bF,bF,bF⟩,zm.z.2.2.2.2.2⟩,zm.h⟩,bW ..,λx hx=>?_⟩;show(c.2.1.map (Zw 1)).length<=_;rw[bW];exact zm.z.2.1.1;obtain⟨h,hq,rfl⟩:=List.mem_map.1 hx;exact abZ (f h hq)
   |false=>simp only[ae];cases hk:c.1[a.2.1.toNat]? with|none=>exact⟨z',rfl,f⟩|some h=>have hm:=bM hk;have e:=alg hN a.2.2.1 (z.h h hm) (f h hm);exact⟨QP z' e.1,aL ..,U3 f e.2⟩
theorem Z5 (h:gW c=true):Iu c:=λx hx=>alQ ((PJ h).2.2 x hx)
theorem ahA {e:CT}{B:Nat}:∀{xs:ar e.D},(∀x∈xs,jX e x<=B)->jX (.sl e) xs<=xs.length*B
 |[],_=>by simp[jX]
 |y::l,h=>by have h1:=h y (by simp);have h2:=ahA (xs:=l) (λx hx=>h x (by simp[hx]));grind[jX,cx]
theorem aiM (z:bt 26848576 gB c)(h:c.1.length<=3)(f:Iu c):ly gB c<=900000000000000:=by have e1:ly gB c<=jX (.sl cS) c.1+jX (.pair (.sl cA) (.pair (.sl fQ) (.pair (.sl .str) (.pair zg (.pair (.sl (.int .i64)) (.sl .str)))))) c.2:=ZR;have e2:=ahA (e:=cS) (B:=400*(26848576+1)) (xs:=c.1) λx hx=>alP (z.1.2 x hx) (f x hx);have e3:=ma z.2;grind[T0]
def ap1 (s:cn×cI)(a:dm):cn×cI:=((C9 s.1 a).1,s.2++[(C9 s.1 a).2])
def Ph (c:cn)(l:ar dm):cn×cI:=l.foldl ap1 (c,[])
theorem Sk (c:cn)(l:ar dm)(i:Nat)(hi:i<l.length):Ph c (l.take (i+1))=ap1 (Ph c (l.take i)) l[i]:=by rw[aO hi,Ph,List.foldl_append];rfl
theorem QJ {n:Nat}(hn:1000<=n)(k:Cp n c)(f:Iu c)(l:ar dm):∀i,i<=l.length->Cp (n+645000*i) (Ph c (l.take i)).1/\(Ph c (l.take i)).1.1.length=c.1.length/\Iu (Ph c (l.take i)).1/\(Ph c (l.take i)).2.length=i
 |0,_=>⟨k,rfl,f,rfl⟩
 |i+1,hi=>by have g:=QJ hn k f l i (by omega);have e:=aff (by omega) (l[i]'(by omega)) g.1 g.2.2.1;rw[Sk c l i (by omega)];refine⟨e.1.mono,e.2.1.trans g.2.1,e.2.2,?_⟩;show(_++[_]).length=_;grind
def yf (c:cn)(l:ar dm):cn×cI:=bif !gW c||decide ((l.length:Int)>40) then(c,[]) else Ph c l
def ak8 (l:ar dm):Prop:=∀a∈l,a.2.2.1.2.2.2.2.1.length<=10^9/\a.2.2.2.2.1.length<=10^9/\a.2.2.2.1.1<=9223372036854775807
theorem aar (c:cn)(l:ar dm)(k:Cp 20000000 c)(hx:ak8 l):AL c l=some (yf c l):=by
 have Ae:=da;unfold AL yf;rw[vM c (k.z.mono),ab,Jd c (k.sz),ab];cases hb:gW c;rfl;cases hl:decide ((l.length:Int)>40);case true=>rfl
 rw[cM]at hl;simp only[ai,ae,ab,bO];refine bz (λi=>((Ph c (l.take i)).2,(i:Int),(Ph c (l.take i)).1)) l.length (by omega) (λi nx hi=>?_) (λnx=>?_);have g:=QJ (by omega) k (Z5 hb) l i (by omega);have x:=hx _ (aE hi);rw[Sk c l i hi];generalize Ph c (l.take i)=s at g⊢;simp only[yz];rw[gL,af,aN hi,ab,acI _ _ (g.1.mono) x.1 x.2.1,ab,aQ (by rw[g.2.2.2,aS];omega),aj (by omega) (by omega)];rfl;simp only[yz];rw[fG,ae,bA]
theorem aa9 (c:cn)(l:ar dm)(k:Cp 20000000 c)(hx:ak8 l):FZ c l=some (yf c l):=by
 have Ae:=da;unfold FZ yf;rw[wH c (k.z.mono),ab,Jx c (k.sz),ab];cases hb:gW c;rfl;cases hl:decide ((l.length:Int)>40);case true=>rfl
 rw[cM]at hl;simp only[ai,ae,ab,bO];refine bz (λi=>((Ph c (l.take i)).2,(i:Int),(Ph c (l.take i)).1)) l.length (by omega) (λi nx hi=>?_) (λnx=>?_);have g:=QJ (by omega) k (Z5 hb) l i (by omega);have x:=hx _ (aE hi);rw[Sk c l i hi];generalize Ph c (l.take i)=s at g⊢;simp only[yQ];rw[gL,af,aN hi,ab,adY _ _ (g.1.mono) x.1 x.2.1 x.2.2,ab,aQ (by rw[g.2.2.2,aS];omega),aj (by omega) (by omega)];rfl;simp only[yQ];rw[fG,ae,bA]
theorem aaT (l:ar dm)(z:Cp 1048576 c)(hc:ly gB c<=600000000000000):bt 26848576 gB (yf c l).1/\ly gB (yf c l).1<=900000000000000/\(yf c l).2.length<=40:=by
 unfold yf;cases hb:gW c;exact⟨z.z.mono,by grind,eh _⟩;cases hl:decide ((l.length:Int)>40);case true=>exact⟨z.z.mono,by grind,eh _⟩
 rw[cM]at hl;have h:=QJ (by omega) z (Z5 hb) l l.length (ba _);rw[bA]at h;have k:bt 26848576 gB (Ph c l).1:=h.1.z.mono;grind[aiM,PJ]
theorem aaU (a:cn)(l:ar dm)(ha:pJ gB a)(LW:pJ (.sl gn) l):xp a l=some true:=by
 unfold xp;refine(apr a ha).use (by omega) (by omega) λhl=>?_;refine(ael l LW).use (by omega) (by omega) λER=>?_;have hA:bt 1048576 gB a:=KU (by omega);have hL:bt 1048576 (.sl gn) l:=KU (by omega);have hz:Cp 1048576 a:=Cp.of (by omega);have hx:ak8 l:=λx hx=>⟨aF (hL.2 x hx).2.2.1.2.2.2.2.1 (by omega),aF (hL.2 x hx).2.2.2.2.1 (by omega),(LW.2 x hx).2.2.2.1.1.2⟩
 have hs:=aa9 a l (hz.mono) hx;have hi:=aar a l (hz.mono) hx;have c1:=abH (c:=a) (by omega);have c3:jX (.sl gn) l<=T0 1048576 (.sl gn):=ma hL;have b3:T0 1048576 (.sl gn)<=100000000000000:=by decide
 obtain⟨hR,c2,hn⟩:=aaT l hz c1;have hI:bt 40 (.sl (.int .i64)) (yf a l).2:=⟨hn,λ_ _=>trivial⟩
 generalize yf a l=q at hs hi hR c2 hI;have c4:jX (.sl (.int .i64)) q.2<=T0 40 (.sl (.int .i64)):=ma hI;have b4:T0 40 (.sl (.int .i64))<=1000:=by decide
 have m1:=ah7 a (hA.mono) 1 (by omega) (by omega);have m4:=ada l (hL.mono) (1+(ly gB a:Int)) (by omega) (by omega);have m2:=ah7 q.1 (hR.mono) 1 (by omega) (by omega);have m5:=DF q.2 (hI.mono) (1+(ly gB q.1:Int)) (by omega) (by omega);have m3:∀t,t=mkT gB q.1 1->sT t 1=some (1+(ly gB q.1:Int)):=by rintro _ rfl;exact aoR q.1 (hR.mono) 1 (by omega) (by omega)
 have m6:=Db q.2 (hI.mono) (1+(ly gB q.1:Int)) (by omega) (by omega);simp (disch:=omega) only[apy a hA,aew l hL,ab,hs,hi,ahD q.1 (hR.mono),ahD a (hA.mono),abQ l (hL.mono),HN q.2 (hI.mono),gC,bne_self_eq_false,ai,ae,m1,m2,m4,m5,JQ];rw[m3];simp (disch:=omega) only[ab,JQ,ae,bne_self_eq_false,m6];rfl
end
end Go.Pu
