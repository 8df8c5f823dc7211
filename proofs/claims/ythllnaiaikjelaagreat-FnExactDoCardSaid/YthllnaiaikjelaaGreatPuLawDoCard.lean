import Derived.KernelRfl
import Derived.Test.YthllnaiaikjelaaGreatPure
import Derived.Test.YthllnaiaikjelaaGreatPuX2
namespace Go.Pu
open Go.Dn
open List (range)
open Int (tmod)
set_option linter.unusedSimpArgs false
set_option linter.unusedVariables false
noncomputable section
variable {s x:Bytes} {e:CT} {c:cJ} {h:Host} {d:Int} {f:Int->au Bytes} {k:Nat} {p:aP} {r:bk} {t:bX} {R α:Type} {l:ar aC} {ps:ar Port} {m:bp}
/- Flushes: the program's and the reference's results are one. -/
def Jw (x:KN):Bool:=dp x.1 0 65535&&(dp x.2.1 0 65535&&(dp x.2.2.1 0 65535&&(dp x.2.2.2.1 0 65535&&dp x.2.2.2.2 0 4294967295)))
theorem X8 (x:KN):nQ x=some (Jw x):=by simp_all[nQ,cq,cg,Jw]
theorem YQ (x:KN):ov x=some (Jw x):=by simp_all[ov,cj,cg,Jw]
def aeT (x:KN)(p:Int):Bytes:=bif Jw x&&dp p 0 1 then((((cv x.1++cv x.2.1)++cv x.2.2.1)++cv x.2.2.2.1)++gP x.2.2.2.2)++gP p else []
theorem al7 (x:KN)(p:Int):mU x p=some (aeT x p):=by have h1:=bO x.1;have h2:=bO x.2.1;have h3:=bO x.2.2.1;have h4:=bO x.2.2.2.1;have h5:=dB x.2.2.2.2;have h6:=dB p;unfold mU aeT;simp only[X8,cq,ab,mC,yX];grind[ab,aQ]
theorem ang (x:KN)(p:Int):na x p=some (aeT x p):=by have h1:=bO x.1;have h2:=bO x.2.1;have h3:=bO x.2.2.1;have h4:=bO x.2.2.2.1;have h5:=dB x.2.2.2.2;have h6:=dB p;unfold na aeT;simp only[YQ,cj,ab,iS,lE];grind[ab,aQ]
def H3 (l:ar aC)(m:bp)(d:Int)(q:Cl)(x:KN):bp×Cl×Bool:=
 bif !iC q|| !Jw x then(m,q,false) else
 bif !(oN l m d (ot q) (aeT x (Iq q)) true).2 then(m,q,false) else
 ((oN l m d (ot q) (aeT x (Iq q)) true).1,(q.1,q.2.1,tmod (q.2.2+1) (2*q.2.1)),true)
theorem amh (l:ar aC)(m:bp)(d:Int)(q:Cl)(x:KN)(hl:l.length<=10^9)(hm:m.length<=10^9):rr l m d q x=some (H3 l m d q x):=by unfold rr H3;simp only[Rt,X8,ab,gv m (show m.length<=1073741824 by omega),Yd,al7];cases hq:iC q;rfl;have h:=oo hq;have hs:=TY hq;cases Jw x;rfl;simp only[ai,ae,ab,bR,Yh q hq,JM l m d _ _ hl hm (show ot q<=9223372036854775807 by unfold ot;omega)];grind[YB,aj]
theorem anp (l:ar aC)(m:bp)(d:Int)(q:Cl)(x:KN)(hl:l.length<=10^9)(hm:m.length<=10^9):rQ l m d q x=some (H3 l m d q x):=by
 unfold rQ H3;simp only[R8,YQ,ab,iR m (show m.length<=1073741824 by omega),ang];cases hq:iC q;rfl;have h:=oo hq;have hs:=TY hq;cases Jw x;rfl;have e:ak (q.1+ak (16*tmod q.2.2 q.2.1))=ot q:=by grind[aj,ot]
 simp only[ai,ae,ab,bR,YT q hq,e,FD l m d _ _ hl hm (show ot q<=9223372036854775807 by unfold ot;omega)];grind[aj]
theorem ajW {n:Nat}(hn:128<=n)(z:bu n (.sl .str) m)(l:ar aC)(d:Int)(q:Cl)(x:KN):bu n (.sl .str) (H3 l m d q x).1/\(H3 l m d q x).1.length=m.length:=by grind[H3,Mp,mN]
theorem aoM {q:Cl}{x:KN}(h:iC q=true):iC (H3 l m d q x).2.1=true/\(H3 l m d q x).2.1.1=q.1/\(H3 l m d q x).2.1.2.1=q.2.1:=by have hq:=oo h;grind[H3,iC,bq,Nk]
def ns (l:ar aC)(m:bp)(d:Int)(q:bk)(k:Bytes)(s:Bytes):bp×Cl×Bool:=
 bif !(eJ s).2||(((eJ s).1.1 !=3)||decide ((eJ s).1.2.2.1<((eQ q.2.2.2.1.1).1.length:Int))) then(m,q.2.1,false) else
 bif !(oN l m d (eJ s).1.2.2.2.1 (eQ q.2.2.2.1.1).1 true).2 then(m,q.2.1,false) else
 H3 l (oN l m d (eJ s).1.2.2.2.1 (eQ q.2.2.2.1.1).1 true).1 d q.2.1 ((eJ s).1.2.2.2.2.2,((eQ q.2.2.2.1.1).1.length:Int),q.2.2.2.1.2.1,q.2.2.2.1.2.2,HC k (EF (oI q.2.2.2.1.1)))
theorem akk (l:ar aC)(m:bp)(d:Int)(q:bk)(k s:Bytes)(hl:l.length<=10^9)(hm:m.length<=10^9)(hs:s.length<=10^9):DQ l m d q s k=some (ns l m d q k s):=by
 unfold DQ ns;have kX:=Uv (s:=s);simp only[adC s hs,Jg,ab,iR m (show m.length<=1073741824 by omega)];generalize eJ s=x at kX⊢;cases hx:x.2;rfl;have hd:=kX hx;simp only[uB,ah,bq]at hd;cases x.1.1 !=3;case true=>rfl
 cases decide (x.1.2.2.1<((eQ q.2.2.2.1.1).1.length:Int));all_goals grind[ab,FD,V5,QD,anp,mN]
theorem ajd (l:ar aC)(m:bp)(d:Int)(q:bk)(k s:Bytes)(hl:l.length<=10^9)(hm:m.length<=10^9)(hs:s.length<=10^9)(hh:dK q.2.2.2.1.1=true):∃b,AP l m d q k s=some (b,ns l m d q k s)/\(b=false->ns l m d q k s=(m,q.2.1,false)):=by
 unfold AP ns;have kX:=Uv (s:=s);simp only[ack s hs,IW,ab,IV hh];generalize eJ s=x at kX⊢;cases hx:x.2;exact⟨false,rfl,λ_=>rfl⟩;have hd:=kX hx;simp only[uB,ah,bq]at hd;cases x.1.1 !=3;case true=>simp_all
 cases decide (x.1.2.2.1<((eQ q.2.2.2.1.1).1.length:Int));case true=>simp_all
 simp only[ai,ae,ab,bR,JM l m d _ _ hl hm (show x.1.2.2.2.1<=9223372036854775807 by omega)];cases (oN l m d x.1.2.2.2.1 (eQ q.2.2.2.1.1).1 true).2;exact⟨false,rfl,λ_=>rfl⟩;simp only[ai,ae,Vf,ab,PY,amh l _ d _ _ hl (show(oN l m d x.1.2.2.2.1 (eQ q.2.2.2.1.1).1 true).1.length<=10^9 by rw[mN];exact hm)];grind
theorem aks {n:Nat}(hn:128<=n){q:bk}{k:Bytes}(z:bu n (.sl .str) m)(hq:iC q.2.1=true): bu n (.sl .str) (ns l m d q k s).1/\(ns l m d q k s).1.length=m.length/\iC (ns l m d q k s).2.1=true/\(ns l m d q k s).2.1.1=q.2.1.1/\(ns l m d q k s).2.1.2.1=q.2.1.2.1:=by
 unfold ns;cases !(eJ s).2||(((eJ s).1.1 !=3)||decide ((eJ s).1.2.2.1<((eQ q.2.2.2.1.1).1.length:Int)));case true=>grind
 cases (oN l m d (eJ s).1.2.2.2.1 (eQ q.2.2.2.1.1).1 true).2;all_goals grind[Mp,mN,ajW,aoM]
def jU (l:ar aC)(m:bp)(d:Int)(q:bk)(k:Bytes):bp×bk:=
 bif !Qr q||(!q.2.2.2.2.1||((k.length:Int) !=16)) then(m,q) else
 bif (cc l m d q.1).2.2&&(ns l m d q k (cc l m d q.1).1).2.2 then
  ((ns l m d q k (cc l m d q.1).1).1,(cc l m d q.1).2.1,(ns l m d q k (cc l m d q.1).1).2.1,q.2.2.1,akv,false,q.2.2.2.2.2)
 else(m,(cc l m d q.1).2.1,q.2.1,q.2.2.1,akv,false,ak (q.2.2.2.2.2+q.2.2.2.1.2.2))
theorem ad4 {r:kf}(h:(cc l m d r).2.2=false):(cc l m d r).2.1=r:=by grind[cc]
theorem El {q:bk}(h:Qr q=true):iC q.2.1=true/\(q.2.2.2.2.1=true->dK q.2.2.2.1.1=true):=by grind[Qr]
theorem R7 (l:ar aC)(m:bp)(d:Int)(q:bk)(k:Bytes)(hl:l.length<=10^9)(hm:m.length<=10^9):qI l m d q k=some (jU l m d q k):=by
 have ht:=DV l m d q.1;unfold qI jU;simp only[aaP,ab,iR m (show m.length<=1073741824 by omega),QK l m d q.1 hl hm,akk l m d q k _ hl hm (show(cc l m d q.1).1.length<=10^9 by omega)];cases Qr q;rfl;cases q.2.2.2.2.1;rfl;cases (k.length:Int) !=16;case true=>rfl
 simp only[ai,ae,ab,bR];cases (cc l m d q.1).2.2;rfl;cases (ns l m d q k (cc l m d q.1).1).2.2<;>rfl
theorem Rs (l:ar aC)(m:bp)(d:Int)(q:bk)(k:Bytes)(hl:l.length<=10^9)(hm:m.length<=10^9):pU l m d q k=some (jU l m d q k):=by
 have ht:=DV l m d q.1;have M4:=ad4 (l:=l) (m:=m) (d:=d) (r:=q.1);unfold pU jU;simp only[aaa,ab,gv m (show m.length<=1073741824 by omega),P7 l m d q.1 hl hm];cases hr:Qr q;rfl;cases hh:q.2.2.2.2.1;rfl;cases (k.length:Int) !=16;case true=>rfl
 obtain⟨b,hb,Lo⟩:=ajd l m d q k (cc l m d q.1).1 hl hm (by omega) ((El hr).2 hh);simp only[ai,ae,ab,bR,hb];generalize ns l m d q k (cc l m d q.1).1=s at hb Lo⊢;cases hk:(cc l m d q.1).2.2 with|false=>rw[M4 hk];rfl|true=>?_
 cases b with|true=>cases hs:s.2.2<;>rfl|false=>rw[Lo rfl];rfl
theorem MX {n:Nat}(hn:128<=n){q:bk}{k:Bytes}(z:bu n (.sl .str) m)(zq:bu n dN q): bu n (.sl .str) (jU l m d q k).1/\(jU l m d q k).1.length=m.length/\bu n dN (jU l m d q k).2/\(Qr q=true->iC (jU l m d q k).2.2.1=true/\(jU l m d q k).2.2.1.2.1=q.2.1.2.1):=by
 unfold jU;cases hc: !Qr q||(!q.2.2.2.2.1||((k.length:Int) !=16));case true=>grind[El]
 simp only[dw,dZ]at hc;have hq:=(El hc.1).1;have hs:=aks hn (l:=l) (d:=d) (k:=k) (s:=(cc l m d q.1).1) z hq;have e0:bu n dN ((cc l m d q.1).2.1,(ns l m d q k (cc l m d q.1).1).2.1,q.2.2.1,akv,false,q.2.2.2.2.2):=⟨⟨bM,bM,bM,bM⟩,⟨bM,bM,bM⟩,⟨bM,bM,bM⟩,⟨⟨bM,bM,bM,bM,bM,bM,bM,bM,bM,bM,bM,bM,bM,bM,bM,eT _⟩,bM,bM⟩,bM,bM⟩
 cases (cc l m d q.1).2.2&&(ns l m d q k (cc l m d q.1).1).2.2 with|true=>grind|false=>exact⟨z,rfl,⟨⟨bM,bM,bM,bM⟩,⟨bM,bM,bM⟩,⟨bM,bM,bM⟩,⟨⟨bM,bM,bM,bM,bM,bM,bM,bM,bM,bM,bM,bM,bM,bM,bM,eT _⟩,bM,bM⟩,bM,bM⟩,λ_=>⟨hq,rfl⟩⟩
def evS (k:Nat)(h:Host):Host:=
 match h.2.2.2.2.2.1[k]? with
 |some v=>(h.1,h.2.1,h.2.2.1,h.2.2.2.1,h.2.2.2.2.1,h.2.2.2.2.2.1.set k (evV v),h.2.2.2.2.2.2)
 |none=>h
def evH (k:Nat):Nat->Host->Host
 |0,h=>h
 |i+1,h=>evS k (evH k i h)
theorem aln (k:Nat)(h:Host):mA (k+1) h (evS k h):=by unfold evS;cases h.2.2.2.2.2.1[k]? with|none=>exact mA.refl _ _|some v=>exact⟨rfl,rfl,rfl,rfl,λ_ _=>rfl,rfl,aL ..,λj hj=>aZ (by omega),rfl,rfl,rfl⟩
theorem Pv (k:Nat)(h:Host):∀i,mA (k+1) h (evH k i h)
 |0=>mA.refl _ _
 |i+1=>(Pv k h i).trans (aln k _)
theorem aoi {n:Nat}(k:Nat)(z:bu n cR h):bu n cR (evS k h):=by unfold evS;cases h.2.2.2.2.2.1[k]? with|none=>exact z|some v=>exact⟨z.1,z.2.1,z.2.2.1,z.2.2.2.1,z.2.2.2.2.1,T9 z.2.2.2.2.2.1,z.2.2.2.2.2.2⟩
theorem ahh {n:Nat}(k:Nat)(z:bu n cR h):∀i,bu n cR (evH k i h)
 |0=>z
 |i+1=>aoi k (ahh k z i)
theorem aff (h:Host)(k:Nat)(b:Int)(h1:k<h.2.2.2.1.length)(h2:k<h.2.2.2.2.2.1.length)(hq:iC h.2.2.2.1[k].2.1=true)(hb:0<=b/\b<=31):mH h (k:Int) b=some ((),evH k ((h.2.2.2.1[k].2.1.2.2-b)%(2*h.2.2.2.1[k].2.1.2.1)).toNat h):=by
 have Cg:=dc;have q:=oo hq;unfold mH;rw[aN h1,ab];generalize h.2.2.2.1[k]=x at q⊢;rw[aj (n:=x.2.1.2.2-b) (by omega) (by omega),aj (n:=2*x.2.1.2.1) (by omega) (by omega),RJ _ _,ab];have hm:0<=(x.2.1.2.2-b)%(2*x.2.1.2.1)/\(x.2.1.2.2-b)%(2*x.2.1.2.1)<32:=by have g1:=Int.emod_nonneg (x.2.1.2.2-b) (show 2*x.2.1.2.1≠0 by omega);have g2:=gD (x.2.1.2.2-b) (show 0<2*x.2.1.2.1 by omega);omega
 generalize (x.2.1.2.2-b)%(2*x.2.1.2.1)=c at hm⊢;obtain⟨c,rfl⟩:=aD hm.1;rw[aw];have e0:((c:Int),h)=(((c:Int)-((0:Nat):Int)),evH k 0 h):=by simp[evH]
 rw[e0];refine bB (λi=>((c:Int)-(i:Int),evH k i h)) c (by omega) (λi nx hi=>?_) (λnx=>?_);have kk:=Pv k h i;have i1:k<(evH k i h).2.2.2.2.2.1.length:=by rw[kk.vec];exact h2
 rw[show evH k (i+1) h=evS k (evH k i h) from rfl];generalize evH k i h=s at i1⊢;simp only[tL,evS];rw[gN,af,al i1];simp only[aN i1,ab,aiS,aw];rw[aj (by omega) (by omega),show(c:Int)-(i:Int)-1=(c:Int)-((i+1:Nat):Int) by omega];simp only[tL];rw[fF,ae]
theorem agi (h:Host)(k:Nat)(b:Int)(h1:k<h.2.2.2.1.length)(h2:k<h.2.2.2.2.2.1.length)(hq:iC h.2.2.2.1[k].2.1=true)(hb:0<=b/\b<=31):mR h (k:Int) b=some ((),evH k ((h.2.2.2.1[k].2.1.2.2-b)%(2*h.2.2.2.1[k].2.1.2.1)).toNat h):=by
 have Cg:=dc;have q:=oo hq;unfold mR;rw[aN h1,ab,ab];generalize h.2.2.2.1[k]=x at q⊢;have em:ak (BitVec.toNat (gr (x.2.1.2.2-b)&&&gr (2*x.2.1.2.1-1)))=(x.2.1.2.2-b)%(2*x.2.1.2.1):=by
  have key:∀j:Nat,j<63->2*x.2.1.2.1=2^j->ak (BitVec.toNat (gr (x.2.1.2.2-b)&&&gr (2*x.2.1.2.1-1)))=(x.2.1.2.2-b)%(2*x.2.1.2.1):=by intro j hj e;have:=IH (x.2.1.2.2-b) j hj;rw[<-e]at this;rw[this];have g1:=Int.emod_nonneg (x.2.1.2.2-b) (show 2*x.2.1.2.1≠0 by omega);have g2:=gD (x.2.1.2.2-b) (show 0<2*x.2.1.2.1 by omega);exact aj (by omega) (by omega)
  rcases q.2.2.1 with e|e|e|e;exact key 2 (by omega) (by rw[e];rfl);exact key 3 (by omega) (by rw[e];rfl);exact key 4 (by omega) (by rw[e];rfl);exact key 5 (by omega) (by rw[e];rfl)
 rw[aj (n:=x.2.1.2.2-b) (by omega) (by omega),aj (n:=2*x.2.1.2.1) (by omega) (by omega),aj (n:=2*x.2.1.2.1-1) (by omega) (by omega),em];have hm:0<=(x.2.1.2.2-b)%(2*x.2.1.2.1)/\(x.2.1.2.2-b)%(2*x.2.1.2.1)<32:=by have g1:=Int.emod_nonneg (x.2.1.2.2-b) (show 2*x.2.1.2.1≠0 by omega);have g2:=gD (x.2.1.2.2-b) (show 0<2*x.2.1.2.1 by omega);omega
 generalize (x.2.1.2.2-b)%(2*x.2.1.2.1)=c at hm⊢;obtain⟨c,rfl⟩:=aD hm.1;rw[aw];refine bB (λi=>((i:Int),evH k i h)) c (by omega) (λi nx hi=>?_) (λnx=>?_);have kk:=Pv k h i;have i1:k<(evH k i h).2.2.2.2.2.1.length:=by rw[kk.vec];exact h2
 rw[show evH k (i+1) h=evS k (evH k i h) from rfl];generalize evH k i h=s at i1⊢;simp only[uj,evS];rw[gN,af,al i1];simp only[aN i1,ab,aj3,aw];rw[aj (by omega) (by omega)];rfl;simp only[uj];rw[fF,ae]
def N8 (h:Host)(k:Nat)(f:bp×bk):Host:=(f.1,h.2.1,h.2.2.1,h.2.2.2.1.set k f.2,h.2.2.2.2)
def Sf (h:Host)(k:Nat)(b:Int)(f:bp×bk):Host:=evH k ((f.2.2.1.2.2-b)%(2*f.2.2.1.2.1)).toNat (N8 h k f)
def lq (k:Nat)(h:Host):Host:=
 match h.2.2.2.1[k]? with
 |some x=>Sf h k x.2.1.2.2 (jU h.2.1 h.1 0 x h.2.2.2.2.2.2.2.2.1.2.2.1)
 |none=>h
theorem MJ {b:Int}{f:bp×bk}(hf:f.1.length=h.1.length):mA (k+1) h (Sf h k b f):=by
 have a:mA (k+1) h (N8 h k f):=⟨hf,rfl,rfl,aL ..,λj hj=>aZ (by omega),rfl,rfl,λ_ _=>rfl,rfl,rfl,rfl⟩
 exact a.trans (Pv k (N8 h k f) _)
theorem WA {n:Nat}{b:Int}{f:bp×bk}(z:bu n cR h)(h1:bu n (.sl .str) f.1)(h2:bu n dN f.2):bu n cR (Sf h k b f):=by
 have a:bu n cR (N8 h k f):=⟨h1,z.2.1,z.2.2.1,qt z.2.2.2.1 h2,z.2.2.2.2⟩
 exact ahh k a _
theorem UR {q:bk}{k:Bytes}:(jU l m d q k).1.length=m.length:=by
 have hs:(ns l m d q k (cc l m d q.1).1).1.length=m.length:=by
  unfold ns;cases !(eJ (cc l m d q.1).1).2||(((eJ (cc l m d q.1).1).1.1 !=3)||decide ((eJ (cc l m d q.1).1).1.2.2.1<((eQ q.2.2.2.1.1).1.length:Int)));case true=>rfl
  cases (oN l m d (eJ (cc l m d q.1).1).1.2.2.2.1 (eQ q.2.2.2.1.1).1 true).2;rfl;have h2:=mN l m d (eJ (cc l m d q.1).1).1.2.2.2.1 (eQ q.2.2.2.1.1).1 true;simp only[ae,ai];unfold H3;cases !iC q.2.1|| !Jw ((eJ (cc l m d q.1).1).1.2.2.2.2.2,((eQ q.2.2.2.1.1).1.length:Int),q.2.2.2.1.2.1,q.2.2.2.1.2.2,HC k (EF (oI q.2.2.2.1.1)));case true=>exact h2
  cases (oN l (oN l m d (eJ (cc l m d q.1).1).1.2.2.2.1 (eQ q.2.2.2.1.1).1 true).1 d (ot q.2.1) (aeT ((eJ (cc l m d q.1).1).1.2.2.2.2.2,((eQ q.2.2.2.1.1).1.length:Int),q.2.2.2.1.2.1,q.2.2.2.1.2.2,HC k (EF (oI q.2.2.2.1.1))) (Iq q.2.1)) true).2 with|false=>exact h2|true=>exact(mN ..).trans h2
 unfold jU;grind
theorem HA (k:Nat)(h:Host):mA (k+1) h (lq k h):=by grind[lq,mA.refl,MJ,UR]
theorem OF (k:Nat)(h:Host)(n:Nat)(hn:1000<=n)(z:bu n cR h):bu (n+0) cR (lq k h):=by unfold lq;cases hx:h.2.2.2.1[k]? with|none=>exact z|some x=>have hf:=MX (show 128<=n by omega) (l:=h.2.1) (d:=0) (k:=h.2.2.2.2.2.2.2.2.1.2.2.1) z.1 (z.2.2.2.1.2 _ (bK hx));exact WA z hf.1 hf.2.2.1
def JF (h:Host):Host:=bif fw h then iT lq h.2.2.2.1.length h else h
theorem aiG {n:Nat}(hn:1000<=n)(k:DX n h):DX n (JF h):=by unfold JF;cases fw h with|false=>exact k|true=>refine⟨(Hl hn OF k.z _).mono,?_⟩;simp only[af];rw[(xb HA h _).tx];exact k.t
theorem GB (hb:fw h=true):∀i (hi:i<h.2.2.2.1.length),Qr h.2.2.2.1[i]=true:=by grind[fw,YF]
theorem Te {b:Int}{f:bp×bk}(h1:k<h.2.2.2.1.length)(h2:k<h.2.2.2.2.2.1.length)(hq:iC f.2.2.1=true)(hb:0<=b/\b<=31:=by omega): mH (f.1,h.2.1,h.2.2.1,h.2.2.2.1.set k f.2,h.2.2.2.2) (k:Int) b=some ((),Sf h k b f):=by
 have h3:k<(N8 h k f).2.2.2.1.length:=by show k<(h.2.2.2.1.set k f.2).length;rw[aL];exact h1
 have e:(N8 h k f).2.2.2.1[k]=f.2:=List.getElem_set_self _;have a:=aff (N8 h k f) k b h3 h2 (by rw[e];exact hq) hb;rw[e]at a;exact a
theorem Tf {b:Int}{f:bp×bk}(h1:k<h.2.2.2.1.length)(h2:k<h.2.2.2.2.2.1.length)(hq:iC f.2.2.1=true)(hb:0<=b/\b<=31:=by omega): mR (f.1,h.2.1,h.2.2.1,h.2.2.2.1.set k f.2,h.2.2.2.2) (k:Int) b=some ((),Sf h k b f):=by
 have h3:k<(N8 h k f).2.2.2.1.length:=by show k<(h.2.2.2.1.set k f.2).length;rw[aL];exact h1
 have e:(N8 h k f).2.2.2.1[k]=f.2:=List.getElem_set_self _;have c:=agi (N8 h k f) k b h3 h2 (by rw[e];exact hq) hb;rw[e]at c;exact c
theorem afk (h:Host)(k:DX 900000000 h):As h=some (JF h):=by
 have Cg:=dc;unfold As JF;rw[ki h (k.z.mono),ab,Ai h (k.sz),ab];cases hb:fw h;rfl;have hl:=pq (by simp only[fw,ah]at hb;exact hb.2.2.2.2.1:zH h=true);have hr:=GB hb;simp only[ai,ae,af];refine bB (λi=>((i:Int),iT lq i h)) h.2.2.2.1.length (by omega) (λi nx hi=>?_) (λnx=>?_);have kk:=xb HA h i;have zz:bu 900000000 cR (iT lq i h):=(Hl (by omega) OF k.z i).mono;have i1:i<(iT lq i h).2.2.2.1.length:=by rw[kk.rx];exact hi
 have i2:i<(iT lq i h).2.2.2.2.2.1.length:=by rw[kk.vec];omega
 have e1:(iT lq i h).2.2.2.1[i]=h.2.2.2.1[i]:=by have:=kk.rxs i (ba _);rw[al i1,al hi]at this;exact cX this
 rw[show iT lq (i+1) h=lq i (iT lq i h) from rfl];generalize iT lq i h=s at zz i1 i2 e1⊢;have z1:s.1.length<=900000000:=zz.1.1;have z2:s.2.1.length<=900000000:=zz.2.1.1;have hrx:=hr i hi;rw[<-e1]at hrx;have hqd:=oo (El hrx).1;have hf:=MX (show 128<=900000000 by omega) (l:=s.2.1) (d:=0) (k:=s.2.2.2.2.2.2.2.2.1.2.2.1) zz.1 (zz.2.2.2.1.2 _ (aE i1));have ev:=Te (h:=s) (k:=i) (b:=s.2.2.2.1[i].2.1.2.2) (f:=jU s.2.1 s.1 0 s.2.2.2.1[i] s.2.2.2.2.2.2.2.2.1.2.2.1) i1 i2 (hf.2.2.2 hrx).1;simp only[tD,lq];rw[gN,af,al i1];simp only[aN i1,aN hi,ab,Rs s.2.1 s.1 0 _ _ (show s.2.1.length<=10^9 by omega) (show s.1.length<=10^9 by omega),aw,<-e1,ev];rw[aj (by omega) (by omega)];rfl;simp only[tD];rw[fF,ae]
theorem agn (h:Host)(k:DX 900000000 h):BP h=some (JF h):=by
 have Cg:=dc;unfold BP JF;rw[kt h (k.z.mono),ab];have hv:h.2.2.2.1.length<=900000000:=k.z.2.2.2.1.1;cases hb:fw h with
 |false=>
  obtain⟨g,hg⟩:∃g,fuel=g+1:=⟨fuel-1,by omega⟩
  rw[hg,aH,oy,vp h (k.sz),hb];cases decide ((0:Int)<(h.2.2.2.1.length:Int))<;>rfl
 |true=>
  have hl:=pq (by simp only[fw,ah]at hb;exact hb.2.2.2.2.1:zH h=true);have hr:=GB hb;simp only[af];refine bB (λi=>((i:Int),iT lq i h)) h.2.2.2.1.length (by omega) (λi nx hi=>?_) (λnx=>?_);have kk:=xb HA h i;have zz:bu 900000000 cR (iT lq i h):=(Hl (by omega) OF k.z i).mono;have i1:i<(iT lq i h).2.2.2.1.length:=by rw[kk.rx];exact hi
  have i2:i<(iT lq i h).2.2.2.2.2.1.length:=by rw[kk.vec];omega
  have e1:(iT lq i h).2.2.2.1[i]=h.2.2.2.1[i]:=by have:=kk.rxs i (ba _);rw[al i1,al hi]at this;exact cX this
  have em:=kk.maps;have es:=kk.ste;rw[show iT lq (i+1) h=lq i (iT lq i h) from rfl];generalize iT lq i h=s at zz i1 i2 e1 em es⊢;have z1:s.1.length<=900000000:=zz.1.1;have z2:s.2.1.length<=900000000:=zz.2.1.1;have hrx:=hr i hi;rw[<-e1]at hrx;have hqd:=oo (El hrx).1;have hf:=MX (show 128<=900000000 by omega) (l:=s.2.1) (d:=0) (k:=s.2.2.2.2.2.2.2.2.1.2.2.1) zz.1 (zz.2.2.2.1.2 _ (aE i1));have ev:=Tf (h:=s) (k:=i) (b:=s.2.2.2.1[i].2.1.2.2) (f:=jU s.2.1 s.1 0 s.2.2.2.1[i] s.2.2.2.2.2.2.2.2.1.2.2.1) i1 i2 (hf.2.2.2 hrx).1;simp only[oy,lq,vp h (k.sz),hb];rw[gN,af,al i1];simp only[aN i1,aN hi,ab,af,<-em,<-es,<-e1,R7 s.2.1 s.1 0 _ _ (show s.2.1.length<=10^9 by omega) (show s.1.length<=10^9 by omega),aw,ev];rw[aj (by omega) (by omega)];rfl;simp only[oy];rw[fF,ae,ab,ae]
def VH (a b:aP):Bool:=(a.1==b.1)&&((a.2.1==b.2.1)&&((a.2.2.1==b.2.2.1)&&((a.2.2.2.1==b.2.2.2.1)&&((a.2.2.2.2.2.1==b.2.2.2.2.2.1)&&((a.2.2.2.2.2.2.1==b.2.2.2.2.2.2.1)&&((a.2.2.2.2.2.2.2.1==b.2.2.2.2.2.2.2.1)&&((a.2.2.2.2.2.2.2.2.1==b.2.2.2.2.2.2.2.2.1)&&((a.2.2.2.2.2.2.2.2.2.1==b.2.2.2.2.2.2.2.2.2.1)&&((a.2.2.2.2.2.2.2.2.2.2.1==b.2.2.2.2.2.2.2.2.2.2.1)&&((a.2.2.2.2.2.2.2.2.2.2.2.2.1==b.2.2.2.2.2.2.2.2.2.2.2.2.1)&&((a.2.2.2.2.2.2.2.2.2.2.2.2.2.2.1==b.2.2.2.2.2.2.2.2.2.2.2.2.2.2.1))))))))))))
theorem ano (a b:aP):DK a b=some (VH a b):=by simp_all[DK,VH]
theorem amg (a b:aP):De a b=some (VH a b):=by simp_all[De,VH]
def aqB (s:kT)(p:aP):Bool:=(p.2.2.2.2.2.2.2.2.2.2.2.1==tmod (ak (s.1.2.2.2.2.2.2.2.2.2.2.2.1+(s.1.2.2.2.2.2.2.2.2.2.2.2.2.2.2.2.length:Int))) 4294967296)&&(p.2.2.2.2.1==tmod (ak (s.1.2.2.2.2.1+s.2.2)) 65536)
def YO (s:kT)(p:aP):Bool:=decide (1<=s.2.1)&&(dp s.2.2 1 320&&(decide ((s.1.2.2.2.2.2.2.2.2.2.2.2.2.2.2.2.length:Int)=s.2.1*s.2.2)&&(dp (p.2.2.2.2.2.2.2.2.2.2.2.2.2.2.2.length:Int) 1 s.2.1&&decide ((s.1.2.2.2.2.2.2.2.2.2.2.2.2.2.2.2.length:Int)+(p.2.2.2.2.2.2.2.2.2.2.2.2.2.2.2.length:Int)<=320))))
def alK (s:kT)(p:aP):Bool:=dK s.1&&(fW p&&(VH s.1 p&&((p.2.2.2.2.2.2.2.2.1==6)&&((s.1.2.2.2.2.2.2.2.2.2.2.2.2.2.1==16)&&LN p.2.2.2.2.2.2.2.2.2.2.2.2.2.1))))
def Rb (s:kT)(p:aP):Bool:=alK s p&&(YO s p&&aqB s p)
theorem Ql (h:fW p=true)(h6:(p.2.2.2.2.2.2.2.2.1==6)=true):dp p.2.2.2.2.2.2.2.2.2.2.2.2.2.1 0 31=true:=by grind[fW,dK,R1,U4]
theorem OY (h:fW p=true):p.2.2.2.2.2.2.2.2.2.2.2.2.2.2.2.length<=128:=by grind[fW]
theorem ahU (s:kT)(p:aP):BL s p=some (Rb s p):=by
 unfold BL Rb alK;rw[qB,ab,CL,ab,ano,ab];cases hs:dK s.1;rfl;cases hp:fW p;rfl;cases VH s.1 p;rfl;cases h6:p.2.2.2.2.2.2.2.2.1==6 with|false=>simp only[bne,h6];rfl|true=>?_
 cases h16:s.1.2.2.2.2.2.2.2.2.2.2.2.2.2.1==16 with|false=>simp only[bne,h6,h16];rfl|true=>?_
 have hf:=Ql hp h6;have hsl:=CV hs;have Hr:=OY hp;simp only[bne,h6,h16,ai,ae,ab,UN _ hf,bj];cases LN p.2.2.2.2.2.2.2.2.2.2.2.2.2.1;rfl;simp only[ai,ae,cj,ab,bj,cg];have xp:(bif !dp s.2.1 1 320 then some true else bif !dp s.2.2 1 320 then some true else bif !((s.1.2.2.2.2.2.2.2.2.2.2.2.2.2.2.2.length:Int)==ak (s.2.1*s.2.2)) then some true else bif !dp (p.2.2.2.2.2.2.2.2.2.2.2.2.2.2.2.length:Int) 1 s.2.1 then some true else some (decide (ak ((s.1.2.2.2.2.2.2.2.2.2.2.2.2.2.2.2.length:Int)+(p.2.2.2.2.2.2.2.2.2.2.2.2.2.2.2.length:Int))>320)))=some (!YO s p):=by
  unfold YO;generalize s.1.2.2.2.2.2.2.2.2.2.2.2.2.2.2.2.length=n at hsl⊢;generalize p.2.2.2.2.2.2.2.2.2.2.2.2.2.2.2.length=m at Hr⊢;rw[aj (n:=(n:Int)+(m:Int)) (by omega) (by omega)];cases h2:dp s.2.2 1 320 with
  |false=>cases dp s.2.1 1 320<;>cases decide (1<=s.2.1)<;>rfl
  |true=>
   have h2':=bq.1 h2;by_cases h1:1<=s.2.1;rw[ax h1];by_cases h3:s.2.1<=320;have hb:s.2.1*s.2.2<=320*320:=Int.mul_le_mul h3 h2'.2 (by omega) (by omega);have U2:0<=s.2.1*s.2.2:=Int.mul_nonneg (by omega) (by omega);rw[bq.2 ⟨h1,h3⟩,aj (n:=s.2.1*s.2.2) (by omega) (by omega)];by_cases h4:(n:Int)=s.2.1*s.2.2;rw[show((n:Int)==s.2.1*s.2.2)=true from by rw[bn];exact h4,ax h4];cases dp (m:Int) 1 s.2.1 with|false=>rfl|true=>by_cases h5:(n:Int)+(m:Int)<=320;rw[ax h5,aq (show¬(n:Int)+(m:Int)>320 by omega)];rfl;rw[aq h5,ax (show(n:Int)+(m:Int)>320 by omega)];rfl
   rw[show((n:Int)==s.2.1*s.2.2)=false from by rw[cy];exact h4,aq h4];rfl;have hb:321*1<=s.2.1*s.2.2:=Int.mul_le_mul (by omega) (by omega) (by omega) (by omega);rw[show dp s.2.1 1 320=false from by rw[Bool.eq_false_iff];intro hc;have:=bq.1 hc;omega,aq (show¬(n:Int)=s.2.1*s.2.2 by omega)];rfl;rw[aq h1,show dp s.2.1 1 320=false from by rw[Bool.eq_false_iff];intro hc;have:=bq.1 hc;omega];rfl
 simp only[bne,cg]at xp⊢;rw[cX xp];cases YO s p;rfl;rw[nt,nt];simp only[ai,ae,cg,ab,cF,bj];rfl
theorem ahr (s:kT)(p:aP):Al s p=some (Rb s p):=by
 unfold Al Rb alK;rw[ny,ab,Cy,ab,amg,ab];cases hs:dK s.1;rfl;cases hp:fW p;rfl;cases VH s.1 p;rfl;cases h6:p.2.2.2.2.2.2.2.2.1==6 with|false=>simp only[bne,h6];rfl|true=>?_
 cases h16:s.1.2.2.2.2.2.2.2.2.2.2.2.2.2.1==16 with|false=>simp only[bne,h6,h16];rfl|true=>?_
 have hf:=Ql hp h6;have hsl:=CV hs;have Hr:=OY hp;simp only[bne,h6,h16,ai,ae,ab,UM _ hf,bj];cases LN p.2.2.2.2.2.2.2.2.2.2.2.2.2.1;rfl;simp only[ai,ae,cq,ab,bj];rw[aK (show¬(4294967296:Nat)=0 by omega),aK (show¬(65536:Nat)=0 by omega)];simp only[cg,cF];rw[show((p.2.2.2.2.2.2.2.2.2.2.2.1==tmod (ak (s.1.2.2.2.2.2.2.2.2.2.2.2.1+(s.1.2.2.2.2.2.2.2.2.2.2.2.2.2.2.2.length:Int))) 4294967296)&&(p.2.2.2.2.1==tmod (ak (s.1.2.2.2.2.1+s.2.2)) 65536))=aqB s p from rfl];unfold YO;generalize aqB s p=q;generalize s.1.2.2.2.2.2.2.2.2.2.2.2.2.2.2.2.length=n at hsl⊢;generalize p.2.2.2.2.2.2.2.2.2.2.2.2.2.2.2.length=m at Hr⊢;rw[aj (n:=(n:Int)+(m:Int)) (by omega) (by omega)];by_cases h1:s.2.1<1;rw[ax h1,aq (show¬1<=s.2.1 by omega)];rfl;rw[aq h1,ax (show 1<=s.2.1 by omega)];cases h2:dp s.2.2 1 320;rfl;have h2':=bq.1 h2;simp only[ai,ae,ab,bj];rw[nt,nt];have e1:tmod (n:Int) s.2.2=(n:Int)%s.2.2:=ft (by omega);have e2:Int.tdiv (n:Int) s.2.2=(n:Int)/s.2.2:=Int.tdiv_eq_ediv_of_nonneg (by omega);have hdm:=Int.emod_add_mul_ediv (n:Int) s.2.2;have hq0:0<=(n:Int)/s.2.2:=Int.ediv_nonneg (by omega) (by omega);have hq1:(n:Int)/s.2.2<=(n:Int):=Int.ediv_le_self _ (by omega);rw[e1,e2,aj (n:=(n:Int)/s.2.2) (by omega) (by omega)];by_cases h3:(n:Int)=s.2.1*s.2.2;have h4:(n:Int)%s.2.2=0:=by rw[h3];exact Int.mul_emod_left ..
 have h5:(n:Int)/s.2.2=s.2.1:=by rw[h3];exact Int.mul_ediv_cancel _ (by omega)
 rw[h4,h5,ax h3];simp only[gz,ai,ae,ab,bj];cases dp (m:Int) 1 s.2.1;rfl;cases decide ((n:Int)+(m:Int)<=320)<;>rfl;rw[aq h3];cases h4:(n:Int)%s.2.2==0 with
 |false=>rfl
 |true=>
  have h4':(n:Int)%s.2.2=0:=by simpa using h4
  have h5:((n:Int)/s.2.2==s.2.1)=false:=by rw[cy];intro h5;rw[h4',h5]at hdm;exact h3 (by rw[Int.mul_comm];omega)
  simp only[ai,ae,h5,bz,ab,af];rfl
def Yl (s:kT)(p:aP):kT:=bif Rb s p then((s.1.1,s.1.2.1,s.1.2.2.1,s.1.2.2.2.1,s.1.2.2.2.2.1,s.1.2.2.2.2.2.1,s.1.2.2.2.2.2.2.1,s.1.2.2.2.2.2.2.2.1,s.1.2.2.2.2.2.2.2.2.1,s.1.2.2.2.2.2.2.2.2.2.1,s.1.2.2.2.2.2.2.2.2.2.2.1,s.1.2.2.2.2.2.2.2.2.2.2.2.1,s.1.2.2.2.2.2.2.2.2.2.2.2.2.1,p.2.2.2.2.2.2.2.2.2.2.2.2.2.1,s.1.2.2.2.2.2.2.2.2.2.2.2.2.2.2.1,s.1.2.2.2.2.2.2.2.2.2.2.2.2.2.2.2++p.2.2.2.2.2.2.2.2.2.2.2.2.2.2.2),s.2.1,ak (s.2.2+1)) else s
theorem Zt {s:kT}(h:Rb s p=true):s.1.2.2.2.2.2.2.2.2.2.2.2.2.2.2.2.length+p.2.2.2.2.2.2.2.2.2.2.2.2.2.2.2.length<=320:=by grind[Rb,YO]
theorem ank (s:kT)(p:aP):Nr s p=some (Yl s p):=by unfold Nr Yl;rw[ahU,ab];cases h:Rb s p;rfl;have:=Zt h;grind[aQ]
theorem amd (s:kT)(p:aP):M9 s p=some (Yl s p):=by unfold M9 Yl;rw[ahr,ab];cases h:Rb s p;rfl;have:=Zt h;grind[aQ]
def singleR (p:aP):kT:=(p,(p.2.2.2.2.2.2.2.2.2.2.2.2.2.2.2.length:Int),1)
theorem afu (p:aP):Mb p=some (singleR p):=rfl
theorem agw (p:aP):MA p=some (singleR p):=rfl
def XY (q:bk)(s:kT):bk:=(q.1,q.2.1,q.2.2.1,s,true,q.2.2.2.2.2)
def lT (l:ar aC)(m:bp)(d:Int)(q:bk)(k:Bytes)(p:aP)(c:Bool):bp×bk:=
 bif !Qr q||(!fW p||((k.length:Int) !=16)) then(m,q) else
 bif c&&(q.2.2.2.2.1&&Rb q.2.2.2.1 p) then(m,q.1,q.2.1,q.2.2.1,Yl q.2.2.2.1 p,q.2.2.2.2) else
 bif c then((jU l m d q k).1,XY (jU l m d q k).2 (singleR p)) else jU l (jU l m d q k).1 d (XY (jU l m d q k).2 (singleR p)) k
theorem afg (l:ar aC)(m:bp)(d:Int)(q:bk)(k:Bytes)(p:aP)(c:Bool)(hl:l.length<=10^9)(hm:m.length<=10^9):ry l m d q k p c=some (lT l m d q k p c):=by
 unfold ry lT XY;simp only[aaa,Cy,ab,gv m (show m.length<=1073741824 by omega),ahr,amd,Rs l m d q k hl hm,afu,Rs l (jU l m d q k).1 d _ k hl (show(jU l m d q k).1.length<=10^9 by rw[UR];exact hm)];cases Qr q;rfl;cases fW p;rfl;cases (k.length:Int) !=16;case true=>rfl
 cases c;rfl;cases q.2.2.2.2.1;rfl;cases Rb q.2.2.2.1 p<;>rfl
theorem agj (l:ar aC)(m:bp)(d:Int)(q:bk)(k:Bytes)(p:aP)(c:Bool)(hl:l.length<=10^9)(hm:m.length<=10^9):rU l m d q k p c=some (lT l m d q k p c):=by
 unfold rU lT XY;simp only[aaP,CL,ab,iR m (show m.length<=1073741824 by omega),ahU,ank,R7 l m d q k hl hm,agw,R7 l (jU l m d q k).1 d _ k hl (show(jU l m d q k).1.length<=10^9 by rw[UR];exact hm)];cases Qr q;rfl;cases fW p;rfl;cases (k.length:Int) !=16;case true=>rfl
 cases c;rfl;cases q.2.2.2.2.1;rfl;cases Rb q.2.2.2.1 p<;>rfl
theorem aiL {n:Nat}{q:bk}{s:kT}(h:s.1.2.2.2.2.2.2.2.2.2.2.2.2.2.2.2.length<=n):bu n dN (XY q s):=⟨⟨bM,bM,bM,bM⟩,⟨bM,bM,bM⟩,⟨bM,bM,bM⟩,⟨⟨bM,bM,bM,bM,bM,bM,bM,bM,bM,bM,bM,bM,bM,bM,bM,h⟩,bM,bM⟩,bM,bM⟩
theorem Ou {n:Nat}(hn:1000<=n){q:bk}{k:Bytes}{c:Bool}(z:bu n (.sl .str) m)(zq:bu n dN q)(hq:iC q.2.1=true): bu n (.sl .str) (lT l m d q k p c).1/\(lT l m d q k p c).1.length=m.length/\bu n dN (lT l m d q k p c).2/\iC (lT l m d q k p c).2.2.1=true:=by
 unfold lT;cases hc: !Qr q||(!fW p||((k.length:Int) !=16));case true=>grind
 simp only[dw,dZ]at hc;have hp:=OY hc.2.1;cases hj:c&&(q.2.2.2.2.1&&Rb q.2.2.2.1 p)with|true=>simp only[ah]at hj;have:=Zt hj.2.2;refine⟨z,rfl,⟨⟨bM,bM,bM,bM⟩,⟨bM,bM,bM⟩,⟨bM,bM,bM⟩,⟨?_,bM,bM⟩,bM,bM⟩,hq⟩;refine⟨bM,bM,bM,bM,bM,bM,bM,bM,bM,bM,bM,bM,bM,bM,bM,?_⟩;unfold Yl;rw[hj.2.2];show List.length (q.2.2.2.1.1.2.2.2.2.2.2.2.2.2.2.2.2.2.2.2++p.2.2.2.2.2.2.2.2.2.2.2.2.2.2.2)<=n;rw[ay];omega|false=>grind[MX,XY,jU,singleR,aiL]
theorem adm {r:gC}(h:Jb r=true):0<=r.2.2.2.2.2.2.2.2:=by
 by_cases h0:0<=r.2.2.2.2.2.2.2.2;exact h0;exfalso;have e:∀b:Int,dp r.2.2.2.2.2.2.2.2 0 b=false:=λb=>by rw[Bool.eq_false_iff];intro hc;have:=bq.1 hc;omega
 have e1:(r.2.2.2.2.2.2.2.2==0)=false:=by rw[cy];omega
 revert h;unfold Jb;have z:∀c:Bool,(bif c then false else false)=false:=by intro c;cases c<;>rfl
 simp only[oC,cj,ab,cg,e,e1,fT,z,ae];intro h;cases h
theorem Y3 {s:fH}{q:Int}:ze s q p= -1\/∃n:Nat,ze s q p=(n:Int)/\(n:Int)<q:=by
 unfold ze;cases hb: !jb s q|| !dK p;case true=>exact .inl rfl
 simp only[dw,dZ]at hb;have hs:=hb.1;simp only[jb,ah]at hs;simp only[ae];cases hd:decide (LJ s.1 p>=0)with
 |true=>obtain⟨n,hn,hl⟩:=UL s.1 p (iW hd);simp only[af,hn,aw,dv hl];cases s.1[n].2.2.2.2.2.2.2.1==1 with|true=>exact .inl rfl|false=>have h1:=aO.1 hs.1.2 _ (aE hl);have h2:=hs.1.1.1.1;simp only[Hf,ah]at h2;have h3:=adm (aO.1 h2.1 _ (aE hl));simp only[aU,dD]at h1;exact .inr ⟨s.1[n].2.2.2.2.2.2.2.2.toNat,by grind,by omega⟩
 |false=>
  simp only[ae];cases hd2:decide (findF s.2.1 (oI p)>=0)with
  |true=>obtain⟨n,hn,hl⟩:=UK s.2.1 (oI p) (iW hd2);simp only[af,hn,aw,dv hl];have h1:=aO.1 hs.2 _ (aE hl);have h2:=hs.1.1.1.2;simp only[Cc,ah,bn]at h2;have h3:=aO.1 h2.2 n (bU.2 (by omega));unfold qA YP at h3;rw[CJ hl]at h3;simp only[ah,bq]at h3;simp only[aU,dD]at h1;exact .inr ⟨s.2.1[n].2.2.toNat,by omega,by omega⟩
  |false=>
   simp only[ae];unfold Nt;cases hc: !FX s.2.2 q||decide (Ie s.2.2 (oI p)<0);case true=>exact .inl rfl
   simp only[dw,dZ,dD]at hc;obtain⟨n,hn,hl⟩:=Re s.2.2 (oI p) hc.2;have h1:=hc.1;simp only[FX,ah]at h1;have h2:=bq.1 (aO.1 h1.2 _ (aE hl));simp only[ae,hn,aw,dv hl];exact .inr ⟨s.2.2.2[n].toNat,by omega,by omega⟩
def Jy (h:Host)(a b c d:Int):Host:=(h.1,h.2.1,h.2.2.1,h.2.2.2.1,h.2.2.2.2.1,h.2.2.2.2.2.1,h.2.2.2.2.2.2.1,h.2.2.2.2.2.2.2.1,h.2.2.2.2.2.2.2.2.1,h.2.2.2.2.2.2.2.2.2.1,h.2.2.2.2.2.2.2.2.2.2.1,h.2.2.2.2.2.2.2.2.2.2.2.1,h.2.2.2.2.2.2.2.2.2.2.2.2.1,h.2.2.2.2.2.2.2.2.2.2.2.2.2.1,ak (h.2.2.2.2.2.2.2.2.2.2.2.2.2.2.1+1),a,b,c,d)
def qy (h:Host)(x:Bytes):Host:=
 bif !fw h then h else
 bif (jE x).2 !=0 then Jy h (ak (h.2.2.2.2.2.2.2.2.2.2.2.2.2.2.2.1+1)) h.2.2.2.2.2.2.2.2.2.2.2.2.2.2.2.2.1 h.2.2.2.2.2.2.2.2.2.2.2.2.2.2.2.2.2.1 h.2.2.2.2.2.2.2.2.2.2.2.2.2.2.2.2.2.2 else
 bif !zX h.2.2.2.2.2.2.2.1 (jE x).1 then Jy h h.2.2.2.2.2.2.2.2.2.2.2.2.2.2.2.1 (ak (h.2.2.2.2.2.2.2.2.2.2.2.2.2.2.2.2.1+1)) h.2.2.2.2.2.2.2.2.2.2.2.2.2.2.2.2.2.1 h.2.2.2.2.2.2.2.2.2.2.2.2.2.2.2.2.2.2 else
 bif ze h.2.2.2.2.2.2.2.2.1 (h.2.2.2.1.length:Int) (jE x).1== -1 then Jy h h.2.2.2.2.2.2.2.2.2.2.2.2.2.2.2.1 h.2.2.2.2.2.2.2.2.2.2.2.2.2.2.2.2.1 (ak (h.2.2.2.2.2.2.2.2.2.2.2.2.2.2.2.2.2.1+1)) h.2.2.2.2.2.2.2.2.2.2.2.2.2.2.2.2.2.2 else
 match h.2.2.2.1[(ze h.2.2.2.2.2.2.2.2.1 (h.2.2.2.1.length:Int) (jE x).1).toNat]? with
 |some q=>Sf (Jy h h.2.2.2.2.2.2.2.2.2.2.2.2.2.2.2.1 h.2.2.2.2.2.2.2.2.2.2.2.2.2.2.2.2.1 h.2.2.2.2.2.2.2.2.2.2.2.2.2.2.2.2.2.1 (ak (h.2.2.2.2.2.2.2.2.2.2.2.2.2.2.2.2.2.2+1))) (ze h.2.2.2.2.2.2.2.2.1 (h.2.2.2.1.length:Int) (jE x).1).toNat q.2.1.2.2 (lT h.2.1 h.1 0 q h.2.2.2.2.2.2.2.2.1.2.2.1 (jE x).1 h.2.2.2.2.2.2.2.2.2.2.1)
 |none=>h
theorem P3 (h:Host)(x:Bytes)(k:DX 900000000 h)(hx:x.length<=10^9):pY h x=some (qy h x):=by
 have z:=k.z;have z1:h.1.length<=900000000:=z.1.1;have z2:h.2.1.length<=900000000:=z.2.1.1;have zf:h.2.2.2.2.2.2.2.1.2.2.length<=900000000:=z.2.2.2.2.2.2.2.1.2.2.1;have s1:h.2.2.2.2.2.2.2.2.1.1.length<=900000000:=z.2.2.2.2.2.2.2.2.1.1.1;have s2:h.2.2.2.2.2.2.2.2.1.2.1.length<=900000000:=z.2.2.2.2.2.2.2.2.1.2.1.1;have s3:h.2.2.2.2.2.2.2.2.1.2.2.2.length<=900000000:=z.2.2.2.2.2.2.2.2.1.2.2.2.1;unfold pY qy;rw[ki h (z.mono),ab,Ai h (k.sz),ab];cases hb:fw h;rfl;have hl:=pq (by grind[fw]:zH h=true);have hr:=GB hb;simp only[ai,ae,Ru x hx,ab,acd h.2.2.2.2.2.2.2.1 _ (show h.2.2.2.2.2.2.2.1.2.2.length<=10^9 by omega),ajb h.2.2.2.2.2.2.2.2.1 _ _ (show h.2.2.2.2.2.2.2.2.1.1.length<=10^9 by omega) (show h.2.2.2.2.2.2.2.2.1.2.1.length<=10^9 by omega) (show h.2.2.2.2.2.2.2.2.1.2.2.2.length<=10^9 by omega)];generalize jE x=f;cases f.2 !=0;case true=>rfl
 cases zX h.2.2.2.2.2.2.2.1 f.1;rfl;simp only[ai,ae];have nh:=Y3 (s:=h.2.2.2.2.2.2.2.2.1) (q:=(h.2.2.2.1.length:Int)) (p:=f.1);generalize ze h.2.2.2.2.2.2.2.2.1 (h.2.2.2.1.length:Int) f.1=r at nh⊢;rcases nh with rfl|⟨n,rfl,hn⟩;rfl;have i1:n<h.2.2.2.1.length:=by omega
 have i2:n<h.2.2.2.2.2.1.length:=by omega
 have hq:=(El (hr n i1)).1;have hqi:=oo hq;have ha:=Ou (show 1000<=900000000 by omega) (l:=h.2.1) (d:=0) (k:=h.2.2.2.2.2.2.2.2.1.2.2.1) (p:=f.1) (c:=h.2.2.2.2.2.2.2.2.2.2.1) z.1 (z.2.2.2.1.2 _ (aE i1)) hq;have ev:=Te (h:=Jy h h.2.2.2.2.2.2.2.2.2.2.2.2.2.2.2.1 h.2.2.2.2.2.2.2.2.2.2.2.2.2.2.2.2.1 h.2.2.2.2.2.2.2.2.2.2.2.2.2.2.2.2.2.1 (ak (h.2.2.2.2.2.2.2.2.2.2.2.2.2.2.2.2.2.2+1))) (k:=n) (b:=h.2.2.2.1[n].2.1.2.2) (f:=lT h.2.1 h.1 0 h.2.2.2.1[n] h.2.2.2.2.2.2.2.2.1.2.2.1 f.1 h.2.2.2.2.2.2.2.2.2.2.1) i1 i2 ha.2.2.2;rw[show((n:Int)== -1)=false from by rw[cy];omega,aw,al i1];simp only[ae,aN i1,ab,afg h.2.1 h.1 0 _ _ _ _ (show h.2.1.length<=10^9 by omega) (show h.1.length<=10^9 by omega)];rw[show(mH ((lT h.2.1 h.1 0 h.2.2.2.1[n] h.2.2.2.2.2.2.2.2.1.2.2.1 f.1 h.2.2.2.2.2.2.2.2.2.2.1).1,h.2.1,h.2.2.1,h.2.2.2.1.set n (lT h.2.1 h.1 0 h.2.2.2.1[n] h.2.2.2.2.2.2.2.2.1.2.2.1 f.1 h.2.2.2.2.2.2.2.2.2.2.1).2,h.2.2.2.2.1,h.2.2.2.2.2.1,h.2.2.2.2.2.2.1,h.2.2.2.2.2.2.2.1,h.2.2.2.2.2.2.2.2.1,h.2.2.2.2.2.2.2.2.2.1,h.2.2.2.2.2.2.2.2.2.2.1,h.2.2.2.2.2.2.2.2.2.2.2.1,h.2.2.2.2.2.2.2.2.2.2.2.2.1,h.2.2.2.2.2.2.2.2.2.2.2.2.2.1,ak (h.2.2.2.2.2.2.2.2.2.2.2.2.2.2.1+1),h.2.2.2.2.2.2.2.2.2.2.2.2.2.2.2.1,h.2.2.2.2.2.2.2.2.2.2.2.2.2.2.2.2.1,h.2.2.2.2.2.2.2.2.2.2.2.2.2.2.2.2.2.1,ak (h.2.2.2.2.2.2.2.2.2.2.2.2.2.2.2.2.2.2+1)) (n:Int) h.2.2.2.1[n].2.1.2.2)=_ from ev,ab]
theorem QH (h:Host)(x:Bytes)(k:DX 900000000 h)(hx:x.length<=10^9):qM h x=some (qy h x):=by
 have z:=k.z;have z1:h.1.length<=900000000:=z.1.1;have z2:h.2.1.length<=900000000:=z.2.1.1;have zf:h.2.2.2.2.2.2.2.1.2.2.length<=900000000:=z.2.2.2.2.2.2.2.1.2.2.1;have s1:h.2.2.2.2.2.2.2.2.1.1.length<=900000000:=z.2.2.2.2.2.2.2.2.1.1.1;have s2:h.2.2.2.2.2.2.2.2.1.2.1.length<=900000000:=z.2.2.2.2.2.2.2.2.1.2.1.1;have s3:h.2.2.2.2.2.2.2.2.1.2.2.2.length<=900000000:=z.2.2.2.2.2.2.2.2.1.2.2.2.1;unfold qM qy;rw[kt h (z.mono),ab,vp h (k.sz),ab];cases hb:fw h;rfl;have hl:=pq (by grind[fw]:zH h=true);have hr:=GB hb;simp only[ai,ae,R9 x hx,ab,adx h.2.2.2.2.2.2.2.1 _ (show h.2.2.2.2.2.2.2.1.2.2.length<=10^9 by omega),aki h.2.2.2.2.2.2.2.2.1 _ _ (show h.2.2.2.2.2.2.2.2.1.1.length<=10^9 by omega) (show h.2.2.2.2.2.2.2.2.1.2.1.length<=10^9 by omega) (show h.2.2.2.2.2.2.2.2.1.2.2.2.length<=10^9 by omega)];generalize jE x=f;cases f.2 !=0;case true=>rfl
 cases zX h.2.2.2.2.2.2.2.1 f.1;rfl;simp only[ai,ae];have nh:=Y3 (s:=h.2.2.2.2.2.2.2.2.1) (q:=(h.2.2.2.1.length:Int)) (p:=f.1);generalize ze h.2.2.2.2.2.2.2.2.1 (h.2.2.2.1.length:Int) f.1=r at nh⊢;rcases nh with rfl|⟨n,rfl,hn⟩;rfl;have i1:n<h.2.2.2.1.length:=by omega
 have i2:n<h.2.2.2.2.2.1.length:=by omega
 have hq:=(El (hr n i1)).1;have hqi:=oo hq;have ha:=Ou (show 1000<=900000000 by omega) (l:=h.2.1) (d:=0) (k:=h.2.2.2.2.2.2.2.2.1.2.2.1) (p:=f.1) (c:=h.2.2.2.2.2.2.2.2.2.2.1) z.1 (z.2.2.2.1.2 _ (aE i1)) hq;have ev:=Tf (h:=Jy h h.2.2.2.2.2.2.2.2.2.2.2.2.2.2.2.1 h.2.2.2.2.2.2.2.2.2.2.2.2.2.2.2.2.1 h.2.2.2.2.2.2.2.2.2.2.2.2.2.2.2.2.2.1 (ak (h.2.2.2.2.2.2.2.2.2.2.2.2.2.2.2.2.2.2+1))) (k:=n) (b:=h.2.2.2.1[n].2.1.2.2) (f:=lT h.2.1 h.1 0 h.2.2.2.1[n] h.2.2.2.2.2.2.2.2.1.2.2.1 f.1 h.2.2.2.2.2.2.2.2.2.2.1) i1 i2 ha.2.2.2;rw[show((n:Int)== -1)=false from by rw[cy];omega,aq (show¬(n:Int)<0 by omega),aw,al i1];simp only[ae,aN i1,ab,agj h.2.1 h.1 0 _ _ _ _ (show h.2.1.length<=10^9 by omega) (show h.1.length<=10^9 by omega)];rw[show(mR ((lT h.2.1 h.1 0 h.2.2.2.1[n] h.2.2.2.2.2.2.2.2.1.2.2.1 f.1 h.2.2.2.2.2.2.2.2.2.2.1).1,h.2.1,h.2.2.1,h.2.2.2.1.set n (lT h.2.1 h.1 0 h.2.2.2.1[n] h.2.2.2.2.2.2.2.2.1.2.2.1 f.1 h.2.2.2.2.2.2.2.2.2.2.1).2,h.2.2.2.2.1,h.2.2.2.2.2.1,h.2.2.2.2.2.2.1,h.2.2.2.2.2.2.2.1,h.2.2.2.2.2.2.2.2.1,h.2.2.2.2.2.2.2.2.2.1,h.2.2.2.2.2.2.2.2.2.2.1,h.2.2.2.2.2.2.2.2.2.2.2.1,h.2.2.2.2.2.2.2.2.2.2.2.2.1,h.2.2.2.2.2.2.2.2.2.2.2.2.2.1,ak (h.2.2.2.2.2.2.2.2.2.2.2.2.2.2.1+1),h.2.2.2.2.2.2.2.2.2.2.2.2.2.2.2.1,h.2.2.2.2.2.2.2.2.2.2.2.2.2.2.2.2.1,h.2.2.2.2.2.2.2.2.2.2.2.2.2.2.2.2.2.1,ak (h.2.2.2.2.2.2.2.2.2.2.2.2.2.2.2.2.2.2+1)) (n:Int) h.2.2.2.1[n].2.1.2.2)=_ from ev,ab]
theorem Mq {n:Nat}(hn:1000<=n)(x:Bytes)(k:DX n h):DX n (qy h x)/\(qy h x).2.2.1=h.2.2.1/\(qy h x).2.2.2.2.1.length=h.2.2.2.2.1.length:=by
 have z:=k.z;have zc:∀a b c d,DX n (Jy h a b c d):=λa b c d=>⟨⟨z.1,z.2.1,z.2.2.1,z.2.2.2.1,z.2.2.2.2.1,z.2.2.2.2.2.1,z.2.2.2.2.2.2.1,z.2.2.2.2.2.2.2.1,z.2.2.2.2.2.2.2.2.1,z.2.2.2.2.2.2.2.2.2.1,z.2.2.2.2.2.2.2.2.2.2.1,z.2.2.2.2.2.2.2.2.2.2.2.1,z.2.2.2.2.2.2.2.2.2.2.2.2.1,z.2.2.2.2.2.2.2.2.2.2.2.2.2.1,bM,bM,bM,bM,bM⟩,k.t⟩
 unfold qy;cases hb:fw h;exact⟨k,rfl,rfl⟩;have hr:=GB hb;generalize jE x=f;cases f.2 !=0;case true=>exact⟨zc ..,rfl,rfl⟩
 cases zX h.2.2.2.2.2.2.2.1 f.1;exact⟨zc ..,rfl,rfl⟩;simp only[ai,ae];generalize ze h.2.2.2.2.2.2.2.2.1 (h.2.2.2.1.length:Int) f.1=r;cases r== -1;case true=>exact⟨zc ..,rfl,rfl⟩
 simp only[ae];rcases hq:h.2.2.2.1[r.toNat]? with _|q;exact⟨k,rfl,rfl⟩;obtain⟨hi,hqe⟩:=aJ.1 hq;have hqd:=(El (hr _ hi)).1;rw[hqe]at hqd;have ha:=Ou hn (l:=h.2.1) (d:=0) (k:=h.2.2.2.2.2.2.2.2.1.2.2.1) (p:=f.1) (c:=h.2.2.2.2.2.2.2.2.2.2.1) z.1 (z.2.2.2.1.2 _ (bK hq)) hqd;have zc':=zc h.2.2.2.2.2.2.2.2.2.2.2.2.2.2.2.1 h.2.2.2.2.2.2.2.2.2.2.2.2.2.2.2.2.1 h.2.2.2.2.2.2.2.2.2.2.2.2.2.2.2.2.2.1 (ak (h.2.2.2.2.2.2.2.2.2.2.2.2.2.2.2.2.2.2+1));have kk:=MJ (h:=Jy h h.2.2.2.2.2.2.2.2.2.2.2.2.2.2.2.1 h.2.2.2.2.2.2.2.2.2.2.2.2.2.2.2.2.1 h.2.2.2.2.2.2.2.2.2.2.2.2.2.2.2.2.2.1 (ak (h.2.2.2.2.2.2.2.2.2.2.2.2.2.2.2.2.2.2+1))) (k:=r.toNat) (b:=q.2.1.2.2) (f:=lT h.2.1 h.1 0 q h.2.2.2.2.2.2.2.2.1.2.2.1 f.1 h.2.2.2.2.2.2.2.2.2.2.1) ha.2.1;exact⟨⟨WA zc'.z ha.1 ha.2.2.1,by rw[kk.tx];exact k.t⟩,kk.tx,kk.pl⟩
theorem aoL (l:ar aC)(m:bp)(d:Int)(rx:bk)(pl:cH)(st:ar Stream)(c:Int):(mi l m d rx pl st c).1.length=m.length:=by grind[mi,ahj]
def Kq (b:Int)(k:Nat)(s:Int×Host):Int×Host:=
 match s.2.2.2.2.2.2.1[k]?,s.2.2.2.2.2.2.2.1[k]?,s.2.2.2.2.1[k]?,s.2.2.2.2.2.1[k]? with
 |some v,some p,some x,some pl=>
  bif p||(Lk v).2 then
   (ak (s.1+(mi s.2.2.1 s.2.1 0 x pl s.2.2.2.2.2.2.2.2.2.2.1 b).2.2.2.2),
    (mi s.2.2.1 s.2.1 0 x pl s.2.2.2.2.2.2.2.2.2.2.1 b).1,s.2.2.1,s.2.2.2.1,s.2.2.2.2.1.set k (mi s.2.2.1 s.2.1 0 x pl s.2.2.2.2.2.2.2.2.2.2.1 b).2.1,s.2.2.2.2.2.1.set k (mi s.2.2.1 s.2.1 0 x pl s.2.2.2.2.2.2.2.2.2.2.1 b).2.2.1,
    s.2.2.2.2.2.2.1.set k (bif decide ((mi s.2.2.1 s.2.1 0 x pl s.2.2.2.2.2.2.2.2.2.2.1 b).2.2.2.2<b) then QX (Lk v).1 else(Lk v).1),
    s.2.2.2.2.2.2.2.1.set k (!decide ((mi s.2.2.1 s.2.1 0 x pl s.2.2.2.2.2.2.2.2.2.2.1 b).2.2.2.2<b)),s.2.2.2.2.2.2.2.2.1,s.2.2.2.2.2.2.2.2.2.1,(mi s.2.2.1 s.2.1 0 x pl s.2.2.2.2.2.2.2.2.2.2.1 b).2.2.2.1,s.2.2.2.2.2.2.2.2.2.2.2)
  else(s.1,s.2.1,s.2.2.1,s.2.2.2.1,s.2.2.2.2.1,s.2.2.2.2.2.1,s.2.2.2.2.2.2.1.set k (Lk v).1,s.2.2.2.2.2.2.2.1.set k false,s.2.2.2.2.2.2.2.2)
 |_,_,_,_=>s
theorem adr (b:Int)(k:Nat)(s:Int×Host):mA (k+1) s.2 (Kq b k s).2:=by unfold Kq;rcases s.2.2.2.2.2.2.1[k]? with _|v;exact mA.refl _ _;rcases s.2.2.2.2.2.2.2.1[k]? with _|p;exact mA.refl _ _;rcases s.2.2.2.2.1[k]? with _|x;exact mA.refl _ _;rcases s.2.2.2.2.2.1[k]? with _|pl;exact mA.refl _ _;simp only;cases p||(Lk v).2 with|true=>exact⟨aoL ..,rfl,rfl,aL ..,λj hj=>aZ (by omega),aL ..,aL ..,λj hj=>aZ (by omega),aL ..,rfl,rfl⟩|false=>exact⟨rfl,rfl,rfl,rfl,λ_ _=>rfl,rfl,aL ..,λj hj=>aZ (by omega),aL ..,rfl,rfl⟩
theorem age (b:Int)(k:Nat)(s:Int×Host){n:Nat}(hn:1000<=n)(z:bu n cR s.2):bu (n+322000) cR (Kq b k s).2:=by have z':bu (n+322000) cR s.2:=z.mono;unfold Kq;rcases s.2.2.2.2.2.2.1[k]? with _|v;exact z';rcases s.2.2.2.2.2.2.2.1[k]? with _|p;exact z';rcases h1:s.2.2.2.2.1[k]? with _|x;exact z';rcases h2:s.2.2.2.2.2.1[k]? with _|pl;exact z';simp only;cases p||(Lk v).2 with|true=>have hp:=YA (by omega) (l:=s.2.2.1) (d:=0) b z.1 (z.2.2.2.1.2 _ (bK h1)) (z.2.2.2.2.1.2 _ (bK h2)) z.2.2.2.2.2.2.2.2.2.1;exact⟨hp.1.mono,z'.2.1,z'.2.2.1,qt z'.2.2.2.1 (hp.2.1.mono),qt z'.2.2.2.2.1 hp.2.2.1,T9 z'.2.2.2.2.2.1,qt z'.2.2.2.2.2.2.1 trivial,z'.2.2.2.2.2.2.2.1,z'.2.2.2.2.2.2.2.2.1,hp.2.2.2.1,z'.2.2.2.2.2.2.2.2.2.2⟩|false=>exact⟨z'.1,z'.2.1,z'.2.2.1,z'.2.2.2.1,z'.2.2.2.2.1,T9 z'.2.2.2.2.2.1,qt z'.2.2.2.2.2.2.1 trivial,z'.2.2.2.2.2.2.2⟩
def lD (b:Int):Nat->Host->Int×Host
 |0,h=>(0,h)
 |k+1,h=>Kq b k (lD b k h)
theorem Gd (b:Int)(h:Host):∀k,mA k h (lD b k h).2
 |0=>mA.refl 0 h
 |k+1=>((Gd b h k).up (by omega)).trans (adr b k _)
theorem Ko (b:Int){n:Nat}(hn:1000<=n)(z:bu n cR h):∀k,bu (n+322000*k) cR (lD b k h).2
 |0=>z
 |k+1=>(age b k _ (by omega) (Ko b hn z k)).mono
def BI (h:Host)(b:Int):Host×Int:=bif fw h&&dp b 1 1000 then((lD b h.2.2.2.1.length h).2,(lD b h.2.2.2.1.length h).1) else(h,0)
theorem ads {n:Nat}(hn:1000<=n)(b:Int)(k:DX n h):DX (n+644000) (BI h b).1:=by unfold BI;cases hb:fw h&&dp b 1 1000 with|false=>exact k.mono|true=>simp only[ah]at hb;have hl:=pq (by grind[fw]:zH h=true);refine⟨(Ko b hn k.z _).mono,?_⟩;simp only[af];rw[(Gd b h _).tx];exact aF k.t (by omega)
theorem acx (h:Host)(b:Int)(k:DX 400000000 h):vN h b=some (BI h b):=by
 have Cg:=dc;unfold vN BI;rw[ki h (k.z.mono),ab,Ai h (k.sz),ab,cq];cases hb:fw h;rfl;cases hi0:dp b 1 1000;rfl;have hl:=pq (by simp only[fw,ah]at hb;exact hb.2.2.2.2.1:zH h=true);simp only[ai,ae,ab,cA,af];refine bB (λi=>((lD b i h).1,(i:Int),(lD b i h).2)) h.2.2.2.1.length (by omega) (λi nx hi=>?_) (λnx=>?_);have kk:=Gd b h i;have zz:bu 500000000 cR (lD b i h).2:=(Ko b (by omega) k.z i).mono;have i1:i<(lD b i h).2.2.2.2.1.length:=by rw[kk.rx];exact hi
 have i2:i<(lD b i h).2.2.2.2.2.1.length:=by rw[kk.pl];omega
 have i3:i<(lD b i h).2.2.2.2.2.2.1.length:=by rw[kk.vec];omega
 have i4:i<(lD b i h).2.2.2.2.2.2.2.1.length:=by rw[kk.pol];omega
 rw[show lD b (i+1) h=Kq b i (lD b i h) from rfl];generalize lD b i h=s at zz i1 i2 i3 i4⊢;have gp:∀(V:ar Vector)(P:ar Bool),mh (s.2.1,s.2.2.1,s.2.2.2.1,s.2.2.2.2.1,s.2.2.2.2.2.1,V,P,s.2.2.2.2.2.2.2.2) (i:Int) b=some ((mi s.2.2.1 s.2.1 0 s.2.2.2.2.1[i] s.2.2.2.2.2.1[i] s.2.2.2.2.2.2.2.2.2.2.1 b).2.2.2.2,(mi s.2.2.1 s.2.1 0 s.2.2.2.2.1[i] s.2.2.2.2.2.1[i] s.2.2.2.2.2.2.2.2.2.2.1 b).1,s.2.2.1,s.2.2.2.1,s.2.2.2.2.1.set i (mi s.2.2.1 s.2.1 0 s.2.2.2.2.1[i] s.2.2.2.2.2.1[i] s.2.2.2.2.2.2.2.2.2.2.1 b).2.1,s.2.2.2.2.2.1.set i (mi s.2.2.1 s.2.1 0 s.2.2.2.2.1[i] s.2.2.2.2.2.1[i] s.2.2.2.2.2.2.2.2.2.2.1 b).2.2.1,V,P,s.2.2.2.2.2.2.2.2.1,s.2.2.2.2.2.2.2.2.2.1,(mi s.2.2.1 s.2.1 0 s.2.2.2.2.1[i] s.2.2.2.2.2.1[i] s.2.2.2.2.2.2.2.2.2.2.1 b).2.2.2.1,s.2.2.2.2.2.2.2.2.2.2.2):=by intro V P;have Hr:s.2.2.2.2.2.1[i].2.2.2.length<=500000000:=(zz.2.2.2.2.1.2 _ (aE i2)).2.2.2.1;have hm:s.2.1.length<=500000000:=zz.1.1;have hp:s.2.2.1.length<=500000000:=zz.2.1.1;unfold mh;simp only[aN i1,aN i2,ab,acu s.2.2.1 s.2.1 0 _ _ _ b (show s.2.2.1.length<=10^9 by omega) (show s.2.1.length<=10^9 by omega) Hr zz.2.2.2.2.2.2.2.2.2.1,aw]
 have Ih:∀V:Vector,s.2.2.2.2.2.2.1.set i V=s.2.2.2.2.2.2.1.set i V:=λ_=>rfl;unfold Kq;rw[al i1,al i2,al i3,al i4];simp only[pg];rw[gN,af];simp only[aN i3,aN i4,ab,ajf,aw,gp];generalize Lk s.2.2.2.2.2.2.1[i]=w;generalize mi s.2.2.1 s.2.1 0 s.2.2.2.2.1[i] s.2.2.2.2.2.1[i] s.2.2.2.2.2.2.2.2.2.2.1 b=pr;have i5:∀V:Vector,i<(s.2.2.2.2.2.2.1.set i V).length:=λV=>by rw[aL];exact i3
 have i6:∀q:Bool,i<(s.2.2.2.2.2.2.2.1.set i q).length:=λq=>by rw[aL];exact i4
 have e5:∀V:Vector,idx (s.2.2.2.2.2.2.1.set i V) (i:Int)=some V:=λV=>by rw[aN (i5 V),List.getElem_set_self]
 have e6:∀q:Bool,idx (s.2.2.2.2.2.2.2.1.set i q) (i:Int)=some q:=λq=>by rw[aN (i6 q),List.getElem_set_self]
 rw[aj (n:=(i:Int)+1) (by omega) (by omega)];have HE:s.2.2.2.2.2.2.2.1.set i (s.2.2.2.2.2.2.2.1[i])=s.2.2.2.2.2.2.2.1:=List.set_getElem_self ..;generalize hp:s.2.2.2.2.2.2.2.1[i]=p at HE⊢;cases hw:w.2 with
 |true=>simp only[jx,af,e6,e5,ab,ai,ae,Vl,dE];cases decide (pr.2.2.2.2<b)<;>rfl
 |false=>
  simp only[Bool.or_false,ae];cases p with
  |false=>rw[HE];rfl
  |true=>
   have e7:idx s.2.2.2.2.2.2.2.1 (i:Int)=some true:=by rw[aN i4,hp]
   simp only[af,ai,ae,e5,e7,ab,Vl,dE];cases decide (pr.2.2.2.2<b)with|true=>rfl|false=>simp only[ae,bz,HE];rfl
 simp only[pg];rw[fF,ae]
theorem adO (h:Host)(b:Int)(k:DX 400000000 h):wJ h b=some (BI h b):=by
 have Cg:=dc;unfold wJ BI;rw[kt h (k.z.mono),ab,vp h (k.sz),ab,cj];cases hb:fw h;rfl;cases hi0:dp b 1 1000;rfl;have hl:=pq (by simp only[fw,ah]at hb;exact hb.2.2.2.2.1:zH h=true);simp only[ai,ae,ab,cA,af];refine bB (λi=>((lD b i h).1,(i:Int),(lD b i h).2)) h.2.2.2.1.length (by omega) (λi nx hi=>?_) (λnx=>?_);have kk:=Gd b h i;have zz:bu 500000000 cR (lD b i h).2:=(Ko b (by omega) k.z i).mono;have i1:i<(lD b i h).2.2.2.2.1.length:=by rw[kk.rx];exact hi
 have i2:i<(lD b i h).2.2.2.2.2.1.length:=by rw[kk.pl];omega
 have i3:i<(lD b i h).2.2.2.2.2.2.1.length:=by rw[kk.vec];omega
 have i4:i<(lD b i h).2.2.2.2.2.2.2.1.length:=by rw[kk.pol];omega
 have em:=kk.maps;rw[show lD b (i+1) h=Kq b i (lD b i h) from rfl];generalize lD b i h=s at zz i1 i2 i3 i4 em⊢;have Hr:s.2.2.2.2.2.1[i].2.2.2.length<=500000000:=(zz.2.2.2.2.1.2 _ (aE i2)).2.2.2.1;have hm:s.2.1.length<=500000000:=zz.1.1;have hp:s.2.2.1.length<=500000000:=zz.2.1.1;have gp:=adN s.2.2.1 s.2.1 0 s.2.2.2.2.1[i] s.2.2.2.2.2.1[i] s.2.2.2.2.2.2.2.2.2.2.1 b (show s.2.2.1.length<=10^9 by omega) (show s.2.1.length<=10^9 by omega) Hr zz.2.2.2.2.2.2.2.2.2.1;unfold Kq;rw[al i1,al i2,al i3,al i4];simp only[pA];rw[gN,af,<-em];simp only[aN i1,aN i2,aN i3,aN i4,ab,akm,aw,gp];generalize Lk s.2.2.2.2.2.2.1[i]=w;generalize mi s.2.2.1 s.2.1 0 s.2.2.2.2.1[i] s.2.2.2.2.2.1[i] s.2.2.2.2.2.2.2.2.2.2.1 b=pr;have i5:∀V:Vector,i<(s.2.2.2.2.2.2.1.set i V).length:=λV=>by rw[aL];exact i3
 have i6:∀q:Bool,i<(s.2.2.2.2.2.2.2.1.set i q).length:=λq=>by rw[aL];exact i4
 have e5:∀V:Vector,idx (s.2.2.2.2.2.2.1.set i V) (i:Int)=some V:=λV=>by rw[aN (i5 V),List.getElem_set_self]
 have e6:∀q:Bool,idx (s.2.2.2.2.2.2.2.1.set i q) (i:Int)=some q:=λq=>by rw[aN (i6 q),List.getElem_set_self]
 rw[aj (n:=(i:Int)+1) (by omega) (by omega)];generalize s.2.2.2.2.2.2.2.1[i]=p;cases p with|true=>simp only[jy,af,e6,e5,ab,ai,ae,Wa,dE];cases decide (pr.2.2.2.2<b)<;>rfl|false=>simp only[cB,ae,e6,e5,ab,Wa,dE];cases w.2 with|false=>rfl|true=>simp only[ai,ae,af];cases decide (pr.2.2.2.2<b)<;>rfl
 simp only[pA];rw[aq (by have:=(Gd b h h.2.2.2.1.length).rx;omega),ae]
theorem ad6 {n:Nat}(hn:1000<=n)(k:DX n h):DX n (Eu h):=by have:=anK hn k.z;exact⟨this.1,by rw[this.2];exact k.t⟩
theorem N4 (K:Int->Bytes->au R):∀(n:Nat)(v:Int)(s:Bytes)(m:Nat),0<=v->v<=1000000000000000->v<10^n->s.length+n<=1000->n<m->∃s':Bytes,s'.length<=1000/\∃v',aH (wv K) m (v,s)=K v' s'
 |0,v,s,m,h0,_,h1,hs,hm=>by
  have hv:v=0:=by simp at h1;omega
  subst hv;cases m with|zero=>omega|succ m=>exact⟨s,by omega,0,by rw[aH];rfl⟩
 |n+1,v,s,m,h0,hb,h1,hs,hm=>by cases m with|zero=>omega|succ m=>rw[aH];simp only[wv];by_cases hv:v>0;have hq:Int.tdiv v 10=v/10:=Int.tdiv_eq_ediv_of_nonneg h0;rw[ax hv];simp only[af];rw[nt,aQ (by simp[aS];omega),nt,hq,aj (n:=v/10) (by omega) (by omega)];exact N4 K n (v/10) _ m (by omega) (by omega) (by rw[Int.pow_succ]at h1;omega) (by simp[aS];omega) (by omega);rw[aq hv];exact⟨s,by omega,v,rfl⟩
theorem W3 (k:Int)(h1:1<=k)(h2:k<=1000000000000000):∃s,cn k=some s:=by have Cg:=dc;unfold cn;rw[fF];simp only[ae];obtain⟨s,hs,v,h⟩:=N4 (λ(_:Int) (y2:Bytes)=>room (List.length ([109]:Bytes)+List.length y2) (some (([109]:Bytes)++y2))) 16 k [] fuel (by omega) h2 (by omega) (by simp) (by omega);rw[h,aQ (by simp;omega)];exact⟨_,rfl⟩
def txt (k:Int):Bytes:=(cn k).getD []
theorem jL (k:Int)(h1:1<=k)(h2:k<=1000000000000000):cn k=some (txt k):=by obtain⟨s,hs⟩:=W3 k h1 h2;rw[txt,hs];rfl
def kh:(t:CT)->t.D->Nat
 | .int _,_=>1
 | .bool,_=>1
 | .str,_=>1
 | .sl e,xs=>(xs.map (kh e)).sum
 | .pair a b,x=>kh a x.1+kh b x.2
def mkL (f:α->Int->α)(c:α->Nat):ar α->Int->ar α
 |[],_=>[]
 |x::xs,k=>f x k::mkL f c xs (k+c x)
def mk:(t:CT)->t.D->Int->t.D
 | .int _,_,k=>k
 | .bool,_,k=>tmod k 3==0
 | .str,_,k=>txt k
 | .sl e,xs,k=>mkL (mk e) (kh e) xs k
 | .pair a b,x,k=>(mk a x.1 k,mk b x.2 (k+kh a x.1))
def mn:(t:CT)->t.D->Nat
 | .int _,_=>0
 | .bool,_=>0
 | .str,_=>0
 | .sl e,xs=>kh (.sl e) xs
 | .pair a b,x=>mn a x.1+mn b x.2
def mkT:(t:CT)->t.D->Int->t.D
 | .int _,x,_=>x
 | .bool,x,_=>x
 | .str,x,_=>x
 | .sl e,xs,k=>mk (.sl e) xs k
 | .pair a b,x,k=>(mkT a x.1 k,mkT b x.2 (k+mn a x.1))
theorem RH {k:IntKind}(x k':Int):mk (.int k) x k'=k':=rfl
theorem Nc (x:Bool)(k:Int):mk .bool x k=(tmod k 3==0):=rfl
theorem RI (x:Bytes)(k:Int):mk .str x k=txt k:=rfl
theorem HX {a b:CT}(x:a.D×b.D)(k:Int):mk (.pair a b) x k=(mk a x.1 k,mk b x.2 (k+kh a x.1)):=rfl
theorem nI {k:IntKind}(x:Int):kh (.int k) x=1:=rfl
theorem kC (x:Bool):kh .bool x=1:=rfl
theorem nK (x:Bytes):kh .str x=1:=rfl
theorem kD {a b:CT}(x:a.D×b.D):kh (.pair a b) x=kh a x.1+kh b x.2:=rfl
theorem ahF {k:IntKind}(x k':Int):mkT (.int k) x k'=x:=rfl
theorem acO (x:Bool)(k:Int):mkT .bool x k=x:=rfl
theorem ahG (x:Bytes)(k:Int):mkT .str x k=x:=rfl
theorem acP {a b:CT}(x:a.D×b.D)(k:Int):mkT (.pair a b) x k=(mkT a x.1 k,mkT b x.2 (k+mn a x.1)):=rfl
theorem abn {k:IntKind}(x:Int):mn (.int k) x=0:=rfl
theorem XA (x:Bool):mn .bool x=0:=rfl
theorem abo (x:Bytes):mn .str x=0:=rfl
theorem XB {a b:CT}(x:a.D×b.D):mn (.pair a b) x=mn a x.1+mn b x.2:=rfl
theorem ne3:¬(3:Int)=0:=by omega
theorem Jz {n:Int}(h:¬n<0):decide (n<0)=false:=aq h
theorem ri {l:ar α}{i:Nat}(x:α)(h:i<l.length):idx (l.set i x) (i:Int)=some x:=by rw[M5,List.getElem?_set_self h]
theorem Ys {T:((ar e.D×Int×Int×ar e.D)->au (Int×ar e.D))->(ar e.D×Int×Int×ar e.D)->au (Int×ar e.D)}
 (hs:∀(l:ar e.D)(i:Nat)(hi:i<l.length)(k:Int) nx,1<=k->k+kh e l[i]<=1000000000000000->l.length<=1000000000000->bu 1000000000000 e l[i]->
  T nx (l,k,(i:Int),l)=nx (l.set i (mk e l[i] k),k+kh e l[i],(i:Int)+1,l.set i (mk e l[i] k)))
 (hf:∀(l:ar e.D)(k:Int) nx,T nx (l,k,(l.length:Int),l)=some (k,l)):
 ∀(xs pre:ar e.D)(k:Int)(n:Nat),1<=k->k+kh (.sl e) xs<=1000000000000000->pre.length+xs.length<=1000000000000->(∀x∈xs,bu 1000000000000 e x)->xs.length<n->
  aH T n (pre++xs,k,(pre.length:Int),pre++xs)=some (k+kh (.sl e) xs,pre++mk (.sl e) xs k)
 |[],pre,k,n,_,_,_,_,hn=>by cases n with|zero=>omega|succ n=>rw[aH,bC,hf];simp[kh,mk,mkL]
 |x::xs,pre,k,n,h1,h2,h3,h4,hn=>by
  cases n with
  |zero=>omega
  |succ n=>
   have hc:kh (.sl e) (x::xs)=kh e x+kh (.sl e) xs:=by simp[kh]
   have hi:pre.length<(pre++x::xs).length:=by simp
   have hx:(pre++x::xs)[pre.length]=x:=by simp
   simp only[bH]at h3 hn;rw[aH,hs _ pre.length hi k _ h1 (by rw[hx];omega) (by simp;omega) (by rw[hx];exact h4 x (by simp)),hx];have Ih:(pre++x::xs).set pre.length (mk e x k)=(pre++[mk e x k])++xs:=by rw[List.set_append_right _ _ (ba _),hG,List.set_cons_zero,aW];rfl
   have hl:((pre.length:Int)+1)=(((pre++[mk e x k]).length:Nat):Int):=by simp
   rw[Ih,hl,Ys hs hf xs _ _ n (by omega) (by omega) (by simp;omega) (λy hy=>h4 y (by simp[hy])) (by omega)];rw[hc];congr 1;refine Prod.ext (by simp only;omega) ?_;simp only[mk,mkL,aW,List.singleton_append]
theorem XZ {T:ar e.D->((Int×Int)->au Int)->(Int×Int)->au Int}
 (hs:∀(l:ar e.D)(i:Nat)(hi:i<l.length)(x:e.D)(k:Int) nx,l[i]=mk e x k->1<=k->k+kh e x<=1000000000000000->l.length<=1000000000000->bu 1000000000000 e x->
  T l nx (k,(i:Int))=nx (k+kh e x,(i:Int)+1))
 (hf:∀(l:ar e.D)(k:Int) nx,T l nx (k,(l.length:Int))=some k):
 ∀(xs pre:ar e.D)(k:Int)(n:Nat),1<=k->k+kh (.sl e) xs<=1000000000000000->pre.length+xs.length<=1000000000000->(∀x∈xs,bu 1000000000000 e x)->xs.length<n->
  aH (T (pre++mk (.sl e) xs k)) n (k,(pre.length:Int))=some (k+kh (.sl e) xs)
 |[],pre,k,n,_,_,_,_,hn=>by
  cases n with
  |zero=>omega
  |succ n=>
   have:pre++mk (.sl e) ([]:ar e.D) k=pre:=by simp[mk,mkL]
   rw[aH,this,hf];simp[kh]
 |x::xs,pre,k,n,h1,h2,h3,h4,hn=>by
  cases n with
  |zero=>omega
  |succ n=>
   have hc:kh (.sl e) (x::xs)=kh e x+kh (.sl e) xs:=by simp[kh]
   have hm:pre++mk (.sl e) (x::xs) k=(pre++[mk e x k])++mk (.sl e) xs (k+kh e x):=by simp[mk,mkL]
   have hlen:∀(ys:ar e.D)(k:Int),(mk (.sl e) ys k).length=ys.length:=by intro ys;induction ys with|nil=>intro k;rfl|cons y ys ih=>intro k;have:=ih (k+kh e y);simp only[mk,mkL,bH]at this⊢;omega
   simp only[bH]at h3 hn;rw[aH,hm,hs _ pre.length (by simp) x k _ (by simp) h1 (by omega) (by have:=hlen xs (k+kh e x);simp;omega) (h4 x (by simp))];have hl:((pre.length:Int)+1)=(((pre++[mk e x k]).length:Nat):Int):=by simp
   rw[hl,XZ hs hf xs _ _ n (by omega) (by omega) (by simp;omega) (λy hy=>h4 y (by simp[hy])) (by omega),hc];congr 1;omega
def Zm (t:CT)(mark:t.D->Int->au (Int×t.D)):Prop:=∀(a:t.D)(_:bu 1000000000000 t a)(k:Int)(_:1<=k)(_:k+kh t a<=1000000000000000),mark a k=some (k+kh t a,mk t a k)
def Zl (t:CT)(held:t.D->Int->au Int):Prop:=∀(a:t.D)(_:bu 1000000000000 t a)(k:Int)(_:1<=k)(_:k+kh t a<=1000000000000000),held (mk t a k) k=some (k+kh t a)
theorem aaj {T:((ar e.D×Int×Int×ar e.D)->au (Int×ar e.D))->(ar e.D×Int×Int×ar e.D)->au (Int×ar e.D)}(hs:∀(l:ar e.D)(i:Nat)(hi:i<l.length)(k:Int) nx,1<=k->k+kh e l[i]<=1000000000000000->l.length<=1000000000000->bu 1000000000000 e l[i]-> T nx (l,k,(i:Int),l)=nx (l.set i (mk e l[i] k),k+kh e l[i],(i:Int)+1,l.set i (mk e l[i] k)))(hf:∀(l:ar e.D)(k:Int) nx,T nx (l,k,(l.length:Int),l)=some (k,l)):Zm (.sl e) (λa k=>aH T fuel (a,k,0,a)):=by have Cg:=dc;intro a h k h1 h2;have hl:a.length<=1000000000000:=h.1;exact Ys hs hf a [] k fuel h1 h2 (by simp;omega) h.2 (by omega)
theorem aai {H:ar e.D->((Int×Int)->au Int)->(Int×Int)->au Int}(gs:∀(l:ar e.D)(i:Nat)(hi:i<l.length)(x:e.D)(k:Int) nx,l[i]=mk e x k->1<=k->k+kh e x<=1000000000000000->l.length<=1000000000000->bu 1000000000000 e x-> H l nx (k,(i:Int))=nx (k+kh e x,(i:Int)+1))(gf:∀(l:ar e.D)(k:Int) nx,H l nx (k,(l.length:Int))=some k):Zl (.sl e) (λa k=>aH (H a) fuel (k,0)):=by have Cg:=dc;intro a h k h1 h2;have hl:a.length<=1000000000000:=h.1;exact XZ gs gf a [] k fuel h1 h2 (by simp;omega) h.2 (by omega)
def MtM (t:CT)(mark:t.D->Int->au (Int×t.D)):Prop:=∀(a:t.D)(_:bu 1000000000000 t a)(k:Int)(_:1<=k)(_:k+mn t a<=1000000000000000),mark a k=some (k+mn t a,mkT t a k)
def MtH (t:CT)(held:t.D->Int->au Int):Prop:=∀(a:t.D)(_:bu 1000000000000 t a)(k:Int)(_:1<=k)(_:k+mn t a<=1000000000000000),held (mkT t a k) k=some (k+mn t a)
theorem Zm.top {mark:ar e.D->Int->au (Int×ar e.D)}(h:Zm (.sl e) mark):MtM (.sl e) mark:=h
theorem Zl.top {held:ar e.D->Int->au Int}(h:Zl (.sl e) held):MtH (.sl e) held:=h
def OkW:{t:CT}->Nst FM t->Prop
 |_,.sl (e:=e) m=>Zm (.sl e) m
 |_,.pair a b=>OkW a/\OkW b
 |_,_=>True
theorem aaC {R:Type}(hf:∀k,1<=k->k<=1000000000000000->f k=some (txt k)){l:ar α}{i:Nat}(hi:i<l.length):∀{t:CT}(n:Nst FM t)(_:OkW n)(g:α->t.D)(s:α->t.D->α)(_:∀y v,g (s y v)=v)(_:∀y v w,s (s y v) w=s y w)(x:α)(k:Int)(K:ar α->Int->au R),1<=k->k+kh t (g x)<=1000000000000000->bu 1000000000000 t (g x)->
 Jd f (i:Int) n g s (l.set i x) (l.set i x) k K=K (l.set i (s x (mk t (g x) k))) (k+kh t (g x))
 |_,.int _,_,g,s,_,_,x,k,K,h1,h2,_=>by simp only[nI]at h2⊢;rw[Jd,ri x hi,ab,ab,aw,dE,aj (by omega) (by omega)];rfl
 |_,.bool,_,g,s,_,_,x,k,K,h1,h2,_=>by simp only[kC]at h2⊢;rw[Jd,ri x hi,ab,ab,aw,dE,aj (by omega) (by omega)];rfl
 |_,.str,_,g,s,_,_,x,k,K,h1,h2,_=>by simp only[nK]at h2⊢;rw[Jd,hf k h1 (by omega),ab,ri x hi,ab,ab,aw,dE,aj (by omega) (by omega)];rfl
 |_,.sl m,hn,g,s,_,_,x,k,K,h1,h2,h3=>by rw[Jd,ri x hi,ab,ab,hn (g x) h3 k h1 h2,ab,aw,dE]
 |_,.pair (a:=ca) (b:=cb) a b,hn,g,s,l1,l2,x,k,K,h1,h2,h3=>by rw[kD]at h2⊢;have e1:=aaC (R:=R) hf hi a hn.1 (λy=>(g y).1) (λy v=>s y (v,(g y).2)) (λy v=>by simp only[l1]) (λy v w=>by simp only[l1,l2]) x k;rw[Jd,e1 _ h1 (by show k+((kh ca (g x).1:Nat):Int)<=_;omega) h3.1];have e2:=aaC (R:=R) hf hi b hn.2 (λy=>(g y).2) (λy v=>s y ((g y).1,v)) (λy v=>by simp only[l1]) (λy v w=>by simp only[l1,l2]) (s x (mk ca (g x).1 k,(g x).2)) (k+kh ca (g x).1) K (by omega) (by simp only[l1];omega) (by simp only[l1];exact h3.2);rw[e2];simp only[l1,l2,HX];congr 1;omega
theorem Mj (n:Nst FM e){T:((ar e.D×Int×Int×ar e.D)->au (Int×ar e.D))->(ar e.D×Int×Int×ar e.D)->au (Int×ar e.D)}(hf:∀k,1<=k->k<=1000000000000000->f k=some (txt k))(hn:OkW n)(he:∀(l:ar e.D)(k i:Int) nx,T nx (l,k,i,l)=cond (decide (i<(l.length:Int))) (Jd f i n (λy=>y) (λ_ v=>v) l l k (λL k'=>nx (L,k',ak (i+1),L))) (some (k,l))):Zm (.sl e) (λa k=>aH T fuel (a,k,0,a)):=by
 refine aaj (λl i hi k nx h1 h2 h3 hx=>?_) (λl k nx=>?_)
 ·have hl:l=l.set i l[i]:=(List.set_getElem_self hi).symm;rw[he,gN,af];conv=>lhs;rw[hl]
  rw[aaC hf hi n hn (λy=>y) (λ_ v=>v) (λ_ _=>rfl) (λ_ _ _=>rfl) l[i] k _ h1 h2 hx];rw[aj (by omega) (by omega)]
 rw[he,fF];rfl
def OkV:{t:CT}->Nst FH t->Prop
 |_,.sl (e:=e) m=>Zl (.sl e) m
 |_,.pair a b=>OkV a/\OkV b
 |_,_=>True
theorem aaB (hf:∀k,1<=k->k<=1000000000000000->f k=some (txt k)){v:ar α}{i:Nat}(hi:i<v.length)(bad:Int->au R):∀{t:CT}(n:Nst FH t)(_:OkV n)(g:α->t.D)(K:Int->au R)(x:t.D)(k:Int),1<=k->k+kh t x<=1000000000000000->bu 1000000000000 t x->g v[i]=mk t x k->
 Jc f (i:Int) v bad n g K k=K (k+kh t x)
 |_,.int _,_,g,K,x,k,h1,h2,_,h4=>by simp only[nI]at h2⊢;have h5:g v[i]=k:=h4;rw[Jc,aN hi,ab,h5,bne_self_eq_false,ae,aj (by omega) (by omega)];rfl
 |_,.bool,_,g,K,x,k,h1,h2,_,h4=>by simp only[kC]at h2⊢;have h5:g v[i]=(tmod k 3==0):=h4;rw[Jc,aN hi,ab,h5,gz,ai,ae,aj (by omega) (by omega)];rfl
 |_,.str,_,g,K,x,k,h1,h2,_,h4=>by simp only[nK]at h2⊢;have h5:g v[i]=txt k:=h4;rw[Jc,aN hi,ab,hf k h1 (by omega),ab,h5,gz,ai,ae,aj (by omega) (by omega)];rfl
 |_,.sl m,hn,g,K,x,k,h1,h2,h3,h4=>by rw[Jc,aN hi,ab,h4,hn x h3 k h1 h2,ab,fF,ae]
 |_,.pair a b,hn,g,K,x,k,h1,h2,h3,h4=>by rw[kD]at h2⊢;rw[HX]at h4;rw[Jc,aaB hf hi bad a hn.1 _ _ x.1 k h1 (by omega) h3.1 (by simp only[h4]),aaB hf hi bad b hn.2 _ _ x.2 _ (by omega) (by omega) h3.2 (by simp only[h4])];congr 1;omega
theorem Mi (n:Nst FH e){H:ar e.D->((Int×Int)->au Int)->(Int×Int)->au Int}{bad:ar e.D->Int->Int->au Int}(hf:∀k,1<=k->k<=1000000000000000->f k=some (txt k))(hn:OkV n)(he:∀(l:ar e.D)(k i:Int) nx,H l nx (k,i)=cond (decide (i<(l.length:Int))) (Jc f i l (bad l i) n (λy=>y) (λk'=>nx (k',ak (i+1))) k) (some k)):Zl (.sl e) (λa k=>aH (H a) fuel (k,0)):=by refine aai (λl i hi x k nx hm h1 h2 h3 hx=>?_) (λl k nx=>?_);rw[he,gN,af,aaB hf hi _ n hn _ _ x k h1 h2 hx hm,aj (by omega) (by omega)];rw[he,fF];rfl
theorem Zw:∀{t:CT}{x:t.D},mn t x<=kh t x
 | .int _,_=>by simp[mn]
 | .bool,_=>by simp[mn]
 | .str,_=>by simp[mn]
 | .sl _,_=>ba _
 | .pair a b,x=>by simp only[mn,kh];exact Nat.add_le_add Zw Zw
def wt:CT->Nat
 | .sl e=>wt e
 | .pair a b=>wt a+wt b
 |_=>1
theorem Zy:∀{t:CT}{x:t.D},kh t x<=wt t*(my t x+1)
 | .int _,_=>by simp[kh,wt]
 | .bool,_=>by simp[kh,wt]
 | .str,_=>by simp[kh,wt]
 | .sl e,xs=>by
  have h:∀l:ar e.D,(l.map (kh e)).sum<=wt e*((l.map (my e)).sum+l.length):=by
   intro l;induction l with
   |nil=>simp
   |cons y l ih=>
    have:=Zy (t:=e) (x:=y);simp only[ei,List.sum_cons,bH];have e1:wt e*(my e y+(l.map (my e)).sum+(l.length+1))=wt e*(my e y+1)+wt e*((l.map (my e)).sum+l.length):=by rw[<-Nat.mul_add];congr 1;omega
    omega
  have h1:=h xs;simp only[kh,wt,my];refine aF h1 (Nat.mul_le_mul_left _ (by omega))
 | .pair a b,x=>by have h1:=Zy (t:=a) (x:=x.1);have h2:=Zy (t:=b) (x:=x.2);simp only[kh,wt,my];rw[cw];exact Nat.add_le_add (aF h1 (Nat.mul_le_mul_left _ (by omega))) (aF h2 (Nat.mul_le_mul_left _ (by omega)))
def Xx (n:Nat):CT->Nat
 | .sl e=>n*Xx n e
 | .pair a b=>Xx n a+Xx n b
 |_=>1
theorem nJ {n:Nat}:∀{t:CT}{x:t.D},bu n t x->kh t x<=Xx n t
 | .int _,_,_=>by simp[kh,Xx]
 | .bool,_,_=>by simp[kh,Xx]
 | .str,_,_=>by simp[kh,Xx]
 | .sl e,xs,h=>by
  have h1:∀l:ar e.D,(∀x∈l,bu n e x)->(l.map (kh e)).sum<=l.length*Xx n e:=by intro l;induction l with|nil=>simp|cons y l ih=>intro hl;have:=nJ (hl y (by simp));have:=ih (λx hx=>hl x (by simp[hx]));simp only[ei,List.sum_cons,bH,cw,eF];omega
  simp only[kh,Xx];exact aF (h1 xs h.2) (cC _ h.1)
 | .pair a b,x,h=>by simp only[kh,Xx];exact Nat.add_le_add (nJ h.1) (nJ h.2)
theorem Zx {n:Nat}:∀{xs:ar e.D},(∀x∈xs,bu n e x)->kh (.sl e) xs<=xs.length*Xx n e
 |[],_=>by simp[kh]
 |y::l,h=>by have h1:=nJ (h y (by simp));have h2:=Zx (xs:=l) (λx hx=>h x (by simp[hx]));simp only[kh,ei,List.sum_cons,bH,cw,eF]at h2⊢;omega
structure Pg (h:Host):Prop where
 pl:h.2.2.2.2.1.length<=2
 w:h.2.2.1.2.2.1.length<=16
theorem alq (hb:fw h=true):Pg h:=by have hl:=pq (by grind[fw]:zH h=true);have ht:=KI (t:=h.2.2.1) (by grind[fw]);exact⟨by omega,ht⟩
theorem Pw {a b:Host}(f:Pg a)(h:mA k a b):Pg b:=⟨by rw[h.pl];exact f.pl,by rw[h.tx];exact f.w⟩
theorem abF (f:Pg h):Pg (Eu h):=by grind[Eu,Pw,xb,KH]
theorem aiC (f:Pg h):Pg (JF h):=by grind[JF,Pw,xb,HA]
theorem aiD (b:Int)(f:Pg h):Pg (BI h b).1:=by grind[BI,Pw,Gd]
theorem Px (f:Pg h):Pg (gU h):=by unfold gU;cases fw h with|false=>exact f|true=>refine⟨f.pl,?_⟩;simp only[af];generalize (if(h.2.2.1.2.2.1.length:Int)<ak ((lG h.2.1 h.1 0 h.2.2.1.1).2.2.1+(lG h.2.1 h.1 0 h.2.2.1.1).2.2.2) then(h.2.2.1.2.2.1.length:Int) else ak ((lG h.2.1 h.1 0 h.2.2.1.1).2.2.1+(lG h.2.1 h.1 0 h.2.2.1.1).2.2.2))=q;unfold nu;cases Tb ((lG h.2.1 h.1 0 h.2.2.1.1).1,h.2.2.1.2)&&dp q 0 (h.2.2.1.2.2.1.length:Int)with|false=>exact f.w|true=>show(h.2.2.1.2.2.1.drop q.toNat).length<=16;rw[bl];have:=f.w;omega
theorem alp {n:Nat}(z:bu n cR h)(f:Pg h):kh cR h<=400*(n+1):=by
 have hw:h.2.2.1.2.2.1.length*Xx n kU<=16*Xx n kU:=cC _ f.w;have hp:h.2.2.2.2.1.length*Xx n jQ<=2*Xx n jQ:=cC _ f.pl;have s:kh cR h=kh (.sl .str) h.1+(kh (.sl eE) h.2.1+((4+(kh jQ h.2.2.1.2.1+(kh (.sl kU) h.2.2.1.2.2.1+1)))+(kh (.sl dN) h.2.2.2.1+(kh (.sl jQ) h.2.2.2.2.1+(kh (.sl gV) h.2.2.2.2.2.1+(kh (.sl .bool) h.2.2.2.2.2.2.1+(kh zW h.2.2.2.2.2.2.2.1+(kh pH h.2.2.2.2.2.2.2.2.1+(kh (.sl eu) h.2.2.2.2.2.2.2.2.2.1+(1+(kh (.sl .str) h.2.2.2.2.2.2.2.2.2.2.2.1+(kh (.sl (.int .i64)) h.2.2.2.2.2.2.2.2.2.2.2.2.1+(kh (.sl (.int .i64)) h.2.2.2.2.2.2.2.2.2.2.2.2.2.1+5))))))))))))):=by kernel_rfl
 have e1:kh (.sl .str) h.1<=n*1:=aF (nJ z.1) (fX (by kernel_rfl));have e2:kh (.sl eE) h.2.1<=n*4:=aF (nJ z.2.1) (fX (by kernel_rfl));have e3:=aF (Zx z.2.2.1.2.2.1.2) hw;have e4:kh (.sl dN) h.2.2.2.1<=n*30:=aF (nJ z.2.2.2.1) (fX (by kernel_rfl));have e5:=aF (Zx z.2.2.2.2.1.2) hp;have e6:kh (.sl gV) h.2.2.2.2.2.1<=n*6:=aF (nJ z.2.2.2.2.2.1) (fX (by kernel_rfl));have e7:kh (.sl .bool) h.2.2.2.2.2.2.1<=n*1:=aF (nJ z.2.2.2.2.2.2.1) (fX (by kernel_rfl));have e8:kh zW h.2.2.2.2.2.2.2.1<=1+(1+n*1):=aF (nJ z.2.2.2.2.2.2.2.1) (fX (by kernel_rfl));have e9:kh pH h.2.2.2.2.2.2.2.2.1<=Xx n pH:=nJ z.2.2.2.2.2.2.2.2.1;have e10:kh (.sl eu) h.2.2.2.2.2.2.2.2.2.1<=n*8:=aF (nJ z.2.2.2.2.2.2.2.2.2.1) (fX (by kernel_rfl));have e11:kh (.sl .str) h.2.2.2.2.2.2.2.2.2.2.2.1<=n*1:=aF (nJ z.2.2.2.2.2.2.2.2.2.2.2.1) (fX (by kernel_rfl));have e12:kh (.sl (.int .i64)) h.2.2.2.2.2.2.2.2.2.2.2.2.1<=n*1:=aF (nJ z.2.2.2.2.2.2.2.2.2.2.2.2.1) (fX (by kernel_rfl));have e13:kh (.sl (.int .i64)) h.2.2.2.2.2.2.2.2.2.2.2.2.2.1<=n*1:=aF (nJ z.2.2.2.2.2.2.2.2.2.2.2.2.2.1) (fX (by kernel_rfl));have e14:kh jQ h.2.2.1.2.1<=1+(1+(1+n*1)):=aF (nJ z.2.2.1.2.1) (fX (by kernel_rfl));have q1:Xx n kU=1+(1+n*1):=by kernel_rfl
 have q2:Xx n jQ=1+(1+(1+n*1)):=by kernel_rfl
 have q3:Xx n pH=n*9+(n*7+(1+n*1)):=by kernel_rfl
 rw[s];omega
def anV (a:Act):au Bool:=
 aa (aa (some (dp a.1 0 6)) λr1=>cond (!r1) (some true) (some (decide ((a.2.2.2.2.1.length:Int)>600)))) λq2=>
 cond q2 (some false) (
 aa (cond (a.1 !=0) (cond (!((a.2.1.1==0)&&((a.2.1.2.1==0)&&((a.2.1.2.2.1==0)&&((a.2.1.2.2.2.1==0)&&((a.2.1.2.2.2.2.1==0)&&((a.2.1.2.2.2.2.2.1==0)&&((a.2.1.2.2.2.2.2.2.1==0)&&((a.2.1.2.2.2.2.2.2.2.1==0)&&((a.2.1.2.2.2.2.2.2.2.2.1==0)&&((a.2.1.2.2.2.2.2.2.2.2.2.1==0)&&((a.2.1.2.2.2.2.2.2.2.2.2.2.1==0)&&((a.2.1.2.2.2.2.2.2.2.2.2.2.2.1==0)&&((a.2.1.2.2.2.2.2.2.2.2.2.2.2.2.1==0)&&((a.2.1.2.2.2.2.2.2.2.2.2.2.2.2.2.1==0)&&((a.2.1.2.2.2.2.2.2.2.2.2.2.2.2.2.2.1==0)&&((a.2.1.2.2.2.2.2.2.2.2.2.2.2.2.2.2.2==([]:Bytes))&&true))))))))))))))))) (some true) (cond (a.2.2.1 !=0) (some true) (some (a.2.2.2.1 !=0)))) (some false)) λq3=>
 cond q3 (some false) (
 aa (cond (a.1==2) (cond (a.1==5) (some true) (some (a.2.2.2.2.2==0))) (cond (a.2.2.2.2.1==([]:Bytes)) (cond (a.1==5) (some true) (some (a.2.2.2.2.2==0))) (some false))) λq4=>some q4))
theorem aid (a:Act):∃b,anV a=some b:=by simp_all[anV,cg]
def Q7 (a:Act):Bool:=(anV a).getD false
theorem agY (a:Act):anV a=some (Q7 a):=by obtain⟨b,hb⟩:=aid a;simp[Q7,hb]
theorem ahS (a:Act):CN a=some (Q7 a):=by rw[<-agY];unfold CN;rw[cj];rfl
theorem aho (a:Act):GF a=some (Q7 a):=by rw[<-agY];unfold GF;rw[cq];rfl
theorem DX.tx {n:Nat}(k:DX n h)(hn:n<=10^9):aet h.2.2.1:=
 have z:bu 1000000000 cR h:=k.z.mono hn
 ⟨z.2.2.1.2.1.2.2.2.1,z.2.2.1.2.2.1.1,λx hx=>(z.2.2.1.2.2.1.2 x hx).2.2.1⟩
def Li (h:Host)(p:aP)(c z:Int):Host×Bool:=
 bif fw h then(((Iu h.2.1 h.1 0 h.2.2.1 p c z).1,h.2.1,(Iu h.2.1 h.1 0 h.2.2.1 p c z).2.1,h.2.2.2),(Iu h.2.1 h.1 0 h.2.2.1 p c z).2.2) else(h,false)
theorem ai5 (h:Host)(p:aP)(c z:Int)(k:DX 900000000 h):Db h p c z=some (Li h p c z):=by have zz:bu 1000000000 cR h:=k.z.mono;unfold Db Li;rw[ki h zz,ab,Ai h (k.sz),ab];cases fw h;rfl;simp only[ai,ae,af,ai6 _ _ _ _ _ _ _ zz.2.1.1 zz.1.1 (k.tx (by omega)) zz.2.2.1.2.2.1.1 (aF k.t (by omega)),ab]
theorem akc (h:Host)(p:aP)(c z:Int)(k:DX 900000000 h):DF h p c z=some (Li h p c z):=by have zz:bu 1000000000 cR h:=k.z.mono;unfold DF Li;rw[kt h zz,ab,vp h (k.sz),ab];cases fw h;rfl;simp only[ai,ae,af,akd _ _ _ _ _ _ _ zz.2.1.1 zz.1.1 (k.tx (by omega)) zz.2.2.1.2.2.1.1 (aF k.t (by omega)),ab]
theorem XR {n:Nat}(hn:128<=n)(l:ar aC)(d:Int)(p:cH)(z:Nat):∀(q:cI)(s:Bytes)(m:bp)(a:ar fG){x},bu n (.sl .str) m->E0 l d p z q s m a=some x->bu n (.sl .str) x.2
 |[],s,m,a,x,hm,h=>by cases h;exact hm
 |b::q,s,m,a,x,hm,h=>by rw[E0]at h;cases hq:(oN l m d (nk p b) (s.take z) false).2 with|false=>grind|true=>rw[hq]at h;exact XR hn l d p z q _ _ _ (Mp hn hm ..) h
theorem SQ {n:Nat}(hn:128<=n)(l:ar aC)(d:Int):∀(q:bp)(m:bp)(r:kf){x},bu n (.sl .str) m->FB l d q m r=some x->bu n (.sl .str) x.1
 |[],m,r,x,hm,h=>by cases h;exact hm
 |s::q,m,r,x,hm,h=>by rw[FB]at h;cases hq:(dU l m d r s).2.2 with|false=>grind|true=>rw[hq]at h;exact SQ hn l d q _ _ (Qo hn hm ..) h
theorem ac9 {n:Nat}(hn:128<=n){q:bp}{r:kf}(hm:bu n (.sl .str) m):bu n (.sl .str) (BD l m d r q).1:=by unfold BD;cases hx:FB l d q m r with|none=>exact hm|some x=>exact SQ hn l d q m r hm hx
theorem akz (p:cH)(n:Int):(ml p n).1.2.2.2.length+(ml p n).2.1.length=p.2.2.2.length:=by grind[ml]
theorem ail (a:ar ia)(x:ia):(cE (a++[x])).length=(cE a).length+x.2.2.length:=by simp[cE]
theorem adp:∀l:ar ia,(∀x∈l,1<=x.2.1)->(l.length:Int)<=eI l
 |[],_=>by simp[eI]
 |y::l,h=>by have h1:=adp l (λx hx=>h x (dJ _ hx));grind[eI]
structure apk (n:Nat) (m:List Bytes) (t:bX) (r:List Bytes×bX×Bool):Prop where
 mem:bu n (.sl .str) r.1
 tx:bu (n+1) ux r.2.1
 sum:r.2.1.2.1.2.2.2.length+(cE r.2.1.2.2.1).length<=n
 w:r.2.1.2.2.1.length<=16\/r.2.1.2.2.1=t.2.2.1
theorem YL {n:Nat}(hn:128<=n){c z:Int}(d:Int)(hm:bu n (.sl .str) m)(ht:bu n ux t)(hs:t.2.1.2.2.2.length+(cE t.2.2.1).length<=n):apk n m t (Iu l m d t p c z):=by
 have old:apk n m t (m,t,false):=⟨hm,ht.mono,hs,Or.inr rfl⟩
 unfold Iu;cases hg:Tb t&&(dK p&&(dp z 1 t.2.1.2.1&&dp c 1 128));exact old;simp only[ah]at hg;simp only[af];generalize uz p z.toNat=k;cases hk:abL t k;exact old;simp only[af];rcases hx:E0 l d t.2.1 z.toNat (ml t.2.1 (k:Int)).2.1 (jK p).1 m []with _|x;exact old;simp only;unfold ahP;have hpm:=ac9 (n:=n) hn (l:=l) (d:=d) (q:=(qX x.1 c t.2.2.2).map E9) (r:=t.1) (XR hn l d t.2.1 z.toNat _ _ _ _ hm hx);generalize BD l x.2 d t.1 ((qX x.1 c t.2.2.2).map E9)=w at hpm⊢;cases w.2.2;exact old;have hl:=akz t.2.1 (k:Int);have hb:=ail t.2.2.1 (t.2.2.2,(k:Int)+1,(ml t.2.1 (k:Int)).2.1);have hb:(cE (t.2.2.1++[(t.2.2.2,(k:Int)+1,(ml t.2.1 (k:Int)).2.1)])).length=(cE t.2.2.1).length+(ml t.2.1 (k:Int)).2.1.length:=hb;refine⟨hpm,⟨⟨bM,bM,bM,bM⟩,⟨bM,bM,bM,?_,λ_ _=>trivial⟩,?_,bM⟩,?_,Or.inl ?_⟩;show(ml t.2.1 (k:Int)).1.2.2.2.length<=n+1;omega;exact I0 (t:=kU) (k:=1) ht.2.2.1 (λy hy=>by rw[dA.1 hy];exact⟨bM,bM,by show(ml t.2.1 (k:Int)).2.1.length<=n;omega,λ_ _=>trivial⟩) (by simp);show(ml t.2.1 (k:Int)).1.2.2.2.length+(cE (t.2.2.1++[(t.2.2.2,(k:Int)+1,(ml t.2.1 (k:Int)).2.1)])).length<=n;omega;show(t.2.2.1++[_]).length<=16;have hq:=hg.1;simp only[Tb,ah]at hq;have hrg:=tW hq.1;have hc:=adp t.2.2.1 (λx hx=>by have:=aO.1 hq.2.2.2.1 x hx;simp only[jO,ah,bq]at this;omega);unfold abL at hk;simp only[ah,aU,dD]at hk;rw[ay,aY];omega
theorem anc {n:Nat}(hn:1000<=n)(p:aP)(c z:Int)(k:DX n h):DX (n+1) (Li h p c z).1:=by unfold Li;cases fw h;exact k.mono;have zz:=k.z;have s:=YL (by omega) (l:=h.2.1) (p:=p) (c:=c) (z:=z) 0 zz.1 zz.2.2.1 k.t;have z1:bu (n+1) cR h:=zz.mono;exact⟨⟨s.mem.mono,z1.2.1,s.tx,z1.2.2.2⟩,aF s.sum (by omega)⟩
theorem als {n:Nat}(hn:1000<=n)(p:aP)(c z:Int)(k:DX n h)(f:Pg h):Pg (Li h p c z).1:=by unfold Li;cases fw h;exact f;have s:=YL (by omega) (l:=h.2.1) (p:=p) (c:=c) (z:=z) 0 k.z.1 k.z.2.2.1 k.t;refine⟨f.pl,?_⟩;rcases s.w with w|w;exact w;show(Iu h.2.1 h.1 0 h.2.2.1 p c z).2.1.2.2.1.length<=16;rw[w];exact f.w
theorem abE {n:Nat}(hn:1000<=n)(x:Bytes)(k:DX n h)(f:Pg h):Pg (qy h x):=by have:=Mq hn x k;exact⟨by rw[this.2.2];exact f.pl,by rw[this.2.1];exact f.w⟩
theorem SR (h:Host):∀k,(fB h k).2.2.1=h.2.2.1
 |0=>rfl
 |k+1=>by show(He k (fB h k)).2.2.1=_;rw[<-SR h k];grind[He]
theorem RX {n:Nat}(hn:1000<=n)(k:DX n h)(f:Pg h):DX (n+645000) (BH h)/\Pg (BH h):=by
 unfold BH;cases hb:fw h;exact⟨k.mono,f⟩;have hl:=pq (OM hb);have e:=LG hn k.z hl.1;have hw:=f.w;have hp:=Hc (n:=n) (by omega) k.z h.2.2.2.1.length;have ht:=(zM (n:=n+322000*h.2.2.2.1.length) (h:=h) hp.2 h.2.2.1.2.2.1.length).1.e;have h4:=BA 256 128 8;simp only[af];have hx:=SR (vH h) h.2.2.2.1.length;have hk:=(xW (vH h) h.2.2.2.1.length).pl;have Hr:(vH h).2.2.2.2.1.length=h.2.2.2.2.1.length:=by show(returned h h.2.2.1.2.2.1.length).2.2.2.2.1.length=_;rw[ht];exact hp.1.pl
 refine⟨⟨(FC (by omega) e _).mono,?_⟩,?_,?_⟩;rw[hx];show(mM 256 128 8).1.2.2.2.length+0<=_;omega;rw[hk,Hr];exact f.pl;rw[hx];show 0<=16;omega
def alu (f:gH):ar Stream->Int->Int
 |[],_=> -1
 |s::r,i=>if s.1=f then i else alu f r (i+1)
def akT (a b:ar Stream)(f:gH):Bool:=
 match idx a (alu f a 0),idx b (alu f b 0)with
 |some x,some y=>decide (x=y)
 |_,_=>false
def az6 (b:Bool):Int:=bif b then 1 else 0
def Tg (h:Host)(a:Act):Host×Int:=
 bif !fw h|| !Q7 a then(h, -1) else
 bif a.1==0 then((Li h a.2.1 a.2.2.1 a.2.2.2.1).1,az6 (Li h a.2.1 a.2.2.1 a.2.2.2.1).2) else
 bif a.1==1 then(gU h,0) else
 bif a.1==2 then(qy h a.2.2.2.2.1,0) else
 bif a.1==3 then(JF h,0) else
 bif a.1==4 then(Eu h,0) else
 bif a.1==5 then BI h a.2.2.2.2.2 else(BH h,0)
theorem aiV (h:Host)(a:Act)(k:DX 90000000 h)(hx:a.2.2.2.2.1.length<=10^9):JO h a=some (Tg h a):=by
 have z:bu 1000000000 cR h:=k.z.mono;unfold JO Tg;rw[Ai h (k.sz),ab,aho,ab];cases fw h;simp only[bz,af,jy,ab,ki h z];cases Q7 a;simp only[ai,bz,af,ae,jx,ab,ki h z];simp only[ai,ae,bR,ab,ai5 h _ _ _ (k.mono),P8 h (k.mono),P3 h _ (k.mono) hx,afk h (k.mono),acB h (k.sz) z,acx h _ (k.mono),NZ h (k.sz) (k.z.mono)];cases a.1==0;case true=>(simp only[af];cases (Li h a.2.1 a.2.2.1 a.2.2.2.1).2<;>rfl)
 cases a.1==1;all_goals grind
theorem aj5 (h:Host)(a:Act)(k:DX 90000000 h)(hx:a.2.2.2.2.1.length<=10^9):Kw h a=some (Tg h a):=by
 have z:bu 1000000000 cR h:=k.z.mono;unfold Kw Tg;rw[vp h (k.sz),ab,ahS,ab];cases fw h;simp only[bz,af,jy,ab,kt h z];cases Q7 a;simp only[ai,bz,af,ae,jx,ab,kt h z];simp only[ai,ae,bR,ab,akc h _ _ _ (k.mono),QL h (k.mono),QH h _ (k.mono) hx,agn h (k.mono),adR h (k.sz) z,adO h _ (k.mono),Of h (k.sz) (k.z.mono)];cases a.1==0;case true=>(simp only[af];cases (Li h a.2.1 a.2.2.1 a.2.2.2.1).2<;>rfl)
 cases a.1==1;all_goals grind
theorem anW {n:Nat}(hn:1000<=n)(a:Act)(k:DX n h)(f:fw h=true\/Pg h):DX (n+645000) (Tg h a).1/\(fw h=true\/Pg h->Pg (Tg h a).1\/(Tg h a).1=h):=by
 have f:Pg h:=f.elim alq id;unfold Tg;cases !fw h|| !Q7 a;case true=>exact⟨k.mono,λ_=>Or.inr rfl⟩
 simp only[ae];cases a.1==0;case true=>exact⟨(anc hn _ _ _ k).mono,λ_=>Or.inl (als hn _ _ _ k f)⟩
 cases a.1==1;case true=>exact⟨(FZ (by omega) k).mono,λ_=>Or.inl (Px f)⟩
 cases a.1==2;case true=>exact⟨(Mq hn _ k).1.mono,λ_=>Or.inl (abE hn _ k f)⟩
 cases a.1==3;case true=>exact⟨(aiG hn k).mono,λ_=>Or.inl (aiC f)⟩
 cases a.1==4;case true=>exact⟨(ad6 hn k).mono,λ_=>Or.inl (abF f)⟩
 cases a.1==5 with|true=>exact⟨(ads hn _ k).mono,λ_=>Or.inl (aiD _ f)⟩|false=>grind[RX]
theorem akR {n:Nat}(hn:1000<=n)(a:Act)(k:DX n h)(f:Pg h):DX (n+645000) (Tg h a).1/\Pg (Tg h a).1:=by grind[anW]
theorem alx {n:Int}{l:cI}:(range l.length).all (LP n l)=true↔(∀x∈l,0<=x/\x<=n-1)/\l.Nodup:=by
 rw[aO];constructor;intro h;have k:∀i (hi:i<l.length),(0<=l[i]/\l[i]<=n-1)/\l[i]∉l.take i:=by intro i hi;have:=h i (bU.2 hi);unfold LP at this;rw[dv hi,ah,bq]at this;exact⟨this.1,by simpa using this.2⟩
 refine⟨λx hx=>?_,?_⟩;obtain⟨i,hi,rfl⟩:=List.getElem_of_mem hx;exact(k i hi).1;rw[List.Nodup,List.pairwise_iff_getElem];intro i j hi hj hij he;refine(k j hj).2 ?_;rw[<-he];exact List.mem_take_iff_getElem.2 ⟨i,by omega,rfl⟩;rintro⟨h1,h2⟩ i hi;have hi:=bU.1 hi;unfold LP;rw[dv hi,ah,bq];refine⟨h1 _ (aE hi),?_⟩;have:l[i]∉l.take i:=by intro hm;obtain⟨j,hj,he⟩:=List.mem_take_iff_getElem.1 hm;rw[List.Nodup,List.pairwise_iff_getElem]at h2;exact h2 j i (by omega) hi (by omega) he
 simpa using this
theorem amW {p:cH}:fZ p=true↔(0<=p.1/\p.1<=130944)/\(1<=p.2.1/\p.2.1<=512)/\(0<=p.2.2.1/\p.2.2.1<=16)/\(∀x∈p.2.2.2,0<=x/\x<=p.2.2.1-1)/\p.2.2.2.Nodup:=by grind[fZ,bq,alx]
theorem amX {p:cH}(h:fZ p=true){l:cI}(hl:l.Sublist p.2.2.2):fZ (p.1,p.2.1,p.2.2.1,l)=true:=by grind[amW]
theorem adq {n:Int}{s:ia}:jO n s=true↔(1<=s.2.1/\s.2.1<=n)/\0<=s.1/\s.1<=65535:=by grind[jO,bq]
structure anU (t:bX):Prop where
 ring:fS t.1=true
 next:0<=t.2.2.2/\t.2.2.2<=65535
 sent:∀x∈t.2.2.1,(1<=x.2.1/\x.2.1<=t.1.2.1)/\0<=x.1/\x.1<=65535
 pool:fZ (TS t.2.1 (cE t.2.2.1))=true
 kh:eI t.2.2.1<=t.1.2.1
theorem anU.free (h:anU t):fZ t.2.1=true:=amX h.pool (List.sublist_append_left _ _)
theorem aqG:Tb t=true↔anU t:=by constructor;intro h;unfold Tb at h;simp only[ah,bq,aO,adq,bI]at h;obtain⟨h1,h2,h3,h4,h5,h6⟩:=h;unfold PC at h5;simp only[ah]at h5;exact⟨h1,h3,h4,h5.2,h6⟩;·intro h;unfold Tb PC;simp only[ah,bq,aO,adq,bI];exact⟨h.ring,h.free,h.next,h.sent,⟨h.free,h.pool⟩,h.kh⟩
theorem ac3 (p:aP):fW p=true↔LV p=true/\p.2.2.2.2.2.2.2.2.2.2.2.2.2.2.2.length<=128:=by grind[fW,dK]
structure aer (n:Int) (r:bk):Prop where
 ring:fS r.1=true
 dev:iC r.2.1=true
 drv:iC r.2.2.1=true
 base:r.2.1.1=r.2.2.1.1
 size:r.2.1.2.1=r.2.2.1.2.1
 drop:0<=r.2.2.2.2.2/\r.2.2.2.2.2<=n
 held:r.2.2.2.2.1=true->dK r.2.2.2.1.1=true/\(0<=r.2.2.2.1.2.1/\r.2.2.2.1.2.1<=320)/\1<=r.2.2.2.1.2.2/\r.2.2.2.1.2.2<=320
 free:r.2.2.2.2.1=false->r.2.2.2.1=akv
theorem am8 (r:bk):Qr r=true↔aer 1000000000000 r:=by constructor;intro h;unfold Qr at h;simp only[ah,bn,bq]at h;obtain⟨⟨h1,h2,h3,h4,h5,h6⟩,h7⟩:=h;refine⟨h1,h2,h3,h4,h5,h6,λhh=>?_,λhh=>?_⟩;rw[hh,af]at h7;simp only[ah,bq]at h7;exact⟨h7.1,h7.2.1,h7.2.2⟩;rw[hh,ae]at h7;exact(anv _).1 h7;intro h;unfold Qr;simp only[ah,bn,bq];refine⟨⟨h.ring,h.dev,h.drv,h.base,h.size,h.drop⟩,?_⟩;cases hh:r.2.2.2.2.1 with|true=>have:=h.held hh;simp only[af,ah,bq];exact⟨this.1,this.2.1,this.2.2⟩|false=>exact(anv _).2 (h.free hh)
theorem aer.mono {n m:Int}(h:aer n r)(hn:n<=m:=by omega):aer m r:=⟨h.ring,h.dev,h.drv,h.base,h.size,⟨h.drop.1,by have:=h.drop.2;omega⟩,h.held,h.free⟩
theorem aer.rx {n:Int}(h:aer n r)(hn:n<=1000000000000):Qr r=true:=(am8 r).2 (h.mono hn)
structure Good (n:Int) (h:Host):Prop where
 mem:im h.1=true
 maps:fN h.2.1=true
 tx:anU h.2.2.1
 flt:ie h.2.2.2.2.2.2.2.1=true
 lens:zH h=true
 ste:jb h.2.2.2.2.2.2.2.2.1 (h.2.2.2.1.length:Int)=true
 rx:∀r∈h.2.2.2.1,aer n r
 pool:∀p∈h.2.2.2.2.1,fZ p=true
 vec:∀v∈h.2.2.2.2.2.1,um v=true
 kh:∀x∈kE h,0<=x/\x<=n
theorem Good.mono {n m:Int}(g:Good n h)(hn:n<=m:=by omega):Good m h:=⟨g.mem,g.maps,g.tx,g.flt,g.lens,g.ste,λr hr=>(g.rx r hr).mono hn,g.pool,g.vec,λx hx=>⟨(g.kh x hx).1,by have:=(g.kh x hx).2;omega⟩⟩
theorem alS (h:Host):fw h=true↔Good 1000000000000 h:=by unfold fw YF;simp only[ah,aO,bq,aqG,am8];constructor;rintro⟨h1,h2,h3,h4,h5,h6,⟨h7,h8,h9⟩,h10⟩;exact⟨h1,h2,h3,h4,h5,h6,h7,h8,h9,h10⟩;intro g;exact⟨g.mem,g.maps,g.tx,g.flt,g.lens,g.ste,⟨g.rx,g.pool,g.vec⟩,g.kh⟩
theorem Good.ok {n:Int}(g:Good n h)(hn:n<=1000000000000):fw h=true:=(alS h).2 (g.mono hn)
structure Uc (n:Int) (c:cJ):Prop where
 apA:(gO c.2.2.1).2=true
 len:c.1.length=c.2.2.1.length/\c.2.1.length=c.2.2.1.length
 fns:jV c.2.1 (gO c.2.2.1).1=true
 aqX:¬pN c.2.2.2.1<0
 clock:Gk c.2.2.2.2.1=true
 host:∀(i:Nat)(h:Host)(b:bA),c.1[i]?=some h->c.2.2.1[i]?=some b->Good n h/\h.2.2.2.2.2.2.2.1=b.1
 place:∀i,i<c.1.length->Mn c.2.1 i=true
 aqY:∀b∈c.2.2.1,b.2.1<=n/\b.2.2.2<=n
 fnn:∀f∈c.2.1,f.2.2.2.2.1<=n/\f.2.2.2.2.2<=n
theorem Uc.mono {n m:Int}(g:Uc n c)(h:n<=m:=by omega):Uc m c:=⟨g.apA,g.len,g.fns,g.aqX,g.clock,λi a b h1 h2=>⟨(g.host i a b h1 h2).1.mono h,(g.host i a b h1 h2).2⟩,g.place,λb hb=>⟨by have:=(g.aqY b hb).1;omega,by have:=(g.aqY b hb).2;omega⟩,λf hf=>⟨by have:=(g.fnn f hf).1;omega,by have:=(g.fnn f hf).2;omega⟩⟩
theorem Uc.ok {n:Int}(g:Uc n c)(hn:n<=1000000000000):ix c=true:=by
 unfold ix;rw[g.apA,g.fns,g.clock,aq g.aqX];simp only[bz,bj];rw[ah,ah,aO,aO];refine⟨?_,?_,?_⟩;unfold N2;rw[g.len.1,g.len.2];simp;intro i hi;have hi:=bU.1 hi;have hj:i<c.2.2.1.length:=by have:=g.len.1;omega
 rw[Jt i hi hj];have q:=g.host i _ _ (al hi) (al hj);rw[q.1.ok hn,abw q.2];rfl;intro i hi;exact g.place i (bU.1 hi)
theorem map_take {β:Type}(f:α->β)(l:ar α)(i:Nat)(hi:i<l.length):(l.take i).map f++[f l[i]]=(l.take (i+1)).map f:=by grind[aR]
theorem EI (m:bA)(h:m.1.2.2.length<=10^9):mr m=some m:=by grind[mr,pO,ab]
theorem yz (m:bA)(h:m.1.2.2.length<=10^9):rZ m=some m:=by grind[rZ,qz,ab]
theorem NW (l:ar bA)(h:l.length<=10^9)(hx:∀m∈l,m.1.2.2.length<=10^9):uM l=some l:=by unfold uM;refine(bB (λi=>(l.take i,(i:Int))) l.length (by omega) (λi nx hi=>?_) (λnx=>?_));simp only[tN];rw[gN,aN hi,aj (by omega) (by omega)];simp only[af,ab,EI _ (hx _ (aE hi))];rw[aQ (by simp;omega),<-aR hi];rfl;simp only[tN];rw[fF,bN];rfl
theorem Ah (l:ar az)(h:l.length<=10^9):jW l=some l:=by grind[jW,eZ]
theorem Us (h:ix c=true):c.1.length=c.2.2.1.length/\c.2.1.length=c.2.2.1.length:=by grind[ix,F7]
theorem M6 {l:ar α}(h:k<l.length)(x:α):idx (l.set k x) (k:Int)=some x:=by rw[M5,List.getElem?_set_self h]
theorem aoT (l:ar α)(k:Nat)(x:α):(l.set k x).length=l.length:=aL ..
def Gj (f:Filter)(v:Int):Filter×Bool:=bif ie f&&(!hasB f.2.2 v&&ie (f.1,f.2.1,ins v f.2.2)) then((f.1,f.2.1,ins v f.2.2),true) else(f,false)
theorem acf (f:Filter)(v:Int)(h:f.2.2.length<=100000000):Fj f v=some (Gj f v):=by have hi:=TP v f.2.2;simp only[Fj,pO f (by omega),uI f (by omega),HG f.2.2 v (by omega),ahp f.2.2 v (by omega),uI (f.1,f.2.1,ins v f.2.2) (show(ins v f.2.2).length<=10^9 by omega),ab,Gj];cases ie f<;>cases hasB f.2.2 v<;>cases ie (f.1,f.2.1,ins v f.2.2)<;>rfl
theorem apK {l:cI}(h:(range l.length).all (On l)=true):∀(k j:Nat),j<k->k<l.length->l.getD j 0<l.getD k 0:=by
 rw[aO]at h;intro k;induction k with
 |zero=>intro j hj;omega
 |succ k ih=>
  intro j hj hk;have h1:=h (k+1) (bU.2 hk);simp only[On,ah,aU,Bool.and_eq_false_iff,dD]at h1;have h2:¬l.getD (k+1) 0<=l.getD (k+1-1) 0:=by rcases h1.2 with h2|h2;omega;exact h2
  rw[Nat.add_sub_cancel]at h2;rcases bS j k with h3|h3;have:=ih j h3 (by omega);omega;have:j=k:=by omega
  subst this;omega
theorem an8 (f:Filter)(v:Int)(hf:ie f=true)(hv:hasB f.2.2 v=true)(q:Bool):ie (f.1,q,f.2.2.take (f.2.2.findIdx (λx=> !decide (x<v)))++[v]++f.2.2.drop (f.2.2.findIdx (λx=> !decide (x<v))))=false:=by
 have azr:=apK (by simp only[ie,ah]at hf;exact hf.1);generalize f.2.2=l at*;obtain⟨k,hk,hkv⟩:=List.mem_iff_getElem.1 (PE.1 hv);have hex:∃x∈l,(λx=> !decide (x<v)) x=true:=⟨l[k],aE hk,by simp[hkv]⟩
 have hj:=List.findIdx_lt_length_of_exists hex;have azJ:l.findIdx (λx=> !decide (x<v))<=k:=by rcases bS k (l.findIdx (λx=> !decide (x<v)))with h|h;have:=List.not_of_lt_findIdx h;simp[hkv]at this;exact h
 generalize l.findIdx (λx=> !decide (x<v))=j at*;have hle:l[j]<=v:=by
  rcases bS j k with h|h;have:=azr k j h hk;rw[dv hk,dv hj,hkv]at this;omega;have:j=k:=by omega
  subst this;omega
 rw[Bool.eq_false_iff];intro hb;simp only[ie,ah,aO]at hb;have hlen:(l.take j++[v]++l.drop j).length=l.length+1:=by simp;omega
 have h1:=hb.1 (j+1) (bU.2 (by omega));have hl1:(l.take j++[v]).length=j+1:=by simp;omega
 have e1:(l.take j++[v]++l.drop j).getD (j+1) 0=l[j]:=by rw[List.getD_eq_getElem?_getD,bw (by omega),hl1,hG,bQ,dW,al hj];rfl
 have e2:(l.take j++[v]++l.drop j).getD j 0=v:=by
  have ht:(l.take j).length=j:=by simp;omega
  rw[List.getD_eq_getElem?_getD,bF (by omega),bw (by omega),ht,hG];rfl
 simp only[On,ah,aU,Bool.and_eq_false_iff,dD,Nat.add_sub_cancel,e1,e2]at h1;rcases h1.2 with h2|h2;omega;exact h2 hle
theorem ady (f:Filter)(v:Int)(h:f.2.2.length<=100000000):FG f v=some (Gj f v):=by
 unfold FG;rw[qz f (by omega),ab]
 let K:=λy4=>aa (sub f.2.2 0 y4) λx5=>
     room (List.length ([]:cI)+List.length x5) (
     room (List.length (([])++x5)+List.length ([v])) (
     aa (sub f.2.2 y4 ((List.length f.2.2))) λx6=>
     room (List.length ((([])++x5)++([v]))+List.length x6) (
     aa (
      aa (gx f) λr7=>
      cond (!r7) (
       some true) (
       aa (gx (f.1,f.2.1,((([])++x5)++([v]))++x6)) λr8=>
       some (!r8))) λq9=>
     cond q9 (
      aa (some f) λsV=>
      some (sV,false)) (
      some ((f.1,f.2.1,((([])++x5)++([v]))++x6),true)))))
 show aH (sA K v f (0,false,([])) f) fuel 0=_;rw[F4 (hit:=K) (fin:=K (f.2.2.length)) (λx=> !decide (x<v)) f.2.2 (by omega) (λi hi nx=>?hs) (λnx=>?hf)]
 case hs=>
  grind[sA,aN,aj,ab]
 case hf=>
  simp_all[sA]
 refine Eq.trans (abJ (λx=> !decide (x<v)) K f.2.2) ?_;have e:=afB v f.2.2;have d:=an8 f v;grind[TP,Wi,Jh,ab,aQ,za,Gj,ie,PE]
def Cq (f:Filter)(v:Int):Filter×Bool:=bif ie f&&hasB f.2.2 v then((f.1,f.2.1,f.2.2.filter (λx=>x !=v)),true) else(f,false)
theorem So (p:Int->Bool)(l:cI)(i:Nat)(hi:i<l.length):(l.take (i+1)).filter p=bif p l[i] then(l.take i).filter p++[l[i]] else(l.take i).filter p:=by grind[aR]
theorem KV (p:Int->Bool)(l:cI)(i:Nat):((l.take i).filter p).length<=l.length:=aF (List.length_filter_le _ _) (by simp;omega)
theorem Z4 (f:Filter)(v:Int)(h:f.2.2.length<=10^9):C5 f v=some (Cq f v):=by simp only[C5,pO f h,uI f h,HG f.2.2 v h,ab,Cq];cases ie f;rfl;cases hasB f.2.2 v;rfl;refine(bB (λi=>((i:Int),f.1,f.2.1,(f.2.2.take i).filter (λx=>x !=v))) f.2.2.length (by omega) (λi nx hi=>?_) (λnx=>?_));have hl:=KV (λx=>x !=v) f.2.2 i;simp only[vJ];rw[gN,aN hi,aj (by omega) (by omega),So _ _ i hi];simp only[af,ab];rw[aQ (by simp only[aY];omega)];cases f.2.2[i] !=v<;>rfl;simp only[vJ];rw[fF,bN];rfl
theorem aaI (f:Filter)(v:Int)(h:f.2.2.length<=10^9):Dy f v=some (Cq f v):=by simp only[Dy,qz f h,za f h,Kt f.2.2 v h,ab,Cq];cases ie f;rfl;cases hasB f.2.2 v;rfl;refine(bB (λi=>((i:Int),f.1,f.2.1,(f.2.2.take i).filter (λx=>x !=v))) f.2.2.length (by omega) (λi nx hi=>?_) (λnx=>?_));have hl:=KV (λx=>x !=v) f.2.2 i;simp only[wF];rw[gN,aN hi,aj (by omega) (by omega),So _ _ i hi];simp only[af,ab];rw[aQ (by simp only[aY];omega)];cases f.2.2[i] !=v<;>rfl;simp only[wF];rw[fF,bN];rfl
def Aa (f:Filter)(m:Cl):Filter×Int:=
 bif m.2.1==1 then(bif ie (m.2.2,f.2) then((m.2.2,f.2),1) else(f,0))
 else bif m.2.1==2 then(bif (Gj f m.2.2).2 then((Gj f m.2.2).1,1) else(f,0))
 else bif m.2.1==3 then(bif (Cq f m.2.2).2 then((Cq f m.2.2).1,1) else(f,0))
 else bif m.2.1==4 then(f,f.1) else(f,0)
theorem acj (f:Filter)(m:Cl)(h:f.2.2.length<=100000000):Fq f m=some (Aa f m):=by grind[Fq,pO,uI,acf,Z4,ab,Aa]
theorem adB (f:Filter)(m:Cl)(h:f.2.2.length<=100000000):yO f m=some (Aa f m):=by grind[yO,qz,za,ady,aaI,ab,Aa]
theorem Zz (f:Filter)(m:Cl){n:Nat}(h:f.2.2.length<=n)(hn:8<=n):(Aa f m).1.2.2.length<=n:=by grind[Cq,ie,Aa,Gj]
def tu (b:bA)(m:Cl):bA×Int:=
 bif xf b then(bif m.1==b.2.1 then(b,b.2.2.1) else bif m.1==b.2.1+1 then(((Aa b.1 m).1,m.1,(Aa b.1 m).2,b.2.2.2+1),(Aa b.1 m).2) else(b, -1)) else(b, -1)
theorem acL {b:bA}(h:xf b=true):0<=b.2.1/\b.2.1<=1000000000000/\0<=b.2.2.2/\b.2.2.2<=1000000000000:=by grind[xf,bq]
theorem afn (b:bA)(m:Cl)(h:b.1.2.2.length<=100000000):rl b m=some (tu b m):=by simp only[rl,EI b (by omega),acq b (by omega),acj b.1 m h,ab,tu,bne];cases hm:xf b with|false=>rfl|true=>have vC:=acL hm;grind[aj]
theorem agq (b:bA)(m:Cl)(h:b.1.2.2.length<=100000000)(hm1:m.1<=9223372036854775807):rL b m=some (tu b m):=by
 simp only[rL,yz b (by omega),adK b (by omega),adB b.1 m h,ab,tu,bne];cases hm:xf b with
 |false=>rfl
 |true=>
  have vC:=acL hm;rw[aj (n:=b.2.2.2+1) (by omega) (by omega)];by_cases h1:m.1=b.2.1;rw[bn.2 h1];rfl;have e1:=cy.2 h1;rw[e1];by_cases h2:m.1<=b.2.1;have e2:(m.1==b.2.1+1)=false:=cy.2 (by omega);rw[e2,ax h2];rfl;rw[aq h2,aj (by omega) (by omega)];have e3:(m.1-1==b.2.1)=(m.1==b.2.1+1):=by rw[dQ,bn,bn];omega
  rw[e3];cases m.1==b.2.1+1<;>rfl
def xg (ms:ar bA)(k:Nat)(m:Cl):ar bA×Int:=
 match ms[k]? with
 |none=>(ms, -1)
 |some b=>bif (gO (ms.set k (tu b m).1)).2 then(ms.set k (tu b m).1,(tu b m).2)
  else(ms.set k (b.1,m.1,0,ak (b.2.2.2+1)),0)
theorem LU (b:bA)(m:Cl){n:Nat}(h:b.1.2.2.length<=n)(hn:8<=n):(tu b m).1.1.2.2.length<=n:=by have:=Zz b.1 m h hn;grind[tu]
theorem Ke {l:ar α}{x y:α}(h:y∈l.set k x):y∈l\/y=x:=eP h
theorem Rq (ms:ar bA)(k:Nat)(m:Cl)(hk:k<ms.length)(hl:ms.length<=10^9)(h:∀b∈ms,b.1.2.2.length<=100000000):tM ms (k:Int) m=some (xg ms k m):=by
 have hb:=h _ (aE hk);have hp:∀b∈ms.set k (tu ms[k] m).1,b.1.2.2.length<=10^9:=by grind[LU]
 unfold tM xg;simp only[NW ms hl (λb hb=>by grind),aN hk,afn _ m hb,ab,al hk,aw,HH _ hp,EI ms[k] (by omega)];simp only[M6 hk,ab,dE];grind
theorem R5 (ms:ar bA)(k:Nat)(m:Cl)(hk:k<ms.length)(hl:ms.length<=10^9)(h:∀b∈ms,b.1.2.2.length<=100000000)(hm1:m.1<=9223372036854775807):yQ ms (k:Int) m=some (xg ms k m):=by
 have hb:=h _ (aE hk);have hp:∀b∈ms.set k (tu ms[k] m).1,b.1.2.2.length<=10^9:=by intro b ib;rcases Ke ib with h1|rfl;have:=h b h1;omega;have:=LU ms[k] m hb (by omega);omega
 unfold yQ xg;refine(bB (λi=>(ms.take i,(i:Int))) ms.length (by omega) (λi nx hi=>?_) (λnx=>?_));simp only[sa];rw[gN,aN hi,aj (by omega) (by omega)];have:=h _ (aE hi);simp only[af,ab,yz ms[i] (by omega)];rw[aQ (by simp;omega),<-aR hi];rfl;simp only[sa];rw[fF,bN];simp only[ae,aN hk,agq _ m hb hm1,ab,al hk,aw,H8 _ hp,yz ms[k] (show ms[k].1.2.2.length<=10^9 by omega)];simp only[M6 hk,ab,dE];cases (gO (ms.set k (tu ms[k] m).1)).2<;>rfl
theorem Ia (ms:ar bA)(k:Nat)(m:Cl):(xg ms k m).1.length=ms.length:=by unfold xg;split;rfl;rename_i b _;cases (gO (ms.set k (tu b m).1)).2<;>exact aoT ..
theorem Ow (ms:ar bA)(k:Nat)(m:Cl){n:Nat}(hn:8<=n)(h:∀b∈ms,b.1.2.2.length<=n):∀b∈(xg ms k m).1,b.1.2.2.length<=n:=by
 intro b hb;unfold xg at hb;split at hb;exact h b hb;rename_i b0 U2;have h0:=h b0 (bK U2);cases hp:(gO (ms.set k (tu b0 m).1)).2 with
 |true=>rw[hp]at hb;rcases Ke hb with h1|rfl;exact h b h1;exact LU b0 m h0 hn
 |false=>rw[hp]at hb;rcases Ke hb with h1|rfl;exact h b h1;exact h0
theorem Ag (c:cJ)(z:bu 1000000000 gW c):mf c=some c:=by have h0:=z.1.1;unfold mf;simp only[Ah _ z.2.1.1,NW _ z.2.2.1.1 (λm hm=>(z.2.2.1.2 m hm).1.2.2.1),mJ,nw _ z.2.2.2.1.1,nM _ z.2.2.2.2.2.1.1,nw _ z.2.2.2.2.2.2.1,ab];refine(bB (λi=>((i:Int),c.1.take i,c.2)) c.1.length (by omega) (λi nx hi=>?_) (λnx=>?_));simp only[wh];rw[gN,aN hi,aj (by omega) (by omega)];simp only[af,ab,ki _ (z.1.2 _ (aE hi))];rw[aQ (by simp;omega),<-aR hi];rfl;simp only[wh];rw[fF,bN];rfl
theorem BJ (c:cJ)(z:bu 1000000000 gW c):oG c=some c:=by have h0:=z.1.1;have h1:=z.2.2.1.1;unfold oG;simp only[eZ z.2.1.1,eZ z.2.2.2.1.1,eZ z.2.2.2.2.2.1.1,eZ z.2.2.2.2.2.2.1,bE];refine(bB (λi=>((i:Int),c.1.take i,c.2.1,([]),c.2.2.2)) c.1.length (by omega) (λi nx hi=>?_) (λnx=>?_));simp only[yR];rw[gN,aN hi,aj (by omega) (by omega)];simp only[af,ab,kt _ (z.1.2 _ (aE hi))];rw[aQ (by simp;omega),<-aR hi];rfl;simp only[yR];rw[fF,bN];refine(bB (λi=>((i:Int),c.1,c.2.1,c.2.2.1.take i,c.2.2.2)) c.2.2.1.length (by omega) (λi nx hi=>?_) (λnx=>?_));simp only[yS];rw[gN,aN hi,aj (by omega) (by omega)];simp only[af,ab,yz _ (z.2.2.1.2 _ (aE hi)).1.2.2.1];rw[aQ (by simp;omega),<-aR hi];rfl;simp only[yS];rw[fF,bN];rfl
def Wz (h:Host)(f:Filter):Host:=(h.1,h.2.1,h.2.2.1,h.2.2.2.1,h.2.2.2.2.1,h.2.2.2.2.2.1,h.2.2.2.2.2.2.1,f,h.2.2.2.2.2.2.2.2)
def jk (c:cJ)(a:Int)(m:Cl):cJ×Int:=
 bif ix c&&dp a 0 ((c.2.2.1.length:Int)-1) then
  (match c.1[a.toNat]?,(xg c.2.2.1 a.toNat m).1[a.toNat]? with
  |some h,some b=>((c.1.set a.toNat (Wz h b.1),c.2.1,(xg c.2.2.1 a.toNat m).1,c.2.2.2),(xg c.2.2.1 a.toNat m).2)
  |_,_=>(c, -1))
 else(c, -1)
theorem Tm (c:cJ)(a:Int)(m:Cl)(z:bu 100000000 gW c)(k:Ua c):rj c a m=some (jk c a m):=by
 have z9:bu 1000000000 gW c:=z.mono;have hl:=z.2.2.1.1;unfold rj jk;simp only[Ag c z9,L5 c k,cq,ab,cg];rw[aj (by omega) (by omega)];cases hc:ix c;rfl;cases ha:dp a 0 ((c.2.2.1.length)-1);rfl;have hL:=Us hc;have vC:=bq.1 ha;obtain⟨n,rfl⟩:=aD vC.1;have hn:n<c.2.2.1.length:=by omega
 have Hq:n<c.1.length:=by omega
 have hb:=Rq c.2.2.1 n m hn (by omega) (λb hb=>(z.2.2.1.2 b hb).1.2.2.1);have hbl:=Ia c.2.2.1 n m;have Lv:=Ow c.2.2.1 n m (by omega) (λb hb=>(z.2.2.1.2 b hb).1.2.2.1);have C1:n<(xg c.2.2.1 n m).1.length:=by omega
 have:=Lv _ (aE C1);simp only[ai,ae,cA,af,hb,ab,aN C1,aN Hq,pO (xg c.2.2.1 n m).1[n].1 (by omega),aw,al Hq,al C1];rfl
theorem Tx (c:cJ)(a:Int)(m:Cl)(z:bu 100000000 gW c)(k:Ua c)(hm1:m.1<=9223372036854775807):rJ c a m=some (jk c a m):=by
 have z9:bu 1000000000 gW c:=z.mono;have hl:=z.2.2.1.1;unfold rJ jk;simp only[BJ c z9,Mv c k,ab,cg];have he:(cond (!ix c) true (cond (decide (a<0)) true (decide (a>=(c.2.2.1.length)))))= !(ix c&&dp a 0 ((c.2.2.1.length)-1)):=by
  cases ix c;rfl;simp only[dp,ai,ae,bj];by_cases h1:a<0;rw[ax h1,aq (show¬(0<=a) by omega)];rfl;rw[aq h1,ax (show(0<=a) by omega)];by_cases h2:a>=(c.2.2.1.length)
  rw[ax h2,fF];rfl;rw[aq h2,gN];rfl
 rw[he];cases hc:ix c;rfl;cases ha:dp a 0 ((c.2.2.1.length)-1);rfl;have hL:=Us hc;have vC:=bq.1 ha;obtain⟨n,rfl⟩:=aD vC.1;have hn:n<c.2.2.1.length:=by omega
 have Hq:n<c.1.length:=by omega
 have hb:=R5 c.2.2.1 n m hn (by omega) (λb hb=>(z.2.2.1.2 b hb).1.2.2.1) hm1;have hbl:=Ia c.2.2.1 n m;have Lv:=Ow c.2.2.1 n m (by omega) (λb hb=>(z.2.2.1.2 b hb).1.2.2.1);have C1:n<(xg c.2.2.1 n m).1.length:=by omega
 have:=Lv _ (aE C1);simp only[ai,ae,cA,af,hb,ab,aN C1,aN Hq,qz (xg c.2.2.1 n m).1[n].1 (by omega),aw,al Hq,al C1];rfl
structure tq (ps:List Port):Prop where
 n:ps.length<=10^9
 v:∀p∈ps,p.2.1.length<=10^9
def abW (ps:ar Port)(e:Int)(p:aP):Bool:=lB ps&&(dK p&&dp e 0 ((ps.length:Int)-1))
def aa3 (x:Port)(p:aP):Int:=bif p.2.2.1== -1 then x.2.2.1 else p.2.2.1
def lp (ps:ar Port)(e:Int)(p:aP):Int:=
 bif !abW ps e p then-1 else
 bif !hasB (ps.getD e.toNat oW).2.1 (aa3 (ps.getD e.toNat oW) p)||((e !=0)&&((ps.getD e.toNat oW).2.2.2&&((ps.getD e.toNat oW).1 !=p.2.1))) then-1 else aa3 (ps.getD e.toNat oW) p
theorem agH (h:dK p=true):(decide (p.2.2.1<0))=(p.2.2.1== -1):=by grind[dK,LV,bq]
theorem OQ (ps:ar Port)(e:Int)(p:aP)(z:tq ps):pR ps e p=some (lp ps e p):=by
 have hn:=z.n;unfold pR lp abW;rw[M7 ps hn z.v,ab];cases hp:lB ps;rfl;rw[ny,ab];cases hs:dK p;rfl;rw[aj (n:=(ps.length:Int)-1) (by omega) (by omega),cq];cases he:dp e 0 ((ps.length:Int)-1);rfl;have h1:=bq.1 he;obtain⟨e,rfl⟩:=aD h1.1;have hl:e<ps.length:=by omega
 have hv:=z.v _ (aE hl);simp only[ai,ae,ab,cA,aN hl,aw,dv hl,HG _ _ hv,aa3];cases p.2.2.1== -1<;>simp only[af,ae]<;>cases hasB ps[e].2.1 p.2.2.1<;>cases hasB ps[e].2.1 ps[e].2.2.1<;>cases (e:Int) !=0<;>cases ps[e].2.2.2<;>cases ps[e].1 !=p.2.1<;>rfl
theorem O0 (ps:ar Port)(e:Int)(p:aP)(z:tq ps):qF ps e p=some (lp ps e p):=by
 have hn:=z.n;unfold qF lp abW;rw[Nn ps hn z.v,ab];cases hp:lB ps;rfl;rw[qB,ab];cases hs:dK p;rfl;rw[aj (n:=(ps.length:Int)-1) (by omega) (by omega),cj];cases he:dp e 0 ((ps.length:Int)-1);rfl;have h1:=bq.1 he;obtain⟨e,rfl⟩:=aD h1.1;have hl:e<ps.length:=by omega
 have hv:=z.v _ (aE hl);rw[agH hs];simp only[ai,ae,ab,cA,aN hl,aw,dv hl,Kt _ _ hv,aa3];cases p.2.2.1== -1<;>simp only[af,ae]<;>cases hasB ps[e].2.1 p.2.2.1<;>cases hasB ps[e].2.1 ps[e].2.2.1<;>cases (e:Int) !=0<;>cases ps[e].2.2.2<;>cases ps[e].1 !=p.2.1<;>rfl
def Im (ps:ar Port)(o v:Int)(p:aP):aP:=
 bif lB ps&&(dp o 0 ((ps.length:Int)-1)&&(hasB (ps.getD o.toNat oW).2.1 v&&dK p)) then
  (bif v==(ps.getD o.toNat oW).2.2.1 then(p.1,p.2.1, -1,p.2.2.2) else(p.1,p.2.1,v,p.2.2.2)) else pk0
theorem aj9 (ps:ar Port)(o v:Int)(p:aP)(z:tq ps):wK ps o v p=some (Im ps o v p):=by
 have hn:=z.n;unfold wK Im;rw[Nn ps hn z.v,ab];cases hp:lB ps;rfl;rw[aj (n:=(ps.length:Int)-1) (by omega) (by omega),cj];cases he:dp o 0 ((ps.length:Int)-1);rfl;have h1:=bq.1 he;obtain⟨o,rfl⟩:=aD h1.1;have hl:o<ps.length:=by omega
 have hv:=z.v _ (aE hl);simp only[ai,ae,ab,bj,aN hl,aw,dv hl,Kt _ _ hv,qB];cases hasB ps[o].2.1 v<;>cases dK p<;>cases v==ps[o].2.2.1<;>rfl
theorem ai1 (ps:ar Port)(o v:Int)(p:aP)(z:tq ps):vP ps o v p=some (Im ps o v p):=by
 have hn:=z.n;unfold vP Im;rw[M7 ps hn z.v,ab];cases hp:lB ps;rfl;rw[aj (n:=(ps.length:Int)-1) (by omega) (by omega),cq];cases he:dp o 0 ((ps.length:Int)-1);rfl;have h1:=bq.1 he;obtain⟨o,rfl⟩:=aD h1.1;have hl:o<ps.length:=by omega
 have hv:=z.v _ (aE hl);simp only[ai,ae,ab,bj,aN hl,aw,dv hl,HG _ _ hv,ny];cases hasB ps[o].2.1 v<;>cases dK p<;>cases v==ps[o].2.2.1<;>rfl
def N1 (ps:ar Port)(e v:Int)(j:Nat):Bool:=((j:Int) !=e)&&hasB (ps.getD j oW).2.1 v
def kc (l:ec):cI:=l.map Int.ofNat
def bcB (p:aP):Bool:=p.1==281474976710655
theorem Sn {q:Nat->Bool}(l:ec)(i:Nat)(hi:i<l.length):(l.take (i+1)).filter q=bif q l[i] then(l.take i).filter q++[l[i]] else(l.take i).filter q:=by grind[aR]
theorem UJ {q:Nat->Bool}(l:ec)(i:Nat):((l.take i).filter q).length<=l.length:=aF (List.length_filter_le _ _) (by simp;omega)
theorem Vh (ps:ar Port)(e v:Int)(l:ec)(hl:l.length<=10^9)(hb:∀j∈l,j<ps.length)(z:tq ps): aH (gE (λ(y7:cI) (y8:Int)=>some y7) ps e v (kc l) ((kc l).length:Int)) fuel (([]:cI),0)=some (kc (l.filter (N1 ps e v))):=by
 refine bB (λi=>(kc ((l.take i).filter (N1 ps e v)),(i:Int))) l.length (by omega) (λi nx hi=>?_) (λnx=>?_);have hj:=hb _ (aE hi);have hv:=z.v _ (aE hj);have Sx:i<(kc l).length:=by simpa[kc]using hi
 have e1:(kc l)[i]'Sx=(l[i]:Int):=by simp[kc]
 have hf:=UJ (q:=N1 ps e v) l i;simp only[gE];rw[ax (by simpa[kc]using hi),aN Sx,e1,aj (by omega) (by omega)];simp only[af,ab,aN hj,HG _ _ hv];rw[Sn l i hi,N1,dv hj];have hr:∀k:au cI,room (List.length (kc ((l.take i).filter (N1 ps e v)))+List.length ([(l[i]:Int)])) k=k:=λk=>aQ (by simp only[kc,bW,aY];omega);cases (l[i]:Int) !=e with|false=>rfl|true=>cases hasB ps[l[i]].2.1 v with|false=>rfl|true=>simp only[af,ab,cA];rw[hr];simp[kc]
 simp only[gE];rw[aq (by simp[kc]),bN];rfl
def GA (ps:ar Port)(p:aP):Nat->Nat
 |0=>0
 |i+1=>bif (ps.getD (i+1) oW).1==p.1 then i+1 else GA ps p i
def Cb (ps:ar Port)(e:Int)(p:aP):ec:=
 (range ps.length).filter λj=>N1 ps e (lp ps e p) j&&((j==GA ps p (ps.length-1))||bcB p)
def KB (ps:ar Port)(e:Int)(p:aP):cI:=bif decide (lp ps e p<0) then [] else kc (Cb ps e p)
theorem S0 (ps:ar Port)(e:Int)(p:aP)(z:tq ps):oD ps e p=some (KB ps e p):=by
 have hn:=z.n;unfold oD KB;rw[O0 ps e p z,ab];cases hd:decide (lp ps e p<0);case true=>rfl
 have hp:lB ps=true:=by cases hp:lB ps with|true=>rfl|false=>unfold lp abW at hd;rw[hp]at hd;simp at hd
 have h1:1<=ps.length:=by simp only[lB,ah,bq]at hp;omega
 simp only[ae];refine bB (λi=>((GA ps p i:Int),((i+1:Nat):Int))) (ps.length-1) (by omega) (λi nx hi=>?_) (λnx=>?_);have hj:i+1<ps.length:=by omega
 simp only[oE];rw[gN,aN hj,aj (by omega) (by omega),GA,dv hj];simp only[af,ab];cases ps[i+1].1==p.1<;>rfl
 ·simp only[oE];rw[fF,ae];generalize hv:lp ps e p=v;have hsw:Cb ps e p=(range ps.length).filter λj=>N1 ps e v j&&((j==GA ps p (ps.length-1))||bcB p):=by rw[Cb,hv]
  rw[hsw];generalize hq:(λj=>N1 ps e v j&&((j==GA ps p (ps.length-1))||bcB p))=q;refine bB (λi=>(kc (((range ps.length).take i).filter q),(i:Int))) ps.length (by omega) (λi nx hi=>?_) (λnx=>?_)
  ·have hvv:=z.v _ (aE hi);have Sx:i<(range ps.length).length:=by simpa using hi
   have hf:=UJ (q:=q) (range ps.length) i;simp only[nd];rw[gN,aN hi,aj (by omega) (by omega)];simp only[af,ab,Kt _ _ hvv];rw[Sn (range ps.length) i Sx,List.getElem_range];have eq:q i=(((i:Int) !=e)&&hasB ps[i].2.1 v&&(((i:Int)==(GA ps p (ps.length-1):Int))||(p.1==281474976710655))):=by rw[<-hq];simp only[N1,dv hi,bcB];congr 2;rw[dQ,bn,bn];omega
   have hr:∀k:au cI,room (List.length (kc (((range ps.length).take i).filter q))+List.length ([(i:Int)])) k=k:=λk=>aQ (by simp only[kc,bW,aY];rw[List.length_range]at hf;omega);rw[eq];cases (i:Int) !=e;rfl;cases hasB ps[i].2.1 v;rfl;simp only[af,ab,bj];cases ((i:Int)==(GA ps p (ps.length-1):Int))<;>cases p.1==281474976710655<;>simp only[af,ae,ab,bR,jx,jy]<;>first|rfl|(rw[hr];simp[kc])
  simp only[nd];rw[fF,bL (by simp)];rfl
theorem XU (q:Nat->Bool):∀l:ec,(JE q l= -1/\∀j∈l,q j=false)\/∃j∈l,q j=true/\JE q l=(j:Int)
 |[]=> .inl ⟨rfl,by simp⟩
 |j::l=>by rw[JE];cases hj:q j with|true=>grind|false=>simp only[ae];rcases XU q l with⟨h1,h2⟩|⟨k,h1,h2,h3⟩;all_goals grind
theorem U8:∀i,(∀j,1<=j->j<=i->((ps.getD j oW).1==p.1)=false)->GA ps p i=0
 |0,_=>rfl
 |i+1,h=>by rw[GA,h (i+1) (by omega) (by omega)];exact U8 i λj h1 h2=>h j h1 (by omega)
theorem X2 (hk:1<=k)(h:((ps.getD k oW).1==p.1)=true):∀i,k<=i->(∀j,1<=j->j<=i->((ps.getD j oW).1==p.1)=true->j=k)->GA ps p i=k
 |0,hi,_=>by omega
 |i+1,hi,hu=>by rw[GA];by_cases he:k=i+1;rw[<-he,h];rfl;cases hq:(ps.getD (i+1) oW).1==p.1 with|true=>grind|false=>exact X2 hk h i (by omega) λj h1 h2=>hu j h1 (by omega)
theorem ahB (hp:lB ps=true){i j:Nat}(h1:1<=i)(hij:i<j)(hj:j<ps.length):((ps.getD i oW).1==(ps.getD j oW).1)=false:=by simp only[lB,ah,aO,bU,VL,aU]at hp;grind
theorem filter_one {q:Nat->Bool}{n:Nat}(hk:k<n):(range n).filter (λj=>q j&&(j==k))=[k].filter q:=by
 have h1:(range n).filter (λj=>j==k)=[k]:=by
  induction n with
  |zero=>omega
  |succ n ih=>
   rw[List.range_succ,List.filter_append];by_cases he:k=n;subst he;have:(range k).filter (λj=>j==k)=[]:=by rw[List.filter_eq_nil_iff];intro j hj;have:=bU.1 hj;simp;omega
   rw[this];simp;rw[ih (by omega)];have:([n]:ec).filter (λj=>j==k)=[]:=by simp;omega
   rw[this];rfl
 have h2:(λj=>q j&&(j==k))=λj=>q j&&(λj=>j==k) j:=rfl;rw[h2,<-List.filter_filter,h1]
theorem L9 (ps:ar Port)(e:Int)(p:aP)(z:tq ps):nW ps e p=some (KB ps e p):=by
 have hn:=z.n;unfold nW KB;rw[OQ ps e p z,ab];cases hd:decide (lp ps e p<0);case true=>rfl
 have hp:lB ps=true:=by cases hp:lB ps with|true=>rfl|false=>unfold lp abW at hd;rw[hp]at hd;simp at hd
 have h1:1<=ps.length/\ps.length<=8:=by simp only[lB,ah,bq]at hp;omega
 have azI:∀j,j<ps.length->(ps.getD j oW).1<=281474976710654:=by intro j hj;simp only[lB,ah,aO,bU,VL,TU,ie,bq]at hp;exact(hp.2 j hj).1.1.2.1.2
 simp only[ae,acD ps p.1 hn,ab];generalize hv:lp ps e p=v;have hsw:Cb ps e p=(range ps.length).filter λj=>N1 ps e v j&&((j==GA ps p (ps.length-1))||bcB p):=by rw[Cb,hv]
 rw[hsw];have apV:bcB p=true->∀j,j<ps.length->((ps.getD j oW).1==p.1)=false:=by
  intro hb j hj;have:=azI j hj;have hb:p.1=281474976710655:=by simpa[bcB]using hb
  rw[hb,cy];omega
 rcases XU (λj=>(j !=0)&&((ps.getD j oW).1==p.1)) (List.range' 0 ps.length)with⟨hf,M4⟩|⟨k,hk,hq,hf⟩;have M4:∀j,1<=j->j<ps.length->((ps.getD j oW).1==p.1)=false:=by intro j h2 h3;have:=M4 j (by simp;omega);simp only[Bool.and_eq_false_iff,bne_eq_false_iff_eq]at this;rcases this with h|h;omega;exact h
 have hh:GA ps p (ps.length-1)=0:=U8 _ λj h2 h3=>M4 j h2 (by omega);rw[hf,show decide ((-1:Int)>=0)=false from rfl,ae,hh];rw[show(p.1==281474976710655)=bcB p from rfl];cases hb:bcB p with|true=>simp only[af,jx,gu];refine bB (λi=>(kc (range i),(i:Int))) ps.length (by omega) (λi nx hi=>?_) (λnx=>?_);simp only[mW];rw[gN,aQ (by simp only[kc,bW,List.length_range,aY];omega),aj (by omega) (by omega),List.range_succ];simp only[af,kc,eh];rfl;simp only[mW];rw[fF,ae];exact Vh ps e v (range ps.length) (by simp;omega) (λj hj=>bU.1 hj) z|false=>simp only[ae,Bool.or_false];rw[filter_one (by omega)];exact Vh ps e v [0] (by simp) (by simp;omega) z
 have hkl:k<ps.length:=by simp at hk;omega
 simp only[ah,bne_iff_ne]at hq;have hb:bcB p=false:=by cases hb:bcB p with|false=>rfl|true=>rw[apV hb k hkl]at hq;cases hq.2
 have hh:GA ps p (ps.length-1)=k:=X2 (by omega) hq.2 _ (by omega) λj h2 h3 h4=>by rcases Nat.lt_trichotomy j k with g|g|g;have:=ahB hp h2 g hkl;have a:=bn.1 h4;have b:=bn.1 hq.2;rw[a,b]at this;simp at this;exact g;have:=ahB hp (show 1<=k by omega) g (show j<ps.length by omega);have a:=bn.1 h4;have b:=bn.1 hq.2;rw[a,b]at this;simp at this
 rw[hf,gN,af,hh,hb];simp only[Bool.or_false];rw[filter_one hkl];exact Vh ps e v [k] (by simp) (by simp;omega) z
theorem S4 {e:Int}:∀j∈Cb ps e p,j<ps.length:=λj hj=>bU.1 (List.mem_filter.1 hj).1
theorem MD (ps:ar Port)(e:Int)(p:aP):(Cb ps e p).length<=ps.length:=aF (List.length_filter_le _ _) (by simp)
theorem TV (ms:ar bA):tq (gO ms).1:=⟨(Nf ms).1,(Nf ms).2⟩
structure CX (n:Nat) (c:cJ):Prop where
 z:bu n gW c
 h:∀x∈c.1,DX n x
theorem CX.mono {n m:Nat}(k:CX n c)(hn:n<=m:=by omega):CX m c:=⟨k.z.mono hn,λx hx=>(k.h x hx).mono hn⟩
theorem CX.sz {n:Nat}(k:CX n c)(hn:n<=10^9:=by omega):Ua c:=by have z:bu 1000000000 gW c:=k.z.mono hn;exact⟨z.1.1,z.2.1.1,λm hm=>(z.2.2.1.2 m hm).1.2.2.1,λx hx=>(k.h x hx).sz hn⟩
theorem CX.of (k:my gW c<=1048576):CX 1048576 c:=by refine⟨KC k,λh hh=>DX.of ?_⟩;grind[OW,my]
theorem Ju (h:ix c=true):(gO c.2.2.1).1.length=c.1.length+1/\(gO c.2.2.1).1.length<=8/\c.1.length<=3:=by unfold ix at h;simp only[ah]at h;have hl:=(F7 h.2.1).1;have h2:=h.1;have h3:=ac8 h2;unfold gO at h2⊢;cases hc:dp (c.2.2.1.length:Int) 1 3&&(c.2.2.1.all xf&&lB (Ki c.2.2.1))with|false=>grind|true=>simp only[ah]at hc;have:=(US c.2.2.1 0 ([0],[]) ⟨by simp,rfl,by simp⟩ hc.2.1).2.1;grind[Ki]
def apE (c:cJ)(f:Bytes):cJ:=(c.1,c.2.1,c.2.2.1,c.2.2.2.1,c.2.2.2.2.1,c.2.2.2.2.2.1,c.2.2.2.2.2.2++[f])
def adt (c:cJ)(k:Nat)(h:Host):cJ:=(c.1.set k h,c.2)
def db (ps:ar Port)(v:Int)(p:aP)(c:cJ)(j:Nat):cJ:=
 bif j==0 then apE c (Gu (Im ps (j:Int) v p)).1 else
 match c.1[j-1]? with
 |some h=>adt c (j-1) (qy h (Gu (Im ps (j:Int) v p)).1)
 |none=>c
theorem Qw {n:Nat}(z:CX n c)(zh:DX n h):CX n (adt c k h):=by refine⟨⟨qt z.z.1 zh.z,z.z.2⟩,λx hx=>?_⟩;rcases eP hx with g|g;exact z.h x g;rw[g];exact zh
theorem anR {n:Nat}{f:Bytes}(z:CX n c)(hf:f.length<=n):CX (n+1) (apE c f):=by have z':=z.mono (show n<=n+1 by omega);refine⟨⟨z'.z.1,z'.z.2.1,z'.z.2.2.1,z'.z.2.2.2.1,z'.z.2.2.2.2.1,z'.z.2.2.2.2.2.1,?_⟩,z'.h⟩;exact I0 (t:=.str) (k:=1) z.z.2.2.2.2.2.2 (λy hy=>by rw[dA.1 hy];exact hf) (by simp)
theorem ant {n:Nat}(hn:1000<=n){v:Int}{j:Nat}(z:CX n c):CX (n+1) (db ps v p c j)/\(db ps v p c j).1.length=c.1.length:=by have hf:=MY (Im ps (j:Int) v p);unfold db;cases j==0 with|true=>exact⟨anR z (by omega),rfl⟩|false=>simp only[ae];cases hx:c.1[j-1]? with|none=>exact⟨z.mono,rfl⟩|some h=>have hr:=Mq hn (Gu (Im ps (j:Int) v p)).1 (z.h h (bK hx));exact⟨(Qw z hr.1).mono,aL ..⟩
def RZ (ps:ar Port)(v:Int)(p:aP)(c:cJ)(l:ec):cJ:=l.foldl (db ps v p) c
theorem TX {ps:ar Port}{v:Int}{p:aP}:∀(l:ec){c:cJ}{n:Nat},1000<=n->CX n c->CX (n+l.length) (RZ ps v p c l)/\(RZ ps v p c l).1.length=c.1.length
 |[],c,n,_,z=>⟨z,rfl⟩
 |j::l,c,n,hn,z=>by have h1:=ant (ps:=ps) (v:=v) (p:=p) (j:=j) hn z;have:=TX (ps:=ps) (v:=v) (p:=p) l (show 1000<=n+1 by omega) h1.1;exact⟨this.1.mono (by grind),this.2.trans h1.2⟩
theorem YI (ps:ar Port)(v:Int)(p:aP)(c:cJ)(l:ec)(i:Nat)(hi:i<l.length):RZ ps v p c (l.take (i+1))=db ps v p (RZ ps v p c (l.take i)) l[i]:=by rw[aR hi,RZ,List.foldl_append];rfl
theorem SC (K:cJ->au R)(ps:ar Port)(v:Int)(p:aP)(c B:cJ)(l:ec)(hl:l.length<=8)(hj:∀j∈l,j<=c.1.length)(z:CX 800000000 c)(zp:tq ps): aH (mD (λ(_:Int) (Lt:cJ)=>K Lt) ps v (kc l) ((kc l).length:Int) p B) fuel (0,c)=K (RZ ps v p c l):=by
 refine bB (λi=>((i:Int),RZ ps v p c (l.take i))) l.length (by omega) (λi nx hi=>?_) (λnx=>?_);have Sx:i<(kc l).length:=by simpa[kc]using hi
 have e1:(kc l)[i]'Sx=(l[i]:Int):=by simp[kc]
 have hz:=TX (ps:=ps) (v:=v) (p:=p) (l.take i) (by omega) z;have hzz:=hz.1.mono (show 800000000+(l.take i).length<=900000000 by rw[bm];omega);have hji:=hj _ (aE hi);have iw:=MY (Im ps (l[i]:Int) v p);rw[YI ps v p c l i hi];have hn:=hz.2;generalize RZ ps v p c (l.take i)=W at hn hzz⊢;have hw:W.2.2.2.2.2.2.length<=900000000:=hzz.z.2.2.2.2.2.2.1;simp only[mD];rw[ax (by simpa[kc]using hi),aN Sx,e1,aj (n:=(i:Int)+1) (by omega) (by omega)];simp only[af,ab,ai1 ps _ v p zp,Ya,db];have hcl:c.1.length<=800000000:=z.z.1.1;by_cases h0:l[i]=0;rw[show((l[i]:Int)==0)=true from by simp[h0],show(l[i]==0)=true from by simp[h0]];simp only[af];rw[aQ (by simp only[aY];omega)];rfl;rw[show((l[i]:Int)==0)=false from by simp[h0],show(l[i]==0)=false from by simp[h0]];have hk:l[i]-1<W.1.length:=by omega
 rw[aj (n:=(l[i]:Int)-1) (by omega) (by omega),show(l[i]:Int)-1=((l[i]-1:Nat):Int) by omega];simp only[ae,aN hk,ab,P3 _ _ (hzz.h _ (aE hk)) (aF iw (by omega)),aw,al hk];rfl;simp only[mD];rw[aq (by simp[kc]),ae,bN]
theorem SV (K:cJ->au R)(ps:ar Port)(v:Int)(p:aP)(c:cJ)(l:ec)(hl:l.length<=8)(hj:∀j∈l,j<=c.1.length)(z:CX 800000000 c)(zp:tq ps): aH (oH (λ(_:Int) (Gg:cJ)=>K Gg) ps (kc l) v p) fuel (0,c)=K (RZ ps v p c l):=by
 refine bB (λi=>((i:Int),RZ ps v p c (l.take i))) l.length (by omega) (λi nx hi=>?_) (λnx=>?_);have Sx:i<(kc l).length:=by simpa[kc]using hi
 have e1:(kc l)[i]'Sx=(l[i]:Int):=by simp[kc]
 have hz:=TX (ps:=ps) (v:=v) (p:=p) (l.take i) (by omega) z;have hzz:=hz.1.mono (show 800000000+(l.take i).length<=900000000 by rw[bm];omega);have hji:=hj _ (aE hi);have iw:=MY (Im ps (l[i]:Int) v p);rw[YI ps v p c l i hi];have hn:=hz.2;generalize RZ ps v p c (l.take i)=W at hn hzz⊢;have hw:W.2.2.2.2.2.2.length<=900000000:=hzz.z.2.2.2.2.2.2.1;simp only[oH];rw[ax (by simpa[kc]using hi),aN Sx,e1,aj (n:=(i:Int)+1) (by omega) (by omega)];simp only[af,ab,aj9 ps _ v p zp,YR,db];have hcl:c.1.length<=800000000:=z.z.1.1;by_cases h0:l[i]=0;rw[show((l[i]:Int)==0)=true from by simp[h0],show(l[i]==0)=true from by simp[h0]];simp only[af];rw[aQ (by simp only[aY];omega)];rfl;rw[show((l[i]:Int)==0)=false from by simp[h0],show(l[i]==0)=false from by simp[h0]];have hk:l[i]-1<W.1.length:=by omega
 rw[aj (n:=(l[i]:Int)-1) (by omega) (by omega),show(l[i]:Int)-1=((l[i]-1:Nat):Int) by omega];simp only[ae,aN hk,ab,QH _ _ (hzz.h _ (aE hk)) (aF iw (by omega)),aw,al hk];rfl;simp only[oH];rw[aq (by simp[kc]),ae,bN]
def yh (c:cJ)(e:Int)(p:aP):cJ:=
 bif decide (lp (gO c.2.2.1).1 e p<0) then c else RZ (gO c.2.2.1).1 (lp (gO c.2.2.1).1 e p) p c (Cb (gO c.2.2.1).1 e p)
def DU (c:cJ)(e:Int)(p:aP):cJ:=bif ix c&&fW p then yh c e p else c
theorem SZ (c:cJ)(e:Int)(p:aP)(k:CX 800000000 c)(h:ix c=true):vz c e p=some ((),yh c e p):=by have z9:bu 1000000000 gW c:=k.z.mono;have hn:=Ju h;have zp:=TV c.2.2.1;unfold vz yh;simp only[H8 _ (λm hm=>(z9.2.2.1.2 m hm).1.2.2.1),ab,O0 _ e p zp,S0 _ e p zp];generalize (gO c.2.2.1).1=ps at hn zp⊢;unfold KB;cases decide (lp ps e p<0)with|true=>exact SV (λc=>some ((),c)) ps (lp ps e p) p c [] (by simp) (by simp) k zp|false=>exact SV (λc=>some ((),c)) ps (lp ps e p) p c (Cb ps e p) (by grind[MD]) (λj hj=>by have:=S4 j hj;omega) k zp
theorem V4 (c:cJ)(e:Int)(p:aP)(k:CX 800000000 c):yA c e p=some (DU c e p):=by unfold yA DU;simp only[BJ c (k.z.mono),Mv c (k.sz),CL,ab];grind[ab,SZ]
theorem L6 (c:cJ)(e:Int)(p:aP)(k:CX 800000000 c):si c e p=some (DU c e p):=by have z9:bu 1000000000 gW c:=k.z.mono;unfold si DU;simp only[Ag c z9,L5 c (k.sz),Cy,ab];cases h:ix c;rfl;cases fW p;rfl;have hn:=Ju h;have zp:=TV c.2.2.1;unfold yh;simp only[ai,ae,ab,cA,af,HH _ (λm hm=>(z9.2.2.1.2 m hm).1.2.2.1),OQ _ e p zp,L9 _ e p zp];generalize (gO c.2.2.1).1=ps at hn zp⊢;unfold KB;cases decide (lp ps e p<0)with|true=>exact SC (λc=>some c) ps (lp ps e p) p c _ [] (by simp) (by simp) k zp|false=>exact SC (λc=>some c) ps (lp ps e p) p c _ (Cb ps e p) (by grind[MD]) (λj hj=>by have:=S4 j hj;omega) k zp
theorem S3 {n:Nat}(hn:1000<=n){e:Int}(z:CX n c)(h:ix c=true):CX (n+8) (yh c e p)/\(yh c e p).1.length=c.1.length:=by have h3:=Ju h;unfold yh;generalize (gO c.2.2.1).1=ps at h3⊢;cases decide (lp ps e p<0)with|true=>exact⟨z.mono,rfl⟩|false=>have h8:=MD ps e p;have:=TX (ps:=ps) (v:=lp ps e p) (p:=p) (Cb ps e p) hn z;exact⟨this.1.mono,this.2⟩
def Kz (c:cJ):cJ:=(c.1,c.2.1,c.2.2.1,c.2.2.2.1,c.2.2.2.2.1,c.2.2.2.2.2.1++[c.2.2.2.2.1.1],c.2.2.2.2.2.2)
def xV (c:cJ)(x:Bytes):cJ:=bif !ix c then c else bif (jE x).2==0 then yh (Kz c) 0 (jE x).1 else Kz c
theorem Sa {n:Nat}(z:CX n c):CX (n+1) (Kz c):=by have z':=z.mono (show n<=n+1 by omega);refine⟨⟨z'.z.1,z'.z.2.1,z'.z.2.2.1,z'.z.2.2.2.1,z'.z.2.2.2.2.1,?_,z'.z.2.2.2.2.2.2⟩,z'.h⟩;exact I0 (t:=.int .i64) (k:=1) z.z.2.2.2.2.2.1 (λ_ _=>trivial) (by simp)
theorem Tn (c:cJ)(x:Bytes)(k:CX 700000000 c)(hx:x.length<=10^9):vI c x=some (xV c x):=by have hl:c.2.2.2.2.2.1.length<=700000000:=k.z.2.2.2.2.2.1.1;have ks:=(Sa k).mono (show 700000000+1<=800000000 by omega);unfold vI xV;rw[Ag c (k.z.mono),ab,L5 c (k.sz),ab];cases h:ix c;rfl;have hs:ix (Kz c)=true:=h;grind[aQ,Ru,ab,jE,L6,Kz,DU]
theorem Tz (c:cJ)(x:Bytes)(k:CX 700000000 c)(hx:x.length<=10^9):wD c x=some (xV c x):=by have hl:c.2.2.2.2.2.1.length<=700000000:=k.z.2.2.2.2.2.1.1;have ks:=(Sa k).mono (show 700000000+1<=800000000 by omega);unfold wD xV;rw[BJ c (k.z.mono),ab,Mv c (k.sz),ab];cases h:ix c;rfl;have hs:ix (Kz c)=true:=h;grind[aQ,R9,ab,SZ,Kz]
theorem adi {n:Nat}(hn:1000<=n)(x:Bytes)(z:CX n c):CX (n+9) (xV c x)/\(xV c x).1.length=c.1.length:=by unfold xV;cases h:ix c;exact⟨z.mono,rfl⟩;have zs:=Sa z;simp only[ai,ae];cases (jE x).2==0 with|true=>have:=S3 (show 1000<=n+1 by omega) (e:=0) (p:=(jE x).1) zs (show ix (Kz c)=true from h);exact⟨this.1,this.2⟩|false=>exact⟨zs.mono,rfl⟩
theorem agI {n:Nat}(hn:1000<=n)(e:Int)(p:aP)(z:CX n c):CX (n+8) (DU c e p)/\(DU c e p).1.length=c.1.length:=by unfold DU;cases h:ix c;exact⟨z.mono,rfl⟩;cases fW p with|false=>exact⟨z.mono,rfl⟩|true=>exact S3 hn z h
def MB (b:Cl)(n:Int):Cl×Bool:=bif MR b&&dp n 0 b.2.2 then((b.1,b.2.1,ak (b.2.2-n)),true) else(b,false)
theorem akg (b:Cl)(n:Int):wO b n=some (MB b n):=by grind[wO,MB,Ks,ab,cj]
theorem ai9 (b:Cl)(n:Int):vS b n=some (MB b n):=by grind[vS,MB,OO,ab,cq]
def Uz (f:az):az:=(f.1,f.2.1,f.2.2.1,f.2.2.2.1,f.2.2.2.2.1,ak (f.2.2.2.2.2+1))
def apB (f:az)(b:Cl):az:=(f.1,f.2.1,b,f.2.2.2.1,ak (f.2.2.2.2.1+1),f.2.2.2.2.2)
def aqq (ps:ar Port)(f:az)(p:aP):Bool:=f.2.2.2.1&&(!decide (lp ps f.2.1 p<0)&&(MB f.2.2.1 ((eQ p).1.length:Int)).2)
def Em (l:ar az)(ps:ar Port)(a:Int)(p:aP):ar az×cI×Bool:=
 bif jV l ps&&(fW p&&(!decide (a<0)&& !decide (a>=(l.length:Int)))) then
  match l[a.toNat]? with
  |some f=>bif aqq ps f p then(l.set a.toNat (apB f (MB f.2.2.1 ((eQ p).1.length:Int)).1),KB ps f.2.1 p,true) else(l.set a.toNat (Uz f),[],false)
  |none=>(l,[],false)
 else(l,[],false)
theorem ake (l:ar az)(ps:ar Port)(a:Int)(p:aP)(h:l.length<=10^9)(z:tq ps):DL l ps a p=some (Em l ps a p):=by
 unfold DL Em;rw[aQ (by grind)];simp only[bE,Oe l ps h z.1 z.2,CL,ab];cases jV l ps;rfl;cases fW p;rfl;by_cases h0:a<0;rw[ax h0];rfl;by_cases h1:a>=(l.length:Int)
 simp_all;obtain⟨a,rfl⟩:=aD (by omega:0<=a);have ha:a<l.length:=by omega
 rw[aq h0,aq h1];simp only[aw,al ha,aN ha,ab,ai,bz,ae,af,cA,Jg,akg,O0 _ _ p z,S0 _ _ p z,aqq];generalize l[a]=f;cases h3:f.2.2.2.1 with|false=>grind[ab,Uz]|true=>simp only[ai,ae,bj,M6 ha,ab,dE];cases decide (lp ps f.2.1 p<0)with|true=>grind[ab,Uz]|false=>simp only[bz,ae,bj,ab];cases (MB f.2.2.1 ((eQ p).1.length:Int)).2 with|false=>grind[Uz]|true=>rfl
theorem ai7 (l:ar az)(ps:ar Port)(a:Int)(p:aP)(h:l.length<=10^9)(z:tq ps):Df l ps a p=some (Em l ps a p):=by
 unfold Df Em;rw[Ah l h,ab,aj (n:=(l.length:Int)-1) (by omega) (by omega)];simp only[NY l ps h z.1 z.2,Cy,ab,cq];cases jV l ps;rfl;cases fW p;rfl;rw[show dp a 0 ((l.length:Int)-1)=(!decide (a<0)&& !decide (a>=(l.length:Int))) from by grind[bq]];by_cases h0:a<0;rw[ax h0];rfl;by_cases h1:a>=(l.length:Int)
 simp_all;obtain⟨a,rfl⟩:=aD (by omega:0<=a);have ha:a<l.length:=by omega
 rw[aq h0,aq h1];simp only[aw,al ha,aN ha,ab,ai,bz,ae,af,cA,IW,ai9,OQ _ _ p z,L9 _ _ p z,aqq];generalize l[a]=f;cases h3:f.2.2.2.1 with|false=>grind[ab,Uz]|true=>simp only[ai,ae,bj,M6 ha,ab,dE];cases decide (lp ps f.2.1 p<0)with|true=>grind[ab,Uz]|false=>simp only[bz,ae,bj,ab,L9 _ _ p z];cases (MB f.2.2.1 ((eQ p).1.length:Int)).2 with|false=>grind[Uz]|true=>grind[apB]
theorem R2 (l:ar az)(ps:ar Port)(a:Int)(p:aP):(Em l ps a p).1.length=l.length:=by unfold Em;grind
theorem ane {l:ar az}{a:Int}(h:fW p=false):Em l ps a p=(l,[],false):=by grind[Em]
theorem aqv:fW pk0=false:=by decide
theorem am1 (h:((jE x).2==0)=false):fW (jE x).1=false:=by grind[jE,aqv]
theorem abl (h:my gW c<=1048576):mn gW c<=600000000000000:=by have c0:kh gW c<=wt gW*(my gW c+1):=Zy;simp_all[wt,kh,mn];omega
def Pa (h:Host):bp:=h.2.2.2.2.2.2.2.2.2.2.2.1
theorem Se (h:Host):(Pa h).length<=(Pa (gU h)).length/\(Pa (gU h)).length<=(Pa h).length+5440:=by have hA:=Gf h.2.1 h.1 0 17 [] 0 0 h.2.2.1.1 (λx hx=>by cases hx);unfold gU;cases fw h;exact⟨ba _,Nat.le_add_right _ _⟩;rw[show tn h.2.1 h.1 0 17 [] 0 0 h.2.2.1.1=lG h.2.1 h.1 0 h.2.2.1.1 from rfl]at hA;simp_all[Pa]
def SI (h:Host):bp:=(Pa (gU h)).drop (Pa h).length
theorem RM (h:Host):(SI h).length<=5440:=by grind[Se,SI]
def Mt (ps:ar Port)(k:Int)(c:cJ)(x:Bytes):cJ:=
 bif (Em c.2.1 ps k (jE x).1).2.2 then DU (c.1,(Em c.2.1 ps k (jE x).1).1,c.2.2) (ak (k+1)) (jE x).1 else(c.1,(Em c.2.1 ps k (jE x).1).1,c.2.2)
theorem aaF {n:Nat}{l:ar az}(h:l.length=c.2.1.length)(z:CX n c):CX n (c.1,l,c.2.2):=by refine⟨⟨z.z.1,⟨?_,λ_ _=>⟨bM,bM,⟨bM,bM,bM⟩,bM,bM,bM⟩⟩,z.z.2.2⟩,z.h⟩;have:=z.z.2.1.1;grind
theorem anb {n:Nat}(hn:1000<=n){k:Int}(z:CX n c):CX (n+8) (Mt ps k c x)/\(Mt ps k c x).1.length=c.1.length:=by have zs:=aaF (l:=(Em c.2.1 ps k (jE x).1).1) (R2 ..) z;unfold Mt;cases (Em c.2.1 ps k (jE x).1).2.2 with|false=>exact⟨zs.mono,rfl⟩|true=>exact agI hn _ _ zs
theorem ana {k:Int}(h:((jE x).2==0)=false):Mt ps k c x=c:=by grind[Mt,ane,am1]
def Je (ps:ar Port)(k:Int)(c:cJ)(l:bp):cJ:=l.foldl (Mt ps k) c
theorem Qv {ps:ar Port}{k:Int}:∀(l:bp){c:cJ}{n:Nat},1000<=n->CX n c->CX (n+8*l.length) (Je ps k c l)/\(Je ps k c l).1.length=c.1.length
 |[],c,n,_,z=>⟨z,rfl⟩
 |x::l,c,n,hn,z=>by have h1:=anb hn (ps:=ps) (k:=k) (x:=x) z;have:=Qv (ps:=ps) (k:=k) l (show 1000<=n+8 by omega) h1.1;exact⟨this.1.mono (by grind),this.2.trans h1.2⟩
theorem VZ (ps:ar Port)(k:Int)(c:cJ)(l:bp)(i:Nat)(hi:i<l.length):Je ps k c (l.take (i+1))=Mt ps k (Je ps k c (l.take i)) l[i]:=by rw[aR hi,Je,List.foldl_append];rfl
theorem aci (K:Int->cJ->au R)(ps:ar Port)(k:Int)(l:bp)(c B:cJ)(hl:l.length<=5440)(hx:∀x∈l,x.length<=10^9)(z:CX 700000000 c)(zp:tq ps): aH (kI K k ps l (l.length:Int) B) fuel (0,c)=K (l.length:Int) (Je ps k c l):=by
 have Cg:=dc;refine bB (λi=>((i:Int),Je ps k c (l.take i))) l.length (by omega) (λi nx hi=>?_) (λnx=>?_);have hz:=(Qv (ps:=ps) (k:=k) (l.take i) (by omega) z).1.mono (show 700000000+8*(l.take i).length<=800000000 by rw[bm];omega);rw[VZ ps k c l i hi];generalize Je ps k c (l.take i)=W at hz⊢;simp only[kI];rw[gN,af,aN hi,ab,Ru _ (hx _ (aE hi)),ab,aj (n:=(i:Int)+1) (by omega) (by omega)];cases hf:(jE l[i]).2==0 with|false=>rw[ana hf];simp only[bne,hf,bz,af];rfl|true=>have zs:=aaF (l:=(Em W.2.1 ps k (jE l[i]).1).1) (R2 ..) hz;simp only[bne,hf,ai,ae];rw[ai7 _ _ _ _ (aF hz.z.2.1.1 (by omega)) zp,ab,L6 _ _ _ zs,ab,Mt];cases (Em W.2.1 ps k (jE l[i]).1).2.2<;>rfl
 simp only[kI];rw[fF,ae,bN]
theorem adA (K:Int->cJ->au R)(ps:ar Port)(k:Int)(l:bp)(c B:cJ)(hl:l.length<=5440)(hx:∀x∈l,x.length<=10^9)(z:CX 700000000 c)(zp:tq ps): aH (kO K k l ps B) fuel (0,c)=K (l.length:Int) (Je ps k c l):=by have Cg:=dc;refine bB (λi=>((i:Int),Je ps k c (l.take i))) l.length (by omega) (λi nx hi=>?_) (λnx=>?_);have hz:=(Qv (ps:=ps) (k:=k) (l.take i) (by omega) z).1.mono (show 700000000+8*(l.take i).length<=800000000 by rw[bm];omega);rw[VZ ps k c l i hi];generalize Je ps k c (l.take i)=W at hz⊢;have zs:=aaF (l:=(Em W.2.1 ps k (jE l[i]).1).1) (R2 ..) hz;simp only[kO];rw[gN,af,aN hi,ab,R9 _ (hx _ (aE hi)),ab,aj (n:=(i:Int)+1) (by omega) (by omega),ake _ _ _ _ (aF hz.z.2.1.1 (by omega)) zp,ab,V4 _ _ _ zs,ab,Mt];cases (Em W.2.1 ps k (jE l[i]).1).2.2<;>rfl;simp only[kO];rw[fF,ae,bN]
def CZ (c:cJ)(k:Int):cJ:=
 bif ix c&&(!decide (k<0)&& !decide (k>=(c.1.length:Int))) then
  match c.1[k.toNat]? with
  |some h=>Je (gO c.2.2.1).1 k (adt c k.toNat (gU h)) (SI h)
  |none=>c
 else c
theorem afh (c:cJ)(k:Int)(z:CX 600000000 c):tz c k=some (CZ c k):=by
 have z9:bu 1000000000 gW c:=z.z.mono;have hl:c.2.1.length<=600000000:=z.z.2.1.1;unfold tz CZ;rw[Ag c z9,ab,L5 c (z.sz),ab,cq,aj (n:=(c.2.1.length:Int)-1) (by omega) (by omega)];cases hb:ix c;rfl;have h2:c.1.length=c.2.1.length:=by grind[ix,F7]
 rw[show dp k 0 ((c.2.1.length:Int)-1)=(!decide (k<0)&& !decide (k>=(c.1.length:Int))) from by grind[bq]];by_cases h0:k<0;rw[ax h0];rfl;by_cases h1:k>=(c.1.length:Int)
 simp_all;obtain⟨k,rfl⟩:=aD (by omega:0<=k);have hk:k<c.1.length:=by omega
 rw[aq h0,aq h1];have hz:=z.h _ (aE hk);have zt:=FZ (by omega) hz;have zc:CX 700000000 (adt c k (gU c.1[k])):=(Qw (z.mono (show 600000000<=600005440 by omega)) zt).mono;have hg:=Se c.1[k];have hw:∀x∈SI c.1[k],x.length<=10^9:=λx hx=>aF (zt.z.2.2.2.2.2.2.2.2.2.2.2.1.2 x (List.mem_of_mem_drop hx)) (by omega);have hn:=RM c.1[k];have zp:=TV c.2.2.1;simp only[aw,al hk,aN hk,M6 hk,ab,ai,bz,ae,af,cA,HH _ (λm hm=>(z9.2.2.1.2 m hm).1.2.2.1),P8 _ (hz.mono)];rw[show sub (gU c.1[k]).2.2.2.2.2.2.2.2.2.2.2.1 ((c.1[k].2.2.2.2.2.2.2.2.2.2.2.1).length:Int) (((gU c.1[k]).2.2.2.2.2.2.2.2.2.2.2.1).length:Int)=some (SI c.1[k]) from Jh _ _ hg.1];grind[ab,nw,aci,adt]
theorem agk (c:cJ)(k:Int)(z:CX 600000000 c):tY c k=some (CZ c k):=by
 have z9:bu 1000000000 gW c:=z.z.mono;unfold tY CZ;rw[BJ c z9,ab,Mv c (z.sz),ab];cases hb:ix c;rfl;by_cases h0:k<0;rw[ax h0];rfl;by_cases h1:k>=(c.1.length:Int)
 simp_all;obtain⟨k,rfl⟩:=aD (by omega:0<=k);have hk:k<c.1.length:=by omega
 rw[aq h0,aq h1];have hz:=z.h _ (aE hk);have zt:=FZ (by omega) hz;have zc:CX 700000000 (adt c k (gU c.1[k])):=(Qw (z.mono (show 600000000<=600005440 by omega)) zt).mono;have hg:=Se c.1[k];have hw:∀x∈SI c.1[k],x.length<=10^9:=λx hx=>aF (zt.z.2.2.2.2.2.2.2.2.2.2.2.1.2 x (List.mem_of_mem_drop hx)) (by omega);have hn:=RM c.1[k];have zp:=TV c.2.2.1;simp only[aw,al hk,aN hk,M6 hk,ab,ai,bz,ae,af,cA,H8 _ (λm hm=>(z9.2.2.1.2 m hm).1.2.2.1),QL _ (hz.mono)];rw[show sub (gU c.1[k]).2.2.2.2.2.2.2.2.2.2.2.1 ((c.1[k].2.2.2.2.2.2.2.2.2.2.2.1).length:Int) (((gU c.1[k]).2.2.2.2.2.2.2.2.2.2.2.1).length:Int)=some (SI c.1[k]) from Jh _ _ hg.1];grind[ab,aQ,adA,adt]
theorem aeJ {n:Nat}(hn:1000<=n)(k:Int)(z:CX n c):CX (n+48960) (CZ c k)/\(CZ c k).1.length=c.1.length:=by unfold CZ;cases ix c&&(!decide (k<0)&& !decide (k>=(c.1.length:Int)));exact⟨z.mono,rfl⟩;simp only[af];cases hx:c.1[k.toNat]? with|none=>exact⟨z.mono,rfl⟩|some h=>have zt:=FZ (by omega) (z.h h (bK hx));have zc:=Qw (k:=k.toNat) (z.mono (show n<=n+5440 by omega)) zt;have:=Qv (ps:=(gO c.2.2.1).1) (k:=k) (SI h) (by omega) zc;have hl:=RM h;refine⟨this.1.mono,this.2.trans ?_⟩;show(c.1.set _ _).length=_;rw[aL]
structure WK (a b:Host):Prop where
 maps:b.2.1=a.2.1
 mem:b.1.length=a.1.length
theorem WK.refl (a:Host):WK a a:=⟨rfl,rfl⟩
theorem WK.trans {a b c:Host}(h:WK a b)(g:WK b c):WK a c:=⟨g.maps.trans h.maps,g.mem.trans h.mem⟩
theorem WK.of {a b:Host}(h:mA k a b):WK a b:=⟨h.maps,h.mem⟩
theorem ao1 (l:ar aC)(m:bp)(d:Int)(q:bk)(k s:Bytes):(ns l m d q k s).1.length=m.length:=by unfold ns;cases !(eJ s).2||(((eJ s).1.1 !=3)||decide ((eJ s).1.2.2.1<((eQ q.2.2.2.1.1).1.length:Int)));all_goals grind[H3,mN]
theorem aom (l:ar aC)(m:bp)(d:Int)(q:bk)(k:Bytes):(jU l m d q k).1.length=m.length:=by unfold jU;cases !Qr q||(!q.2.2.2.2.1||((k.length:Int) !=16));all_goals grind[ao1]
theorem akU (l:ar aC)(m:bp)(d:Int)(q:bk)(k:Bytes)(p:aP)(c:Bool):(lT l m d q k p c).1.length=m.length:=by unfold lT;cases !Qr q||(!fW p||((k.length:Int) !=16));all_goals grind[aom]
def flt (h:Host):Filter:=h.2.2.2.2.2.2.2.1
theorem Uc.at {n:Int}(g:Uc n c){i:Nat}(hi:c.1[i]?=some h):Good n h:=by obtain⟨iG,_⟩:=aJ.1 hi;exact(g.host i h _ hi (al (by have:=g.len.1;omega))).1
structure Xt (a b:cJ):Prop where
 boxes:b.2.2.1=a.2.2.1
 flash:b.2.2.2.1=a.2.2.2.1
 clock:b.2.2.2.2.1=a.2.2.2.2.1
 stamps:b.2.2.2.2.2.1=a.2.2.2.2.2.1
 len:b.1.length=a.1.length
 up:∃w,b.2.2.2.2.2.2=a.2.2.2.2.2.2++w
theorem Xt.refl (a:cJ):Xt a a:=⟨rfl,rfl,rfl,rfl,rfl,⟨[],(bC _).symm⟩⟩
theorem Xt.trans {a b:cJ}(h:Xt a b)(g:Xt b c):Xt a c:=by obtain⟨w,hw⟩:=h.up;obtain⟨u,hu⟩:=g.up;exact⟨g.boxes.trans h.boxes,g.flash.trans h.flash,g.clock.trans h.clock,g.stamps.trans h.stamps,g.len.trans h.len,⟨w++u,by rw[hu,hw,aW]⟩⟩
def Ends (o:au α)(P:α->Prop):Prop:=∃x,o=some x/\P x
theorem Ends.pure {x:α}{P:α->Prop}(h:P x):Ends (some x) P:=⟨x,rfl,h⟩
theorem Ends.bind {o:au α}{P:α->Prop}{k:α->au R}{Q:R->Prop}(h:Ends o P)(hk:∀x,P x->Ends (k x) Q):Ends (aa o k) Q:=by obtain⟨x,rfl,hx⟩:=h;exact hk x hx
theorem Ends.mono {o:au α}{P Q:α->Prop}(h:Ends o P)(hq:∀x,P x->Q x):Ends o Q:=by obtain⟨x,hx,hp⟩:=h;exact⟨x,hx,hq x hp⟩
theorem Ends.cond {c:Bool}{a b:au α}{P:α->Prop}(h1:c=true->Ends a P)(h2:c=false->Ends b P):Ends (cond c a b) P:=by grind
theorem Ends.room {n:Nat}{k:au α}{P:α->Prop}(h:n<=1073741824)(hk:Ends k P):Ends (room n k) P:=by rw[aQ h];exact hk
theorem Ends.of {o:au α}{x:α}{P:α->Prop}(h:o=some x)(hp:P x):Ends o P:=⟨x,h,hp⟩
theorem Ends.idx {xs:ar α}{i:Int}{k:α->au R}{Q:R->Prop}(h0:0<=i)(h1:i<(xs.length:Int))(hk:∀(h:i.toNat<xs.length),Ends (k xs[i.toNat]) Q):Ends (aa (idx xs i) k) Q:=by grind[aN,ab]
abbrev Cur:=cI×Int×Int
def Cu (c:Cur):Prop:=0<=c.2.1/\c.2.1<=(c.1.length:Int)/\c.1.length<=1048576
def Plain (p:aP):Prop:=LV p=true/\p.2.2.2.2.2.2.2.2.2.2.2.2.2.2.2.length<=40
theorem Plain.ok (h:Plain p):fW p=true:=(ac3 p).2 ⟨h.1,by have:=h.2;omega⟩
def aqK (a:Act):Prop:=a.2.1.2.2.2.2.2.2.2.2.2.2.2.2.2.2.2.length<=1000/\a.2.2.2.2.1.length<=382/\0<=a.1/\a.1<=6
structure akK (n:Int) (a:lR):Prop where
 kind:0<=a.1/\a.1<=2
 fn:0<=a.2.1/\a.2.1<n
 act:aqK a.2.2.1
 ok:Q7 a.2.2.1=true
 msg:0<=a.2.2.2.1.1/\a.2.2.2.1.1<=6
 img:a.2.2.2.2.1.length<=96
 part:0<=a.2.2.2.2.2/\a.2.2.2.2.2<=100
theorem akK.put {n:Int}{a:lR}(h:akK n a){x:Act}(h1:aqK x)(h2:Q7 x=true):akK n (a.1,a.2.1,x,a.2.2.2):=⟨h.kind,h.fn,h1,h2,h.msg,h.img,h.part⟩
def abf (f:bp):Int:=if jI (f.getD 0 [])<0/\jI (f.getD 1 [])<0 then-1 else if jI (f.getD 1 [])>jI (f.getD 0 []) then jI (f.getD 1 []) else jI (f.getD 0 [])
theorem aiT {f:bp}(h:iQ f=true):pP f=some (abf f):=by obtain⟨e,h0,h1⟩:=zu h;unfold pP;rw[Vd,ab];unfold pN abf;rw[h,af];generalize f.getD 0 []=x at e h0 h1⊢;generalize f.getD 1 []=y at e h0 h1⊢;subst e;by_cases a:jI x<0/\jI y<0;rw[aM a,aM a];rfl;rw[aK a,aK a];by_cases b:jI y>jI x;rw[aM b,aM b,fF,ae,show idx [x,y] 1=some y from rfl,ab,P9 y];rfl;rw[aK b,aK b,fF,ae,show idx [x,y] 0=some x from rfl,ab,P9 x];rfl
theorem aj4 {f:bp}(h:iQ f=true):qC f=some (abf f):=by obtain⟨e,h0,h1⟩:=zu h;unfold qC;rw[V2,ab];unfold pN abf;rw[h,af];generalize f.getD 0 []=x at e h0 h1⊢;generalize f.getD 1 []=y at e h0 h1⊢;subst e;by_cases a:jI x<0/\jI y<0;rw[aM a,aM a];rfl;rw[aK a,aK a];by_cases b:jI y>jI x;rw[aM b,aM b,fF,ae,show idx [x,y] 1=some y from rfl,ab,T0 y (by omega)];rfl;rw[aK b,aK b,fF,ae,show idx [x,y] 0=some x from rfl,ab,T0 x (by omega)];rfl
theorem aeC {f:bp}(h:¬pN f<0):iQ f=true:=by grind[pN]
theorem aiF {f:bp}(h:iQ f=true){k:Int}(hk:0<=k/\k<=1)(hs:s.length=96):iQ (f.set k.toNat s)=true/\∀i:Nat,(i:Int)≠k->(f.set k.toNat s).getD i []=f.getD i []:=by obtain⟨e,h0,h1⟩:=zu h;refine⟨?_,λi hi=>?_⟩;rw[e];rcases(by omega:k=0\/k=1)with rfl|rfl;unfold iQ;show((((2:Nat):Int)==2)&&(((s.length:Int)==96)&&(((f.getD 1 []).length:Int)==96)))=true;rw[hs,h1];rfl;unfold iQ;show((((2:Nat):Int)==2)&&((((f.getD 0 []).length:Int)==96)&&((s.length:Int)==96)))=true;rw[hs,h0];rfl;rw[List.getD_eq_getElem?_getD,List.getD_eq_getElem?_getD,aZ (by omega)]
theorem ah7 (h:¬jI s<0):12<=s.length:=by grind[jI]
def Qp (b:Cl)(n:Int):Cl:=
 bif MR b&&dp n 0 1000000 then(b.1,b.2.1,if b.2.1<ak (b.2.2+ak (b.1*n)) then b.2.1 else ak (b.2.2+ak (b.1*n))) else b
theorem aft (b:Cl)(n:Int):tI b n=some (Qp b n):=by grind[tI,Qp,OO,ab,cq]
theorem agv (b:Cl)(n:Int):ug b n=some (Qp b n):=by grind[ug,Qp,Ks,ab,cj]
def G5 (f:α->α)(l:ar α)(i:Nat):ar α:=(l.take i).map f++l.drop i
theorem Ga (f:α->α)(l:ar α)(i:Nat):(G5 f l i).length=l.length:=by grind[G5]
theorem F9 (f:α->α){l:ar α}{i:Nat}(h:i<l.length):idx (G5 f l i) (i:Int)=some l[i]:=by grind[M5,G5]
theorem Gb (f:α->α){l:ar α}{i:Nat}(h:i<l.length):(G5 f l i).set i (f l[i])=G5 f l (i+1):=by grind[G5,cf,aR]
theorem F8 (f:α->α)(l:ar α):G5 f l l.length=l.map f:=by grind[G5]
def Za (n:Int)(f:az):az:=(f.1,f.2.1,Qp f.2.2.1 n,f.2.2.2)
theorem acC (l:ar az)(n:Int)(h:l.length<=10^9):rD l n=some (l.map (Za n)):=by unfold rD;rw[Ah l h,ab];refine bB (λi=>(G5 (Za n) l i,(i:Int))) l.length (by omega) (λi nx hi=>?_) (λnx=>?_);simp only[mX];rw[gN,F9 _ hi,aj (by omega) (by omega)];simp only[af,ab,aft,aw];rw[<-Gb _ hi];rfl;simp only[mX];rw[fF,ae,F8]
theorem adS (l:ar az)(n:Int)(h:l.length<=10^9):rY l n=some (l.map (Za n)):=by unfold rY;rw[eZ h,bE];refine bB (λi=>(G5 (Za n) l i,(i:Int))) l.length (by omega) (λi nx hi=>?_) (λnx=>?_);simp only[nf,Ga];rw[gN,F9 _ hi,aj (by omega) (by omega)];simp only[af,ab,agv,aw];rw[<-Gb _ hi];rfl;simp only[nf,Ga];rw[fF,ae,F8]
def Xu (a b:cJ):Prop:=∀(i:Nat)(h:Host),b.1[i]?=some h->∃h0,a.1[i]?=some h0/\WK h0 h
theorem Xu.refl (a:cJ):Xu a a:=λi h e=>⟨h,e,WK.refl h⟩
theorem Xu.trans {a b:cJ}(h:Xu a b)(g:Xu b c):Xu a c:=by intro i x e;obtain⟨y,e1,s1⟩:=g i x e;obtain⟨w,e2,s2⟩:=h i y e1;exact⟨w,e2,s2.trans s1⟩
theorem agb (K:Int->cJ->au R)(b:cJ)(hs:ar Host)(X:ar az×ar bA×bp×kf×cI×bp)(hl:hs.length<=1000)(z:∀h∈hs,DX 90000000 h):aH (sk K (hs.length:Int) b) fuel (0,hs,X)=K (hs.length:Int) (hs.map BH,X):=by refine bB (λi=>((i:Int),G5 BH hs i,X)) hs.length (by omega) (λi nx hi=>?_) (λnx=>?_);simp only[sk];have zh:=z _ (aE hi);rw[gN,F9 _ hi,aj (by omega) (by omega)];simp only[af,ab,NZ _ (zh.sz) (zh.z.mono),aw];rw[<-Gb _ hi];rfl;simp only[sk];rw[fF,ae,F8]
theorem akB (K:Int->cJ->au R)(b:cJ)(hs:ar Host)(X:ar az×ar bA×bp×kf×cI×bp)(hl:hs.length<=1000)(z:∀h∈hs,DX 90000000 h):aH (sm K (hs.length:Int) b) fuel (0,hs,X)=K (hs.length:Int) (hs.map Eu,X):=by refine bB (λi=>((i:Int),G5 Eu hs i,X)) hs.length (by omega) (λi nx hi=>?_) (λnx=>?_);simp only[sm];have zh:=z _ (aE hi);rw[gN,F9 _ hi,aj (by omega) (by omega)];simp only[af,ab,acB _ (zh.sz) (zh.z.mono),aw];rw[<-Gb _ hi];rfl;simp only[sm];rw[fF,ae,F8]
theorem ahb {N M:Nat}(hN:N<=M)(z:CX N c){f:Host->Host}(hf:∀h∈c.1,DX M (f h)):CX M (c.1.map f,c.2):=by have z':=z.mono hN;refine⟨⟨⟨by show(c.1.map f).length<=M;rw[bW];exact z'.z.1.1,λx hx=>?_⟩,z'.z.2⟩,λx hx=>?_⟩;obtain⟨h,hh,rfl⟩:=List.mem_map.1 hx;exact(hf h hh).z;obtain⟨h,hh,rfl⟩:=List.mem_map.1 hx;exact hf h hh
theorem adk (K:Int->cJ->au R)(b4:cJ)(hs:ar Host)(Y X:ar az×ar bA×bp×kf×cI×bp)(hl:hs.length<=1000)(z:∀h∈hs,DX 90000000 h):aH (nB K (hs,Y) b4) fuel (0,hs,X)=K (hs.length:Int) (hs.map BH,X):=by refine bB (λi=>((i:Int),G5 BH hs i,X)) hs.length (by omega) (λi nx hi=>?_) (λnx=>?_);simp only[nB,Ga];have zh:=z _ (aE hi);rw[gN,F9 _ hi,aN hi,aj (by omega) (by omega)];simp only[af,ab,Of _ (zh.sz) (zh.z.mono),aw];rw[<-Gb _ hi];rfl;simp only[nB,Ga];rw[fF,ae,F8]
theorem agQ (K:Int->cJ->au R)(b4:cJ)(hs:ar Host)(Y X:ar az×ar bA×bp×kf×cI×bp)(hl:hs.length<=1000)(z:∀h∈hs,DX 90000000 h):aH (nC K (hs,Y) b4) fuel (0,hs,X)=K (hs.length:Int) (hs.map Eu,X):=by refine bB (λi=>((i:Int),G5 Eu hs i,X)) hs.length (by omega) (λi nx hi=>?_) (λnx=>?_);simp only[nC,Ga];have zh:=z _ (aE hi);rw[gN,F9 _ hi,aN hi,aj (by omega) (by omega)];simp only[af,ab,adR _ (zh.sz) (zh.z.mono),aw];rw[<-Gb _ hi];rfl;simp only[nC,Ga];rw[fF,ae,F8]
def Gp:Nat->Bytes->Bytes
 |0,s=>s
 |j+1,s=>(Gp j s).set j 255
theorem JD (s:Bytes):∀n,(Gp n s).length=s.length
 |0=>rfl
 |n+1=>by rw[Gp,aL,JD s n]
theorem Rh (s:Bytes):∀n,n<=s.length->Gp n s=List.replicate n 255++s.drop n
 |0,_=>rfl
 |n+1,h=>by rw[Gp,Rh s n (by omega),List.set_append_right _ _ (by simp),List.length_replicate,hG,cf (by omega),List.set_cons_zero,List.replicate_succ',aW];rfl
theorem ints_set (s:Bytes)(i:Nat)(x:UInt8):(da s).set i (x.toNat:Int)=da (s.set i x):=(List.map_set ..).symm
theorem Vn {i:Nat}(h:i<s.length):idx (da s) (i:Int)=some (((s[i].toNat:Nat)):Int):=by grind[aN,da]
theorem adJ (n:Nat)(h:n<=1000000):md (n:Int) 255=some (List.replicate n 255):=by
 unfold md;rw[zip,aQ (by omega),aw];have e0:List.replicate n (0)=da (List.replicate n 0):=by simp[da]
 rw[e0];refine bB (λi=>(da (Gp i (List.replicate n 0)),(i:Int))) n (by omega) (λi nx hi=>?_) (λnx=>?_);have hl:i<(Gp i (List.replicate n 0)).length:=by rw[JD];simpa using hi
 simp only[nE];rw[gN,af,Vn hl,ab,ab,aj (by omega) (by omega),aw];exact congrArg (λz=>nx (z,((i+1)))) (ints_set _ i 255);simp only[nE];rw[fF,ae,Co,Rh _ _ (by simp)];simp
def Q8 (d:Bytes)(a:Nat):Nat->Bytes->Bytes
 |0,s=>s
 |j+1,s=>(Q8 d a j s).set (a+j) ((Q8 d a j s).getD (a+j) 0&&&d.getD j 0)
theorem Lz (d:Bytes)(a:Nat)(s:Bytes):∀n,(Q8 d a n s).length=s.length
 |0=>rfl
 |n+1=>by rw[Q8,aL,Lz d a s n]
theorem aqV (x y:UInt8):gQ (BitVec.toNat (BitVec.ofInt (IntKind.bits .u8) (x.toNat:Int)&&&BitVec.ofInt (IntKind.bits .u8) (y.toNat:Int)):Int)=(((x&&&y).toNat:Nat):Int):=by
 have e:BitVec.toNat (BitVec.ofInt 8 (x.toNat)&&&BitVec.ofInt 8 (y.toNat))=(x&&&y).toNat:=by simp_all
 show((BitVec.toNat (BitVec.ofInt 8 (x.toNat)&&&BitVec.ofInt 8 (y.toNat))):Int)%256=_;omega
theorem aoO {a:Nat}(h:a<s.length)(x:UInt8):xn s (a:Int) [x]=s.set a x:=by grind[xn,fO,List.set_eq_take_append_cons_drop]
def DS (x:di):Bool:=dp x.2.1 0 1&&(bif x.1==0 then(x.2.2.1==0)&&(x.2.2.2==([]:Bytes)) else(x.1==1)&&(dp (x.2.2.2.length:Int) 1 8&&dp x.2.2.1 0 (ak (96-(x.2.2.2.length:Int)))))
theorem afv (x:di):vM x=some (DS x):=by unfold vM DS;grind[cq,ab]
theorem agx (x:di):wI x=some (DS x):=by unfold wI DS;grind[cj,ab]
def CG (a b:Int):Int:=if a<b then a else b
def QP (f:bp)(x:di)(part:Int):bp:=
 bif !iQ f||(!DS x||decide (part<0)) then f else
 f.set x.2.1.toNat (bif x.1==0 then Gp (CG 96 part).toNat (f.getD x.2.1.toNat []) else Q8 x.2.2.2 x.2.2.1.toNat (CG (x.2.2.2.length:Int) part).toNat (f.getD x.2.1.toNat []))
theorem akr (f:bp)(x:di)(part:Int):(QP f x part).length=f.length:=by grind[QP]
theorem Sc {x:di}(h:DS x=true):(0<=x.2.1/\x.2.1<=1)/\((x.1==0)=false->x.2.2.2.length<=8/\0<=x.2.2.1/\x.2.2.1+(x.2.2.2.length:Int)<=96):=by grind[DS,bq,aj]
theorem Rk {f:bp}(h:iQ f=true){k:Int}(hk:0<=k/\k<=1):∃n:Nat,k=(n:Int)/\∃hn:n<f.length,f[n]=f.getD n []/\(f.getD n []).length=96:=by obtain⟨e,h0,h1⟩:=zu h;grind
theorem acA (f:bp)(x:di)(part:Int)(hl:f.length<=10^9):pQ f x part=some (QP f x part):=by
 unfold pQ QP;rw[mJ,nw f hl,ab,ab,Rr,ab,afv,ab];cases hf:iQ f;rfl;cases hx:DS x;rfl;cases hp:decide (part<0);case true=>rfl
 have hp:=iE hp;obtain⟨hb,hw⟩:=Sc hx;obtain⟨n,en,hn,e0,h96⟩:=Rk hf hb;simp only[ai,ae,ab,bR,en,aN hn,aw];rw[aQ (by rw[e0];omega),e0];generalize f.getD n []=s at h96;cases hk:x.1==0 with
 |true=>
  rw[af,af];have hm:0<=CG 96 part/\CG 96 part<=96:=by unfold CG;split<;>omega
  have em:(if(96)<part then 96 else part)=(((CG 96 part).toNat)):=by unfold CG at hm⊢;omega
  refine bB (λi=>(da (Gp i s),(i:Int))) (CG 96 part).toNat (by omega) (λi nx hi=>?_) (λnx=>?_);have hl:i<(Gp i s).length:=by rw[JD];omega
  simp only[pb];rw[em,gN,af,Vn hl,ab,ab,aj (by omega) (by omega),aw];exact congrArg (λz=>nx (z,((i+1)))) (ints_set _ i 255);simp only[pb];rw[em,fF,ae,Co]
 |false=>
  obtain⟨h8,ha,h9⟩:=hw hk;obtain⟨a,ea⟩:=aD ha;rw[ae,ae,ea,aw];have hm:0<=CG (x.2.2.2.length) part/\CG (x.2.2.2.length) part<=(x.2.2.2.length):=by unfold CG;split<;>omega
  have em:(if(x.2.2.2.length)<part then(x.2.2.2.length:Int) else part)=(((CG (x.2.2.2.length) part).toNat):Int):=by unfold CG at hm⊢;omega
  refine bB (λi=>(da (Q8 x.2.2.2 a i s),(i:Int))) (CG (x.2.2.2.length) part).toNat (by omega) (λi nx hi=>?_) (λnx=>?_);have hl:a+i<(Q8 x.2.2.2 a i s).length:=by rw[Lz];omega
  have hd:i<x.2.2.2.length:=by omega
  simp only[nR];rw[em,gN,af,ea,aj (by omega) (by omega),show(a:Int)+(i)=((a+i:Nat)) by omega,Vn hl,aN hd,ab,ab,ab,ab,aj (by omega) (by omega),aw,aqV];rw[ints_set,Q8,dv hl,dv hd];rfl;simp only[nR];rw[em,fF,ae,Co]
theorem adQ (f:bp)(x:di)(part:Int)(hl:f.length<=10^9):qE f x part=some (QP f x part):=by
 unfold qE QP;rw[eZ hl,Nl,ab,agx,ab];cases hf:iQ f;rfl;cases hx:DS x;rfl;cases hp:decide (part<0);case true=>rfl
 have hp:=iE hp;obtain⟨hb,hw⟩:=Sc hx;obtain⟨n,en,hn,e0,h96⟩:=Rk hf hb;simp only[ai,ae,ab,bR,en,aN hn,aw,bE];rw[e0];generalize f.getD n []=s at h96;cases hk:x.1==0 with
 |true=>
  rw[af,af];have hm:0<=CG 96 part/\CG 96 part<=96:=by unfold CG;split<;>omega
  have em:(if(96)<part then 96 else part)=(((CG 96 part).toNat)):=by unfold CG at hm⊢;omega
  rw[em,adJ _ (by omega),ab,FE _ _ _ (by omega),ab];have e:xn s 0 (List.replicate (CG 96 part).toNat 255)=Gp (CG 96 part).toNat s:=by rw[Rh _ _ (by omega)];unfold xn fO;rw[ax (by rw[List.length_replicate];omega),af];simp
  rw[e]
 |false=>
  obtain⟨h8,ha,h9⟩:=hw hk;obtain⟨a,ea⟩:=aD ha;rw[ae,ae,ea,aw];have hm:0<=CG (x.2.2.2.length) part/\CG (x.2.2.2.length) part<=(x.2.2.2.length):=by unfold CG;split<;>omega
  have em:(if(x.2.2.2.length)<part then(x.2.2.2.length:Int) else part)=(((CG (x.2.2.2.length) part).toNat):Int):=by unfold CG at hm⊢;omega
  refine bB (λi=>(Q8 x.2.2.2 a i s,(i:Int))) (CG (x.2.2.2.length) part).toNat (by omega) (λi nx hi=>?_) (λnx=>?_);have hl:a+i<(Q8 x.2.2.2 a i s).length:=by rw[Lz];omega
  have hd:i<x.2.2.2.length:=by omega
  simp only[py];rw[em,gN,af,ea,aj (by omega) (by omega),show(a:Int)+(i)=((a+i:Nat)) by omega,aN hl,aN hd,ab,ab,aqV,FE _ _ _ (by rw[Lz];omega),ab,aj (by omega) (by omega)];have e:aS [(((((Q8 x.2.2.2 a i s)[a+i]&&&x.2.2.2[i]).toNat)))]=[(Q8 x.2.2.2 a i s)[a+i]&&&x.2.2.2[i]]:=Co [_];rw[e,aoO hl,Q8,dv hl,dv hd];rfl;simp only[py];rw[em,fF,ae]
def arK:di:=(0,0,0,([]:Bytes))
def yi (s:Bytes)(b:Int):Nat->ar di
 |0=>[(0,b,0,([]:Bytes))]
 |i+1=>yi s b i++[(1,b,((8+8*i:Nat):Int),(s.drop (8+8*i)).take 8)]
theorem zk (s:Bytes)(b:Int):∀i,(yi s b i).length=i+1
 |0=>rfl
 |i+1=>by rw[yi,ay,zk s b i];rfl
def CQ (f:bp)(s:Bytes):ar di:=
 bif !iQ f||(decide ((s.length:Int)>96)||decide (jI s<0)) then [] else
 yi s (bif pN f==0 then 1 else 0) ((s.length-1)/8)++[(1,(bif pN f==0 then 1 else 0),0,s.take 8)]
theorem Wf (f:bp)(s:Bytes):(CQ f s).length<=14:=by
 unfold CQ;cases hc: !iQ f||(decide ((s.length:Int)>96)||decide (jI s<0));case true=>exact eT _
 rw[ae,ay,zk];grind
theorem Y5 {a:Nat}(h:a<=s.length){j:Int}(hj:j=if(s.length:Int)<((a+8:Nat):Int) then(s.length:Int) else((a+8:Nat):Int)):sub s (a:Int) j=some ((s.drop a).take 8):=by grind[sub,aw,List.drop_take]
theorem ajc (f:bp)(s:Bytes)(hs:s.length<=10^9):wa f s=some (CQ f s):=by
 unfold wa CQ;rw[Rr,ab,P9 s hs,ab];cases hf:iQ f;rfl;cases h96:decide ((s.length:Int)>96);case true=>rfl
 cases hv:decide (jI s<0);case true=>rfl
 have h12:=ah7 (iE hv);have key:∀b:Int,aH (jv (λy6 y7=>aa (sub s 0 (if(s.length:Int)<8 then(s.length) else 8)) λx8=>room (List.length y6+List.length [((1,b,0,x8))]) (some (y6++[(1,b,0,x8)]))) s b) fuel ([(0,b,0,([]))],8)=some (yi s b ((s.length-1)/8)++[(1,b,0,s.take 8)]):=by intro b;refine bB (λi=>(yi s b i,((8+8*i:Nat):Int))) ((s.length-1)/8) (by omega) (λi nx hi=>?_) (λnx=>?_);simp only[jv];rw[gN,af,aj (by omega) (by omega),Y5 (by omega) (by rfl),ab,aQ (by rw[zk,aY];omega),yi];exact congrArg (λz=>nx (yi s b i++[(1,b,((8+8*i):Int),(s.drop (8+8*i)).take 8)],z)) (by omega);simp only[jv];rw[fF,ae,nt,DT (by omega) (by omega),ab,aQ (by rw[zk,aY];omega)];rfl
 simp only[ai,ae,ab,bR,Vd];cases pN f==0;exact key 0;exact key 1
theorem akj (f:bp)(s:Bytes)(hs:s.length<=10^9):wW f s=some (CQ f s):=by
 unfold wW CQ;rw[Nl,ab,T0 s hs,ab];cases hf:iQ f;rfl;cases h96:decide ((s.length:Int)>96);case true=>rfl
 cases hv:decide (jI s<0);case true=>rfl
 have h12:=ah7 (iE hv);have key:∀b:Int,room (List.length ([]:ar di)+List.length [((0,b,0,([]:Bytes)))]) (aH (jw (λy6 y7=>aa (sub s 0 8) λx8=>room (List.length y6+List.length [((1,b,0,x8))]) (some (y6++[(1,b,0,x8)]))) s b) fuel (([])++[(0,b,0,([]))],8))=some (yi s b ((s.length-1)/8)++[(1,b,0,s.take 8)]):=by intro b;refine bB (λi=>(yi s b i,((8+8*i:Nat):Int))) ((s.length-1)/8) (by omega) (λi nx hi=>?_) (λnx=>?_);simp only[jw];rw[gN,af,aj (by omega) (by omega),Y5 (by omega) (by omega),ab,aQ (by rw[zk,aY];omega),yi];exact congrArg (λz=>nx (yi s b i++[(1,b,((8+8*i):Int),(s.drop (8+8*i)).take 8)],z)) (by omega);simp only[jw];rw[fF,ae,DT (by omega) (by omega),ab,aQ (by rw[zk,aY];omega)];rfl
 simp only[ai,ae,ab,bR,V2];cases pN f==0;exact key 0;exact key 1
def Xq (f:bp)(l:ar di)(n part:Int):Nat->bp
 |0=>f
 |i+1=>QP (Xq f l n part i) (l.getD i arK) (if(i:Int)<n then 96 else part)
theorem MH (f:bp)(l:ar di)(n part:Int):∀i,(Xq f l n part i).length=f.length
 |0=>rfl
 |i+1=>by rw[Xq,akr,MH f l n part i]
def anN (f:bp)(l:ar di)(n part:Int):bp:=Xq f l n part (min l.length (n.toNat+1))
theorem afy (f:bp)(l:ar di)(n part:Int)(hf:f.length<=10^9)(hl:l.length<=1000)(hn:0<=n/\n<=1000)(hp:0<=part):AB f l n part=some (anN f l n part):=by
 unfold AB anN;rw[mJ,nw f hf,ab,ab,fF,ae,fF,ab,ae];refine bB (λi=>((i:Int),Xq f l n part i)) (min l.length n.toNat) (by omega) (λi nx hi=>?_) (λnx=>?_);have Sx:i<l.length:=by omega
 simp only[tJ];rw[gN,af,gN,ab,af,aN Sx,ab,acA _ _ _ (by rw[MH];exact hf),ab,aj (by omega) (by omega),Xq,dv Sx,zip];rfl;simp only[tJ];have e:(cond (decide ((((min l.length n.toNat:Nat)):Int)<(l.length))) (some (decide ((((min l.length n.toNat)))<n))) (some false))=some false:=by by_cases h:(((min l.length n.toNat:Nat)):Int)<(l.length);rw[ax h,af,fF];rw[aq h];rfl
 rw[e,ab,ae];by_cases h:n<(l.length);obtain⟨k,hk⟩:=aD hn.1;subst hk;have hk2:k<l.length:=by omega
 rw[ax h,af,aN hk2,ab,aw,jt (by omega),acA _ _ _ (by rw[MH];exact hf),ab,jt (by omega),Xq,dv hk2,nt];rw[aq h,ae,gX (by omega),gX (by omega)]
theorem agz (f:bp)(l:ar di)(n part:Int)(hf:f.length<=10^9)(hl:l.length<=1000)(hn:0<=n/\n<=1000)(hp:0<=part):BX f l n part=some (anN f l n part):=by
 unfold BX anN;rw[eZ hf,fF,ae,fF,ab,ae,bE];refine bB (λi=>((i:Int),Xq f l n part i)) (min l.length (n.toNat+1)) (by omega) (λi nx hi=>?_) (λnx=>?_);have Sx:i<l.length:=by omega
 simp only[uh];rw[gN,af,gN,ab,af,aj (by omega) (by omega),aN Sx,Xq,dv Sx];by_cases h:(i)<n;rw[ax h,af,ab,adQ _ _ _ (by rw[MH];exact hf),ab,aM h];rfl;rw[aq h,ae,ab,adQ _ _ _ (by rw[MH];exact hf),ab,aK h];rfl;simp only[uh];have e:(cond (decide ((((min l.length (n.toNat+1):Nat)):Int)<(l.length))) (some (decide ((((min l.length (n.toNat+1))))<=n))) (some false))=some false:=by by_cases h:(((min l.length (n.toNat+1):Nat)):Int)<(l.length);rw[ax h,af,fF];rw[aq h];rfl
 rw[e,ab,ae]
theorem adW {f:bp}(h:iQ f=true)(x:di)(part:Int):iQ (QP f x part)=true:=by
 unfold QP;cases hc: !iQ f||(!DS x||decide (part<0));case true=>exact h
 simp only[dw,dZ]at hc;obtain⟨hb,_⟩:=Sc hc.2.1;obtain⟨n,en,hn,e0,h96⟩:=Rk h hb;refine(aiF h hb ?_).1;rw[en,aw];cases x.1==0;rw[ae,Lz];exact h96;rw[af,JD];exact h96
theorem KJ {f:bp}(h:iQ f=true)(l:ar di)(n part:Int):∀i,iQ (Xq f l n part i)=true
 |0=>h
 |i+1=>adW (KJ h l n part i) _ _
def UT (k:kf)(n:Int):kf:=(ak (k.1+ak (n-(if k.2.2.2<n then k.2.2.2 else n))),k.2.1,k.2.2.1,ak (k.2.2.2-(if k.2.2.2<n then k.2.2.2 else n)))
theorem akH (a b c:Int):ak (ak (a+b)-c)=ak (a+ak (b-c)):=by simp only[ak,gQ,IntKind.wrap,IntKind.bits,IntKind.signed];simp;omega
def akS (k:kf)(n:Int):kf:=
 bif !Gk k|| !dp n 0 1000000 then k else
 bif !Gk ((UT k (ak (Int.tdiv (ak (k.2.1+ak (k.2.2.1*n))) 1048576))).1,tmod (ak (k.2.1+ak (k.2.2.1*n))) 1048576,(UT k (ak (Int.tdiv (ak (k.2.1+ak (k.2.2.1*n))) 1048576))).2.2) then k else
 ((UT k (ak (Int.tdiv (ak (k.2.1+ak (k.2.2.1*n))) 1048576))).1,tmod (ak (k.2.1+ak (k.2.2.1*n))) 1048576,(UT k (ak (Int.tdiv (ak (k.2.1+ak (k.2.2.1*n))) 1048576))).2.2)
theorem acg (k:kf)(n:Int):tw k n=some (akS k n):=by grind[Ry,UT,tw,akS,X7,cq,ab,dp]
theorem adz (k:kf)(n:Int):tX k n=some (akS k n):=by
 have eg:∀m,FW k m=some (UT k m):=λm=>by unfold FW UT;rw[akH]
 grind[tX,akS,R4,cj,ab]
end
end Go.Pu
section
namespace Go.Pu
open Go.Dn
open List (range)
open Int (tmod)
set_option linter.unusedVariables false
set_option linter.unusedSimpArgs false
set_option maxRecDepth 100000
set_option maxHeartbeats 4000000
theorem Fy:Zm (.sl (.int .i64)) eC:=by
 refine aaj (e:=(.int .i64)) (T:=qj (λ_ y _ z=>some (y,z))) (λl i hi k nx h1 h2 h3 hx=>?_) (λl k nx=>?_)
 ·try simp only[kD,nI,kC,nK,de,df,<-dI]at h2
  simp only[qj];rw[gN];simp (disch:=omega) only[af,aN hi,ab,ri,aL,dE,aw,aj,aK,ne3,jL];try simp only[HX,RH,Nc,RI,kD,nI,kC,nK,de,df,<-dI]
 simp only[qj];rw[fF];rfl
theorem Hb:Zm (.sl .str) iY:=by
 refine aaj (e:=.str) (T:=lM (λ_ y _ z=>some (y,z))) (λl i hi k nx h1 h2 h3 hx=>?_) (λl k nx=>?_)
 ·try simp only[kD,nI,kC,nK,de,df,<-dI]at h2
  simp only[lM];rw[gN];simp (disch:=omega) only[af,aN hi,ab,ri,aL,dE,aw,aj,aK,ne3,jL];try simp only[HX,RH,Nc,RI,kD,nI,kC,nK,de,df,<-dI]
 simp only[lM];rw[fF];rfl
theorem acR:Zm (.sl eE) tS:=Mj (e:=eE) (T:=vd (λ_ y _ z=>some (y,z))) (f:=cn) (.pair (.int _) (.pair (.int _) (.pair (.int _) .bool))) jL ⟨bM,⟨bM,⟨bM,bM⟩⟩⟩ (λl k i nx=>by kernel_rfl)
theorem amG:Zm (.sl kU) Bp:=Mj (e:=kU) (T:=Bq (λ_ y _ z=>some (y,z))) (f:=cn) (.pair (.int _) (.pair (.int _) (.sl (e:=(.int .i64)) eC))) jL ⟨bM,⟨bM,Fy⟩⟩ (λl k i nx=>by kernel_rfl)
theorem acS:Zm (.sl dN) tU:=Mj (e:=dN) (T:=ve (λ_ y _ z=>some (y,z))) (f:=cn) (.pair (.pair (.int _) (.pair (.int _) (.pair (.int _) (.int _)))) (.pair (.pair (.int _) (.pair (.int _) (.int _))) (.pair (.pair (.int _) (.pair (.int _) (.int _))) (.pair (.pair (.pair (.int _) (.pair (.int _) (.pair (.int _) (.pair (.int _) (.pair (.int _) (.pair (.int _) (.pair (.int _) (.pair (.int _) (.pair (.int _) (.pair (.int _) (.pair (.int _) (.pair (.int _) (.pair (.int _) (.pair (.int _) (.pair (.int _) .str))))))))))))))) (.pair (.int _) (.int _))) (.pair .bool (.int _)))))) jL ⟨⟨bM,⟨bM,⟨bM,bM⟩⟩⟩,⟨⟨bM,⟨bM,bM⟩⟩,⟨⟨bM,⟨bM,bM⟩⟩,⟨⟨⟨bM,⟨bM,⟨bM,⟨bM,⟨bM,⟨bM,⟨bM,⟨bM,⟨bM,⟨bM,⟨bM,⟨bM,⟨bM,⟨bM,⟨bM,bM⟩⟩⟩⟩⟩⟩⟩⟩⟩⟩⟩⟩⟩⟩⟩,⟨bM,bM⟩⟩,⟨bM,bM⟩⟩⟩⟩⟩ (λl k i nx=>by kernel_rfl)
theorem amE:Zm (.sl jQ) Bl:=Mj (e:=jQ) (T:=Bm (λ_ y _ z=>some (y,z))) (f:=cn) (.pair (.int _) (.pair (.int _) (.pair (.int _) (.sl (e:=(.int .i64)) eC)))) jL ⟨bM,⟨bM,⟨bM,Fy⟩⟩⟩ (λl k i nx=>by kernel_rfl)
theorem afR:Zm (.sl gV) wx:=Mj (e:=gV) (T:=xm (λ_ y _ z=>some (y,z))) (f:=cn) (.pair (.int _) (.pair (.int _) (.pair (.int _) (.pair (.int _) (.pair .bool .bool))))) jL ⟨bM,⟨bM,⟨bM,⟨bM,⟨bM,bM⟩⟩⟩⟩⟩ (λl k i nx=>by kernel_rfl)
theorem amC:Zm (.sl .bool) Bh:=by
 refine aaj (e:=.bool) (T:=oc (λ_ y _ z=>some (y,z))) (λl i hi k nx h1 h2 h3 hx=>?_) (λl k nx=>?_)
 ·try simp only[kD,nI,kC,nK,de,df,<-dI]at h2
  simp only[oc];rw[gN];simp (disch:=omega) only[af,aN hi,ab,ri,aL,dE,aw,aj,aK,ne3,jL];try simp only[HX,RH,Nc,RI,kD,nI,kC,nK,de,df,<-dI]
 simp only[oc];rw[fF];rfl
theorem amF:Zm (.sl tr) Bn:=Mj (e:=tr) (T:=Bo (λ_ y _ z=>some (y,z))) (f:=cn) (.pair (.int _) (.pair (.int _) (.pair (.int _) (.pair (.int _) (.pair (.int _) (.pair (.int _) (.pair (.int _) (.pair (.int _) (.int _))))))))) jL ⟨bM,⟨bM,⟨bM,⟨bM,⟨bM,⟨bM,⟨bM,⟨bM,bM⟩⟩⟩⟩⟩⟩⟩⟩ (λl k i nx=>by kernel_rfl)
theorem amH:Zm (.sl nj) Br:=Mj (e:=nj) (T:=Bs (λ_ y _ z=>some (y,z))) (f:=cn) (.pair (.int _) (.pair (.pair (.int _) (.pair (.int _) (.pair (.int _) (.pair (.int _) (.int _))))) (.int _))) jL ⟨bM,⟨⟨bM,⟨bM,⟨bM,⟨bM,bM⟩⟩⟩⟩,bM⟩⟩ (λl k i nx=>by kernel_rfl)
theorem afQ:Zm (.sl eu) wu:=Mj (e:=eu) (T:=xl (λ_ y _ z=>some (y,z))) (f:=cn) (.pair (.pair (.int _) (.pair (.int _) (.pair (.int _) (.pair (.int _) (.int _))))) (.pair (.int _) (.pair .str .bool))) jL ⟨⟨bM,⟨bM,⟨bM,⟨bM,bM⟩⟩⟩⟩,⟨bM,⟨bM,bM⟩⟩⟩ (λl k i nx=>by kernel_rfl)
theorem amD:Zm (.sl cR) GQ:=Mj (e:=cR) (T:=Bj (λ_ y _ z=>some (y,z))) (f:=cn) (.pair (.sl (e:=.str) iY) (.pair (.sl (e:=eE) tS) (.pair (.pair (.pair (.int _) (.pair (.int _) (.pair (.int _) (.int _)))) (.pair (.pair (.int _) (.pair (.int _) (.pair (.int _) (.sl (e:=(.int .i64)) eC)))) (.pair (.sl (e:=kU) Bp) (.int _)))) (.pair (.sl (e:=dN) tU) (.pair (.sl (e:=jQ) Bl) (.pair (.sl (e:=gV) wx) (.pair (.sl (e:=.bool) Bh) (.pair (.pair (.int _) (.pair .bool (.sl (e:=(.int .i64)) eC))) (.pair (.pair (.sl (e:=tr) Bn) (.pair (.sl (e:=nj) Br) (.pair .str (.sl (e:=(.int .i64)) eC)))) (.pair (.sl (e:=eu) wu) (.pair .bool (.pair (.sl (e:=.str) iY) (.pair (.sl (e:=(.int .i64)) eC) (.pair (.sl (e:=(.int .i64)) eC) (.pair (.int _) (.pair (.int _) (.pair (.int _) (.pair (.int _) (.int _))))))))))))))))))) jL ⟨Hb,⟨acR,⟨⟨⟨bM,⟨bM,⟨bM,bM⟩⟩⟩,⟨⟨bM,⟨bM,⟨bM,Fy⟩⟩⟩,⟨amG,bM⟩⟩⟩,⟨acS,⟨amE,⟨afR,⟨amC,⟨⟨bM,⟨bM,Fy⟩⟩,⟨⟨amF,⟨amH,⟨bM,Fy⟩⟩⟩,⟨afQ,⟨bM,⟨Hb,⟨Fy,⟨Fy,⟨bM,⟨bM,⟨bM,⟨bM,bM⟩⟩⟩⟩⟩⟩⟩⟩⟩⟩⟩⟩⟩⟩⟩⟩⟩⟩ (λl k i nx=>by kernel_rfl)
theorem NH:Zm (.sl cz) np:=Mj (e:=cz) (T:=ly (λ_ y _ z=>some (y,z))) (f:=cn) (.pair (.int _) (.pair (.int _) (.pair (.pair (.int _) (.pair (.int _) (.int _))) (.pair .bool (.pair (.int _) (.int _)))))) jL ⟨bM,⟨bM,⟨⟨bM,⟨bM,bM⟩⟩,⟨bM,⟨bM,bM⟩⟩⟩⟩⟩ (λl k i nx=>by kernel_rfl)
theorem acQ:Zm (.sl fP) Bk:=Mj (e:=fP) (T:=vc (λ_ y _ z=>some (y,z))) (f:=cn) (.pair (.pair (.int _) (.pair .bool (.sl (e:=(.int .i64)) eC))) (.pair (.int _) (.pair (.int _) (.int _)))) jL ⟨⟨bM,⟨bM,Fy⟩⟩,⟨bM,⟨bM,bM⟩⟩⟩ (λl k i nx=>by kernel_rfl)
theorem ac0:MtM (.sl .str) Bi:=by intro a h k h1 h2;simp (disch:=omega) only[Bi,ab,Hb.top a h]
theorem TG (a:cJ):mn gW a=mn (.sl cR) a.1+(mn (.sl cz) a.2.1+(mn (.sl fP) a.2.2.1+(mn (.sl .str) a.2.2.2.1+((0+(0+(0+0)))+(mn (.sl (.int .i64)) a.2.2.2.2.2.1+(mn (.sl .str) a.2.2.2.2.2.2)))))):=rfl
theorem ahC (a:cJ)(k:Int):mkT gW a k=(mkT (.sl cR) a.1 (k),mkT (.sl cz) a.2.1 (k+((mn (.sl cR) a.1:Nat):Int)),mkT (.sl fP) a.2.2.1 (k+((mn (.sl cR) a.1:Nat):Int)+((mn (.sl cz) a.2.1:Nat):Int)),mkT (.sl .str) a.2.2.2.1 (k+((mn (.sl cR) a.1:Nat):Int)+((mn (.sl cz) a.2.1:Nat):Int)+((mn (.sl fP) a.2.2.1:Nat):Int)),a.2.2.2.2.1,mkT (.sl (.int .i64)) a.2.2.2.2.2.1 (k+((mn (.sl cR) a.1:Nat):Int)+((mn (.sl cz) a.2.1:Nat):Int)+((mn (.sl fP) a.2.2.1:Nat):Int)+((mn (.sl .str) a.2.2.2.1:Nat):Int)),mkT (.sl .str) a.2.2.2.2.2.2 (k+((mn (.sl cR) a.1:Nat):Int)+((mn (.sl cz) a.2.1:Nat):Int)+((mn (.sl fP) a.2.2.1:Nat):Int)+((mn (.sl .str) a.2.2.2.1:Nat):Int)+((mn (.sl (.int .i64)) a.2.2.2.2.2.1:Nat):Int))):=by simp only[acP,ahF,acO,ahG,XB,abn,XA,abo,de,Int.natCast_zero,Int.add_zero,<-dI]
theorem ahH:MtM gW xK:=by intro a h k h1 h2;rw[TG]at h2;simp (disch:=omega) only[xK,ab,amD.top _ h.1,NH.top _ h.2.1,acQ.top _ h.2.2.1,ac0 _ h.2.2.2.1,Hb.top _ h.2.2.2.1,Fy.top _ h.2.2.2.2.2.1,ac0 _ h.2.2.2.2.2.2,Hb.top _ h.2.2.2.2.2.2];rw[ahC,TG];refine congrArg some (Prod.ext (by simp only;omega) ?_);first|rfl|simp only[acP,ahF,acO,ahG,XB,abn,XA,abo,de,Int.natCast_zero,Int.add_zero,<-dI]
theorem Fc:Zl (.sl (.int .i64)) ez:=by
 refine aai (e:=(.int .i64)) (H:=λv=>qi (λy _=>some y) (λ_ y _=>some y) v 0) (λl i hi x k nx hm h1 h2 h3 hx=>?_) (λl k nx=>?_)
 ·try simp only[kD,nI,kC,nK,de,df,<-dI]at h2
  try simp only[HX,RH,Nc,RI,kD,nI,kC,nK,de,df,<-dI]at hm
  simp only[qi];rw[gN];simp (disch:=omega) only[af,aN hi,hm,ab,bne_self_eq_false,gz,ai,ae,aj,aK,ne3,Jz,jL];try simp only[kD,nI,kC,nK,de,df,<-dI]
 simp only[qi];rw[fF];rfl
theorem Gw:Zl (.sl .str) iX:=by
 refine aai (e:=.str) (H:=λv=>lL (λy _=>some y) (λ_ y _=>some y) v 0) (λl i hi x k nx hm h1 h2 h3 hx=>?_) (λl k nx=>?_)
 ·try simp only[kD,nI,kC,nK,de,df,<-dI]at h2
  try simp only[HX,RH,Nc,RI,kD,nI,kC,nK,de,df,<-dI]at hm
  simp only[lL];rw[gN];simp (disch:=omega) only[af,aN hi,hm,ab,bne_self_eq_false,gz,ai,ae,aj,aK,ne3,Jz,jL];try simp only[kD,nI,kC,nK,de,df,<-dI]
 simp only[lL];rw[fF];rfl
theorem abZ:Zl (.sl eE) tQ:=Mi (e:=eE) (H:=λv=>uY (λy _=>some y) (λ_ y _=>some y) v 0) (bad:=λ_ i k=>some (-1)) (f:=cn) (.pair (.int _) (.pair (.int _) (.pair (.int _) .bool))) jL ⟨bM,⟨bM,⟨bM,bM⟩⟩⟩ (λl k i nx=>by kernel_rfl)
theorem alH:Zl (.sl kU) Bd:=Mi (e:=kU) (H:=λv=>Be (λy _=>some y) (λ_ y _=>some y) v 0) (bad:=λ_ i k=>some (-1)) (f:=cn) (.pair (.int _) (.pair (.int _) (.sl (e:=(.int .i64)) ez))) jL ⟨bM,⟨bM,Fc⟩⟩ (λl k i nx=>by kernel_rfl)
theorem ab0:Zl (.sl dN) tR:=Mi (e:=dN) (H:=λv=>uZ (λy _=>some y) (λ_ y _=>some y) v 0) (bad:=λ_ i k=>some (-1)) (f:=cn) (.pair (.pair (.int _) (.pair (.int _) (.pair (.int _) (.int _)))) (.pair (.pair (.int _) (.pair (.int _) (.int _))) (.pair (.pair (.int _) (.pair (.int _) (.int _))) (.pair (.pair (.pair (.int _) (.pair (.int _) (.pair (.int _) (.pair (.int _) (.pair (.int _) (.pair (.int _) (.pair (.int _) (.pair (.int _) (.pair (.int _) (.pair (.int _) (.pair (.int _) (.pair (.int _) (.pair (.int _) (.pair (.int _) (.pair (.int _) .str))))))))))))))) (.pair (.int _) (.int _))) (.pair .bool (.int _)))))) jL ⟨⟨bM,⟨bM,⟨bM,bM⟩⟩⟩,⟨⟨bM,⟨bM,bM⟩⟩,⟨⟨bM,⟨bM,bM⟩⟩,⟨⟨⟨bM,⟨bM,⟨bM,⟨bM,⟨bM,⟨bM,⟨bM,⟨bM,⟨bM,⟨bM,⟨bM,⟨bM,⟨bM,⟨bM,⟨bM,bM⟩⟩⟩⟩⟩⟩⟩⟩⟩⟩⟩⟩⟩⟩⟩,⟨bM,bM⟩⟩,⟨bM,bM⟩⟩⟩⟩⟩ (λl k i nx=>by kernel_rfl)
theorem alF:Zl (.sl jQ) AZ:=Mi (e:=jQ) (H:=λv=>Ba (λy _=>some y) (λ_ y _=>some y) v 0) (bad:=λ_ i k=>some (-1)) (f:=cn) (.pair (.int _) (.pair (.int _) (.pair (.int _) (.sl (e:=(.int .i64)) ez)))) jL ⟨bM,⟨bM,⟨bM,Fc⟩⟩⟩ (λl k i nx=>by kernel_rfl)
theorem afa:Zl (.sl gV) wq:=Mi (e:=gV) (H:=λv=>xk (λy _=>some y) (λ_ y _=>some y) v 0) (bad:=λ_ i k=>some (-1)) (f:=cn) (.pair (.int _) (.pair (.int _) (.pair (.int _) (.pair (.int _) (.pair .bool .bool))))) jL ⟨bM,⟨bM,⟨bM,⟨bM,⟨bM,bM⟩⟩⟩⟩⟩ (λl k i nx=>by kernel_rfl)
theorem alD:Zl (.sl .bool) AU:=by
 refine aai (e:=.bool) (H:=λv=>oa (λy _=>some y) (λ_ y _=>some y) v 0) (λl i hi x k nx hm h1 h2 h3 hx=>?_) (λl k nx=>?_)
 ·try simp only[kD,nI,kC,nK,de,df,<-dI]at h2
  try simp only[HX,RH,Nc,RI,kD,nI,kC,nK,de,df,<-dI]at hm
  simp only[oa];rw[gN];simp (disch:=omega) only[af,aN hi,hm,ab,bne_self_eq_false,gz,ai,ae,aj,aK,ne3,Jz,jL];try simp only[kD,nI,kC,nK,de,df,<-dI]
 simp only[oa];rw[fF];rfl
theorem alG:Zl (.sl tr) Bb:=Mi (e:=tr) (H:=λv=>Bc (λy _=>some y) (λ_ y _=>some y) v 0) (bad:=λ_ i k=>some (-1)) (f:=cn) (.pair (.int _) (.pair (.int _) (.pair (.int _) (.pair (.int _) (.pair (.int _) (.pair (.int _) (.pair (.int _) (.pair (.int _) (.int _))))))))) jL ⟨bM,⟨bM,⟨bM,⟨bM,⟨bM,⟨bM,⟨bM,⟨bM,bM⟩⟩⟩⟩⟩⟩⟩⟩ (λl k i nx=>by kernel_rfl)
theorem alI:Zl (.sl nj) Bf:=Mi (e:=nj) (H:=λv=>Bg (λy _=>some y) (λ_ y _=>some y) v 0) (bad:=λ_ i k=>some (-1)) (f:=cn) (.pair (.int _) (.pair (.pair (.int _) (.pair (.int _) (.pair (.int _) (.pair (.int _) (.int _))))) (.int _))) jL ⟨bM,⟨⟨bM,⟨bM,⟨bM,⟨bM,bM⟩⟩⟩⟩,bM⟩⟩ (λl k i nx=>by kernel_rfl)
theorem ae9:Zl (.sl eu) wo:=Mi (e:=eu) (H:=λv=>xj (λy _=>some y) (λ_ y _=>some y) v 0) (bad:=λ_ i k=>some (-1)) (f:=cn) (.pair (.pair (.int _) (.pair (.int _) (.pair (.int _) (.pair (.int _) (.int _))))) (.pair (.int _) (.pair .str .bool))) jL ⟨⟨bM,⟨bM,⟨bM,⟨bM,bM⟩⟩⟩⟩,⟨bM,⟨bM,bM⟩⟩⟩ (λl k i nx=>by kernel_rfl)
theorem alE:Zl (.sl cR) GP:=Mi (e:=cR) (H:=λv=>AX (λy _=>some y) (λ_ y _=>some y) v 0) (bad:=λ_ i k=>some (-1)) (f:=cn) (.pair (.sl (e:=.str) iX) (.pair (.sl (e:=eE) tQ) (.pair (.pair (.pair (.int _) (.pair (.int _) (.pair (.int _) (.int _)))) (.pair (.pair (.int _) (.pair (.int _) (.pair (.int _) (.sl (e:=(.int .i64)) ez)))) (.pair (.sl (e:=kU) Bd) (.int _)))) (.pair (.sl (e:=dN) tR) (.pair (.sl (e:=jQ) AZ) (.pair (.sl (e:=gV) wq) (.pair (.sl (e:=.bool) AU) (.pair (.pair (.int _) (.pair .bool (.sl (e:=(.int .i64)) ez))) (.pair (.pair (.sl (e:=tr) Bb) (.pair (.sl (e:=nj) Bf) (.pair .str (.sl (e:=(.int .i64)) ez)))) (.pair (.sl (e:=eu) wo) (.pair .bool (.pair (.sl (e:=.str) iX) (.pair (.sl (e:=(.int .i64)) ez) (.pair (.sl (e:=(.int .i64)) ez) (.pair (.int _) (.pair (.int _) (.pair (.int _) (.pair (.int _) (.int _))))))))))))))))))) jL ⟨Gw,⟨abZ,⟨⟨⟨bM,⟨bM,⟨bM,bM⟩⟩⟩,⟨⟨bM,⟨bM,⟨bM,Fc⟩⟩⟩,⟨alH,bM⟩⟩⟩,⟨ab0,⟨alF,⟨afa,⟨alD,⟨⟨bM,⟨bM,Fc⟩⟩,⟨⟨alG,⟨alI,⟨bM,Fc⟩⟩⟩,⟨ae9,⟨bM,⟨Gw,⟨Fc,⟨Fc,⟨bM,⟨bM,⟨bM,⟨bM,bM⟩⟩⟩⟩⟩⟩⟩⟩⟩⟩⟩⟩⟩⟩⟩⟩⟩⟩ (λl k i nx=>by kernel_rfl)
theorem NB:Zl (.sl cz) nn:=Mi (e:=cz) (H:=λv=>lv (λy _=>some y) (λ_ y _=>some y) v 0) (bad:=λ_ i k=>some (-1)) (f:=cn) (.pair (.int _) (.pair (.int _) (.pair (.pair (.int _) (.pair (.int _) (.int _))) (.pair .bool (.pair (.int _) (.int _)))))) jL ⟨bM,⟨bM,⟨⟨bM,⟨bM,bM⟩⟩,⟨bM,⟨bM,bM⟩⟩⟩⟩⟩ (λl k i nx=>by kernel_rfl)
theorem abY:Zl (.sl fP) AY:=Mi (e:=fP) (H:=λv=>uX (λy _=>some y) (λ_ y _=>some y) v 0) (bad:=λ_ i k=>some (-1)) (f:=cn) (.pair (.pair (.int _) (.pair .bool (.sl (e:=(.int .i64)) ez))) (.pair (.int _) (.pair (.int _) (.int _)))) jL ⟨⟨bM,⟨bM,Fc⟩⟩,⟨bM,⟨bM,bM⟩⟩⟩ (λl k i nx=>by kernel_rfl)
theorem ab9:MtH (.sl .str) AW:=by intro a h k h1 h2;simp (disch:=omega) only[AW,ab,Gw.top a h,Jz,ae]
theorem aot:MtH gW sQ:=by intro a h k h1 h2;rw[TG]at h2;rw[ahC];simp (disch:=omega) only[sQ,ab,alE.top _ h.1,NB.top _ h.2.1,abY.top _ h.2.2.1,ab9 _ h.2.2.2.1,Gw.top _ h.2.2.2.1,Fc.top _ h.2.2.2.2.2.1,ab9 _ h.2.2.2.2.2.2,Gw.top _ h.2.2.2.2.2.2,Jz,ae];rw[TG];refine congrArg some (by omega)
end Go.Pu
end
namespace Go.Pu
open Go.Dn
open List (range)
open Int (tmod)
set_option linter.unusedSimpArgs false
set_option linter.unusedVariables false
noncomputable section
variable {c:cJ}
theorem Rc {a:Int}{m:Cl}{n:Nat}(hn:8<=n)(z:bu n gW c):bu n gW (jk c a m).1:=by have hb:=Ow c.2.2.1 a.toNat m hn (λb hb=>(z.2.2.1.2 b hb).1.2.2.1);have hl:=Ia c.2.2.1 a.toNat m;unfold jk;cases ix c&&dp a 0 ((c.2.2.1.length:Int)-1);exact z;simp only[af];split;rename_i h b h1 h2;have e2:=bK h2;have e1:=bK h1;refine⟨⟨?_,λx hx=>?_⟩,z.2.1,⟨?_,λx hx=>?_⟩,z.2.2.2⟩;show(c.1.set _ _).length<=n;rw[aL];exact z.1.1;rcases Ke hx with g|rfl;exact z.1.2 _ g;obtain⟨w1,w2,w3,w4,w5,w6,w7,w8,w9⟩:=z.1.2 _ e1;exact⟨w1,w2,w3,w4,w5,w6,w7,⟨bM,bM,⟨hb _ e2,λ_ _=>trivial⟩⟩,w9⟩;show(xg c.2.2.1 a.toNat m).1.length<=n;rw[hl];exact z.2.2.1.1;exact⟨⟨bM,bM,⟨hb _ hx,λ_ _=>trivial⟩⟩,bM,bM,bM⟩;exact z
def okC (c:cJ)(a:lR):Bool:=Q7 a.2.2.1&&(dp a.2.1 0 ((c.2.1.length:Int)-1)&&(dp a.1 0 2&&dp a.2.2.2.2.2 0 100))
noncomputable def Xp (c:cJ)(a:lR):bp:=anN c.2.2.2.1 (CQ c.2.2.2.1 a.2.2.2.2.1) a.2.2.2.2.2 3
noncomputable def tt (c:cJ)(a:lR):cJ×Int:=
 bif !ix c|| !okC c a then(c, -1) else
 bif a.1==1 then jk c a.2.1 a.2.2.2.1 else
 bif a.1==2 then((c.1.map BH,c.2.1,c.2.2.1,Xp c a,c.2.2.2.2),abf (Xp c a)) else
 bif a.2.2.1.1==1 then(CZ c a.2.1,0) else
 bif a.2.2.1.1==2 then(xV c a.2.2.1.2.2.2.2.1,0) else
 bif a.2.2.1.1==4 then((c.1.map Eu,c.2.1.map (Za 1),c.2.2.1,c.2.2.2.1,akS c.2.2.2.2.1 1,c.2.2.2.2.2),0) else
 match c.1[a.2.1.toNat]? with
 |some h=>((c.1.set a.2.1.toNat (Tg h a.2.2.1).1,c.2),(Tg h a.2.2.1).2)
 |none=>(c, -1)
theorem Pp (h:ix c=true):(c.1.length=c.2.1.length/\c.1.length<=3)/\iQ c.2.2.2.1=true/\∀x∈c.1,fw x=true:=by have h3:=(Ju h).2.2;unfold ix at h;simp only[ah,aU,dD]at h;have hl:=F7 h.2.1;refine⟨⟨by omega,h3⟩,aeC h.2.2.2.1.1,λx hx=>?_⟩;obtain⟨i,hi,rfl⟩:=List.getElem_of_mem hx;have:=aO.1 h.2.2.2.2.1 i (bU.2 hi);grind[Jt]
theorem XV {f:bp}(h:iQ f=true):f.length=2:=by rw[(zu h).1];rfl
theorem acn (c:cJ)(a:lR)(z:CX 50000000 c)(hx:a.2.2.1.2.2.2.2.1.length<=10^9)(hs:a.2.2.2.2.1.length<=10^9):D2 c a=some (tt c a):=by
 have z9:bu 1000000000 gW c:=z.z.mono;have zh:∀h∈c.1,DX 90000000 h:=λh hh=>(z.h h hh).mono;unfold D2 tt;rw[Ag c z9,ab,L5 c (z.sz),ab];cases hb:ix c;rfl;obtain⟨⟨hl,h3⟩,hf,_⟩:=Pp hb;have kX:AG a (c.2.1.length:Int)=some (okC c a):=by unfold AG okC;simp only[aho,cq,ab];rw[aj (n:=(c.2.1.length:Int)-1) (by omega) (by omega)];cases Q7 a.2.2.1<;>cases dp a.2.1 0 ((c.2.1.length:Int)-1)<;>cases dp a.1 0 2<;>rfl
 simp only[ai,ae,kX,ab,cB];cases ho:okC c a;rfl;simp only[ai,ae];unfold okC at ho;simp only[ah,bq]at ho;cases a.1==1;case true=>rw[Tm c _ _ (z.z.mono) (z.sz)];rfl
 cases a.1==2 with
 |true=>simp only[af,ae];have hu:=KJ hf (CQ c.2.2.2.1 a.2.2.2.2.1) a.2.2.2.2.2 3 (min (CQ c.2.2.2.1 a.2.2.2.2.1).length (a.2.2.2.2.2.toNat+1));rw[ajc _ _ hs,ab,afy _ _ _ _ (by rw[XV hf];omega) (aF (Wf ..) (by omega)) (by omega) (by omega),ab,agb _ _ c.1 _ (by omega) zh];show aa (pP (Xp c a)) _=_;rw[aiT (f:=Xp c a) hu];rfl
 |false=>
  simp only[ae];cases a.2.2.1.1==1;case true=>rw[afh c _ (z.mono)];rfl
  cases a.2.2.1.1==2;case true=>rw[Tn c _ (z.mono) hx];rfl
  cases a.2.2.1.1==4 with|true=>grind[akB,acC,ab,acg]|false=>grind[aN,ab,aiV]
theorem adD (c:cJ)(a:lR)(z:CX 50000000 c)(hx:a.2.2.1.2.2.2.2.1.length<=10^9)(hs:a.2.2.2.2.1.length<=10^9)(hm:a.2.2.2.1.1<=9223372036854775807):H9 c a=some (tt c a):=by
 have z9:bu 1000000000 gW c:=z.z.mono;have zh:∀h∈c.1,DX 90000000 h:=λh hh=>(z.h h hh).mono;unfold H9 tt;rw[BJ c z9,ab,Mv c (z.sz),ab];cases hb:ix c;rfl;obtain⟨⟨hl,h3⟩,hf,_⟩:=Pp hb;have kX:(aa (CN a.2.2.1) λr3=>cond (!r3) (some true) (cond (decide (a.2.1<0)) (some true) (cond (decide (a.2.1>=(c.1.length:Int))) (some true) (aa (aI a.1 0 2) λr4=>cond (!r4) (some true) (aa (aI a.2.2.2.2.2 0 100) λr5=>some (!r5))))))=some (!okC c a):=by unfold okC;rw[ahS,ab,cj,cj,show dp a.2.1 0 ((c.2.1.length:Int)-1)=(!decide (a.2.1<0)&& !decide (a.2.1>=(c.1.length:Int))) from by grind[bq]];cases Q7 a.2.2.1<;>cases decide (a.2.1<0)<;>cases decide (a.2.1>=(c.1.length:Int))<;>cases dp a.1 0 2<;>cases dp a.2.2.2.2.2 0 100<;>rfl
 simp only[ai,ae,kX,ab,cB];cases ho:okC c a;rfl;simp only[ai,ae];unfold okC at ho;simp only[ah,bq]at ho;cases a.1==1;case true=>rw[Tx c _ _ (z.z.mono) (z.sz) hm];rfl
 cases a.1==2 with
 |true=>simp only[af,ae];have hu:=KJ hf (CQ c.2.2.2.1 a.2.2.2.2.1) a.2.2.2.2.2 3 (min (CQ c.2.2.2.1 a.2.2.2.2.1).length (a.2.2.2.2.2.toNat+1));rw[akj _ _ hs,ab,agz _ _ _ _ (by rw[XV hf];omega) (aF (Wf ..) (by omega)) (by omega) (by omega),ab];show aH (nB _ (c.1,c.2) _) fuel (0,c.1,_)=_;rw[adk _ _ c.1 _ _ (by omega) zh];show aa (qC (Xp c a)) _=_;rw[aj4 (f:=Xp c a) hu];rfl
 |false=>
  simp only[ae];cases a.2.2.1.1==1;case true=>rw[agk c _ (z.mono)];rfl
  cases a.2.2.1.1==2;case true=>rw[Tz c _ (z.mono) hx];rfl
  cases a.2.2.1.1==4 with|true=>simp only[af,ae];show aH (nC _ (c.1,c.2) _) fuel (0,c.1,c.2)=_;rw[agQ _ _ c.1 _ _ (by omega) zh];grind[adS,ab,adz]|false=>grind[aN,ab,aj5]
def Jp (c:cJ):Prop:=∀h∈c.1,Pg h
theorem UH (f:Jp c){k:Nat}{h:Host}(fh:Pg h):Jp (adt c k h):=λx hx=>by rcases eP hx with e|e;exact f x e;rw[e];exact fh
theorem alr {h:Host}(x:Bytes)(f:Pg h):Pg (qy h x):=by
 have c:∀a b c d,Pg (Jy h a b c d):=λ_ _ _ _=>⟨f.pl,f.w⟩
 unfold qy;cases !fw h;case true=>exact f
 cases (jE x).2 !=0;case true=>exact c _ _ _ _
 cases !zX h.2.2.2.2.2.2.2.1 (jE x).1;case true=>exact c _ _ _ _
 cases ze h.2.2.2.2.2.2.2.2.1 (h.2.2.2.1.length:Int) (jE x).1== -1;case true=>exact c _ _ _ _
 simp only[ae];cases h.2.2.2.1[(ze h.2.2.2.2.2.2.2.2.1 (h.2.2.2.1.length:Int) (jE x).1).toNat]? with|none=>exact f|some q=>exact Pw (c _ _ _ _) (MJ (akU ..))
theorem ae4 (ps:ar Port)(v:Int)(p:aP)(j:Nat)(f:Jp c):Jp (db ps v p c j):=by unfold db;cases j==0 with|true=>exact f|false=>simp only[ae];cases hc:c.1[j-1]? with|none=>exact f|some h=>exact UH f (alr _ (f h (bK hc)))
theorem XN (ps:ar Port)(v:Int)(p:aP):∀(l:ec){c:cJ},Jp c->Jp (RZ ps v p c l)
 |[],c,f=>f
 |j::l,c,f=>XN ps v p l (ae4 ps v p j f)
theorem NM (e:Int)(p:aP)(f:Jp c):Jp (yh c e p):=by grind[yh,XN]
theorem UG (ps:ar Port)(k:Int):∀(l:bp){c:cJ},Jp c->Jp (Je ps k c l)
 |[],c,f=>f
 |x::l,c,f=>by refine UG ps k l (c:=Mt ps k c x) ?_;grind[Mt,Jp,DU,NM]
theorem aol (k:Int)(f:Jp c):Jp (CZ c k):=by unfold CZ;cases ix c&&(!decide (k<0)&& !decide (k>=(c.1.length:Int)));exact f;simp only[af];cases hc:c.1[k.toNat]? with|none=>exact f|some h=>exact UG _ _ _ (UH f (Px (f h (bK hc))))
theorem ZK (x:Bytes)(f:Jp c):Jp (xV c x):=by
 unfold xV;cases !ix c;case true=>exact f
 cases (jE x).2==0 with|true=>exact NM _ _ (c:=Kz c) f|false=>exact f
theorem ahD {a:Int}{m:Cl}{x:Host}(hx:x∈(jk c a m).1.1):x∈c.1\/∃h f,h∈c.1/\x=Wz h f:=by unfold jk at hx;cases hb:ix c&&dp a 0 ((c.2.2.1.length:Int)-1)with|false=>rw[hb]at hx;exact Or.inl hx|true=>rw[hb]at hx;simp only[af]at hx;split at hx;rename_i h b h1 h2;rcases eP hx with e|e;exact Or.inl e;exact Or.inr ⟨h,b.1,bK h1,e⟩;exact Or.inl hx
theorem an5 (c:cJ)(a:Int)(m:Cl):(jk c a m).1.1.length=c.1.length:=by unfold jk;grind
theorem aeR {N:Nat}(hN:1000<=N)(a:lR)(z:CX N c)(f:Jp c):CX (N+645000) (tt c a).1/\(tt c a).1.1.length=c.1.length/\Jp (tt c a).1:=by
 have z':CX (N+645000) c:=z.mono;unfold tt;cases hc: !ix c|| !okC c a;case true=>exact⟨z',rfl,f⟩
 simp only[dw,dZ]at hc;obtain⟨⟨hl,h3⟩,hf,hh⟩:=Pp hc.1;simp only[ae];cases a.1==1 with
 |true=>have zl:=Rc (a:=a.2.1) (m:=a.2.2.2.1) (show 8<=N+645000 by omega) z'.z;refine⟨⟨zl,λx hx=>⟨zl.1.2 x hx,?_⟩⟩,an5 ..,λx hx=>?_⟩;rcases ahD hx with e|⟨h,g,e1,rfl⟩;exact(z'.h x e).t;exact(z'.h h e1).t;rcases ahD hx with e|⟨h,g,e1,rfl⟩;exact f x e;exact⟨(f h e1).pl,(f h e1).w⟩
 |false=>
  simp only[ae];cases a.1==2 with
  |true=>
   have zm:=ahb (M:=N+645000) (by omega) z (f:=BH) λh hq=>(RX hN (z.h h hq) (f h hq)).1;have hu:=KJ hf (CQ c.2.2.2.1 a.2.2.2.2.1) a.2.2.2.2.2 3 (min (CQ c.2.2.2.1 a.2.2.2.2.1).length (a.2.2.2.2.2.toNat+1));have hu:iQ (Xp c a)=true:=hu;obtain⟨fe,f0,f1⟩:=zu hu;have fz:bu (N+645000) (.sl .str) (Xp c a):=by rw[fe];refine⟨by show 2<=N+645000;omega,λx hx=>?_⟩;rcases cp.1 hx with e|hx;rw[e];show((Xp c a).getD 0 []).length<=_;omega;rw[dA.1 hx];show((Xp c a).getD 1 []).length<=_;omega
   refine⟨⟨⟨zm.z.1,zm.z.2.1,zm.z.2.2.1,fz,zm.z.2.2.2.2⟩,zm.h⟩,bW ..,λx hx=>?_⟩;obtain⟨h,hq,rfl⟩:=List.mem_map.1 hx;exact(RX hN (z.h h hq) (f h hq)).2
  |false=>
   simp only[ae]
   cases a.2.2.1.1==1;case true=>
    have zt:=aeJ hN a.2.1 z
    exact⟨zt.1.mono,zt.2,aol _ f⟩
   cases a.2.2.1.1==2;case true=>
    have zr:=adi hN a.2.2.1.2.2.2.2.1 z
    exact⟨zr.1.mono,zr.2,ZK _ f⟩
   cases a.2.2.1.1==4 with
   |true=>have zm:=ahb (M:=N+645000) (by omega) z (f:=Eu) λh hq=>(ad6 hN (z.h h hq)).mono;refine⟨⟨⟨zm.z.1,⟨?_,λ_ _=>⟨bM,bM,⟨bM,bM,bM⟩,bM,bM,bM⟩⟩,zm.z.2.2.1,zm.z.2.2.2.1,⟨bM,bM,bM,bM⟩,zm.z.2.2.2.2.2⟩,zm.h⟩,bW ..,λx hx=>?_⟩;show(c.2.1.map (Za 1)).length<=_;rw[bW];exact zm.z.2.1.1;obtain⟨h,hq,rfl⟩:=List.mem_map.1 hx;exact abF (f h hq)
   |false=>simp only[ae];cases hk:c.1[a.2.1.toNat]? with|none=>exact⟨z',rfl,f⟩|some h=>have hm:=bK hk;have e:=akR hN a.2.2.1 (z.h h hm) (f h hm);exact⟨Qw z' e.1,aL ..,UH f e.2⟩
theorem aok (h:ix c=true):Jp c:=λx hx=>alq ((Pp h).2.2 x hx)
theorem aha {e:CT}{B:Nat}:∀{xs:ar e.D},(∀x∈xs,kh e x<=B)->kh (.sl e) xs<=xs.length*B
 |[],_=>by simp[kh]
 |y::l,h=>by have h1:=h y (by simp);have h2:=aha (xs:=l) (λx hx=>h x (by simp[hx]));grind[kh,cw]
theorem ain (z:bu 26848576 gW c)(h:c.1.length<=3)(f:Jp c):mn gW c<=900000000000000:=by have e1:mn gW c<=kh (.sl cR) c.1+kh (.pair (.sl cz) (.pair (.sl fP) (.pair (.sl .str) (.pair yT (.pair (.sl (.int .i64)) (.sl .str)))))) c.2:=Zw;have e2:=aha (e:=cR) (B:=400*(26848576+1)) (xs:=c.1) λx hx=>alp (z.1.2 x hx) (f x hx);have e3:=nJ z.2;grind[Xx]
theorem abr (a:lR)(z:CX 1048576 c)(hc:mn gW c<=600000000000000):bu 26848576 gW (tt c a).1/\mn gW (tt c a).1<=900000000000000:=by
 cases hb:ix c with
 |true=>have h:=aeR (by omega) a z (aok hb);have l:bu 26848576 gW (tt c a).1:=h.1.z.mono;grind[ain,Pp]
 |false=>
  have e:tt c a=(c, -1):=by grind[tt]
  rw[e];exact⟨z.z.mono,by grind⟩
theorem abt (a:cJ)(b:lR)(ha:qU gW a)(U2:qU zV b):yY a b=some true:=by
 unfold yY;refine(ao2 a ha).use (by omega) (by omega) λhl=>?_;refine(agJ b U2).use (by omega) (by omega) λEH=>?_;have hA:bu 1048576 gW a:=KC (by omega);have hB:bu 1048576 zV b:=KC (by omega);have hz:CX 1048576 a:=CX.of (by omega);have hx:b.2.2.1.2.2.2.2.1.length<=10^9:=aF hB.2.2.1.2.2.2.2.1 (by omega);have hx2:b.2.2.2.2.1.length<=10^9:=aF hB.2.2.2.2.1 (by omega);have hs:=adD a b (hz.mono) hx hx2 U2.2.2.2.1.1.2;have hi:=acn a b (hz.mono) hx hx2;have c1:=abl (c:=a) (by omega);obtain⟨hR,c2⟩:=abr b hz c1;generalize tt a b=r at hs hi hR c2;have m1:=ahH a (hA.mono) 1 (by omega) (by omega);have m2:=ahH r.1 (hR.mono) 1 (by omega) (by omega);have m3:∀t,t=mkT gW r.1 1->sQ t 1=some (1+(mn gW r.1:Int)):=by rintro _ rfl;exact aot r.1 (hR.mono) 1 (by omega) (by omega)
 simp (disch:=omega) only[ao9 a hA,agR b hB,ab,hs,hi,ahd r.1 (hR.mono),ahd a (hA.mono),gz,bne_self_eq_false,ai,ae,m1,m2,Jz];rw[m3];simp (disch:=omega) only[ab,Jz,ae,bne_self_eq_false];rfl
end
end Go.Pu
