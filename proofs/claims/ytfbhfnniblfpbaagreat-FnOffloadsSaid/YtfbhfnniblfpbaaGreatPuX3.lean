import Derived.KernelRfl
import Derived.Test.YtfbhfnniblfpbaaGreatPure
import Derived.Test.YtfbhfnniblfpbaaGreatPuX2
namespace Go.Pu
open Go.Dn
open Int (tmod)
set_option linter.unusedSimpArgs false
set_option linter.unusedVariables false
noncomputable section
variable {x:Bytes} {h:Host} {a d z:Int} {hd k:Nat} {Q:Nat->ax Ho->aW->Vector->Bool->Prop} {p:dq} {g:fu} {t:cz} {R α:Type} {C:ax Ho} {l:ax aE} {ps:ax fe} {s:ax Stream×aW×dq} {L:ax bK} {F P:fi} {m m':bK} {f:bK×aW} {r:mn}
/- Events and a host's flush: the program's and the reference's results are one. -/
def evS (k:Nat)(h:Host):Host:=
 match h.2.2.2.2.2.1[k]? with
 |some v=>(h.1,h.2.1,h.2.2.1,h.2.2.2.1,h.2.2.2.2.1,h.2.2.2.2.2.1.set k (evV v),h.2.2.2.2.2.2)
 |none=>h
def OT (k:Nat):Nat->Host->Host
 |0,h=>h
 |i+1,h=>evS k (OT k i h)
theorem aha (k:Nat)(h:Host):mE (k+1) h (evS k h):=by unfold evS;cases h.2.2.2.2.2.1[k]? with|none=>exact mE.refl _ _|some v=>exact⟨rfl,rfl,rfl,rfl,λ_ _=>rfl,rfl,aL ..,λj hj=>aM (by omega),rfl,rfl,rfl⟩
theorem Hz (k:Nat)(h:Host):∀i,mE (k+1) h (OT k i h)
 |0=>mE.refl _ _
 |i+1=>(Hz k h i).trans (aha k _)
theorem ajA {n:Nat}(k:Nat)(z:dF n gY h):dF n gY (evS k h):=by unfold evS;cases h.2.2.2.2.2.1[k]? with|none=>exact z|some v=>exact⟨z.1,z.2.1,z.2.2.1,z.2.2.2.1,z.2.2.2.2.1,PI z.2.2.2.2.2.1,z.2.2.2.2.2.2⟩
theorem acV {n:Nat}(k:Nat)(z:dF n gY h):∀i,dF n gY (OT k i h)
 |0=>z
 |i+1=>ajA k (acV k z i)
theorem aaZ (h:Host)(k:Nat)(b:Int)(h1:k<h.2.2.2.1.length)(h2:k<h.2.2.2.2.2.1.length)(hq:gG h.2.2.2.1[k].2.1=true)(hb:0<=b/\b<=31):mN h (k:Int) b=some ((),OT k ((h.2.2.2.1[k].2.1.2.2-b)%(2*h.2.2.2.1[k].2.1.2.1)).toNat h):=by
 have zj:=dD;have q:=mQ hq;unfold mN;rw[bw h1,ab];generalize h.2.2.2.1[k]=x at q⊢;rw[ak (n:=x.2.1.2.2-b) (by omega) (by omega),ak (n:=2*x.2.1.2.1) (by omega) (by omega),Nk _ _,ab];have hm:0<=(x.2.1.2.2-b)%(2*x.2.1.2.1)/\(x.2.1.2.2-b)%(2*x.2.1.2.1)<32:=by have g1:=Int.emod_nonneg (x.2.1.2.2-b) (show 2*x.2.1.2.1≠0 by omega);have g2:=im (x.2.1.2.2-b) (show 0<2*x.2.1.2.1 by omega);omega
 generalize (x.2.1.2.2-b)%(2*x.2.1.2.1)=c at hm⊢;obtain⟨c,rfl⟩:=au hm.1;rw[aC];have e0:((c:Int),h)=(((c:Int)-((0:Nat):Int)),OT k 0 h):=by simp[OT]
 rw[e0];refine dA (λi=>((c:Int)-(i:Int),OT k i h)) c (by omega) (λi nx hi=>?_) (λnx=>?_);have kk:=Hz k h i;have i1:k<(OT k i h).2.2.2.2.2.1.length:=by rw[kk.vec];exact h2
 rw[show OT k (i+1) h=evS k (OT k i h) from rfl];generalize OT k i h=s at i1⊢;simp only[sR,evS];rw[kW,af,ay i1];simp only[bw i1,ab,aeu,aC];rw[ak (by omega) (by omega),show(c:Int)-(i:Int)-1=(c:Int)-((i+1:Nat):Int) by omega];simp only[sR];rw[ie,ae]
theorem ab3 (h:Host)(k:Nat)(b:Int)(h1:k<h.2.2.2.1.length)(h2:k<h.2.2.2.2.2.1.length)(hq:gG h.2.2.2.1[k].2.1=true)(hb:0<=b/\b<=31):mW h (k:Int) b=some ((),OT k ((h.2.2.2.1[k].2.1.2.2-b)%(2*h.2.2.2.1[k].2.1.2.1)).toNat h):=by
 have zj:=dD;have q:=mQ hq;unfold mW;rw[bw h1,ab,ab];generalize h.2.2.2.1[k]=x at q⊢;have em:ar (BitVec.toNat (gm (x.2.1.2.2-b)&&&gm (2*x.2.1.2.1-1)))=(x.2.1.2.2-b)%(2*x.2.1.2.1):=by
  have key:∀j:Nat,j<63->2*x.2.1.2.1=2^j->ar (BitVec.toNat (gm (x.2.1.2.2-b)&&&gm (2*x.2.1.2.1-1)))=(x.2.1.2.2-b)%(2*x.2.1.2.1):=by intro j hj e;have:=Fe (x.2.1.2.2-b) j hj;rw[<-e]at this;rw[this];have g1:=Int.emod_nonneg (x.2.1.2.2-b) (show 2*x.2.1.2.1≠0 by omega);have g2:=im (x.2.1.2.2-b) (show 0<2*x.2.1.2.1 by omega);exact ak (by omega) (by omega)
  rcases q.2.2.1 with e|e|e|e;exact key 2 (by omega) (by rw[e];rfl);exact key 3 (by omega) (by rw[e];rfl);exact key 4 (by omega) (by rw[e];rfl);exact key 5 (by omega) (by rw[e];rfl)
 rw[ak (n:=x.2.1.2.2-b) (by omega) (by omega),ak (n:=2*x.2.1.2.1) (by omega) (by omega),ak (n:=2*x.2.1.2.1-1) (by omega) (by omega),em];have hm:0<=(x.2.1.2.2-b)%(2*x.2.1.2.1)/\(x.2.1.2.2-b)%(2*x.2.1.2.1)<32:=by have g1:=Int.emod_nonneg (x.2.1.2.2-b) (show 2*x.2.1.2.1≠0 by omega);have g2:=im (x.2.1.2.2-b) (show 0<2*x.2.1.2.1 by omega);omega
 generalize (x.2.1.2.2-b)%(2*x.2.1.2.1)=c at hm⊢;obtain⟨c,rfl⟩:=au hm.1;rw[aC];refine dA (λi=>((i:Int),OT k i h)) c (by omega) (λi nx hi=>?_) (λnx=>?_);have kk:=Hz k h i;have i1:k<(OT k i h).2.2.2.2.2.1.length:=by rw[kk.vec];exact h2
 rw[show OT k (i+1) h=evS k (OT k i h) from rfl];generalize OT k i h=s at i1⊢;simp only[tp,evS];rw[kW,af,ay i1];simp only[bw i1,ab,afY,aC];rw[ak (by omega) (by omega)];rfl;simp only[tp];rw[ie,ae]
def EA (h:Host)(k:Nat)(f:bK×aW):Host:=(f.1,h.2.1,h.2.2.1,h.2.2.2.1.set k f.2,h.2.2.2.2)
def qZ (h:Host)(k:Nat)(b:Int)(f:bK×aW):Host:=OT k ((f.2.2.1.2.2-b)%(2*f.2.2.1.2.1)).toNat (EA h k f)
def eH (k:Nat)(h:Host):Host:=
 match h.2.2.2.1[k]? with
 |some x=>qZ h k x.2.1.2.2 (gy h.2.1 h.1 0 x h.2.2.2.2.2.2.2.2.1.2.2.1)
 |none=>h
theorem Iv {b:Int}(hf:f.1.length=h.1.length):mE (k+1) h (qZ h k b f):=by
 have a:mE (k+1) h (EA h k f):=⟨hf,rfl,rfl,aL ..,λj hj=>aM (by omega),rfl,rfl,λ_ _=>rfl,rfl,rfl,rfl⟩
 exact a.trans (Hz k (EA h k f) _)
theorem Sw {n:Nat}{b:Int}(z:dF n gY h)(h1:dF n (.sl .str) f.1)(h2:dF n nB f.2):dF n gY (qZ h k b f):=by
 have a:dF n gY (EA h k f):=⟨h1,z.2.1,z.2.2.1,FB z.2.2.2.1 h2,z.2.2.2.2⟩
 exact acV k a _
theorem QH {q:aW}{k:Bytes}:(gy l m d q k).1.length=m.length:=by
 have hs:(gM l m d q k (bI l m d q.1).1).1.length=m.length:=by
  unfold gM;cases !(dC (bI l m d q.1).1).2||(((dC (bI l m d q.1).1).1.1 !=3)||decide ((dC (bI l m d q.1).1).1.2.2.1<((dv q.2.2.2.1.1).1.length:Int)));case true=>rfl
  cases (jF l m d (dC (bI l m d q.1).1).1.2.2.2.1 (dv q.2.2.2.1.1).1 true).2;rfl;have h2:=nT l m d (dC (bI l m d q.1).1).1.2.2.2.1 (dv q.2.2.2.1.1).1 true;simp only[ae,aj];unfold rr;cases !gG q.2.1|| !vu ((dC (bI l m d q.1).1).1.2.2.2.2.2,((dv q.2.2.2.1.1).1.length:Int),q.2.2.2.1.2.1,q.2.2.2.1.2.2,xn k (tD (dJ q.2.2.2.1.1)));case true=>exact h2
  cases (jF l (jF l m d (dC (bI l m d q.1).1).1.2.2.2.1 (dv q.2.2.2.1.1).1 true).1 d (nm q.2.1) (OS ((dC (bI l m d q.1).1).1.2.2.2.2.2,((dv q.2.2.2.1.1).1.length:Int),q.2.2.2.1.2.1,q.2.2.2.1.2.2,xn k (tD (dJ q.2.2.2.1.1))) (DH q.2.1)) true).2 with|false=>exact h2|true=>exact(nT ..).trans h2
 unfold gy;grind
theorem nH (k:Nat)(h:Host):mE (k+1) h (eH k h):=by grind[eH,mE.refl,Iv,QH]
theorem Ka (k:Nat)(h:Host)(n:Nat)(hn:1000<=n)(z:dF n gY h):dF (n+0) gY (eH k h):=by unfold eH;cases hx:h.2.2.2.1[k]? with|none=>exact z|some x=>have hf:=IM (show 128<=n by omega) (l:=h.2.1) (d:=0) (k:=h.2.2.2.2.2.2.2.2.1.2.2.1) z.1 (z.2.2.2.1.2 _ (aX hx));exact Sw z hf.1 hf.2.2.1
def jh (h:Host):Host:=bif eU h then dX eH h.2.2.2.1.length h else h
theorem IL {n:Nat}(hn:1000<=n)(k:BW n h):BW n (jh h):=by unfold jh;cases eU h with|false=>exact k|true=>refine⟨(DW hn Ka k.z _).mono,?_⟩;simp only[af];rw[(mD nH h _).tx];exact k.t
theorem Du (hb:eU h=true):∀i (hi:i<h.2.2.2.1.length),FP h.2.2.2.1[i]=true:=by grind[eU,UU]
theorem OP {b:Int}(h1:k<h.2.2.2.1.length)(h2:k<h.2.2.2.2.2.1.length)(hq:gG f.2.2.1=true)(hb:0<=b/\b<=31:=by omega): mN (f.1,h.2.1,h.2.2.1,h.2.2.2.1.set k f.2,h.2.2.2.2) (k:Int) b=some ((),qZ h k b f):=by
 have h3:k<(EA h k f).2.2.2.1.length:=by show k<(h.2.2.2.1.set k f.2).length;rw[aL];exact h1
 have e:(EA h k f).2.2.2.1[k]=f.2:=List.getElem_set_self _;have a:=aaZ (EA h k f) k b h3 h2 (by rw[e];exact hq) hb;rw[e]at a;exact a
theorem OQ {b:Int}(h1:k<h.2.2.2.1.length)(h2:k<h.2.2.2.2.2.1.length)(hq:gG f.2.2.1=true)(hb:0<=b/\b<=31:=by omega): mW (f.1,h.2.1,h.2.2.1,h.2.2.2.1.set k f.2,h.2.2.2.2) (k:Int) b=some ((),qZ h k b f):=by
 have h3:k<(EA h k f).2.2.2.1.length:=by show k<(h.2.2.2.1.set k f.2).length;rw[aL];exact h1
 have e:(EA h k f).2.2.2.1[k]=f.2:=List.getElem_set_self _;have c:=ab3 (EA h k f) k b h3 h2 (by rw[e];exact hq) hb;rw[e]at c;exact c
theorem Q4 (h:Host)(k:BW 900000000 h):tF h=some (jh h):=by
 have zj:=dD;unfold tF jh;rw[kG h (k.z.mono),ab,vG h (k.sz (by omega)),ab];cases hb:eU h;rfl;have hl:=qI (by simp only[eU,ah]at hb;exact hb.2.2.2.2.1:qv h=true);have hr:=Du hb;simp only[aj,ae,af];refine dA (λi=>((i:Int),dX eH i h)) h.2.2.2.1.length (by omega) (λi nx hi=>?_) (λnx=>?_);have kk:=mD nH h i;have zz:dF 900000000 gY (dX eH i h):=(DW (by omega) Ka k.z i).mono;have i1:i<(dX eH i h).2.2.2.1.length:=by rw[kk.rx];exact hi
 have i2:i<(dX eH i h).2.2.2.2.2.1.length:=by rw[kk.vec];omega
 have e1:(dX eH i h).2.2.2.1[i]=h.2.2.2.1[i]:=by have:=kk.rxs i (bc _);rw[ay i1,ay hi]at this;exact bQ this
 rw[show dX eH (i+1) h=eH i (dX eH i h) from rfl];generalize dX eH i h=s at zz i1 i2 e1⊢;have z1:s.1.length<=900000000:=zz.1.1;have z2:s.2.1.length<=900000000:=zz.2.1.1;have Yf:=hr i hi;rw[<-e1]at Yf;have hqd:=mQ (Bt Yf).1;have hf:=IM (show 128<=900000000 by omega) (l:=s.2.1) (d:=0) (k:=s.2.2.2.2.2.2.2.2.1.2.2.1) zz.1 (zz.2.2.2.1.2 _ (bn i1));have ev:=OP (h:=s) (k:=i) (b:=s.2.2.2.1[i].2.1.2.2) (f:=gy s.2.1 s.1 0 s.2.2.2.1[i] s.2.2.2.2.2.2.2.2.1.2.2.1) i1 i2 (hf.2.2.2 Yf).1;simp only[sM,eH];rw[kW,af,ay i1];simp only[bw i1,bw hi,ab,M5 s.2.1 s.1 0 _ _ (show s.2.1.length<=10^9 by omega) (show s.1.length<=10^9 by omega),aC,<-e1,ev];rw[ak (by omega) (by omega)];rfl;simp only[sM];rw[ie,ae]
theorem R3 (h:Host)(k:BW 900000000 h):tY h=some (jh h):=by
 have zj:=dD;unfold tY jh;rw[kL h (k.z.mono),ab];have hv:h.2.2.2.1.length<=900000000:=k.z.2.2.2.1.1;cases hb:eU h with
 |false=>
  obtain⟨g,hg⟩:∃g,fuel=g+1:=⟨fuel-1,by omega⟩
  rw[hg,aZ,oa,ry h (k.sz (by omega)),hb];cases decide ((0:Int)<(h.2.2.2.1.length:Int))<;>rfl
 |true=>
  have hl:=qI (by simp only[eU,ah]at hb;exact hb.2.2.2.2.1:qv h=true);have hr:=Du hb;simp only[af];refine dA (λi=>((i:Int),dX eH i h)) h.2.2.2.1.length (by omega) (λi nx hi=>?_) (λnx=>?_);have kk:=mD nH h i;have zz:dF 900000000 gY (dX eH i h):=(DW (by omega) Ka k.z i).mono;have i1:i<(dX eH i h).2.2.2.1.length:=by rw[kk.rx];exact hi
  have i2:i<(dX eH i h).2.2.2.2.2.1.length:=by rw[kk.vec];omega
  have e1:(dX eH i h).2.2.2.1[i]=h.2.2.2.1[i]:=by have:=kk.rxs i (bc _);rw[ay i1,ay hi]at this;exact bQ this
  have em:=kk.maps;have es:=kk.Jf;rw[show dX eH (i+1) h=eH i (dX eH i h) from rfl];generalize dX eH i h=s at zz i1 i2 e1 em es⊢;have z1:s.1.length<=900000000:=zz.1.1;have z2:s.2.1.length<=900000000:=zz.2.1.1;have Yf:=hr i hi;rw[<-e1]at Yf;have hqd:=mQ (Bt Yf).1;have hf:=IM (show 128<=900000000 by omega) (l:=s.2.1) (d:=0) (k:=s.2.2.2.2.2.2.2.2.1.2.2.1) zz.1 (zz.2.2.2.1.2 _ (bn i1));have ev:=OQ (h:=s) (k:=i) (b:=s.2.2.2.1[i].2.1.2.2) (f:=gy s.2.1 s.1 0 s.2.2.2.1[i] s.2.2.2.2.2.2.2.2.1.2.2.1) i1 i2 (hf.2.2.2 Yf).1;simp only[oa,eH,ry h (k.sz (by omega)),hb];rw[kW,af,ay i1];simp only[bw i1,bw hi,ab,af,<-em,<-es,<-e1,NH s.2.1 s.1 0 _ _ (show s.2.1.length<=10^9 by omega) (show s.1.length<=10^9 by omega),aC,ev];rw[ak (by omega) (by omega)];rfl;simp only[oa];rw[ie,ae,ab,ae]
def LM (a b:aH):Bool:=(a.1==b.1)&&((a.2.1==b.2.1)&&((a.2.2.1==b.2.2.1)&&((a.2.2.2.1==b.2.2.2.1)&&((a.2.2.2.2.2.1==b.2.2.2.2.2.1)&&((a.2.2.2.2.2.2.1==b.2.2.2.2.2.2.1)&&((a.2.2.2.2.2.2.2.1==b.2.2.2.2.2.2.2.1)&&((a.2.2.2.2.2.2.2.2.1==b.2.2.2.2.2.2.2.2.1)&&((a.2.2.2.2.2.2.2.2.2.1==b.2.2.2.2.2.2.2.2.2.1)&&((a.2.2.2.2.2.2.2.2.2.2.1==b.2.2.2.2.2.2.2.2.2.2.1)&&((a.2.2.2.2.2.2.2.2.2.2.2.2.1==b.2.2.2.2.2.2.2.2.2.2.2.2.1)&&((a.2.2.2.2.2.2.2.2.2.2.2.2.2.2.1==b.2.2.2.2.2.2.2.2.2.2.2.2.2.2.1))))))))))))
theorem aiZ (a b:aH):AQ a b=some (LM a b):=by simp_all[AQ,LM]
theorem ahN (a b:aH):Au a b=some (LM a b):=by simp_all[Au,LM]
def akp (s:lJ)(p:aH):Bool:=(p.2.2.2.2.2.2.2.2.2.2.2.1==tmod (ar (s.1.2.2.2.2.2.2.2.2.2.2.2.1+(s.1.2.2.2.2.2.2.2.2.2.2.2.2.2.2.2.length:Int))) 4294967296)&&(p.2.2.2.2.1==tmod (ar (s.1.2.2.2.2.1+s.2.2)) 65536)
def Oz (s:lJ)(p:aH):Bool:=decide (1<=s.2.1)&&(dV s.2.2 1 320&&(decide ((s.1.2.2.2.2.2.2.2.2.2.2.2.2.2.2.2.length:Int)=s.2.1*s.2.2)&&(dV (p.2.2.2.2.2.2.2.2.2.2.2.2.2.2.2.length:Int) 1 s.2.1&&decide ((s.1.2.2.2.2.2.2.2.2.2.2.2.2.2.2.2.length:Int)+(p.2.2.2.2.2.2.2.2.2.2.2.2.2.2.2.length:Int)<=320))))
def X0 (s:lJ)(p:aH):Bool:=cC s.1&&(gI p&&(LM s.1 p&&((p.2.2.2.2.2.2.2.2.1==6)&&((s.1.2.2.2.2.2.2.2.2.2.2.2.2.2.1==16)&&ET p.2.2.2.2.2.2.2.2.2.2.2.2.2.1))))
def EP (s:lJ)(p:aH):Bool:=X0 s p&&(Oz s p&&akp s p)
theorem Gt {p:aH}(h:gI p=true)(h6:(p.2.2.2.2.2.2.2.2.1==6)=true):dV p.2.2.2.2.2.2.2.2.2.2.2.2.2.1 0 31=true:=by grind[gI,cC,I5,xP]
theorem Gu {p:aH}(h:gI p=true):p.2.2.2.2.2.2.2.2.2.2.2.2.2.2.2.length<=128:=by grind[gI]
theorem adu (s:lJ)(p:aH):yA s p=some (EP s p):=by
 unfold yA EP X0;rw[uJ,ab,GI,ab,aiZ,ab];cases hs:cC s.1;rfl;cases hp:gI p;rfl;cases LM s.1 p;rfl;cases h6:p.2.2.2.2.2.2.2.2.1==6 with|false=>simp only[bne,h6];rfl|true=>?_
 cases MD:s.1.2.2.2.2.2.2.2.2.2.2.2.2.2.1==16 with|false=>simp only[bne,h6,MD];rfl|true=>?_
 have hf:=Gt hp h6;have W7:=Aa hs;have C1:=Gu hp;simp only[bne,h6,MD,aj,ae,ab,J8 _ hf,bH];cases ET p.2.2.2.2.2.2.2.2.2.2.2.2.2.1;rfl;simp only[aj,ae,cR,ab,bH,di];have wv:(bif !dV s.2.1 1 320 then some true else bif !dV s.2.2 1 320 then some true else bif !((s.1.2.2.2.2.2.2.2.2.2.2.2.2.2.2.2.length:Int)==ar (s.2.1*s.2.2)) then some true else bif !dV (p.2.2.2.2.2.2.2.2.2.2.2.2.2.2.2.length:Int) 1 s.2.1 then some true else some (decide (ar ((s.1.2.2.2.2.2.2.2.2.2.2.2.2.2.2.2.length:Int)+(p.2.2.2.2.2.2.2.2.2.2.2.2.2.2.2.length:Int))>320)))=some (!Oz s p):=by
  unfold Oz;generalize s.1.2.2.2.2.2.2.2.2.2.2.2.2.2.2.2.length=n at W7⊢;generalize p.2.2.2.2.2.2.2.2.2.2.2.2.2.2.2.length=m at C1⊢;rw[ak (n:=(n:Int)+(m:Int)) (by omega) (by omega)];cases h2:dV s.2.2 1 320 with
  |false=>cases dV s.2.1 1 320<;>cases decide (1<=s.2.1)<;>rfl
  |true=>
   have W4:=aS.1 h2;by_cases h1:1<=s.2.1;rw[az h1];by_cases h3:s.2.1<=320;have hb:s.2.1*s.2.2<=320*320:=Int.mul_le_mul h3 W4.2 (by omega) (by omega);have W5:0<=s.2.1*s.2.2:=Int.mul_nonneg (by omega) (by omega);rw[aS.2 ⟨h1,h3⟩,ak (n:=s.2.1*s.2.2) (by omega) (by omega)];by_cases h4:(n:Int)=s.2.1*s.2.2;rw[show((n:Int)==s.2.1*s.2.2)=true from by rw[bD];exact h4,az h4];cases dV (m:Int) 1 s.2.1 with|false=>rfl|true=>by_cases h5:(n:Int)+(m:Int)<=320;rw[az h5,aw (show¬(n:Int)+(m:Int)>320 by omega)];rfl;rw[aw h5,az (show(n:Int)+(m:Int)>320 by omega)];rfl
   rw[show((n:Int)==s.2.1*s.2.2)=false from by rw[cq];exact h4,aw h4];rfl;have hb:321*1<=s.2.1*s.2.2:=Int.mul_le_mul (by omega) (by omega) (by omega) (by omega);rw[show dV s.2.1 1 320=false from by rw[Bool.eq_false_iff];intro hc;have:=aS.1 hc;omega,aw (show¬(n:Int)=s.2.1*s.2.2 by omega)];rfl;rw[aw h1,show dV s.2.1 1 320=false from by rw[Bool.eq_false_iff];intro hc;have:=aS.1 hc;omega];rfl
 simp only[bne,di]at wv⊢;rw[bQ wv];cases Oz s p;rfl;rw[lH,lH];simp only[aj,ae,di,ab,cF,bH];rfl
theorem ac4 (s:lJ)(p:aH):xT s p=some (EP s p):=by
 unfold xT EP X0;rw[rZ,ab,Gg,ab,ahN,ab];cases hs:cC s.1;rfl;cases hp:gI p;rfl;cases LM s.1 p;rfl;cases h6:p.2.2.2.2.2.2.2.2.1==6 with|false=>simp only[bne,h6];rfl|true=>?_
 cases MD:s.1.2.2.2.2.2.2.2.2.2.2.2.2.2.1==16 with|false=>simp only[bne,h6,MD];rfl|true=>?_
 have hf:=Gt hp h6;have W7:=Aa hs;have C1:=Gu hp;simp only[bne,h6,MD,aj,ae,ab,QA _ hf,bH];cases ET p.2.2.2.2.2.2.2.2.2.2.2.2.2.1;rfl;simp only[aj,ae,dI,ab,bH];rw[aK (show¬(4294967296:Nat)=0 by omega),aK (show¬(65536:Nat)=0 by omega)];simp only[di,cF];rw[show((p.2.2.2.2.2.2.2.2.2.2.2.1==tmod (ar (s.1.2.2.2.2.2.2.2.2.2.2.2.1+(s.1.2.2.2.2.2.2.2.2.2.2.2.2.2.2.2.length:Int))) 4294967296)&&(p.2.2.2.2.1==tmod (ar (s.1.2.2.2.2.1+s.2.2)) 65536))=akp s p from rfl];unfold Oz;generalize akp s p=q;generalize s.1.2.2.2.2.2.2.2.2.2.2.2.2.2.2.2.length=n at W7⊢;generalize p.2.2.2.2.2.2.2.2.2.2.2.2.2.2.2.length=m at C1⊢;rw[ak (n:=(n:Int)+(m:Int)) (by omega) (by omega)];by_cases h1:s.2.1<1;rw[az h1,aw (show¬1<=s.2.1 by omega)];rfl;rw[aw h1,az (show 1<=s.2.1 by omega)];cases h2:dV s.2.2 1 320;rfl;have W4:=aS.1 h2;simp only[aj,ae,ab,bH];rw[lH,lH];have e1:tmod (n:Int) s.2.2=(n:Int)%s.2.2:=eM (by omega);have e2:Int.tdiv (n:Int) s.2.2=(n:Int)/s.2.2:=Int.tdiv_eq_ediv_of_nonneg (by omega);have hdm:=Int.emod_add_mul_ediv (n:Int) s.2.2;have hq0:0<=(n:Int)/s.2.2:=Int.ediv_nonneg (by omega) (by omega);have hq1:(n:Int)/s.2.2<=(n:Int):=Int.ediv_le_self _ (by omega);rw[e1,e2,ak (n:=(n:Int)/s.2.2) (by omega) (by omega)];by_cases h3:(n:Int)=s.2.1*s.2.2;have h4:(n:Int)%s.2.2=0:=by rw[h3];exact Int.mul_emod_left ..
 have h5:(n:Int)/s.2.2=s.2.1:=by rw[h3];exact Int.mul_ediv_cancel _ (by omega)
 rw[h4,h5,az h3];simp only[beq_self_eq_true,aj,ae,ab,bH];cases dV (m:Int) 1 s.2.1;rfl;cases decide ((n:Int)+(m:Int)<=320)<;>rfl;rw[aw h3];cases h4:(n:Int)%s.2.2==0 with
 |false=>rfl
 |true=>
  have h4':(n:Int)%s.2.2=0:=by simpa using h4
  have h5:((n:Int)/s.2.2==s.2.1)=false:=by rw[cq];intro h5;rw[h4',h5]at hdm;exact h3 (by rw[Int.mul_comm];omega)
  simp only[aj,ae,h5,cA,ab,af];rfl
def sU (s:lJ)(p:aH):lJ:=bif EP s p then((s.1.1,s.1.2.1,s.1.2.2.1,s.1.2.2.2.1,s.1.2.2.2.2.1,s.1.2.2.2.2.2.1,s.1.2.2.2.2.2.2.1,s.1.2.2.2.2.2.2.2.1,s.1.2.2.2.2.2.2.2.2.1,s.1.2.2.2.2.2.2.2.2.2.1,s.1.2.2.2.2.2.2.2.2.2.2.1,s.1.2.2.2.2.2.2.2.2.2.2.2.1,s.1.2.2.2.2.2.2.2.2.2.2.2.2.1,p.2.2.2.2.2.2.2.2.2.2.2.2.2.1,s.1.2.2.2.2.2.2.2.2.2.2.2.2.2.2.1,s.1.2.2.2.2.2.2.2.2.2.2.2.2.2.2.2++p.2.2.2.2.2.2.2.2.2.2.2.2.2.2.2),s.2.1,ar (s.2.2+1)) else s
theorem Pm {s:lJ}{p:aH}(h:EP s p=true):s.1.2.2.2.2.2.2.2.2.2.2.2.2.2.2.2.length+p.2.2.2.2.2.2.2.2.2.2.2.2.2.2.2.length<=320:=by grind[EP,Oz]
theorem aiV (s:lJ)(p:aH):Jc s p=some (sU s p):=by unfold Jc sU;rw[adu,ab];cases h:EP s p;rfl;have:=Pm h;grind[bf]
theorem ahM (s:lJ)(p:aH):IW s p=some (sU s p):=by unfold IW sU;rw[ac4,ab];cases h:EP s p;rfl;have:=Pm h;grind[bf]
def kA (p:aH):lJ:=(p,(p.2.2.2.2.2.2.2.2.2.2.2.2.2.2.2.length:Int),1)
theorem abb (p:aH):HV p=some (kA p):=rfl
theorem ach (p:aH):Il p=some (kA p):=rfl
def Jx (q:aW)(s:lJ):aW:=(q.1,q.2.1,q.2.2.1,s,true,q.2.2.2.2.2)
def iE (l:ax aE)(m:bK)(d:Int)(q:aW)(k:Bytes)(p:aH)(c:Bool):bK×aW:=
 bif !FP q||(!gI p||((k.length:Int) !=16)) then(m,q) else
 bif c&&(q.2.2.2.2.1&&EP q.2.2.2.1 p) then(m,q.1,q.2.1,q.2.2.1,sU q.2.2.2.1 p,q.2.2.2.2) else
 bif c then((gy l m d q k).1,Jx (gy l m d q k).2 (kA p)) else gy l (gy l m d q k).1 d (Jx (gy l m d q k).2 (kA p)) k
theorem aa0 (l:ax aE)(m:bK)(d:Int)(q:aW)(k:Bytes)(p:aH)(c:Bool)(hl:l.length<=10^9)(hm:m.length<=10^9):qE l m d q k p c=some (iE l m d q k p c):=by
 unfold qE iE Jx;simp only[Q8,Gg,ab,hU m (show m.length<=1073741824 by omega),ac4,ahM,M5 l m d q k hl hm,abb,M5 l (gy l m d q k).1 d _ k hl (show(gy l m d q k).1.length<=10^9 by rw[QH];exact hm)];cases FP q;rfl;cases gI p;rfl;cases (k.length:Int) !=16;case true=>rfl
 cases c;rfl;cases q.2.2.2.2.1;rfl;cases EP q.2.2.2.1 p<;>rfl
theorem ab4 (l:ax aE)(m:bK)(d:Int)(q:aW)(k:Bytes)(p:aH)(c:Bool)(hl:l.length<=10^9)(hm:m.length<=10^9):qT l m d q k p c=some (iE l m d q k p c):=by
 unfold qT iE Jx;simp only[WM,GI,ab,ju m (show m.length<=1073741824 by omega),adu,aiV,NH l m d q k hl hm,ach,NH l (gy l m d q k).1 d _ k hl (show(gy l m d q k).1.length<=10^9 by rw[QH];exact hm)];cases FP q;rfl;cases gI p;rfl;cases (k.length:Int) !=16;case true=>rfl
 cases c;rfl;cases q.2.2.2.2.1;rfl;cases EP q.2.2.2.1 p<;>rfl
theorem ael {n:Nat}{q:aW}{s:lJ}(h:s.1.2.2.2.2.2.2.2.2.2.2.2.2.2.2.2.length<=n):dF n nB (Jx q s):=⟨⟨dx,dx,dx,dx⟩,⟨dx,dx,dx⟩,⟨dx,dx,dx⟩,⟨⟨dx,dx,dx,dx,dx,dx,dx,dx,dx,dx,dx,dx,dx,dx,dx,h⟩,dx,dx⟩,dx,dx⟩
theorem JX {n:Nat}(hn:1000<=n){q:aW}{k:Bytes}{p:aH}{c:Bool}(z:dF n (.sl .str) m)(zq:dF n nB q)(hq:gG q.2.1=true): dF n (.sl .str) (iE l m d q k p c).1/\(iE l m d q k p c).1.length=m.length/\dF n nB (iE l m d q k p c).2/\gG (iE l m d q k p c).2.2.1=true:=by
 unfold iE;cases hc: !FP q||(!gI p||((k.length:Int) !=16));case true=>grind
 simp only[de,eY]at hc;have hp:=Gu hc.2.1;cases hj:c&&(q.2.2.2.2.1&&EP q.2.2.2.1 p)with|true=>simp only[ah]at hj;have:=Pm hj.2.2;refine⟨z,rfl,⟨⟨dx,dx,dx,dx⟩,⟨dx,dx,dx⟩,⟨dx,dx,dx⟩,⟨?_,dx,dx⟩,dx,dx⟩,hq⟩;refine⟨dx,dx,dx,dx,dx,dx,dx,dx,dx,dx,dx,dx,dx,dx,dx,?_⟩;unfold sU;rw[hj.2.2];show List.length (q.2.2.2.1.1.2.2.2.2.2.2.2.2.2.2.2.2.2.2.2++p.2.2.2.2.2.2.2.2.2.2.2.2.2.2.2)<=n;rw[aq];omega|false=>grind[IM,Jx,gy,kA,ael]
theorem Zo {r:jX}(h:FM r=true):0<=r.2.2.2.2.2.2.2.2:=by
 by_cases h0:0<=r.2.2.2.2.2.2.2.2;exact h0;exfalso;have e:∀b:Int,dV r.2.2.2.2.2.2.2.2 0 b=false:=λb=>by rw[Bool.eq_false_iff];intro hc;have:=aS.1 hc;omega
 have e1:(r.2.2.2.2.2.2.2.2==0)=false:=by rw[cq];omega
 revert h;unfold FM;have z:∀c:Bool,(bif c then false else false)=false:=by intro c;cases c<;>rfl
 simp only[oe,cR,ab,di,e,e1,gH,z,ae];intro h;cases h
theorem Jg {s:cX}{q:Int}{p:aH}:gA s q p= -1\/∃n:Nat,gA s q p=(n:Int)/\(n:Int)<q:=by
 unfold gA;cases hb: !eX s q|| !cC p;case true=>exact .inl rfl
 simp only[de,eY]at hb;have hs:=hb.1;simp only[eX,ah]at hs;simp only[ae];cases hd:decide (Eh s.1 p>=0)with
 |true=>obtain⟨n,hn,hl⟩:=Qy s.1 p (bS hd);simp only[af,hn,aC,fD hl];cases s.1[n].2.2.2.2.2.2.2.1==1 with|true=>exact .inl rfl|false=>have h1:=aO.1 hs.1.2 _ (bn hl);have h2:=hs.1.1.1.1;simp only[BK,ah]at h2;have h3:=Zo (aO.1 h2.1 _ (bn hl));simp only[aP,dh]at h1;exact .inr ⟨s.1[n].2.2.2.2.2.2.2.2.toNat,by grind,by omega⟩
 |false=>
  simp only[ae];cases SP:decide (findF s.2.1 (dJ p)>=0)with
  |true=>obtain⟨n,hn,hl⟩:=Qx s.2.1 (dJ p) (bS SP);simp only[af,hn,aC,fD hl];have h1:=aO.1 hs.2 _ (bn hl);have h2:=hs.1.1.1.2;simp only[sD,ah,bD]at h2;have h3:=aO.1 h2.2 n (cP.2 (by omega));unfold pO U5 at h3;rw[zR hl]at h3;simp only[ah,aS]at h3;simp only[aP,dh]at h1;exact .inr ⟨s.2.1[n].2.2.toNat,by omega,by omega⟩
  |false=>
   simp only[ae];unfold Jd;cases hc: !wZ s.2.2 q||decide (ES s.2.2 (dJ p)<0);case true=>exact .inl rfl
   simp only[de,eY,dh]at hc;obtain⟨n,hn,hl⟩:=MS s.2.2 (dJ p) hc.2;have h1:=hc.1;simp only[wZ,ah]at h1;have h2:=aS.1 (aO.1 h1.2 _ (bn hl));simp only[ae,hn,aC,fD hl];exact .inr ⟨s.2.2.2[n].toNat,by omega,by omega⟩
def po (h:Host)(a b c d:Int):Host:=(h.1,h.2.1,h.2.2.1,h.2.2.2.1,h.2.2.2.2.1,h.2.2.2.2.2.1,h.2.2.2.2.2.2.1,h.2.2.2.2.2.2.2.1,h.2.2.2.2.2.2.2.2.1,h.2.2.2.2.2.2.2.2.2.1,h.2.2.2.2.2.2.2.2.2.2.1,h.2.2.2.2.2.2.2.2.2.2.2.1,h.2.2.2.2.2.2.2.2.2.2.2.2.1,h.2.2.2.2.2.2.2.2.2.2.2.2.2.1,ar (h.2.2.2.2.2.2.2.2.2.2.2.2.2.2.1+1),a,b,c,d)
def iY (h:Host)(x:Bytes):Host:=
 bif !eU h then h else
 bif (fF x).2 !=0 then po h (ar (h.2.2.2.2.2.2.2.2.2.2.2.2.2.2.2.1+1)) h.2.2.2.2.2.2.2.2.2.2.2.2.2.2.2.2.1 h.2.2.2.2.2.2.2.2.2.2.2.2.2.2.2.2.2.1 h.2.2.2.2.2.2.2.2.2.2.2.2.2.2.2.2.2.2 else
 bif !kj h.2.2.2.2.2.2.2.1 (fF x).1 then po h h.2.2.2.2.2.2.2.2.2.2.2.2.2.2.2.1 (ar (h.2.2.2.2.2.2.2.2.2.2.2.2.2.2.2.2.1+1)) h.2.2.2.2.2.2.2.2.2.2.2.2.2.2.2.2.2.1 h.2.2.2.2.2.2.2.2.2.2.2.2.2.2.2.2.2.2 else
 bif gA h.2.2.2.2.2.2.2.2.1 (h.2.2.2.1.length:Int) (fF x).1== -1 then po h h.2.2.2.2.2.2.2.2.2.2.2.2.2.2.2.1 h.2.2.2.2.2.2.2.2.2.2.2.2.2.2.2.2.1 (ar (h.2.2.2.2.2.2.2.2.2.2.2.2.2.2.2.2.2.1+1)) h.2.2.2.2.2.2.2.2.2.2.2.2.2.2.2.2.2.2 else
 match h.2.2.2.1[(gA h.2.2.2.2.2.2.2.2.1 (h.2.2.2.1.length:Int) (fF x).1).toNat]? with
 |some q=>qZ (po h h.2.2.2.2.2.2.2.2.2.2.2.2.2.2.2.1 h.2.2.2.2.2.2.2.2.2.2.2.2.2.2.2.2.1 h.2.2.2.2.2.2.2.2.2.2.2.2.2.2.2.2.2.1 (ar (h.2.2.2.2.2.2.2.2.2.2.2.2.2.2.2.2.2.2+1))) (gA h.2.2.2.2.2.2.2.2.1 (h.2.2.2.1.length:Int) (fF x).1).toNat q.2.1.2.2 (iE h.2.1 h.1 0 q h.2.2.2.2.2.2.2.2.1.2.2.1 (fF x).1 h.2.2.2.2.2.2.2.2.2.2.1)
 |none=>h
theorem Wd (h:Host)(x:Bytes)(k:BW 900000000 h)(hx:x.length<=10^9):uo h x=some (iY h x):=by
 have z:=k.z;have z1:h.1.length<=900000000:=z.1.1;have z2:h.2.1.length<=900000000:=z.2.1.1;have zf:h.2.2.2.2.2.2.2.1.2.2.length<=900000000:=z.2.2.2.2.2.2.2.1.2.2.1;have s1:h.2.2.2.2.2.2.2.2.1.1.length<=900000000:=z.2.2.2.2.2.2.2.2.1.1.1;have s2:h.2.2.2.2.2.2.2.2.1.2.1.length<=900000000:=z.2.2.2.2.2.2.2.2.1.2.1.1;have s3:h.2.2.2.2.2.2.2.2.1.2.2.2.length<=900000000:=z.2.2.2.2.2.2.2.2.1.2.2.2.1;unfold uo iY;rw[kG h (z.mono),ab,vG h (k.sz (by omega)),ab];cases hb:eU h;rfl;have hl:=qI (by grind[eU]:qv h=true);have hr:=Du hb;simp only[aj,ae,aeF x hx,ab,Yk h.2.2.2.2.2.2.2.1 _ (show h.2.2.2.2.2.2.2.1.2.2.length<=10^9 by omega),aeK h.2.2.2.2.2.2.2.2.1 _ _ (show h.2.2.2.2.2.2.2.2.1.1.length<=10^9 by omega) (show h.2.2.2.2.2.2.2.2.1.2.1.length<=10^9 by omega) (show h.2.2.2.2.2.2.2.2.1.2.2.2.length<=10^9 by omega)];generalize fF x=f;cases f.2 !=0;case true=>rfl
 cases kj h.2.2.2.2.2.2.2.1 f.1;rfl;simp only[aj,ae];have mI:=Jg (s:=h.2.2.2.2.2.2.2.2.1) (q:=(h.2.2.2.1.length:Int)) (p:=f.1);generalize gA h.2.2.2.2.2.2.2.2.1 (h.2.2.2.1.length:Int) f.1=r at mI⊢;rcases mI with rfl|⟨n,rfl,hn⟩;rfl;have i1:n<h.2.2.2.1.length:=by omega
 have i2:n<h.2.2.2.2.2.1.length:=by omega
 have hq:=(Bt (hr n i1)).1;have hqi:=mQ hq;have ha:=JX (show 1000<=900000000 by omega) (l:=h.2.1) (d:=0) (k:=h.2.2.2.2.2.2.2.2.1.2.2.1) (p:=f.1) (c:=h.2.2.2.2.2.2.2.2.2.2.1) z.1 (z.2.2.2.1.2 _ (bn i1)) hq;have ev:=OP (h:=po h h.2.2.2.2.2.2.2.2.2.2.2.2.2.2.2.1 h.2.2.2.2.2.2.2.2.2.2.2.2.2.2.2.2.1 h.2.2.2.2.2.2.2.2.2.2.2.2.2.2.2.2.2.1 (ar (h.2.2.2.2.2.2.2.2.2.2.2.2.2.2.2.2.2.2+1))) (k:=n) (b:=h.2.2.2.1[n].2.1.2.2) (f:=iE h.2.1 h.1 0 h.2.2.2.1[n] h.2.2.2.2.2.2.2.2.1.2.2.1 f.1 h.2.2.2.2.2.2.2.2.2.2.1) i1 i2 ha.2.2.2;rw[show((n:Int)== -1)=false from by rw[cq];omega,aC,ay i1];simp only[ae,bw i1,ab,aa0 h.2.1 h.1 0 _ _ _ _ (show h.2.1.length<=10^9 by omega) (show h.1.length<=10^9 by omega)];rw[show(mN ((iE h.2.1 h.1 0 h.2.2.2.1[n] h.2.2.2.2.2.2.2.2.1.2.2.1 f.1 h.2.2.2.2.2.2.2.2.2.2.1).1,h.2.1,h.2.2.1,h.2.2.2.1.set n (iE h.2.1 h.1 0 h.2.2.2.1[n] h.2.2.2.2.2.2.2.2.1.2.2.1 f.1 h.2.2.2.2.2.2.2.2.2.2.1).2,h.2.2.2.2.1,h.2.2.2.2.2.1,h.2.2.2.2.2.2.1,h.2.2.2.2.2.2.2.1,h.2.2.2.2.2.2.2.2.1,h.2.2.2.2.2.2.2.2.2.1,h.2.2.2.2.2.2.2.2.2.2.1,h.2.2.2.2.2.2.2.2.2.2.2.1,h.2.2.2.2.2.2.2.2.2.2.2.2.1,h.2.2.2.2.2.2.2.2.2.2.2.2.2.1,ar (h.2.2.2.2.2.2.2.2.2.2.2.2.2.2.1+1),h.2.2.2.2.2.2.2.2.2.2.2.2.2.2.2.1,h.2.2.2.2.2.2.2.2.2.2.2.2.2.2.2.2.1,h.2.2.2.2.2.2.2.2.2.2.2.2.2.2.2.2.2.1,ar (h.2.2.2.2.2.2.2.2.2.2.2.2.2.2.2.2.2.2+1)) (n:Int) h.2.2.2.1[n].2.1.2.2)=_ from ev,ab]
theorem WL (h:Host)(x:Bytes)(k:BW 900000000 h)(hx:x.length<=10^9):uN h x=some (iY h x):=by
 have z:=k.z;have z1:h.1.length<=900000000:=z.1.1;have z2:h.2.1.length<=900000000:=z.2.1.1;have zf:h.2.2.2.2.2.2.2.1.2.2.length<=900000000:=z.2.2.2.2.2.2.2.1.2.2.1;have s1:h.2.2.2.2.2.2.2.2.1.1.length<=900000000:=z.2.2.2.2.2.2.2.2.1.1.1;have s2:h.2.2.2.2.2.2.2.2.1.2.1.length<=900000000:=z.2.2.2.2.2.2.2.2.1.2.1.1;have s3:h.2.2.2.2.2.2.2.2.1.2.2.2.length<=900000000:=z.2.2.2.2.2.2.2.2.1.2.2.2.1;unfold uN iY;rw[kL h (z.mono),ab,ry h (k.sz (by omega)),ab];cases hb:eU h;rfl;have hl:=qI (by grind[eU]:qv h=true);have hr:=Du hb;simp only[aj,ae,NJ x hx,ab,OA h.2.2.2.2.2.2.2.1 _ (show h.2.2.2.2.2.2.2.1.2.2.length<=10^9 by omega),Vd h.2.2.2.2.2.2.2.2.1 _ _ (show h.2.2.2.2.2.2.2.2.1.1.length<=10^9 by omega) (show h.2.2.2.2.2.2.2.2.1.2.1.length<=10^9 by omega) (show h.2.2.2.2.2.2.2.2.1.2.2.2.length<=10^9 by omega)];generalize fF x=f;cases f.2 !=0;case true=>rfl
 cases kj h.2.2.2.2.2.2.2.1 f.1;rfl;simp only[aj,ae];have mI:=Jg (s:=h.2.2.2.2.2.2.2.2.1) (q:=(h.2.2.2.1.length:Int)) (p:=f.1);generalize gA h.2.2.2.2.2.2.2.2.1 (h.2.2.2.1.length:Int) f.1=r at mI⊢;rcases mI with rfl|⟨n,rfl,hn⟩;rfl;have i1:n<h.2.2.2.1.length:=by omega
 have i2:n<h.2.2.2.2.2.1.length:=by omega
 have hq:=(Bt (hr n i1)).1;have hqi:=mQ hq;have ha:=JX (show 1000<=900000000 by omega) (l:=h.2.1) (d:=0) (k:=h.2.2.2.2.2.2.2.2.1.2.2.1) (p:=f.1) (c:=h.2.2.2.2.2.2.2.2.2.2.1) z.1 (z.2.2.2.1.2 _ (bn i1)) hq;have ev:=OQ (h:=po h h.2.2.2.2.2.2.2.2.2.2.2.2.2.2.2.1 h.2.2.2.2.2.2.2.2.2.2.2.2.2.2.2.2.1 h.2.2.2.2.2.2.2.2.2.2.2.2.2.2.2.2.2.1 (ar (h.2.2.2.2.2.2.2.2.2.2.2.2.2.2.2.2.2.2+1))) (k:=n) (b:=h.2.2.2.1[n].2.1.2.2) (f:=iE h.2.1 h.1 0 h.2.2.2.1[n] h.2.2.2.2.2.2.2.2.1.2.2.1 f.1 h.2.2.2.2.2.2.2.2.2.2.1) i1 i2 ha.2.2.2;rw[show((n:Int)== -1)=false from by rw[cq];omega,aw (show¬(n:Int)<0 by omega),aC,ay i1];simp only[ae,bw i1,ab,ab4 h.2.1 h.1 0 _ _ _ _ (show h.2.1.length<=10^9 by omega) (show h.1.length<=10^9 by omega)];rw[show(mW ((iE h.2.1 h.1 0 h.2.2.2.1[n] h.2.2.2.2.2.2.2.2.1.2.2.1 f.1 h.2.2.2.2.2.2.2.2.2.2.1).1,h.2.1,h.2.2.1,h.2.2.2.1.set n (iE h.2.1 h.1 0 h.2.2.2.1[n] h.2.2.2.2.2.2.2.2.1.2.2.1 f.1 h.2.2.2.2.2.2.2.2.2.2.1).2,h.2.2.2.2.1,h.2.2.2.2.2.1,h.2.2.2.2.2.2.1,h.2.2.2.2.2.2.2.1,h.2.2.2.2.2.2.2.2.1,h.2.2.2.2.2.2.2.2.2.1,h.2.2.2.2.2.2.2.2.2.2.1,h.2.2.2.2.2.2.2.2.2.2.2.1,h.2.2.2.2.2.2.2.2.2.2.2.2.1,h.2.2.2.2.2.2.2.2.2.2.2.2.2.1,ar (h.2.2.2.2.2.2.2.2.2.2.2.2.2.2.1+1),h.2.2.2.2.2.2.2.2.2.2.2.2.2.2.2.1,h.2.2.2.2.2.2.2.2.2.2.2.2.2.2.2.2.1,h.2.2.2.2.2.2.2.2.2.2.2.2.2.2.2.2.2.1,ar (h.2.2.2.2.2.2.2.2.2.2.2.2.2.2.2.2.2.2+1)) (n:Int) h.2.2.2.1[n].2.1.2.2)=_ from ev,ab]
theorem Zk {n:Nat}(hn:1000<=n)(x:Bytes)(k:BW n h):BW n (iY h x)/\(iY h x).2.2.1=h.2.2.1/\(iY h x).2.2.2.2.1.length=h.2.2.2.2.1.length:=by
 have z:=k.z;have zc:∀a b c d,BW n (po h a b c d):=λa b c d=>⟨⟨z.1,z.2.1,z.2.2.1,z.2.2.2.1,z.2.2.2.2.1,z.2.2.2.2.2.1,z.2.2.2.2.2.2.1,z.2.2.2.2.2.2.2.1,z.2.2.2.2.2.2.2.2.1,z.2.2.2.2.2.2.2.2.2.1,z.2.2.2.2.2.2.2.2.2.2.1,z.2.2.2.2.2.2.2.2.2.2.2.1,z.2.2.2.2.2.2.2.2.2.2.2.2.1,z.2.2.2.2.2.2.2.2.2.2.2.2.2.1,dx,dx,dx,dx,dx⟩,k.t⟩
 unfold iY;cases hb:eU h;exact⟨k,rfl,rfl⟩;have hr:=Du hb;generalize fF x=f;cases f.2 !=0;case true=>exact⟨zc ..,rfl,rfl⟩
 cases kj h.2.2.2.2.2.2.2.1 f.1;exact⟨zc ..,rfl,rfl⟩;simp only[aj,ae];generalize gA h.2.2.2.2.2.2.2.2.1 (h.2.2.2.1.length:Int) f.1=r;cases r== -1;case true=>exact⟨zc ..,rfl,rfl⟩
 simp only[ae];rcases hq:h.2.2.2.1[r.toNat]? with _|q;exact⟨k,rfl,rfl⟩;obtain⟨hi,hqe⟩:=aD.1 hq;have hqd:=(Bt (hr _ hi)).1;rw[hqe]at hqd;have ha:=JX hn (l:=h.2.1) (d:=0) (k:=h.2.2.2.2.2.2.2.2.1.2.2.1) (p:=f.1) (c:=h.2.2.2.2.2.2.2.2.2.2.1) z.1 (z.2.2.2.1.2 _ (aX hq)) hqd;have zc':=zc h.2.2.2.2.2.2.2.2.2.2.2.2.2.2.2.1 h.2.2.2.2.2.2.2.2.2.2.2.2.2.2.2.2.1 h.2.2.2.2.2.2.2.2.2.2.2.2.2.2.2.2.2.1 (ar (h.2.2.2.2.2.2.2.2.2.2.2.2.2.2.2.2.2.2+1));have kk:=Iv (h:=po h h.2.2.2.2.2.2.2.2.2.2.2.2.2.2.2.1 h.2.2.2.2.2.2.2.2.2.2.2.2.2.2.2.2.1 h.2.2.2.2.2.2.2.2.2.2.2.2.2.2.2.2.2.1 (ar (h.2.2.2.2.2.2.2.2.2.2.2.2.2.2.2.2.2.2+1))) (k:=r.toNat) (b:=q.2.1.2.2) (f:=iE h.2.1 h.1 0 q h.2.2.2.2.2.2.2.2.1.2.2.1 f.1 h.2.2.2.2.2.2.2.2.2.2.1) ha.2.1;exact⟨⟨Sw zc'.z ha.1 ha.2.2.1,by rw[kk.tx];exact k.t⟩,kk.tx,kk.pl⟩
theorem akd (l:ax aE)(m:bK)(d:Int)(rx:aW)(pl:dq)(st:ax Stream)(c:Int):(gP l m d rx pl st c).1.length=m.length:=by grind[gP,acX]
def qL (b:Int)(k:Nat)(s:Int×Host):Int×Host:=
 match s.2.2.2.2.2.2.1[k]?,s.2.2.2.2.2.2.2.1[k]?,s.2.2.2.2.1[k]?,s.2.2.2.2.2.1[k]? with
 |some v,some p,some x,some pl=>
  bif p||(oJ v).2 then
   (ar (s.1+(gP s.2.2.1 s.2.1 0 x pl s.2.2.2.2.2.2.2.2.2.2.1 b).2.2.2.2),
    (gP s.2.2.1 s.2.1 0 x pl s.2.2.2.2.2.2.2.2.2.2.1 b).1,s.2.2.1,s.2.2.2.1,s.2.2.2.2.1.set k (gP s.2.2.1 s.2.1 0 x pl s.2.2.2.2.2.2.2.2.2.2.1 b).2.1,s.2.2.2.2.2.1.set k (gP s.2.2.1 s.2.1 0 x pl s.2.2.2.2.2.2.2.2.2.2.1 b).2.2.1,
    s.2.2.2.2.2.2.1.set k (bif decide ((gP s.2.2.1 s.2.1 0 x pl s.2.2.2.2.2.2.2.2.2.2.1 b).2.2.2.2<b) then yZ (oJ v).1 else(oJ v).1),
    s.2.2.2.2.2.2.2.1.set k (!decide ((gP s.2.2.1 s.2.1 0 x pl s.2.2.2.2.2.2.2.2.2.2.1 b).2.2.2.2<b)),s.2.2.2.2.2.2.2.2.1,s.2.2.2.2.2.2.2.2.2.1,(gP s.2.2.1 s.2.1 0 x pl s.2.2.2.2.2.2.2.2.2.2.1 b).2.2.2.1,s.2.2.2.2.2.2.2.2.2.2.2)
  else(s.1,s.2.1,s.2.2.1,s.2.2.2.1,s.2.2.2.2.1,s.2.2.2.2.2.1,s.2.2.2.2.2.2.1.set k (oJ v).1,s.2.2.2.2.2.2.2.1.set k false,s.2.2.2.2.2.2.2.2)
 |_,_,_,_=>s
theorem ED (b:Int)(k:Nat)(s:Int×Host):mE (k+1) s.2 (qL b k s).2:=by unfold qL;rcases s.2.2.2.2.2.2.1[k]? with _|v;exact mE.refl _ _;rcases s.2.2.2.2.2.2.2.1[k]? with _|p;exact mE.refl _ _;rcases s.2.2.2.2.1[k]? with _|x;exact mE.refl _ _;rcases s.2.2.2.2.2.1[k]? with _|pl;exact mE.refl _ _;simp only;cases p||(oJ v).2 with|true=>exact⟨akd ..,rfl,rfl,aL ..,λj hj=>aM (by omega),aL ..,aL ..,λj hj=>aM (by omega),aL ..,rfl,rfl⟩|false=>exact⟨rfl,rfl,rfl,rfl,λ_ _=>rfl,rfl,aL ..,λj hj=>aM (by omega),aL ..,rfl,rfl⟩
theorem ab0 (b:Int)(k:Nat)(s:Int×Host){n:Nat}(hn:1000<=n)(z:dF n gY s.2):dF (n+322000) gY (qL b k s).2:=by have z':dF (n+322000) gY s.2:=z.mono;unfold qL;rcases s.2.2.2.2.2.2.1[k]? with _|v;exact z';rcases s.2.2.2.2.2.2.2.1[k]? with _|p;exact z';rcases h1:s.2.2.2.2.1[k]? with _|x;exact z';rcases h2:s.2.2.2.2.2.1[k]? with _|pl;exact z';simp only;cases p||(oJ v).2 with|true=>have hp:=afC (by omega) (l:=s.2.2.1) (d:=0) b z.1 (z.2.2.2.1.2 _ (aX h1)) (z.2.2.2.2.1.2 _ (aX h2)) z.2.2.2.2.2.2.2.2.2.1;exact⟨hp.1.mono,z'.2.1,z'.2.2.1,FB z'.2.2.2.1 (hp.2.1.mono),FB z'.2.2.2.2.1 hp.2.2.1,PI z'.2.2.2.2.2.1,FB z'.2.2.2.2.2.2.1 trivial,z'.2.2.2.2.2.2.2.1,z'.2.2.2.2.2.2.2.2.1,hp.2.2.2.1,z'.2.2.2.2.2.2.2.2.2.2⟩|false=>exact⟨z'.1,z'.2.1,z'.2.2.1,z'.2.2.2.1,z'.2.2.2.2.1,PI z'.2.2.2.2.2.1,FB z'.2.2.2.2.2.2.1 trivial,z'.2.2.2.2.2.2.2⟩
def gu (b:Int):Nat->Host->Int×Host
 |0,h=>(0,h)
 |k+1,h=>qL b k (gu b k h)
theorem xA (b:Int)(h:Host):∀k,mE k h (gu b k h).2
 |0=>mE.refl 0 h
 |k+1=>((xA b h k).up (by omega)).trans (ED b k _)
theorem GC (b:Int){n:Nat}(hn:1000<=n)(z:dF n gY h):∀k,dF (n+322000*k) gY (gu b k h).2
 |0=>z
 |k+1=>(ab0 b k _ (by omega) (GC b hn z k)).mono
def gi (h:Host)(b:Int):Host×Int:=bif eU h&&dV b 1 1000 then((gu b h.2.2.2.1.length h).2,(gu b h.2.2.2.1.length h).1) else(h,0)
theorem Oy {n:Nat}(hn:1000<=n)(b:Int)(k:BW n h):BW (n+644000) (gi h b).1:=by unfold gi;cases hb:eU h&&dV b 1 1000 with|false=>exact k.mono|true=>simp only[ah]at hb;have hl:=qI (by grind[eU]:qv h=true);refine⟨(GC b hn k.z _).mono,?_⟩;simp only[af];rw[(xA b h _).tx];exact bF k.t (by omega)
theorem Of (h:Host)(b:Int)(k:BW 400000000 h):pz h b=some (gi h b):=by
 have zj:=dD;unfold pz gi;rw[kG h (k.z.mono),ab,vG h (k.sz (by omega)),ab,dI];cases hb:eU h;rfl;cases hi0:dV b 1 1000;rfl;have hl:=qI (by simp only[eU,ah]at hb;exact hb.2.2.2.2.1:qv h=true);simp only[aj,ae,ab,du,af];refine dA (λi=>((gu b i h).1,(i:Int),(gu b i h).2)) h.2.2.2.1.length (by omega) (λi nx hi=>?_) (λnx=>?_);have kk:=xA b h i;have zz:dF 500000000 gY (gu b i h).2:=(GC b (by omega) k.z i).mono;have i1:i<(gu b i h).2.2.2.2.1.length:=by rw[kk.rx];exact hi
 have i2:i<(gu b i h).2.2.2.2.2.1.length:=by rw[kk.pl];omega
 have i3:i<(gu b i h).2.2.2.2.2.2.1.length:=by rw[kk.vec];omega
 have i4:i<(gu b i h).2.2.2.2.2.2.2.1.length:=by rw[kk.pol];omega
 rw[show gu b (i+1) h=qL b i (gu b i h) from rfl];generalize gu b i h=s at zz i1 i2 i3 i4⊢;have gp:∀(V:ax Vector)(P:ax Bool),sk (s.2.1,s.2.2.1,s.2.2.2.1,s.2.2.2.2.1,s.2.2.2.2.2.1,V,P,s.2.2.2.2.2.2.2.2) (i:Int) b=some ((gP s.2.2.1 s.2.1 0 s.2.2.2.2.1[i] s.2.2.2.2.2.1[i] s.2.2.2.2.2.2.2.2.2.2.1 b).2.2.2.2,(gP s.2.2.1 s.2.1 0 s.2.2.2.2.1[i] s.2.2.2.2.2.1[i] s.2.2.2.2.2.2.2.2.2.2.1 b).1,s.2.2.1,s.2.2.2.1,s.2.2.2.2.1.set i (gP s.2.2.1 s.2.1 0 s.2.2.2.2.1[i] s.2.2.2.2.2.1[i] s.2.2.2.2.2.2.2.2.2.2.1 b).2.1,s.2.2.2.2.2.1.set i (gP s.2.2.1 s.2.1 0 s.2.2.2.2.1[i] s.2.2.2.2.2.1[i] s.2.2.2.2.2.2.2.2.2.2.1 b).2.2.1,V,P,s.2.2.2.2.2.2.2.2.1,s.2.2.2.2.2.2.2.2.2.1,(gP s.2.2.1 s.2.1 0 s.2.2.2.2.1[i] s.2.2.2.2.2.1[i] s.2.2.2.2.2.2.2.2.2.2.1 b).2.2.2.1,s.2.2.2.2.2.2.2.2.2.2.2):=by intro V P;have C1:s.2.2.2.2.2.1[i].2.2.2.length<=500000000:=(zz.2.2.2.2.1.2 _ (bn i2)).2.2.2.1;have hm:s.2.1.length<=500000000:=zz.1.1;have hp:s.2.2.1.length<=500000000:=zz.2.1.1;unfold sk;simp only[bw i1,bw i2,ab,ahO s.2.2.1 s.2.1 0 _ _ _ b (show s.2.2.1.length<=10^9 by omega) (show s.2.1.length<=10^9 by omega) C1 zz.2.2.2.2.2.2.2.2.2.1,aC]
 have HP:∀V:Vector,s.2.2.2.2.2.2.1.set i V=s.2.2.2.2.2.2.1.set i V:=λ_=>rfl;unfold qL;rw[ay i1,ay i2,ay i3,ay i4];simp only[oP];rw[kW,af];simp only[bw i3,bw i4,ab,aeN,aC,gp];generalize oJ s.2.2.2.2.2.2.1[i]=w;generalize gP s.2.2.1 s.2.1 0 s.2.2.2.2.1[i] s.2.2.2.2.2.1[i] s.2.2.2.2.2.2.2.2.2.2.1 b=pr;have i5:∀V:Vector,i<(s.2.2.2.2.2.2.1.set i V).length:=λV=>by rw[aL];exact i3
 have i6:∀q:Bool,i<(s.2.2.2.2.2.2.2.1.set i q).length:=λq=>by rw[aL];exact i4
 have e5:∀V:Vector,idx (s.2.2.2.2.2.2.1.set i V) (i:Int)=some V:=λV=>by rw[bw (i5 V),List.getElem_set_self]
 have e6:∀q:Bool,idx (s.2.2.2.2.2.2.2.1.set i q) (i:Int)=some q:=λq=>by rw[bw (i6 q),List.getElem_set_self]
 rw[ak (n:=(i:Int)+1) (by omega) (by omega)];have Em:s.2.2.2.2.2.2.2.1.set i (s.2.2.2.2.2.2.2.1[i])=s.2.2.2.2.2.2.2.1:=List.set_getElem_self ..;generalize hp:s.2.2.2.2.2.2.2.1[i]=p at Em⊢;cases hw:w.2 with
 |true=>simp only[Bool.or_true,af,e6,e5,ab,aj,ae,Ra,List.set_set];cases decide (pr.2.2.2.2<b)<;>rfl
 |false=>
  simp only[Bool.or_false,ae];cases p with
  |false=>rw[Em];rfl
  |true=>
   have e7:idx s.2.2.2.2.2.2.2.1 (i:Int)=some true:=by rw[bw i4,hp]
   simp only[af,aj,ae,e5,e7,ab,Ra,List.set_set];cases decide (pr.2.2.2.2<b)with|true=>rfl|false=>simp only[ae,cA,Em];rfl
 simp only[oP];rw[ie,ae]
theorem OE (h:Host)(b:Int)(k:BW 400000000 h):pW h b=some (gi h b):=by
 have zj:=dD;unfold pW gi;rw[kL h (k.z.mono),ab,ry h (k.sz (by omega)),ab,cR];cases hb:eU h;rfl;cases hi0:dV b 1 1000;rfl;have hl:=qI (by simp only[eU,ah]at hb;exact hb.2.2.2.2.1:qv h=true);simp only[aj,ae,ab,du,af];refine dA (λi=>((gu b i h).1,(i:Int),(gu b i h).2)) h.2.2.2.1.length (by omega) (λi nx hi=>?_) (λnx=>?_);have kk:=xA b h i;have zz:dF 500000000 gY (gu b i h).2:=(GC b (by omega) k.z i).mono;have i1:i<(gu b i h).2.2.2.2.1.length:=by rw[kk.rx];exact hi
 have i2:i<(gu b i h).2.2.2.2.2.1.length:=by rw[kk.pl];omega
 have i3:i<(gu b i h).2.2.2.2.2.2.1.length:=by rw[kk.vec];omega
 have i4:i<(gu b i h).2.2.2.2.2.2.2.1.length:=by rw[kk.pol];omega
 have em:=kk.maps;rw[show gu b (i+1) h=qL b i (gu b i h) from rfl];generalize gu b i h=s at zz i1 i2 i3 i4 em⊢;have C1:s.2.2.2.2.2.1[i].2.2.2.length<=500000000:=(zz.2.2.2.2.1.2 _ (bn i2)).2.2.2.1;have hm:s.2.1.length<=500000000:=zz.1.1;have hp:s.2.2.1.length<=500000000:=zz.2.1.1;have gp:=ai0 s.2.2.1 s.2.1 0 s.2.2.2.2.1[i] s.2.2.2.2.2.1[i] s.2.2.2.2.2.2.2.2.2.2.1 b (show s.2.2.1.length<=10^9 by omega) (show s.2.1.length<=10^9 by omega) C1 zz.2.2.2.2.2.2.2.2.2.1;unfold qL;rw[ay i1,ay i2,ay i3,ay i4];simp only[oW];rw[kW,af,<-em];simp only[bw i1,bw i2,bw i3,bw i4,ab,agb,aC,gp];generalize oJ s.2.2.2.2.2.2.1[i]=w;generalize gP s.2.2.1 s.2.1 0 s.2.2.2.2.1[i] s.2.2.2.2.2.1[i] s.2.2.2.2.2.2.2.2.2.2.1 b=pr;have i5:∀V:Vector,i<(s.2.2.2.2.2.2.1.set i V).length:=λV=>by rw[aL];exact i3
 have i6:∀q:Bool,i<(s.2.2.2.2.2.2.2.1.set i q).length:=λq=>by rw[aL];exact i4
 have e5:∀V:Vector,idx (s.2.2.2.2.2.2.1.set i V) (i:Int)=some V:=λV=>by rw[bw (i5 V),List.getElem_set_self]
 have e6:∀q:Bool,idx (s.2.2.2.2.2.2.2.1.set i q) (i:Int)=some q:=λq=>by rw[bw (i6 q),List.getElem_set_self]
 rw[ak (n:=(i:Int)+1) (by omega) (by omega)];generalize s.2.2.2.2.2.2.2.1[i]=p;cases p with|true=>simp only[lA,af,e6,e5,ab,aj,ae,Sa,List.set_set];cases decide (pr.2.2.2.2<b)<;>rfl|false=>simp only[cM,ae,e6,e5,ab,Sa,List.set_set];cases w.2 with|false=>rfl|true=>simp only[aj,ae,af];cases decide (pr.2.2.2.2<b)<;>rfl
 simp only[oW];rw[aw (by have:=(xA b h h.2.2.2.1.length).rx;omega),ae]
def vw (b:Int):Nat->Host->Host
 |0,h=>h
 |k+1,h=>(gi (om (vw b k h)) b).1
theorem Mq {n:Nat}(hn:1000<=n)(k:BW n h):BW n (om h):=by have:=aja hn k.z;exact⟨this.1,by rw[this.2];exact k.t⟩
theorem IE (b:Int){n:Nat}(hn:1000<=n)(z:BW n h):∀k,BW (n+644000*k) (vw b k h)
 |0=>z
 |k+1=>(Oy (by omega) b (Mq (by omega) (IE b hn z k))).mono
def ku (h:Host)(b r:Int):Host:=bif eU h&&(dV b 1 1000&&dV r 0 200) then vw b r.toNat (jh (dj h)) else h
theorem ad2 {n:Nat}(hn:1000<=n)(b r:Int)(z:BW n h):BW (n+128805440) (ku h b r):=by unfold ku;cases hb:eU h&&(dV b 1 1000&&dV r 0 200)with|false=>exact z.mono|true=>simp only[ah]at hb;have hr:=aS.1 hb.2.2;exact(IE b (by omega) (IL (by omega) (CQ (by omega) z)) r.toNat).mono
theorem aew (h:Host)(b r:Int)(k:BW 200000000 h):xU h b r=some (ku h b r):=by have zj:=dD;unfold xU ku;rw[kG h (k.z.mono),ab,vG h (k.sz (by omega)),dI,dI];simp only[ab];cases hb:eU h;rfl;cases hi0:dV b 1 1000;rfl;cases hi1:dV r 0 200;rfl;have hr:=aS.1 hi1;obtain⟨r,rfl⟩:=au hr.1;have zt:=CQ (by omega) k;have zf:=IL (by omega) zt;simp only[aj,ae,ab,du,af,Lp h (k.mono),Q4 _ (zt.mono),aC];refine dA (λi=>((i:Int),vw b i (jh (dj h)))) r (by omega) (λi nx hi=>?_) (λnx=>?_);have zi:=IE b (by omega) zf i;have z2:=Mq (by omega) zi;simp only[sJ];rw[kW,af,Yx _ (zi.sz (by omega)) (zi.z.mono),ab,Of _ b (z2.mono),ab,ak (by omega) (by omega)];rfl;simp only[sJ];rw[ie,ae]
theorem afZ (h:Host)(b r:Int)(k:BW 200000000 h):yB h b r=some (ku h b r):=by have zj:=dD;unfold yB ku;rw[ry h (k.sz (by omega)),cR,cR,kL h (k.z.mono)];simp only[ab];cases hb:eU h;rfl;cases hi0:dV b 1 1000;rfl;cases hi1:dV r 0 200;rfl;have hr:=aS.1 hi1;obtain⟨r,rfl⟩:=au hr.1;have zt:=CQ (by omega) k;have zf:=IL (by omega) zt;simp only[aj,ae,ab,du,af,Mi h (k.mono),R3 _ (zt.mono),aC];refine dA (λi=>((i:Int),vw b i (jh (dj h)))) r (by omega) (λi nx hi=>?_) (λnx=>?_);have zi:=IE b (by omega) zf i;have z2:=Mq (by omega) zi;simp only[sW];rw[kW,af,ZM _ (zi.sz (by omega)) (zi.z.mono),ab,OE _ b (z2.mono),ab,ak (by omega) (by omega)];rfl;simp only[sW];rw[ie,ae]
def txt (_:Int):Bytes:=[]
def Eb:(t:CT)->t.D->Nat
 | .int _,_=>1
 | .bool,_=>1
 | .str,_=>1
 | .sl e,xs=>(xs.map (Eb e)).sum
 | .pair a b,x=>Eb a x.1+Eb b x.2
def mkL (f:α->Int->α)(c:α->Nat):ax α->Int->ax α
 |[],_=>[]
 |x::xs,k=>f x k::mkL f c xs (k+c x)
def mk:(t:CT)->t.D->Int->t.D
 | .int _,_,k=>k
 | .bool,_,k=>tmod k 3==0
 | .str,_,k=>txt k
 | .sl e,xs,k=>mkL (mk e) (Eb e) xs k
 | .pair a b,x,k=>(mk a x.1 k,mk b x.2 (k+Eb a x.1))
def wt:CT->Nat
 | .sl e=>wt e
 | .pair a b=>wt a+wt b
 |_=>1
def C9 (s:oq)(p:aH)(z:Int):oq:=bif FU s then(s.1,s.2.1,s.2.2.1,s.2.2.2.1,s.2.2.2.2++EC p z) else s
theorem WN (s:oq)(p:aH)(z:Int)(h:dF 100000000 vj s):we s p z=some (C9 s p z):=by have hl:=(ND p z).1;have hs:s.2.2.2.2.length<=100000000:=h.2.2.2.2.1;have h':dF 1000000000 vj s:=h.mono;simp only[we,GF s h',R9 s h'.1.2.2.1 h'.2.1.1.1 h'.2.1.2.1.1 h'.2.1.2.2.2.1,ZJ,ab,C9];grind[bf]
theorem Ti {s:oq}{n:Nat}(h:dF n vj s)(p:aH)(z:Int)(hn:382<=n):dF (n+320) vj (C9 s p z):=by have hl:=ND p z;unfold C9;cases FU s with|false=>exact h.mono|true=>have h':dF (n+320) vj s:=h.mono;refine⟨h'.1,h'.2.1,h'.2.2.1,h'.2.2.2.1,?_,λx hx=>?_⟩;have:s.2.2.2.2.length<=n:=h.2.2.2.2.1;show(s.2.2.2.2++EC p z).length<=_;rw[aq];omega;rcases aB.1 hx with hx|hx;exact h'.2.2.2.2.2 x hx;have:=hl.2 x hx;show x.length<=_;omega
def ajl (a:Act):aA Bool:=
 aa (aa (some (dV a.1 0 6)) λr1=>cond (!r1) (some true) (some (decide ((a.2.2.2.2.1.length:Int)>600)))) λq2=>
 cond q2 (some false) (
 aa (cond (a.1 !=0) (cond (!((a.2.1.1==0)&&((a.2.1.2.1==0)&&((a.2.1.2.2.1==0)&&((a.2.1.2.2.2.1==0)&&((a.2.1.2.2.2.2.1==0)&&((a.2.1.2.2.2.2.2.1==0)&&((a.2.1.2.2.2.2.2.2.1==0)&&((a.2.1.2.2.2.2.2.2.2.1==0)&&((a.2.1.2.2.2.2.2.2.2.2.1==0)&&((a.2.1.2.2.2.2.2.2.2.2.2.1==0)&&((a.2.1.2.2.2.2.2.2.2.2.2.2.1==0)&&((a.2.1.2.2.2.2.2.2.2.2.2.2.2.1==0)&&((a.2.1.2.2.2.2.2.2.2.2.2.2.2.2.1==0)&&((a.2.1.2.2.2.2.2.2.2.2.2.2.2.2.2.1==0)&&((a.2.1.2.2.2.2.2.2.2.2.2.2.2.2.2.2.1==0)&&((a.2.1.2.2.2.2.2.2.2.2.2.2.2.2.2.2.2==([]:Bytes))&&true))))))))))))))))) (some true) (cond (a.2.2.1 !=0) (some true) (some (a.2.2.2.1 !=0)))) (some false)) λq3=>
 cond q3 (some false) (
 aa (cond (a.1==2) (cond (a.1==5) (some true) (some (a.2.2.2.2.2==0))) (cond (a.2.2.2.2.1==([]:Bytes)) (cond (a.1==5) (some true) (some (a.2.2.2.2.2==0))) (some false))) λq4=>some q4))
theorem adN (a:Act):∃b,ajl a=some b:=by simp_all[ajl,di]
def Hr (a:Act):Bool:=(ajl a).getD false
theorem acG (a:Act):ajl a=some (Hr a):=by obtain⟨b,hb⟩:=adN a;simp[Hr,hb]
theorem ads (a:Act):DR a=some (Hr a):=by rw[<-acG];unfold DR;rw[cR];rfl
theorem ajL (a:Act):Gj a=some (Hr a):=by rw[<-acG];unfold Gj;rw[dI];rfl
def amr:Act:=(0,pk0,0,0,([]:Bytes),0)
def OG (v:Int)(a:Act)(s:oq):oq:=
 bif !Hr a then s else bif a.1==2 then FJ s a.2.2.2.2.1 else bif (a.1==0)&&(v==1) then C9 s a.2.1 a.2.2.1 else s
theorem agi {v:Int}{a:Act}{s:oq}{n:Nat}(hn:382<=n)(h:dF n vj s):dF (n+322) vj (OG v a s):=by
 have h':dF (n+322) vj s:=h.mono;unfold OG;cases Hr a;exact h';cases a.1==2;case true=>exact Wv h
 cases (a.1==0)&&(v==1)with|true=>exact(Ti h a.2.1 a.2.2.1 hn).mono|false=>exact h'
def O7 (l:ax Act)(v:dm)(s:oq):Nat->oq
 |0=>s
 |i+1=>OG (v.getD i 0) (l.getD i amr) (O7 l v s i)
theorem RR {l:ax Act}{v:dm}{s:oq}{n:Nat}(hn:382<=n)(h:dF n vj s):∀i,dF (n+322*i) vj (O7 l v s i)
 |0=>h
 |i+1=>(agi (by omega) (RR hn h i)).mono
def FN (s:oq)(l:ax Act)(v:dm):oq:=
 bif !FU s||(decide ((l.length:Int)>40)||((v.length:Int) !=(l.length:Int))) then s else O7 l v s l.length
theorem WA {l:ax Act}{v:dm}{s:oq}{n:Nat}(hn:382<=n)(h:dF n vj s):dF (n+12880) vj (FN s l v):=by unfold FN;cases hc: !FU s||(decide ((l.length:Int)>40)||((v.length:Int) !=(l.length:Int)))with|true=>exact h.mono|false=>simp only[de,dh]at hc;exact(RR hn h l.length).mono
theorem ZI (s:oq)(l:ax Act)(v:dm)(h:dF 10000000 vj s)(hl:dF 100000000 (.sl agF) l):CF s l v=some (FN s l v):=by
 have z9:dF 1000000000 vj s:=h.mono;unfold CF FN;simp only[GF s z9,R9 s z9.1.2.2.1 z9.2.1.1.1 z9.2.1.2.1.1 z9.2.1.2.2.2.1,ab];cases FU s;rfl;cases h4:decide ((l.length:Int)>40);case true=>rfl
 cases hv:(v.length:Int) !=(l.length:Int);case true=>rfl
 have h40:l.length<=40:=by have:=fG h4;omega
 have hvl:v.length=l.length:=by simp at hv;omega
 simp only[aj,ae,ab,bN];refine dA (λi=>((i:Int),O7 l v s i)) l.length (by omega) (λi nx hi=>?_) (λnx=>?_);have hR:=(RR (l:=l) (v:=v) (show 382<=10000000 by omega) h i).mono (show 10000000+322*i<=100000000 by omega);have hx:(l[i].2.2.2.2.1).length<=100000000:=(hl.2 _ (bn hi)).2.2.2.2.1;simp only[wN];rw[kW,bw hi,ak (by omega) (by omega)];simp only[af,ab,ads,ZH _ _ hR (show(l[i].2.2.2.2.1).length<=10^9 by omega),WN _ _ _ hR,bw (show i<v.length by omega)];rw[O7,fD hi,fD (show i<v.length by omega)];unfold OG;cases Hr l[i];rfl;by_cases h2:l[i].1=2;rw[h2];rfl;rw[show(l[i].1==2)=false from by simpa using h2];cases l[i].1==0<;>cases v[i]==1<;>rfl;simp only[wN];rw[ie];rfl
theorem BW.tx {n:Nat}(k:BW n h)(hn:n<=10^9):aae h.2.2.1:=
 have z:dF 1000000000 gY h:=k.z.mono hn
 ⟨z.2.2.1.2.1.2.2.2.1,z.2.2.1.2.2.1.1,λx hx=>(z.2.2.1.2.2.1.2 x hx).2.2.1⟩
def vr (h:Host)(p:aH)(c z:Int):Host×Bool:=
 bif eU h then(((mR h.2.1 h.1 0 h.2.2.1 p c z).1,h.2.1,(mR h.2.1 h.1 0 h.2.2.1 p c z).2.1,h.2.2.2),(mR h.2.1 h.1 0 h.2.2.1 p c z).2.2) else(h,false)
theorem aeG (h:Host)(p:aH)(c z:Int)(k:BW 900000000 h):Aq h p c z=some (vr h p c z):=by have zz:dF 1000000000 gY h:=k.z.mono;unfold Aq vr;rw[kG h zz,ab,vG h (k.sz (by omega)),ab];cases eU h;rfl;simp only[aj,ae,af,aeH _ _ _ _ _ _ _ zz.2.1.1 zz.1.1 (k.tx (by omega)) zz.2.2.1.2.2.1.1 (bF k.t (by omega)),ab]
theorem af5 (h:Host)(p:aH)(c z:Int)(k:BW 900000000 h):AM h p c z=some (vr h p c z):=by have zz:dF 1000000000 gY h:=k.z.mono;unfold AM vr;rw[kL h zz,ab,ry h (k.sz (by omega)),ab];cases eU h;rfl;simp only[aj,ae,af,af6 _ _ _ _ _ _ _ zz.2.1.1 zz.1.1 (k.tx (by omega)) zz.2.2.1.2.2.1.1 (bF k.t (by omega)),ab]
theorem TS {n:Nat}(hn:128<=n)(l:ax aE)(d:Int)(p:dq)(z:Nat):∀(q:dm)(s:Bytes)(m:bK)(a:ax fe){x},dF n (.sl .str) m->rh l d p z q s m a=some x->dF n (.sl .str) x.2
 |[],s,m,a,x,hm,h=>by cases h;exact hm
 |b::q,s,m,a,x,hm,h=>by rw[rh]at h;cases hq:(jF l m d (kV p b) (s.take z) false).2 with|false=>grind|true=>rw[hq]at h;exact TS hn l d p z q _ _ _ (LU hn hm ..) h
theorem Ou {n:Nat}(hn:128<=n)(l:ax aE)(d:Int):∀(q:bK)(m:bK)(r:mn){x},dF n (.sl .str) m->sV l d q m r=some x->dF n (.sl .str) x.1
 |[],m,r,x,hm,h=>by cases h;exact hm
 |s::q,m,r,x,hm,h=>by rw[sV]at h;cases hq:(dr l m d r s).2.2 with|false=>grind|true=>rw[hq]at h;exact Ou hn l d q _ _ (LV hn hm ..) h
theorem Y8 {n:Nat}(hn:128<=n){q:bK}(hm:dF n (.sl .str) m):dF n (.sl .str) (oU l m d r q).1:=by unfold oU;cases hx:sV l d q m r with|none=>exact hm|some x=>exact Ou hn l d q m r hm hx
theorem agp (p:dq)(n:Int):(iZ p n).1.2.2.2.length+(iZ p n).2.1.length=p.2.2.2.length:=by grind[iZ]
theorem adU (a:ax nq)(x:nq):(bC (a++[x])).length=(bC a).length+x.2.2.length:=by simp[bC]
theorem Zv:∀l:ax nq,(∀x∈l,1<=x.2.1)->(l.length:Int)<=dK l
 |[],_=>by simp[dK]
 |y::l,h=>by have h1:=Zv l (λx hx=>h x (cc _ hx));grind[dK]
structure akL (n:Nat) (m:List Bytes) (t:cz) (r:List Bytes×cz×Bool):Prop where
 mem:dF n (.sl .str) r.1
 tx:dF (n+1) Fb r.2.1
 sum:r.2.1.2.1.2.2.2.length+(bC r.2.1.2.2.1).length<=n
 w:r.2.1.2.2.1.length<=16\/r.2.1.2.2.1=t.2.2.1
theorem afT {n:Nat}(hn:128<=n){p:aH}{c:Int}(d:Int)(hm:dF n (.sl .str) m)(ht:dF n Fb t)(hs:t.2.1.2.2.2.length+(bC t.2.2.1).length<=n):akL n m t (mR l m d t p c z):=by
 have Ru:akL n m t (m,t,false):=⟨hm,ht.mono,hs,Or.inr rfl⟩
 unfold mR;cases hg:Mv t&&(cC p&&(dV z 1 t.2.1.2.1&&dV c 1 128));exact Ru;simp only[ah]at hg;simp only[af];generalize nr p z.toNat=k;cases hk:G7 t k;exact Ru;simp only[af];rcases hx:rh l d t.2.1 z.toNat (iZ t.2.1 (k:Int)).2.1 (gQ p).1 m []with _|x;exact Ru;simp only;unfold L2;have hpm:=Y8 (n:=n) hn (l:=l) (d:=d) (q:=(gw x.1 c t.2.2.2).map gJ) (r:=t.1) (TS hn l d t.2.1 z.toNat _ _ _ _ hm hx);generalize oU l x.2 d t.1 ((gw x.1 c t.2.2.2).map gJ)=w at hpm⊢;cases w.2.2;exact Ru;have hl:=agp t.2.1 (k:Int);have hb:=adU t.2.2.1 (t.2.2.2,(k:Int)+1,(iZ t.2.1 (k:Int)).2.1);have hb:(bC (t.2.2.1++[(t.2.2.2,(k:Int)+1,(iZ t.2.1 (k:Int)).2.1)])).length=(bC t.2.2.1).length+(iZ t.2.1 (k:Int)).2.1.length:=hb;refine⟨hpm,⟨⟨dx,dx,dx,dx⟩,⟨dx,dx,dx,?_,λ_ _=>trivial⟩,?_,dx⟩,?_,Or.inl ?_⟩;show(iZ t.2.1 (k:Int)).1.2.2.2.length<=n+1;omega;exact Nf (t:=PR) (k:=1) ht.2.2.1 (λy hy=>by rw[bq.1 hy];exact⟨dx,dx,by show(iZ t.2.1 (k:Int)).2.1.length<=n;omega,λ_ _=>trivial⟩) (by simp);show(iZ t.2.1 (k:Int)).1.2.2.2.length+(bC (t.2.2.1++[(t.2.2.2,(k:Int)+1,(iZ t.2.1 (k:Int)).2.1)])).length<=n;omega;show(t.2.2.1++[_]).length<=16;have hq:=hg.1;simp only[Mv,ah]at hq;have Yd:=ng hq.1;have hc:=Zv t.2.2.1 (λx hx=>by have:=aO.1 hq.2.2.2.1 x hx;simp only[kh,ah,aS]at this;omega);unfold G7 at hk;simp only[ah,aP,dh]at hk;rw[aq,bu];omega
theorem aiP {n:Nat}(hn:1000<=n)(p:aH)(c z:Int)(k:BW n h):BW (n+1) (vr h p c z).1:=by unfold vr;cases eU h;exact k.mono;have zz:=k.z;have s:=afT (by omega) (l:=h.2.1) (p:=p) (c:=c) (z:=z) 0 zz.1 zz.2.2.1 k.t;have z1:dF (n+1) gY h:=zz.mono;exact⟨⟨s.mem.mono,z1.2.1,s.tx,z1.2.2.2⟩,bF s.sum (by omega)⟩
def Be (f:iB):ax Stream->Int->Int
 |[],_=> -1
 |s::r,i=>if s.1=f then i else Be f r (i+1)
theorem abg {T:(Int->aA Int)->Int->aA Int}(a:ax Stream)(f:iB)(h:a.length<=1073741824)(hs:∀i (hi:i<a.length) nx,T nx (i:Int)=cond (decide (a[i].1=f)) (some (i:Int)) (nx ((i+1:Nat):Int)))(hf:∀nx,T nx (a.length:Int)=some (-1)): aZ T fuel 0=some (Be f a 0):=by
 have zj:=dD;have key:∀n i,i<=a.length->a.length-i<n->aZ T n (i:Int)=some (Be f (a.drop i) i):=by
  intro n;induction n with
  |zero=>intro i _ h;omega
  |succ n ih=>
   intro i hi hn;rw[aZ];rcases ca i a.length with iA|B0;rw[hs i iA,cr iA,Be];by_cases hq:a[i].1=f;simp[hq];simp only[hq,decide_false,ae,cG];exact ih (i+1) (by omega) (by omega);have:i=a.length:=by omega
   subst this;rw[hf,ij];rfl
 exact key fuel 0 (by omega) (by omega)
theorem M6 (a:ax Stream)(f:iB)(h:a.length<=1073741824):jy a f=some (Be f a 0):=by unfold jy;refine abg a f h (λi hi nx=>?_) (λnx=>?_);simp only[lO];rw[kW,bw hi,ak (by omega) (by omega)];simp only[af,ab,Ps];rfl;simp only[lO];rw[ie];rfl
theorem Qz (f:iB):∀(a:ax Stream)(i:Int),(Be f a i= -1/\∀s∈a,s.1≠f)\/∃n:Nat,n<a.length/\Be f a i=i+n/\∃s∈a,s.1=f
 |[],_=> .inl ⟨rfl,by simp⟩
 |s::r,i=>by unfold Be;by_cases h:s.1=f;rw[aI h];exact .inr ⟨0,by simp,by simp,s,by simp,h⟩;rw[aK h];rcases Qz f r (i+1)with⟨h1,h2⟩|⟨n,h1,h2,s',h3,h4⟩;exact .inl ⟨h1,by intro t ht;rcases cy.1 ht with rfl|ht;exact h;exact h2 t ht⟩;exact .inr ⟨n+1,by simp;omega,by rw[h2];push_cast;omega,s',by simp[h3],h4⟩
theorem TY (f:iB)(a:ax Stream):(Be f a 0= -1/\∀s∈a,s.1≠f)\/∃x,0<=Be f a 0/\idx a (Be f a 0)=some x:=by rcases Qz f a 0 with h|⟨n,h1,h2,_⟩;exact .inl h;refine .inr ⟨a[n],by rw[h2];omega,?_⟩;rw[h2,Int.zero_add];exact bw h1
theorem agl (p q:Stream):((p.1.1==q.1.1)&&((p.1.2.1==q.1.2.1)&&((p.1.2.2.1==q.1.2.2.1)&&((p.1.2.2.2.1==q.1.2.2.2.1)&&((p.1.2.2.2.2==q.1.2.2.2.2)&&((p.2.1==q.2.1)&&((p.2.2.1==q.2.2.1)&&((p.2.2.2==q.2.2.2)&&true))))))))=decide (p=q):=by grind
def Fc (a b:ax Stream)(f:iB):Bool:=
 match idx a (Be f a 0),idx b (Be f b 0)with
 |some x,some y=>decide (x=y)
 |_,_=>false
theorem L0 (a b:ax Stream)(f:iB)(ha:a.length<=1073741824)(hb:b.length<=1073741824):tJ a b f=some (Fc a b f):=by unfold tJ Fc;rw[M6 a f ha,M6 b f hb];simp only[ab,agl];rcases TY f a with⟨h1,_⟩|⟨x,h1,h2⟩;rw[h1];rfl;rw[az (show Be f a 0>=0 from h1),h2];rcases TY f b with⟨k1,_⟩|⟨y,k1,k2⟩;rw[k1];rfl;rw[az (show Be f b 0>=0 from k1),k2];simp
theorem Xj {T:(Int->aA Bool)->Int->aA Bool}{fin:aA Bool}(p:Stream->Bool)(a:ax Stream)(h:a.length<=1073741824)(hs:∀i (hi:i<a.length) nx,T nx (i:Int)=cond (!(p a[i])) (some false) (nx ((i+1:Nat):Int)))(hf:∀nx,T nx (a.length:Int)=fin): aZ T fuel 0=cond (a.all p) fin (some false):=by
 have zj:=dD;have key:∀n i,i<=a.length->a.length-i<n->aZ T n (i:Int)=cond ((a.drop i).all p) fin (some false):=by
  intro n;induction n with
  |zero=>intro i _ h;omega
  |succ n ih=>
   intro i hi hn;rw[aZ];rcases ca i a.length with iA|B0;rw[hs i iA,cr iA,cx];cases hq:p a[i]with|false=>rfl|true=>exact ih (i+1) (by omega) (by omega)
   have:i=a.length:=by omega
   subst this;rw[hf,ij];rfl
 exact key fuel 0 (by omega) (by omega)
theorem ahT (a b:ax Stream)(ha:a.length<=1073741824)(hb:b.length<=1073741824):ov a b=some (a.all (λs=>Fc a b s.1)&&b.all (λs=>Fc a b s.1)):=by
 unfold ov;rw[Xj (λs=>Fc a b s.1) a ha (λi hi nx=>?hs) (λnx=>?hf)]
 case hs=>
  grind[uv,bw,ak,ab,L0]
 case hf=>
  simp only[uv]
  rw[ie]
  simp only[ae]
  rfl
 rw[Xj (λs=>Fc a b s.1) b hb (λi hi nx=>?hs) (λnx=>?hf)]
 case hs=>
  grind[uw,bw,ak,ab,L0]
 case hf=>
  simp only[uw]
  rw[ie]
  simp only[ae]
  rfl
 grind
def nJ (h:Host):Int:=h.2.2.2.1.foldl (λn q=>ar (n+q.2.2.2.2.2)) 0
theorem Pb (h:Host)(hl:h.2.2.2.1.length<=10^9):uM h=some (nJ h):=by unfold uM nJ;refine fold_iter h.2.2.2.1 (λ(s:Int) i=>(s,(i:Int))) (λn q=>ar (n+q.2.2.2.2.2)) (λs=>some s) (by omega) (λi hi s nx=>?_) (λs nx=>?_) 0;simp only[oV];rw[kW,bw hi,ak (n:=(i:Int)+1) (by omega) (by omega)];rfl;simp only[oV];rw[ie];rfl
theorem OZ (h:Host)(hl:h.2.2.2.1.length<=10^9):uk h=some (nJ h):=by unfold uk nJ;refine fold_iter h.2.2.2.1 (λ(s:Int) i=>(s,(i:Int))) (λn q=>ar (n+q.2.2.2.2.2)) (λs=>some s) (by omega) (λi hi s nx=>?_) (λs nx=>?_) 0;simp only[oO];rw[kW,bw hi,ak (n:=(i:Int)+1) (by omega) (by omega)];rfl;simp only[oO];rw[ie];rfl
def as8 (b:Bool):Int:=bif b then 1 else 0
theorem abE (h:dk m=true)(a:Int)(s:Bytes):dk (oo m a s).1=true:=by grind[oo,iG,sn,CV]
theorem YM:∀(q:ax (Int×Int)){m:bK}(s:Bytes),dk m=true->dk (Jl q m s)=true
 |[],_,_,h=>h
 |p::q,m,s,h=>by rw[Jl];exact YM q _ (abE h _ _)
theorem H3 (h:dk m=true)(l:ax aE)(d a:Int)(s:Bytes)(w:Bool):dk (jF l m d a s w).1=true:=by unfold jF;cases (nW l m d a (s.length:Int) w).2 with|false=>exact h|true=>exact YM _ _ h
theorem Oh (h:dk m=true)(l:ax aE)(d:Int)(r:mn)(s:Bytes):dk (dr l m d r s).1=true:=by grind[dr,H3]
theorem H8 {b n x y:Int}(hb:0<=b/\b<=130944)(hn:n=2\/n=4\/n=8\/n=16)(hx:0<=x/\x<=2*n-1)(hy:0<=y/\y<=2*n-1)(hu:(y-x)%(2*n)<=n):dR (b,n,x,y)=true:=by grind[iK,dR,cw,aS]
theorem I2 (h:dR r=true):cw r=(r.2.2.2-r.2.2.1)%(2*r.2.1)/\0<=cw r/\cw r<=r.2.1:=by grind[cw,iK,dR]
theorem NN {x n:Int}(hn:0<n:=by omega)(hx:0<=x/\x<=n-1:=by omega):tmod (x+1) n=if x+1=n then 0 else x+1:=by rw[eM (by omega)];split;simp_all;simp(disch:=omega)[Int.emod_eq_of_lt]
theorem afM (h:dR r=true)(hf:cw r<r.2.1):dR (r.1,r.2.1,r.2.2.1,tmod (r.2.2.2+1) (2*r.2.1))=true/\cw (r.1,r.2.1,r.2.2.1,tmod (r.2.2.2+1) (2*r.2.1))=cw r+1:=by
 have k:=ng h;have u:=I2 h;have e:=NN (x:=r.2.2.2) (n:=2*r.2.1);have u2:(tmod (r.2.2.2+1) (2*r.2.1)-r.2.2.1)%(2*r.2.1)=cw r+1:=by grind
 grind[H8,cw,iK]
theorem aiE (h:dR r=true)(hf:cw r≠0):dR (r.1,r.2.1,tmod (r.2.2.1+1) (2*r.2.1),r.2.2.2)=true/\cw (r.1,r.2.1,tmod (r.2.2.1+1) (2*r.2.1),r.2.2.2)=cw r-1:=by
 have k:=ng h;have u:=I2 h;have e:=NN (x:=r.2.2.1) (n:=2*r.2.1);have u2:(r.2.2.2-tmod (r.2.2.1+1) (2*r.2.1))%(2*r.2.1)=cw r-1:=by grind
 grind[H8,cw]
theorem aef (h:dR r=true):oH r=r.2.1-cw r:=by have k:=ng h;grind[I2,oH,ak]
theorem Zl (h:dR r=true)(l:ax aE)(m:bK)(d:Int)(s:Bytes):dR (dr l m d r s).2.1=true/\(dr l m d r s).2.1.2.1=r.2.1:=by unfold dr;cases hc:(oH r==0)||((s.length:Int) !=16);all_goals grind[aef,I2,afM]
theorem US (h:dR r=true)(l:ax aE)(m:bK)(d:Int):dR (bI l m d r).2.1=true/\(bI l m d r).2.1.2.1=r.2.1:=by grind[bI,aiE]
theorem ahf {n:Int}{l:dm}:(List.range l.length).all (Dm n l)=true↔(∀x∈l,0<=x/\x<=n-1)/\l.Nodup:=by
 rw[aO];constructor;intro h;have k:∀i (hi:i<l.length),(0<=l[i]/\l[i]<=n-1)/\l[i]∉l.take i:=by intro i hi;have:=h i (cP.2 hi);unfold Dm at this;rw[fD hi,ah,aS]at this;exact⟨this.1,by simpa using this.2⟩
 refine⟨λx hx=>?_,?_⟩;obtain⟨i,hi,rfl⟩:=fO hx;exact(k i hi).1;rw[List.Nodup,List.pairwise_iff_getElem];intro i j hi hj hij he;refine(k j hj).2 ?_;rw[<-he];exact List.mem_take_iff_getElem.2 ⟨i,by omega,rfl⟩;rintro⟨h1,h2⟩ i hi;have hi:=cP.1 hi;unfold Dm;rw[fD hi,ah,aS];refine⟨h1 _ (bn hi),?_⟩;have:l[i]∉l.take i:=by intro hm;obtain⟨j,hj,he⟩:=List.mem_take_iff_getElem.1 hm;rw[List.Nodup,List.pairwise_iff_getElem]at h2;exact h2 j i (by omega) hi (by omega) he
 simpa using this
theorem LP:dL p=true↔(0<=p.1/\p.1<=130944)/\(1<=p.2.1/\p.2.1<=512)/\(0<=p.2.2.1/\p.2.2.1<=16)/\(∀x∈p.2.2.2,0<=x/\x<=p.2.2.1-1)/\p.2.2.2.Nodup:=by grind[dL,aS,ahf]
theorem H6 {p:dq}(h:dL p=true){l:dm}(hl:l.Sublist p.2.2.2):dL (p.1,p.2.1,p.2.2.1,l)=true:=by grind[LP]
theorem afF (h:dL p=true)(l:dm):dL (Dp p l).1=true:=by grind[Dp,Fo]
theorem L3 {n:Int}{s:nq}:kh n s=true↔(1<=s.2.1/\s.2.1<=n)/\0<=s.1/\s.1<=65535:=by grind[kh,aS]
structure Hq (t:cz):Prop where
 ring:dR t.1=true
 next:0<=t.2.2.2/\t.2.2.2<=65535
 sent:∀x∈t.2.2.1,(1<=x.2.1/\x.2.1<=t.1.2.1)/\0<=x.1/\x.1<=65535
 pool:dL (jE t.2.1 (bC t.2.2.1))=true
 Eb:dK t.2.2.1<=t.1.2.1
theorem Hq.free (h:Hq t):dL t.2.1=true:=H6 h.pool (List.sublist_append_left _ _)
theorem ajb:Mv t=true↔Hq t:=by constructor;intro h;unfold Mv at h;simp only[ah,aS,aO,L3,bE]at h;obtain⟨h1,h2,h3,h4,h5,h6⟩:=h;unfold Fo at h5;simp only[ah]at h5;exact⟨h1,h3,h4,h5.2,h6⟩;·intro h;unfold Mv Fo;simp only[ah,aS,aO,L3,bE];exact⟨h.ring,h.free,h.next,h.sent,⟨h.free,h.pool⟩,h.Eb⟩
theorem NT (a b:ax nq):bC (a++b)=bC a++bC b:=by simp[bC]
theorem TG (a b:ax nq):dK (a++b)=dK a+dK b:=by simp[dK]
theorem T6:∀(l:ax nq)(p:dq),dL (jE p (bC l))=true->nI p l=jE p (bC l)
 |[],p,_=>by simp[nI,bC,jE]
 |x::l,p,h=>by
  have e:bC (x::l)=x.2.2++bC l:=by simp[bC]
  rw[e]at h;have h1:dL (jE p x.2.2)=true:=H6 (p:=jE p (x.2.2++bC l)) h (by show(p.2.2.2++x.2.2).Sublist (p.2.2.2++(x.2.2++bC l));grind);have h0:dL p=true:=H6 (p:=jE p x.2.2) h1 (List.sublist_append_left _ _);have hg:(Dp p x.2.2).1=jE p x.2.2:=by grind[Dp,Fo]
  have ea:jE (jE p x.2.2) (bC l)=jE p (x.2.2++bC l):=by simp[jE]
  rw[nI,hg,T6 l _ (by rw[ea];exact h),ea,e]
theorem akF (h:Hq t)(hr:dR r=true)(hn:r.2.1=t.1.2.1):Hq (r,t.2):=
 ⟨hr,h.next,λx hx=>by show(1<=x.2.1/\x.2.1<=r.2.1)/\_;rw[hn];exact h.sent x hx,h.pool,by show dK t.2.2.1<=r.2.1;rw[hn];exact h.Eb⟩
theorem ZY (h:Hq t)(n:Int):Hq (kt t n).1:=by
 unfold kt;cases hc:Mv t&&dV n 0 (t.2.2.1.length:Int);exact h;simp only[ah,aS]at hc;have hs:t.2.2.1.take n.toNat++t.2.2.1.drop n.toNat=t.2.2.1:=cg _ _;have hb:bC t.2.2.1=bC (t.2.2.1.take n.toNat)++bC (t.2.2.1.drop n.toNat):=by rw[<-NT,hs]
 have hp:dL (jE t.2.1 (bC (t.2.2.1.take n.toNat)))=true:=H6 (p:=jE t.2.1 (bC t.2.2.1)) h.pool (by show(t.2.1.2.2.2++_).Sublist (t.2.1.2.2.2++_);rw[hb];exact(List.sublist_append_left _ _).append_left _);have hg:=T6 _ _ hp;refine⟨h.ring,h.next,λx hx=>h.sent x (List.mem_of_mem_drop hx),?_,?_⟩;show dL (jE (nI t.2.1 (t.2.2.1.take n.toNat)) (bC (t.2.2.1.drop n.toNat)))=true;rw[hg,show jE (jE t.2.1 (bC (t.2.2.1.take n.toNat))) (bC (t.2.2.1.drop n.toNat))=jE t.2.1 (bC t.2.2.1) by rw[hb];simp[jE]];exact h.pool;show dK (t.2.2.1.drop n.toNat)<=t.1.2.1;have h1:dK t.2.2.1=dK (t.2.2.1.take n.toNat)+dK (t.2.2.1.drop n.toNat):=by rw[<-TG,hs]
 have h2:0<=dK (t.2.2.1.take n.toNat):=Cb t.1.2.1 _ (by rw[aO];exact λx hx=>L3.2 (h.sent x (List.mem_of_mem_take hx)));have:=h.Eb;omega
theorem Qg (l:ax aE)(m:bK)(d:Int):∀(n:Nat)(acc:ax Dd)(r:mn),dR r=true->dR (ot l m d n acc r).2.1=true/\(ot l m d n acc r).2.1.2.1=r.2.1
 |0,acc,r,h=>⟨h,rfl⟩
 |n+1,acc,r,h=>by have k:=ng h;have ht:=US h l m d;rw[ot];cases !(bI l m d r).2.2|| !(dC (bI l m d r).1).2 with|true=>grind[H8]|false=>cases Cc (dC (bI l m d r).1).1 with|true=>exact ht|false=>have:=Qg l m d n (acc++[(dC (bI l m d r).1).1]) _ ht.1;grind
theorem aay (h:dR r=true)(l:ax aE)(m:bK)(d:Int):dR (eI l m d r).2.1=true/\(eI l m d r).2.1.2.1=r.2.1:=by unfold eI;cases !dR r||(cw r==0)with|true=>exact⟨h,rfl⟩|false=>exact Qg l m d _ _ _ h
theorem YW (h:dR r=true)(l:ax aE)(m:bK)(d:Int):dR (gF l m d r).1=true/\(gF l m d r).1.2.1=r.2.1:=by grind[aay,gF]
theorem Is (l:ax aE)(m:bK)(d:Int):∀(n:Nat)(fr:bK)(dn bd:Nat)(r:mn),dR r=true->dR (kz l m d n fr dn bd r).1=true/\(kz l m d n fr dn bd r).1.2.1=r.2.1
 |0,fr,dn,bd,r,h=>⟨h,rfl⟩
 |n+1,fr,dn,bd,r,h=>by
  have k:=YW h l m d;rw[kz];cases (gF l m d r).2.2==0;case true=>exact⟨h,rfl⟩
  cases (gF l m d r).2.2==1 with|true=>have:=Is l m d n (fr++(gF l m d r).2.1) (dn+1) bd _ k.1;grind|false=>have:=Is l m d n (fr++(gF l m d r).2.1) dn (bd+1) _ k.1;grind
theorem LR (l:ax aE)(d:Int):∀(q:bK)(m:bK)(r:mn){x},sV l d q m r=some x->(dR r=true->dR x.2=true/\x.2.2.1=r.2.1)/\(dk m=true->dk x.1=true)
 |[],m,r,x,h=>by cases h;grind
 |s::q,m,r,x,h=>by rw[sV]at h;cases hq:(dr l m d r s).2.2 with|false=>grind|true=>rw[hq]at h;have k:=LR l d q _ _ h;grind[Oh,Zl]
theorem UB (l:ax aE)(d:Int)(p:dq)(z:Nat):∀(q:dm)(s:Bytes)(m:bK)(a:ax fe){x},rh l d p z q s m a=some x->dk m=true->dk x.2=true
 |[],s,m,a,x,h,hm=>by cases h;exact hm
 |b::q,s,m,a,x,h,hm=>by rw[rh]at h;cases hq:(jF l m d (kV p b) (s.take z) false).2 with|false=>grind|true=>rw[hq]at h;exact UB l d p z q _ _ _ h (H3 hm ..)
theorem afG (h:dL p=true){l:dm}(hl:l.Perm p.2.2.2):dL (p.1,p.2.1,p.2.2.1,l)=true:=by grind[LP]
theorem afV (h:Hq t)(hm:dk m=true)(l:ax aE)(d c:Int){n:Nat}(hf:G7 t n=true)(x:ax fe×bK)(hx:dk x.2=true):dk (L2 l m d t c n x).1=true/\Hq (L2 l m d t c n x).2.1:=by
 unfold L2 oU;cases hp:sV l d ((gw x.1 c t.2.2.2).map gJ) x.2 t.1 with
 |none=>exact⟨hm,h⟩
 |some y=>
  have k:=LR l d _ _ _ hp;have kr:=k.1 h.ring;refine⟨k.2 hx,?_⟩;unfold G7 at hf;simp only[ah,aP,dh]at hf;have ht:iZ t.2.1 (n:Int)=((t.2.1.1,t.2.1.2.1,t.2.1.2.2.1,t.2.1.2.2.2.drop n),t.2.1.2.2.2.take n,true):=by have h1:=hf.1;unfold iZ at h1⊢;cases hc:dL t.2.1&&dV (n:Int) 0 (t.2.1.2.2.2.length:Int)with|false=>rw[hc]at h1;cases h1|true=>simp only[af,aC]
  have h0:0<=dK t.2.2.1:=Cb t.1.2.1 _ (by rw[aO];exact λx hx=>L3.2 (h.sent x hx));show Hq (y.2,(iZ t.2.1 (n:Int)).1,t.2.2.1++[(t.2.2.2,(n:Int)+1,(iZ t.2.1 (n:Int)).2.1)],tmod (t.2.2.2+1) 65536);rw[ht];have hn:=h.next
  refine⟨kr.1,?_,?_,?_,?_⟩;have:=NN (x:=t.2.2.2) (n:=65536);show 0<=tmod (t.2.2.2+1) 65536/\tmod (t.2.2.2+1) 65536<=65535;rw[this];split<;>omega;intro s hs;show(1<=s.2.1/\s.2.1<=y.2.2.1)/\0<=s.1/\s.1<=65535;rw[kr.2];rcases aB.1 hs with hs|hs;exact h.sent s hs;rw[bq.1 hs];show(1<=(n:Int)+1/\(n:Int)+1<=t.1.2.1)/\0<=t.2.2.2/\t.2.2.2<=65535;omega;refine afG (p:=jE t.2.1 (bC t.2.2.1)) h.pool ?_;show(t.2.1.2.2.2.drop n++bC (t.2.2.1++[_])).Perm (t.2.1.2.2.2++bC t.2.2.1);rw[NT,show bC [(t.2.2.2,(n:Int)+1,t.2.1.2.2.2.take n)]=t.2.1.2.2.2.take n by simp[bC]];refine(List.perm_append_comm_assoc _ _ _).trans ?_;refine(List.perm_append_comm).trans ?_;exact((List.perm_append_comm.trans (by rw[cg])).append_right _);show dK (t.2.2.1++[_])<=y.2.2.1;rw[TG,kr.2,show dK [(t.2.2.2,(n:Int)+1,t.2.1.2.2.2.take n)]=(n:Int)+1 by simp[dK]];omega
theorem afU (h:Hq t)(hm:dk m=true)(l:ax aE)(d:Int)(p:aH)(c z:Int):dk (mR l m d t p c z).1=true/\Hq (mR l m d t p c z).2.1:=by unfold mR;cases Mv t&&(cC p&&(dV z 1 t.2.1.2.1&&dV c 1 128));exact⟨hm,h⟩;cases hf:G7 t (nr p z.toNat);exact⟨hm,h⟩;simp only[af];cases hw:rh l d t.2.1 z.toNat (iZ t.2.1 (nr p z.toNat:Int)).2.1 (gQ p).1 m []with|none=>exact⟨hm,h⟩|some x=>exact afV h hm l d c hf x (UB l d _ _ _ _ _ _ hw hm)
theorem Zt {b s k f w:Int}(h1:0<=a/\a<=65535)(h2:0<=b/\b<=65535)(h3:0<=s/\s<=4294967295)(h4:0<=k/\k<=4294967295)(h5:0<=f/\f<=31)(h6:0<=w/\w<=65535)(hx:x.length<=320):ru (6,a,b,s,k,f,w,x)=true:=by grind[ru,aS]
theorem aiM {b:Int}(h1:0<=a/\a<=65535)(h2:0<=b/\b<=65535)(hx:x.length<=320):ru (17,a,b,0,0,0,0,x)=true:=by grind[ru,aS]
theorem afR (h:ru g=true)(hx:x.length<=320):ru (g.1,g.2.1,g.2.2.1,g.2.2.2.1,g.2.2.2.2.1,g.2.2.2.2.2.1,g.2.2.2.2.2.2.1,x)=true:=by grind[ru]
theorem ahm {b v t i l s:Int}(h1:0<=a/\a<=281474976710655)(h2:0<=b/\b<=281474976710655)(h3: -1<=v/\v<=4095)(h4:0<=t/\t<=255)(h5:0<=i/\i<=65535)(h6:0<=l/\l<=255)(h7:0<=s/\s<=4294967295)(h8:0<=d/\d<=4294967295)(hg:ru g=true):sI (a,b,v,t,i,l,s,d,g)=true:=by grind[sI,aS]
theorem YX (p:aH):gI p=true↔sI p=true/\p.2.2.2.2.2.2.2.2.2.2.2.2.2.2.2.length<=128:=by grind[gI,cC]
theorem ado (h:ru g=true)(h6:g.1=6):(0<=g.2.1/\g.2.1<=65535)/\(0<=g.2.2.1/\g.2.2.1<=65535)/\(0<=g.2.2.2.1/\g.2.2.2.1<=4294967295)/\(0<=g.2.2.2.2.1/\g.2.2.2.2.1<=4294967295)/\(0<=g.2.2.2.2.2.1/\g.2.2.2.2.2.1<=31)/\(0<=g.2.2.2.2.2.2.1/\g.2.2.2.2.2.2.1<=65535)/\g.2.2.2.2.2.2.2.length<=320:=by simp_all[DM,ru,aS]
theorem RV (h:ru g=true)(h6:g.1=6){s f:Int}(hs:0<=s/\s<=4294967295)(hf:0<=f/\f<=31)(hx:x.length<=320):ru (g.1,g.2.1,g.2.2.1,s,g.2.2.2.2.1,f,g.2.2.2.2.2.2.1,x)=true:=by grind[ado,Zt]
theorem Ft {p:aH}(h:sI p=true){i:Int}(hi:0<=i/\i<=65535)(hg:ru g=true):sI (p.1,p.2.1,p.2.2.1,p.2.2.2.1,i,p.2.2.2.2.2.1,p.2.2.2.2.2.2.1,p.2.2.2.2.2.2.2.1,g)=true:=by grind[sI,aS]
theorem QO {p:aH}(h:sI p=true):0<=p.2.2.2.2.1/\p.2.2.2.2.1<=65535:=by grind[sI,aS]
theorem aj7 {i:Int}(h:0<=i/\i<=65535):0<=tmod (ar (i+1)) 65536/\tmod (ar (i+1)) 65536<=65535:=by grind[ak]
theorem aii {s:Int}{n:Nat}(h:0<=s/\s<=4294967295)(hn:n<=320):0<=tmod (ar (s+(n:Int))) 4294967296/\tmod (ar (s+(n:Int))) 4294967296<=4294967295:=by grind[ak]
theorem Pq (v:Vector):KY v=true↔1<=v.2.2.1/\(v.1<=v.2.2.1\/v.2.1<=v.2.2.2.1):=by unfold KY;by_cases h1:v.2.2.1>=1;rw[az h1,af];by_cases h2:v.2.2.1>=v.1;simp;omega;rw[aw h2,ae,bE];omega;rw[aw h1];simp;omega
theorem amg (v:Vector):fy v=(dV v.1 1 64&&(dV v.2.1 0 64&&(dV v.2.2.1 0 1000000&&(dV v.2.2.2.1 0 1000000&&((decide (v.2.2.1>0)||(v.2.2.2.1==0))&&(v.2.2.2.2.2==(KY v&& !v.2.2.2.2.1))))))):=by have h:=tV v;unfold ji at h;simp only[cR,adw,ab]at h;generalize fy v=w at h⊢;revert h;cases dV v.1 1 64;(intro h;cases h;rfl);cases dV v.2.1 0 64;(intro h;cases h;rfl);cases dV v.2.2.1 0 1000000;(intro h;cases h;rfl);cases dV v.2.2.2.1 0 1000000;(intro h;cases h;rfl);cases decide (v.2.2.1>0)<;>cases (v.2.2.2.1==0)<;>cases KY v<;>(simp_all)
theorem CR (v:Vector):fy v=true↔(1<=v.1/\v.1<=64)/\(0<=v.2.1/\v.2.1<=64)/\(0<=v.2.2.1/\v.2.2.1<=1000000)/\(0<=v.2.2.2.1/\v.2.2.2.1<=1000000)/\(v.2.2.1>0\/v.2.2.2.1=0)/\v.2.2.2.2.2=(KY v&& !v.2.2.2.2.1):=by grind[amg,aS]
theorem KU {v:Vector}(h1:1<=v.1/\v.1<=64)(h2:0<=v.2.1/\v.2.1<=64)(h3:0<=v.2.2.1/\v.2.2.1<=1000000)(h4:0<=v.2.2.2.1/\v.2.2.2.1<=1000000)(h5:v.2.2.1>0\/v.2.2.2.1=0)(hr:v.2.2.2.2.2=true->KY v=true/\v.2.2.2.2.1=false):fy (sA v)=true:=by grind[sA,KY,CR]
theorem RP {v:Vector}(h:fy v=true)(hr:v.2.2.2.2.2=true):KY v=true/\v.2.2.2.2.1=false:=by grind[CR]
theorem acx {n:Int}(h:0<=n/\n<=1000000):n<=WY n/\0<WY n/\WY n<=1000000:=by grind[WY,ak]
theorem aje {v:Vector}(h:fy v=true):fy (evV v)=true:=by have k:=(CR v).1 h;have u:=acx k.2.2.1;grind[evV,KU,Pq]
theorem Sq {v:Vector}(h:fy v=true):fy (yX v)=true:=by have k:=(CR v).1 h;have u:=acx k.2.2.2.1;unfold yX;rw[h,af];by_cases h0:v.2.2.1>0;rw[az h0,af];refine KU k.1 k.2.1 k.2.2.1 ⟨by show 0<=WY v.2.2.2.1;omega,u.2.2⟩ (Or.inl h0) λhr=>?_;have d:=RP h hr;have d1:=(Pq v).1 d.1;exact⟨(Pq _).2 ⟨d1.1,by show v.1<=v.2.2.1\/v.2.1<=WY v.2.2.2.1;omega⟩,d.2⟩;rw[aw h0,ae];exact KU k.1 k.2.1 k.2.2.1 k.2.2.2.1 k.2.2.2.2.1 λhr=>RP h hr
theorem Z2 {v:Vector}(h:fy v=true):fy (oJ v).1=true:=by grind[CR,oJ]
theorem acy {v:Vector}(h:fy v=true):fy (yZ v)=true:=by grind[CR,yZ,KU]
structure zg (n:Int) (r:aW):Prop where
 ring:dR r.1=true
 dev:gG r.2.1=true
 TM:gG r.2.2.1=true
 base:r.2.1.1=r.2.2.1.1
 size:r.2.1.2.1=r.2.2.1.2.1
 drop:0<=r.2.2.2.2.2/\r.2.2.2.2.2<=n
 held:r.2.2.2.2.1=true->cC r.2.2.2.1.1=true/\(0<=r.2.2.2.1.2.1/\r.2.2.2.1.2.1<=320)/\1<=r.2.2.2.1.2.2/\r.2.2.2.1.2.2<=320
 free:r.2.2.2.2.1=false->r.2.2.2.1=agn
theorem Ib (r:aW):FP r=true↔zg 1000000000000 r:=by constructor;intro h;unfold FP at h;simp only[ah,bD,aS]at h;obtain⟨⟨h1,h2,h3,h4,h5,h6⟩,h7⟩:=h;refine⟨h1,h2,h3,h4,h5,h6,λhh=>?_,λhh=>?_⟩;rw[hh,af]at h7;simp only[ah,aS]at h7;exact⟨h7.1,h7.2.1,h7.2.2⟩;rw[hh,ae]at h7;exact(ai5 _).1 h7;intro h;unfold FP;simp only[ah,bD,aS];refine⟨⟨h.ring,h.dev,h.TM,h.base,h.size,h.drop⟩,?_⟩;cases hh:r.2.2.2.2.1 with|true=>have:=h.held hh;simp only[af,ah,aS];exact⟨this.1,this.2.1,this.2.2⟩|false=>exact(ai5 _).2 (h.free hh)
theorem zg.mono {n m:Int}{r:aW}(h:zg n r)(hn:n<=m:=by omega):zg m r:=⟨h.ring,h.dev,h.TM,h.base,h.size,⟨h.drop.1,by have:=h.drop.2;omega⟩,h.held,h.free⟩
theorem zg.rx {n:Int}{r:aW}(h:zg n r)(hn:n<=1000000000000):FP r=true:=(Ib r).2 (h.mono hn)
theorem ae7 (h:dk m=true)(l:ax aE)(d:Int)(q:MF)(x:Ad):dk (rr l m d q x).1=true:=by grind[rr,H3]
theorem ae8 (h:dk m=true)(l:ax aE)(d:Int)(q:aW)(k s:Bytes):dk (gM l m d q k s).1=true:=by unfold gM;cases !(dC s).2||(((dC s).1.1 !=3)||decide ((dC s).1.2.2.1<((dv q.2.2.2.1.1).1.length)));all_goals grind[ae7,H3]
theorem akA {q:aW}{k s:Bytes}(hm:dk m=true)(hq:gG q.2.1=true):gG (gM l m d q k s).2.1=true/\(gM l m d q k s).2.1.1=q.2.1.1/\(gM l m d q k s).2.1.2.1=q.2.1.2.1:=(Vh (n:=128) (by omega) (UI (by omega) (sn.1 hm)) hq).2.2
theorem Dl {n:Int}(hn:n<=900000000000){q:aW}(h:zg n q)(hm:dk m=true)(l:ax aE)(d:Int)(k:Bytes):dk (gy l m d q k).1=true/\zg (n+320) (gy l m d q k).2:=by
 unfold gy;cases hc: !FP q||(!q.2.2.2.2.1||((k.length:Int) !=16));case true=>exact⟨hm,h.mono⟩
 simp only[de,eY]at hc;have hh:=h.held hc.2.1;have hd:=h.drop;have hr:=US h.ring l m d;have hs:=akA (l:=l) (d:=d) (k:=k) (s:=(bI l m d q.1).1) hm h.dev;cases (bI l m d q.1).2.2&&(gM l m d q k (bI l m d q.1).1).2.2 with|true=>exact⟨ae8 hm ..,hr.1,hs.1,h.TM,hs.2.1.trans h.base,hs.2.2.trans h.size,⟨hd.1,by grind⟩,λhf=>(by cases hf),λ_=>rfl⟩|false=>refine⟨hm,hr.1,h.dev,h.TM,h.base,h.size,?_,λhf=>(by cases hf),λ_=>rfl⟩;grind[ak]
theorem ada {s:lJ}{p:aH}(h:EP s p=true):cC (sU s p).1=true/\(0<=(sU s p).2.1/\(sU s p).2.1<=320)/\1<=(sU s p).2.2/\(sU s p).2.2<=320:=by
 have hl:=Pm h;unfold sU;rw[h,af];simp only[EP,X0,Oz,ah,bE,aS,bD]at h;obtain⟨⟨hs,hp,amX,h6,MD,hf⟩,⟨hz,hc,hn,C1,ato⟩,_⟩:=h;have atl:s.2.2+1<=320:=by
  have:s.2.2<=s.2.1*s.2.2:=by have:=Int.mul_le_mul_of_nonneg_right hz (show 0<=s.2.2 by omega);omega
  omega
 have am7:s.2.1<=320:=by
  have:s.2.1<=s.2.1*s.2.2:=by have:=Int.mul_le_mul_of_nonneg_left hc.1 (show 0<=s.2.1 by omega);omega
  omega
 refine⟨?_,⟨by show 0<=s.2.1;omega,am7⟩,?_⟩;have hh:sI s.1=true:=by unfold cC at hs;simp only[ah]at hs;exact hs.1
 have hk:s.1.2.2.2.2.2.2.2.2.1=6:=by
  have e:s.1.2.2.2.2.2.2.2.2.1=p.2.2.2.2.2.2.2.2.1:=by have h2:=amX;unfold LM at h2;simp only[ah,bD]at h2;exact h2.2.2.2.2.2.2.2.1
  rw[e];exact h6
 have hsg:=xP hh;have hfl:=Gt hp (by rw[h6];rfl);have hg:=RV hsg hk (ado hsg hk).2.2.1 (aS.1 hfl) (by rw[aq];omega);unfold cC;rw[ah];refine⟨Ft hh (QO hh) hg,?_⟩;rw[hk,hf];simp;show 1<=ar (s.2.2+1)/\ar (s.2.2+1)<=320;rw[ak (by omega) (by omega)];omega
theorem VW {n:Int}{q:aW}(h:zg n q){s:lJ}(hs:cC s.1=true)(h1:0<=s.2.1/\s.2.1<=320)(h2:1<=s.2.2/\s.2.2<=320):zg n (Jx q s):=⟨h.ring,h.dev,h.TM,h.base,h.size,h.drop,λ_=>⟨hs,h1,h2⟩,λhf=>(by cases hf)⟩
theorem I6 {p:aH}(h:gI p=true):cC (kA p).1=true/\(0<=(kA p).2.1/\(kA p).2.1<=320)/\1<=(kA p).2.2/\(kA p).2.2<=320:=by
 have hl:=Gu h;have hs:cC p=true:=by grind[gI]
 refine⟨hs,?_,by show(1)<=1/\(1)<=320;omega⟩;show 0<=(p.2.2.2.2.2.2.2.2.2.2.2.2.2.2.2.length:Int)/\(p.2.2.2.2.2.2.2.2.2.2.2.2.2.2.2.length:Int)<=320;omega
theorem Xp {n:Int}(hn:n<=800000000000){q:aW}(h:zg n q)(hm:dk m=true)(l:ax aE)(d:Int)(k:Bytes)(p:aH)(c:Bool):dk (iE l m d q k p c).1=true/\zg (n+640) (iE l m d q k p c).2:=by
 unfold iE;cases hc: !FP q||(!gI p||((k.length:Int) !=16));case true=>exact⟨hm,h.mono⟩
 simp only[de,eY]at hc;have hs:=I6 hc.2.1;have hf:=Dl (by omega) h hm l d k;have F1:=VW hf.2 hs.1 hs.2.1 hs.2.2;cases hj:c&&(q.2.2.2.2.1&&EP q.2.2.2.1 p)with|true=>simp only[ah]at hj;have j:=ada hj.2.2;exact⟨hm,h.ring,h.dev,h.TM,h.base,h.size,⟨h.drop.1,by show q.2.2.2.2.2<=n+640;have:=h.drop.2;omega⟩,λ_=>j,λhf=>(by grind)⟩|false=>cases c with|true=>exact⟨hf.1,F1.mono⟩|false=>have:=Dl (by omega) F1 hf.1 l d k;grind
theorem alZ {q:MF}(h:gG q=true):gG (kC l m d q).2.1=true/\(kC l m d q).2.1.1=q.1/\(kC l m d q).2.1.2.1=q.2.1:=by unfold kC;cases IY l m d q with|false=>grind|true=>grind[mQ,aih,gG,aS,C8]
theorem abS {n:Int}(h:zg n s.2.1)(hp:dL s.2.2=true)(l:ax aE)(m:bK)(d:Int):zg n (tP l m d s).2.1/\dL (tP l m d s).2.2=true:=by have k:=alZ (l:=l) (m:=m) (d:=d) h.TM;exact⟨⟨h.ring,h.dev,k.1,h.base.trans k.2.1.symm,h.size.trans k.2.2.symm,h.drop,h.held,h.free⟩,afF hp _⟩
theorem RH (l:ax aE)(m:bK)(d:Int){n:Int}:∀(k:Nat)(s:ax Stream×aW×dq),zg n s.2.1->dL s.2.2=true->zg n (il l m d k s).2.2.1/\dL (il l m d k s).2.2.2=true
 |0,s,h,hp=>⟨h,hp⟩
 |k+1,s,h,hp=>by rw[il];cases (kC l m d s.2.1.2.2.1).2.2 with|false=>exact⟨h,hp⟩|true=>have e:=abS h hp l m d;exact RH l m d k _ e.1 e.2
theorem Qv (l:ax aE)(d:Int)(p:dq):∀(q:dm)(m:bK)(r:mn),dk m=true->dR r=true->dk (lL l d p q m r).2.1=true/\dR (lL l d p q m r).2.2=true
 |[],m,r,hm,hr=>⟨hm,hr⟩
 |b::q,m,r,hm,hr=>by rw[lL];cases (dr l m d r (gC p b)).2.2 with|false=>exact⟨hm,hr⟩|true=>exact Qv l d p q _ _ (Oh hm ..) (Zl hr ..).1
theorem TW (hm:dk m=true)(hr:dR r=true)(hp:dL p=true)(l:ax aE)(d:Int):dk (qu l m d r p).1=true/\dR (qu l m d r p).2.1=true/\dL (qu l m d r p).2.2.1=true:=by unfold qu;have k:=Qv l d p p.2.2.2 m r hm hr;grind[H6]
theorem afE {n:Int}{rx:aW}(h:zg n rx)(hm:dk m=true){pl:dq}(hp:dL pl=true)(l:ax aE)(d:Int)(st:ax Stream)(c:Int):dk (gP l m d rx pl st c).1=true/\zg n (gP l m d rx pl st c).2.1/\dL (gP l m d rx pl st c).2.2.1=true:=by
 unfold gP;cases !FP rx||(!dL pl|| !dV c 0 1000);case true=>grind
 have k:=RH l m d c.toNat (st,rx,pl) h hp;have f:=TW hm k.1.ring k.2 l d;exact⟨f.1,⟨f.2.1,k.1.dev,k.1.TM,k.1.base,k.1.size,k.1.drop,k.1.held,k.1.free⟩,f.2.2⟩
structure Good (n:Int) (h:Host):Prop where
 mem:dk h.1=true
 maps:fW h.2.1=true
 tx:Hq h.2.2.1
 Fj:mY h.2.2.2.2.2.2.2.1=true
 lens:qv h=true
 Jf:eX h.2.2.2.2.2.2.2.2.1 (h.2.2.2.1.length:Int)=true
 rx:∀r∈h.2.2.2.1,zg n r
 pool:∀p∈h.2.2.2.2.1,dL p=true
 vec:∀v∈h.2.2.2.2.2.1,fy v=true
 Eb:∀x∈iI h,0<=x/\x<=n
theorem Good.mono {n m:Int}(g:Good n h)(hn:n<=m:=by omega):Good m h:=⟨g.mem,g.maps,g.tx,g.Fj,g.lens,g.Jf,λr hr=>(g.rx r hr).mono hn,g.pool,g.vec,λx hx=>⟨(g.Eb x hx).1,by have:=(g.Eb x hx).2;omega⟩⟩
theorem ahu (h:Host):eU h=true↔Good 1000000000000 h:=by unfold eU UU;simp only[ah,aO,aS,ajb,Ib];constructor;rintro⟨h1,h2,h3,h4,h5,h6,⟨h7,h8,h9⟩,h10⟩;exact⟨h1,h2,h3,h4,h5,h6,h7,h8,h9,h10⟩;intro g;exact⟨g.mem,g.maps,g.tx,g.Fj,g.lens,g.Jf,⟨g.rx,g.pool,g.vec⟩,g.Eb⟩
theorem Good.ok {n:Int}(g:Good n h)(hn:n<=1000000000000):eU h=true:=(ahu h).2 (g.mono hn)
theorem D7 {P:α->Prop}{l:ax α}{i:Nat}{v:α}(h:∀x∈l,P x)(hv:P v):∀x∈l.set i v,P x:=by grind
theorem ajE {n:Int}(g:Good n h)(k:Nat):Good n (evS k h):=by unfold evS;cases hv:h.2.2.2.2.2.1[k]? with|none=>exact g|some v=>exact⟨g.mem,g.maps,g.tx,g.Fj,by have:=g.lens;grind[qv],g.Jf,g.rx,g.pool,D7 g.vec (aje (g.vec v (aX hv))),g.Eb⟩
theorem XV {n:Int}(g:Good n h)(k:Nat):∀i,Good n (OT k i h)
 |0=>g
 |i+1=>ajE (XV g k i) k
theorem N6 {n:Int}(g:Good n h)(k:Nat)(b:Int)(h1:dk f.1=true)(h2:zg n f.2):Good n (qZ h k b f):=by refine XV (h:=EA h k f) ⟨h1,g.maps,g.tx,g.Fj,?_,?_,D7 g.rx h2,g.pool,g.vec,g.Eb⟩ _ _;have:=g.lens;unfold qv EA at*;simp only[aL];exact this;show eX _ ((h.2.2.2.1.set k f.2).length)=true;rw[aL];exact g.Jf
theorem Ej {n:Int}(hn:n<=800000000000)(g:Good n h)(k:Nat):Good (n+320) (eH k h):=by unfold eH;cases hx:h.2.2.2.1[k]? with|none=>exact g.mono|some x=>have f:=Dl (by omega) (g.rx x (aX hx)) g.mem h.2.1 0 h.2.2.2.2.2.2.2.2.1.2.2.1;exact N6 (g.mono) k _ f.1 f.2
theorem Ke {n:Int}(hn:n<=700000000000)(g:Good n h):Good (n+640) (jh h):=by
 unfold jh;have hl:=qI g.lens;cases eU h with
 |false=>exact g.mono
 |true=>
  have key:∀k:Nat,k<=2->Good (n+320*(k)) (dX eH k h):=by intro k;induction k with|zero=>intro _;exact g.mono|succ k ih=>intro hk;exact(Ej (by omega) (ih (by omega)) k).mono
  exact(key _ hl.1).mono
theorem Fp {n:Int}(g:Good n h):Good n (om h):=by
 unfold om;cases eU h with
 |false=>exact g
 |true=>
  have key:∀k,Good n (dX jB k h):=by intro k;induction k with|zero=>exact g|succ k ih=>show Good n (jB k (dX jB k h));generalize dX jB k h=s at ih⊢;unfold jB;cases hv:s.2.2.2.2.2.1[k]? with|none=>exact ih|some v=>exact⟨ih.mem,ih.maps,ih.tx,ih.Fj,by have:=ih.lens;grind[qv],ih.Jf,ih.rx,ih.pool,D7 ih.vec (Sq (ih.vec v (aX hv))),ih.Eb⟩
  exact key _
theorem aei {n:Int}(g:Good n h)(p:aH)(c z:Int):Good n (vr h p c z).1:=by unfold vr;cases eU h with|false=>exact g|true=>have k:=afU g.tx g.mem h.2.1 0 p c z;exact⟨k.1,g.maps,k.2,g.Fj,g.lens,g.Jf,g.rx,g.pool,g.vec,g.Eb⟩
theorem EU {n:Int}(g:Good n h):Good n (dj h):=by unfold dj;cases eU h with|false=>exact g|true=>have r:=Is h.2.1 h.1 0 17 [] 0 0 h.2.2.1.1 g.tx.ring;exact⟨g.mem,g.maps,ZY (akF g.tx r.1 r.2) _,g.Fj,g.lens,g.Jf,g.rx,g.pool,g.vec,g.Eb⟩
theorem Hv {x n:Int}(h:0<=x/\x<=n)(hn:n<=800000000000:=by omega):0<=ar (x+1)/\ar (x+1)<=n+1:=by grind[ak]
theorem Ga {n:Int}(hn:n<=800000000000)(g:Good n h){b c:Int}(ha:0<=a/\a<=n+1)(hb:0<=b/\b<=n+1)(hc:0<=c/\c<=n+1)(hd:0<=d/\d<=n+1):Good (n+1) (po h a b c d):=by have k:=g.mono (show n<=n+1 by omega);refine⟨k.mem,k.maps,k.tx,k.Fj,k.lens,k.Jf,k.rx,k.pool,k.vec,λx hx=>?_⟩;have h1:=Hv (g.Eb _ (List.mem_cons_self ..)) hn;grind[iI,po]
theorem VR {n:Int}(hn:n<=700000000000)(g:Good n h)(x:Bytes):Good (n+641) (iY h x):=by
 have c1:=g.Eb h.2.2.2.2.2.2.2.2.2.2.2.2.2.2.2.1 (by simp[iI]);have c2:=g.Eb h.2.2.2.2.2.2.2.2.2.2.2.2.2.2.2.2.1 (by simp[iI]);have c3:=g.Eb h.2.2.2.2.2.2.2.2.2.2.2.2.2.2.2.2.2.1 (by simp[iI]);have c4:=g.Eb h.2.2.2.2.2.2.2.2.2.2.2.2.2.2.2.2.2.2 (by simp[iI]);have u:∀{y:Int},0<=y/\y<=n->0<=y/\y<=n+1:=λhy=>⟨hy.1,by omega⟩
 unfold iY;cases eU h;exact g.mono;cases (fF x).2 !=0;case true=>exact(Ga (by omega) g (Hv c1) (u c2) (u c3) (u c4)).mono
 cases !kj h.2.2.2.2.2.2.2.1 (fF x).1;case true=>exact(Ga (by omega) g (u c1) (Hv c2) (u c3) (u c4)).mono
 cases gA h.2.2.2.2.2.2.2.2.1 (h.2.2.2.1.length) (fF x).1== -1;case true=>exact(Ga (by omega) g (u c1) (u c2) (Hv c3) (u c4)).mono
 cases hq:h.2.2.2.1[(gA h.2.2.2.2.2.2.2.2.1 (h.2.2.2.1.length) (fF x).1).toNat]? with|none=>exact g.mono|some q=>have a:=Xp (by omega) (g.rx q (aX hq)) g.mem h.2.1 0 h.2.2.2.2.2.2.2.2.1.2.2.1 (fF x).1 h.2.2.2.2.2.2.2.2.2.2.1;exact N6 ((Ga (by omega) g (u c1) (u c2) (u c3) (Hv c4)).mono) _ _ a.1 (a.2.mono)
theorem El {n:Int}(b:Int)(k:Nat){s:Int×Host}(g:Good n s.2):Good n (qL b k s).2:=by unfold qL;rcases h1:s.2.2.2.2.2.2.1[k]? with _|v;exact g;rcases h2:s.2.2.2.2.2.2.2.1[k]? with _|p;exact g;rcases h3:s.2.2.2.2.1[k]? with _|x;exact g;rcases h4:s.2.2.2.2.2.1[k]? with _|pl;exact g;have hv:=Z2 (g.vec v (aX h1));simp only;cases p||(oJ v).2 with|false=>refine⟨g.mem,g.maps,g.tx,g.Fj,?_,g.Jf,g.rx,g.pool,D7 g.vec hv,g.Eb⟩;have:=g.lens;unfold qv at*;simp only[ae,aL];exact this|true=>have e:=afE (g.rx x (aX h3)) g.mem (g.pool pl (aX h4)) s.2.2.1 0 s.2.2.2.2.2.2.2.2.2.2.1 b;refine⟨e.1,g.maps,g.tx,g.Fj,?_,?_,D7 g.rx e.2.1,D7 g.pool e.2.2,D7 g.vec ?_,g.Eb⟩;have:=g.lens;unfold qv at*;simp only[af,aL];exact this;show eX _ ((s.2.2.2.2.1.set k _).length)=true;rw[aL];exact g.Jf;cases decide ((gP s.2.2.1 s.2.1 0 x pl s.2.2.2.2.2.2.2.2.2.2.1 b).2.2.2.2<b)with|true=>exact acy hv|false=>exact hv
theorem QL {n:Int}(b:Int)(g:Good n h):∀k,Good n (gu b k h).2
 |0=>g
 |k+1=>El b k (QL b g k)
theorem K3 {n:Int}(g:Good n h)(b:Int):Good n (gi h b).1:=by grind[gi,QL]
theorem RJ {b n:Int}(ha:0<=a/\a<=130944:=by omega)(hb:1<=b/\b<=512:=by omega)(hn:0<=n/\n<=16:=by omega):mP a b n=((a,b,n,upto n.toNat),true)/\dL (a,b,n,upto n.toNat)=true:=by have h1:dL (a,b,n,[])=true:=LP.2 ⟨ha,hb,hn,by simp,List.nodup_nil⟩;refine⟨by unfold mP;rw[h1];rfl,LP.2 ⟨ha,hb,hn,?_,?_⟩⟩;intro x hx;simp only[upto,dZ,cP]at hx;obtain⟨i,hi,rfl⟩:=hx;simp only[Int.ofNat_eq_natCast];omega;unfold upto;rw[List.Nodup,List.pairwise_map];exact List.nodup_range.imp λh he=>h (Int.ofNat.inj he)
theorem amf (c:Int)(hc:0<=c/\c<=65535):Hq (So.1,So.2.1,So.2.2.1,c):=by refine⟨H8 (by omega) (by omega) (by omega) (by omega) (by omega),hc,λx hx=>(by cases hx),?_,by show(0)<=16;omega⟩;rfl
theorem acK {i:Nat}(h:i<=8):0<=mG i/\mG i<=16000:=by unfold mG;omega
theorem afp (hm:dk m=true)(l:ax aE){i:Nat}(hi:i<=8):dk (tO l m i).1=true/\dR (tO l m i).2.1=true/\dL (tO l m i).2.2.1=true:=by have hb:=acK hi;have p:=RJ (a:=mG i+128) (b:=384) (n:=4);grind[tO,TW,H3,H8]
theorem aiK {i:Nat}(hi:i<=8)(hr:dR r=true){n:Int}(hd:0<=d/\d<=n):zg n (r,(mG i+64,4,0),(mG i+64,4,0),((0,0,0,0,0,0,0,0,0,0,0,0,0,0,0,([]:Bytes)),0,0),false,d):=by
 have hb:=acK hi;have hq:gG (mG i+64,4,0)=true:=by have hs:jW 4=true:=iK.2 (by omega);unfold gG;rw[ah,ah];exact⟨aS.2 (by omega),hs,by rfl⟩
 exact⟨hr,hq,hq,rfl,rfl,hd,λhf=>(by cases hf),λ_=>rfl⟩
def Xe (c:bK):Prop:=∃ze last,c=ze++[last]/\(∀e∈ze,(dC e).2=true/\Cc (dC e).1=false)/\(dC last).2=true/\Cc (dC last).1=true
structure W3 (m:List Bytes) (t:cz) (hd:Nat) (L:List (List Bytes)):Prop where
 ring:t.1=fJ 0 16 hd L.flatten.length
 row:qp m 0 16 hd L.flatten
 Eb:L.length=t.2.2.1.length
 ch:∀c∈L,Xe c
 pool:t.2.1.1=256/\t.2.1.2.1=128/\t.2.1.2.2.1=8
theorem W3.frame (s:W3 m t hd L)(h:∀i,i<256->mB m' i=mB m i):W3 m' t hd L:=⟨s.ring,s.row.frame (Or.inr rfl) λi _ h2=>h i (by omega),s.Eb,s.ch,s.pool⟩
theorem J1 (hm:fA m):∀(ze:bK)(last:Bytes)(rest:bK)(hd n:Nat)(acc:ax Dd),qp m 0 16 hd (ze++last::rest)->ze.length+1<=n->(∀e∈ze,(dC e).2=true/\Cc (dC e).1=false)->(dC last).2=true->Cc (dC last).1=true->
 (ot (bM 38) m 0 n acc (fJ 0 16 hd (ze.length+1+rest.length))).2=(fJ 0 16 (hd+(ze.length+1)) rest.length,true)/\qp m 0 16 (hd+(ze.length+1)) rest
 |[],last,rest,hd,0,acc,r,hn,_,h1,h2=>by simp at hn
 |[],last,rest,hd,n+1,acc,r,hn,_,h1,h2=>by have t:=Dc hm (b:=0) (S:=16) (Or.inr rfl) (by omega) r;rw[show([]:bK).length+1+rest.length=rest.length+1 by simp;omega,ot,t.1,h1,h2];exact⟨rfl,t.2⟩
 |e::ze,last,rest,hd,0,acc,r,hn,_,h1,h2=>by simp at hn
 |e::ze,last,rest,hd,n+1,acc,r,hn,he,h1,h2=>by
  have t:=Dc hm (b:=0) (S:=16) (Or.inr rfl) (by omega) (show qp m 0 16 hd (e::(ze++last::rest)) from r);have hl:(ze++last::rest).length=ze.length+1+rest.length:=by simp;omega
  rw[hl]at t;have g:=he e (by simp);simp only[bp]at hn;rw[show(e::ze).length+1+rest.length=ze.length+1+rest.length+1 by simp;omega,ot,t.1,g.1,g.2];simp only[aj,bN,ae];have ih:=J1 hm ze last rest (hd+1) n (acc++[(dC e).1]) t.2 (by omega) (λy hy=>he y (by simp[hy])) h1 h2;grind
theorem Oi (hm:fA m){c:bK}(hc:Xe c)(r:qp m 0 16 hd (c++L.flatten)):((gF (bM 38) m 0 (fJ 0 16 hd (c++L.flatten).length)).1=fJ 0 16 (hd+c.length) L.flatten.length/\qp m 0 16 (hd+c.length) L.flatten)/\((gF (bM 38) m 0 (fJ 0 16 hd (c++L.flatten).length)).2.2=1\/(gF (bM 38) m 0 (fJ 0 16 hd (c++L.flatten).length)).2.2=2):=by
 obtain⟨ze,last,rfl,h1,h2,h3⟩:=hc;have hl:(ze++[last]++L.flatten).length=ze.length+1+L.flatten.length:=by simp;omega
 have el:(ze++[last]).length=ze.length+1:=by simp
 have er:ze++[last]++L.flatten=ze++last::L.flatten:=by simp
 have MD:=r.len;rw[hl]at MD⊢;rw[er]at r;have v:=pM (b:=0) (S:=16) (hd:=hd) (Or.inr rfl) (by omega) MD;have cf:=J1 hm ze last L.flatten hd (ze.length+1+L.flatten.length) [] r (by omega) h1 h2 h3;have tk:(eI (bM 38) m 0 (fJ 0 16 hd (ze.length+1+L.flatten.length))).2=(fJ 0 16 (hd+(ze.length+1)) L.flatten.length,true):=by unfold eI;grind
 rw[el];grind[gF]
theorem KB (hm:fA m):∀(L:ax bK)(hd n:Nat)(fr:bK)(dn bd:Nat),(∀c∈L,Xe c)->qp m 0 16 hd L.flatten->L.length<n->
 ∃(HI:Nat)(NZ:bK)(a b:Nat),kz (bM 38) m 0 n fr dn bd (fJ 0 16 hd L.flatten.length)=(fJ 0 16 HI 0,NZ,(a:Int),(b:Int))/\a+b=dn+bd+L.length
 |[],hd,0,fr,dn,bd,_,_,h=>by simp at h
 |[],hd,n+1,fr,dn,bd,_,_,_=>by
  have v:=pM (b:=0) (S:=16) (hd:=hd) (n:=0) (Or.inr rfl) (by omega) (by omega);have e:(gF (bM 38) m 0 (fJ 0 16 hd 0)).2.2=0:=by unfold gF;rw[v.1,v.2];rfl
  refine⟨hd,fr,dn,bd,?_,by simp⟩;show kz (bM 38) m 0 (n+1) fr dn bd (fJ 0 16 hd 0)=_;rw[kz,e];rfl
 |c::L,hd,0,fr,dn,bd,_,_,h=>by simp at h
 |c::L,hd,n+1,fr,dn,bd,hc,r,h=>by have hf:(c::L).flatten=c++L.flatten:=List.flatten_cons;rw[hf]at r⊢;simp only[bp]at h;have nx:=Oi hm (hc c (by simp)) r;rw[kz,nx.1.1];rcases nx.2 with e|e;obtain⟨HI,NZ,a,b,g1,g2⟩:=KB hm L (hd+c.length) n (fr++(gF (bM 38) m 0 (fJ 0 16 hd (c++L.flatten).length)).2.1) (dn+1) bd (λy hy=>hc y (by simp[hy])) nx.1.2 (by omega);rw[e];exact⟨HI,NZ,a,b,g1,by simp only[bp];omega⟩;obtain⟨HI,NZ,a,b,g1,g2⟩:=KB hm L (hd+c.length) n (fr++(gF (bM 38) m 0 (fJ 0 16 hd (c++L.flatten).length)).2.1) dn (bd+1) (λy hy=>hc y (by simp[hy])) nx.1.2 (by omega);rw[e];exact⟨HI,NZ,a,b,g1,by simp only[bp];omega⟩
theorem VO:∀(L:ax bK),(∀c∈L,Xe c)->L.length<=L.flatten.length
 |[],_=>bc _
 |c::L,h=>by have:=VO L λy hy=>h y (by simp[hy]);obtain⟨ze,last,e,_⟩:=h c (by simp);grind
theorem N5:∀(l:ax nq)(p:dq),(nI p l).1=p.1/\(nI p l).2.1=p.2.1/\(nI p l).2.2.1=p.2.2.1
 |[],p=>⟨rfl,rfl,rfl⟩
 |x::l,p=>by
  have i:=N5 l (Dp p x.2.2).1;have g:(Dp p x.2.2).1.1=p.1/\(Dp p x.2.2).1.2.1=p.2.1/\(Dp p x.2.2).1.2.2.1=p.2.2.1:=by unfold Dp;cases Fo p x.2.2<;>exact⟨rfl,rfl,rfl⟩
  exact⟨i.1.trans g.1,i.2.1.trans g.2.1,i.2.2.trans g.2.2⟩
theorem ZX {n:Int}(g:Good n h)(hn:n<=1000000000000)(aaV:h.2.1=bM 38)(hm:fA h.1)(s:W3 h.1 h.2.2.1 hd L):∃HI,(dj h).2.2.1=(fJ 0 16 HI 0,nI h.2.2.1.2.1 h.2.2.1.2.2.1,[],h.2.2.1.2.2.2):=by
 have hl:=s.row.len;have MD:=VO L s.ch;obtain⟨HI,fr,a,b,e1,e2⟩:=KB hm L hd 17 [] 0 0 s.ch s.row (by omega);have e:oF h.2.1 h.1 0 h.2.2.1.1=(fJ 0 16 HI 0,fr,(a:Int),(b:Int)):=by rw[aaV,s.ring];exact e1
 have hc:=s.Eb;have v:=pM (b:=0) (S:=16) (hd:=HI) (n:=0) (Or.inr rfl) (by omega) (by omega);have eN:(if(h.2.2.1.2.2.1.length:Int)<ar ((a:Int)+(b:Int)) then(h.2.2.1.2.2.1.length:Int) else ar ((a:Int)+(b:Int)))=(h.2.2.1.2.2.1.length:Int):=by rw[ak (by omega) (by omega)];split<;>omega
 have tx:=g.tx;have t2:Hq (fJ 0 16 HI 0,h.2.2.1.2):=by refine⟨v.1,tx.next,λx hx=>?_,tx.pool,?_⟩;have:=tx.sent x hx;rw[s.ring]at this;exact this;have:=tx.Eb;rw[s.ring]at this;exact this
 have ec:kt (fJ 0 16 HI 0,h.2.2.1.2) (h.2.2.1.2.2.1.length:Int)=((fJ 0 16 HI 0,nI h.2.2.1.2.1 h.2.2.1.2.2.1,[],h.2.2.1.2.2.2),h.2.2.1.2.2.1.map (·.1)):=by unfold kt;rw[ajb.2 t2,aS.2 ⟨by omega,iH _⟩];simp only[du,af,aC,cQ,ij]
 refine⟨HI,?_⟩;unfold dj;rw[g.ok hn,e];simp only[af,eN,ec]
theorem JR {n:Int}(g:Good n h)(hn:n<=1000000000000)(aaV:h.2.1=bM 38)(hm:fA h.1)(s:W3 h.1 h.2.2.1 hd L):(dj h).2.2.1.2.2.1=[]/\∃HI,W3 h.1 (dj h).2.2.1 HI []:=by obtain⟨HI,et⟩:=ZX g hn aaV hm s;have gs:=N5 h.2.2.1.2.2.1 h.2.2.1.2.1;rw[et];exact⟨rfl,HI,rfl,⟨by simp,λj hj=>by simp at hj⟩,rfl,(λc hc=>by cases hc),gs.1.trans s.pool.1,gs.2.1.trans s.pool.2.1,gs.2.2.trans s.pool.2.2⟩
theorem acR (hp:p.1=256/\p.2.1=128/\p.2.2.1=8)(hb:dL p=true){b:Int}(h:b∈p.2.2.2):∃a:Nat,kV p b=(a:Int)/\256<=a/\a+128<=1280:=by
 have hi:0<=b/\b<=7:=by unfold dL at hb;simp only[ah,aO,cP]at hb;grind[fO,Dm,aS]
 refine⟨(256+b*128).toNat,?_,by omega,by omega⟩;grind[kV,aS]
theorem J7 (hp:p.1=256/\p.2.1=128/\p.2.2.1=8)(hb:dL p=true){z:Nat}(hz:z<=128):∀(q:dm)(s:Bytes)(m:bK)(a:ax fe){x},(∀b∈q,b∈p.2.2.2)->fA m->rh (bM 38) 0 p z q s m a=some x->fA x.2/\∀i,i<4864->(i<256\/1280<=i)->mB x.2 i=mB m i
 |[],s,m,a,x,_,hm,h=>by cases h;grind
 |b::q,s,m,a,x,hq,hm,h=>by
  obtain⟨A,e,a1,a2⟩:=acR hp hb (hq b (by simp));have hl:(s.take z).length<=128:=by rw[bt];omega
  have pf:=DJ hm (a:=A) (s:=s.take z) (w:=false) (by omega) (by omega) (by simp);rw[rh,e,pf.1]at h;have ih:=J7 hp hb hz q _ _ _ (λy hy=>hq y (by simp[hy])) pf.2.1 h;grind
theorem H7:∀(q:bK)(m:bK)(hd:Nat)(E:bK),fA m->qp m 0 16 hd E->(∀s∈q,s.length=16)->E.length+q.length<=16->∃m',sV (bM 38) 0 q m (fJ 0 16 hd E.length)=some (m',fJ 0 16 hd (E++q).length)/\fA m'/\qp m' 0 16 hd (E++q)/\∀i,i<4864->256<=i->mB m' i=mB m i
 |[],m,hd,E,hm,r,_,_=>⟨m,by rw[bg];rfl,hm,by rw[bg];exact r,λ_ _ _=>rfl⟩
 |s::q,m,hd,E,hm,r,hs,hl=>by
  simp only[bp]at hl;have p:=Zc hm (b:=0) (S:=16) (hd:=hd) (Or.inr rfl) (by omega) r (by omega) (hs s (by simp));have e1:E.length+1=(E++[s]).length:=by simp
  obtain⟨m',g1,g2,g3,g4⟩:=H7 q _ hd (E++[s]) p.2.1 p.2.2.1 (λy hy=>hs y (by simp[hy])) (by simp;omega);grind[sV]
theorem Qm {c:Int}(h:(gw ps z c).length=ps.length+1):gw ps z c=[(2,0,0,0,z,c)]++jG ps c ps.length/\([(2,0,0,0,z,c)]++jG ps c ps.length).all mr=true:=by unfold gw at h⊢;grind
theorem VJ (f l a s c:Int)(hf:f=0\/f=1):Cc (1,f,l,a,s,c)=(f==1):=by rcases hf with rfl|rfl;unfold Cc;simp only[beq_self_eq_true,af];decide;unfold Cc;simp only[beq_self_eq_true,af];decide
theorem MQ (ps:ax fe)(c:Int):∀i,i<ps.length->∀d∈jG ps c i,Cc d=false
 |0,_,d,hd=>by cases hd
 |i+1,hi,d,hd=>by rw[jG]at hd;rcases aB.1 hd with g|g;exact MQ ps c i (by omega) d g;rw[bq.1 g];unfold dsc;rw[lH,VJ _ _ _ _ _ (Or.inl rfl)];rfl
theorem J3 {c:Int}(h:(gw ps z c).length=ps.length+1)(h0:0<ps.length):Xe ((gw ps z c).map gJ)/\∀s∈(gw ps z c).map gJ,s.length=16:=by
 obtain⟨e,uh⟩:=Qm h;rw[e];rw[aO]at uh;obtain⟨k,hk⟩:∃k,ps.length=k+1:=⟨ps.length-1,by omega⟩
 have ed:jG ps c ps.length=jG ps c k++[dsc ps.length c k (ps.getD k (0,0))]:=by rw[show jG ps c ps.length=jG ps c (k+1) from by rw[hk]];rfl
 rw[ed]at uh⊢;refine⟨⟨([(2,0,0,0,z,c)]++jG ps c k).map gJ,gJ (dsc ps.length c k (ps.getD k (0,0))),?_,λs hs=>?_,?_,?_⟩,λs hs=>?_⟩;rw[<-aG,cS];rfl;obtain⟨d,hd,rfl⟩:=dZ.1 hs;have SP:d∈[(2,0,0,0,z,c)]++(jG ps c k++[dsc ps.length c k (ps.getD k (0,0))]):=by rw[<-aG];exact aU _ hd
 rw[(nu (uh d SP)).2];refine⟨rfl,?_⟩;rcases aB.1 hd with g|g;rw[bq.1 g];rfl;exact MQ ps c k (by omega) d g;rw[(nu (uh _ (by rw[<-aG];exact bj _ (bq.2 rfl)))).2];rw[(nu (uh _ (by rw[<-aG];exact bj _ (bq.2 rfl)))).2];show Cc (1,(if k+1=ps.length then 1 else 0),_,_,0,c)=true;rw[aI hk.symm,VJ _ _ _ _ _ (Or.inr rfl)];rfl;obtain⟨d,hd,rfl⟩:=dZ.1 hs;exact(nu (uh d hd)).1
theorem U3 (hm:fA m)(s:W3 m t hd L)(ht:Hq t)(p:aH)(c z:Int):fA (mR (bM 38) m 0 t p c z).1/\(∃L',W3 (mR (bM 38) m 0 t p c z).1 (mR (bM 38) m 0 t p c z).2.1 hd L')/\∀i,i<4864->1280<=i->mB (mR (bM 38) m 0 t p c z).1 i=mB m i:=by
 have Ru:fA m/\(∃L',W3 m t hd L')/\∀i,i<4864->1280<=i->mB m i=mB m i:=⟨hm,⟨L,s⟩,λ_ _ _=>rfl⟩
 have hb:=ht.free;unfold mR;cases hg:Mv t&&(cC p&&(dV z 1 t.2.1.2.1&&dV c 1 128));exact Ru;simp only[ah,aS]at hg;simp only[af];have tl:=GU hg.2.1;have hz:z.toNat<=128:=by have:=hg.2.2.1.2;rw[s.pool.2.1]at this;omega
 have hk0:0<nr p z.toNat:=by unfold nr;refine Nat.div_pos ?_ (by omega);omega
 generalize hk:nr p z.toNat=k at hk0;cases hf:G7 t k;exact Ru;simp only[af];rcases hx:rh (bM 38) 0 t.2.1 z.toNat (iZ t.2.1 (k:Int)).2.1 (gQ p).1 m []with _|x;exact Ru;simp only;unfold G7 at hf;simp only[ah,aP,dh]at hf;have hti:dV (k:Int) 0 (t.2.1.2.2.2.length:Int)=true:=by have:=hf.1;unfold iZ at this;cases hq:dL t.2.1&&dV (k:Int) 0 (t.2.1.2.2.2.length:Int)with|true=>rw[ah]at hq;exact hq.2|false=>rw[hq]at this;cases this
 have et:iZ t.2.1 (k:Int)=((t.2.1.1,t.2.1.2.1,t.2.1.2.2.1,t.2.1.2.2.2.drop k),t.2.1.2.2.2.take k,true):=by unfold iZ;rw[hb,hti];rfl
 rw[et]at hx;have hti:=aS.1 hti;have hlen:(t.2.1.2.2.2.take k).length=k:=by rw[bt];omega
 have fw:=J7 s.pool hb hz _ _ _ _ (λb iq=>List.mem_of_mem_take iq) hm hx;have fo:=Fi (bM 38) 0 t.2.1 z.toNat _ _ _ _ hx;have xl:x.1.length=k:=by rw[fo.2.1,hlen];simp
 have MD:k<=16:=by omega
 have da:=Qn (ps:=x.1) (z:=c) (c:=t.2.2.2) (by omega) (by omega) (λy hy=>by rcases fo.2.2 y hy with g|⟨⟨b,iq,e⟩,g2,g3⟩;cases g;·obtain⟨A,eA,a1,a2⟩:=acR s.pool hb (List.mem_of_mem_take iq);rw[e,eA];omega) (aS.2 hg.2.2.2) (aS.2 ht.next);have dc:=J3 da (by omega);have r2:=s.row.frame (m':=x.2) (Or.inr rfl) λi _ h2=>fw.2 i (by omega) (by omega);have km:=hf.2.2.1;have v:=pM (b:=0) (S:=16) (hd:=hd) (Or.inr rfl) (by omega) s.row.len;have efr:oH t.1=((16-L.flatten.length:Nat):Int):=by have:=s.row.len;unfold oH;rw[s.ring,v.1,v.2,af];show ar ((16:Int)-(L.flatten.length:Int))=_;rw[ak (by omega) (by omega)];omega
 rw[efr]at km;obtain⟨m',g1,g2,g3,g4⟩:=H7 ((gw x.1 c t.2.2.2).map gJ) x.2 hd L.flatten fw.1 r2 dc.2 (by rw[bX,da];omega);have ep:oU (bM 38) x.2 0 t.1 ((gw x.1 c t.2.2.2).map gJ)=(m',fJ 0 16 hd (L.flatten++(gw x.1 c t.2.2.2).map gJ).length,true):=by unfold oU;rw[s.ring,g1];rfl
 unfold L2;rw[ep,et];simp only[af];have efl:L.flatten++(gw x.1 c t.2.2.2).map gJ=(L++[(gw x.1 c t.2.2.2).map gJ]).flatten:=by rw[dY];simp
 rw[efl]at g3⊢;refine⟨g2,⟨L++[(gw x.1 c t.2.2.2).map gJ],rfl,g3,?_,λy hy=>?_,s.pool⟩,λi hi ho=>(g4 i hi (by omega)).trans (fw.2 i hi (by omega))⟩;show(L++[_]).length=(t.2.2.1++[_]).length;rw[aq,aq,s.Eb];rfl;rcases aB.1 hy with g|g;exact s.ch y g;rw[bq.1 g];exact dc.1
abbrev PZ:=aH×Int
def Ow (m:bK)(ps:ax fe):Bytes:=ps.flatMap λx=>tS m x.1.toNat x.2.toNat
def Pg (bs:dm)(x:fe):Prop:=∃b∈bs,(0<=b/\b<=7)/\x.1=256+b*128/\0<=x.2/\x.2<=128
theorem Ia {bs:dm}:∀(ps:ax fe),(∀x∈ps,Pg bs x)->(∀b∈bs,0<=b/\b<=7->∀i:Nat,256+b*128<=(i:Int)->(i:Int)<384+b*128->mB m' i=mB m i)->Ow m' ps=Ow m ps
 |[],_,_=>rfl
 |x::ps,hp,h=>by obtain⟨b,hb,hr,e1,e2,e3⟩:=hp x List.mem_cons_self;have i:=Ia ps (λy hy=>hp y (cc _ hy)) h;unfold Ow at i⊢;rw[List.flatMap_cons,List.flatMap_cons,i,xg λj hj=>h b hb hr _ (by omega) (by omega)]
def ChC (m:bK)(bs:dm)(w:PZ)(c:bK):Prop:=∃(ps:ax fe)(k:Int),cC w.1=true/\(gw ps w.2 k).length=ps.length+1/\0<ps.length/\c=(gw ps w.2 k).map gJ/\(∀x∈ps,Pg bs x)/\Ow m ps=(gQ w.1).1
theorem ChC.frame {bs:dm}{w:PZ}{c:bK}(h:ChC m bs w c)(f:∀b∈bs,0<=b/\b<=7->∀i:Nat,256+b*128<=(i:Int)->(i:Int)<384+b*128->mB m' i=mB m i):ChC m' bs w c:=by obtain⟨ps,k,h1,h2,h3,h4,h5,h6⟩:=h;exact⟨ps,k,h1,h2,h3,h4,h5,(Ia ps h5 f).trans h6⟩
abbrev Dsc:=Dd
theorem aaE {c:Int}(h:(gw ps z c).length=ps.length+1)(h0:0<ps.length):∃(ze:ax Dsc)(last:Dsc),gw ps z c=ze++[last]/\(∀e∈ze,mr e=true/\Cc e=false)/\mr last=true/\Cc last=true:=by
 obtain⟨e,uh⟩:=Qm h;rw[aO]at uh;obtain⟨k,hk⟩:∃k,ps.length=k+1:=⟨ps.length-1,by omega⟩
 have ed:jG ps c ps.length=jG ps c k++[dsc ps.length c k (ps.getD k (0,0))]:=by rw[show jG ps c ps.length=jG ps c (k+1) from by rw[hk]];rfl
 rw[ed,<-aG]at e uh;refine⟨_,_,e,λd hd=>⟨uh d (aU _ hd),?_⟩,uh _ (bj _ (bq.2 rfl)),?_⟩;rcases aB.1 hd with g|g;rw[bq.1 g];rfl;exact MQ ps c k (by omega) d g;show Cc (1,(if k+1=ps.length then 1 else 0),_,_,0,c)=true;rw[aI hk.symm,VJ _ _ _ _ _ (Or.inr rfl)];rfl
theorem Qf (hm:fA m):∀(ze:ax Dsc)(last:Dsc)(rest:bK)(hd n:Nat)(acc:ax Dsc),qp m 0 16 hd (ze.map gJ++gJ last::rest)->ze.length+1<=n->(∀e∈ze,mr e=true/\Cc e=false)->mr last=true->Cc last=true->
 (ot (bM 38) m 0 n acc (fJ 0 16 hd (ze.length+1+rest.length))).1=acc++(ze++[last])
 |[],last,rest,hd,0,acc,r,hn,_,h1,h2=>by simp at hn
 |[],last,rest,hd,n+1,acc,r,hn,_,h1,h2=>by have t:=Dc hm (b:=0) (S:=16) (Or.inr rfl) (by omega) (show qp m 0 16 hd (gJ last::rest) from r);rw[show([]:ax Dsc).length+1+rest.length=rest.length+1 by simp;omega,ot,t.1,(nu h1).2,h2];rfl
 |e::ze,last,rest,hd,0,acc,r,hn,_,h1,h2=>by simp at hn
 |e::ze,last,rest,hd,n+1,acc,r,hn,he,h1,h2=>by
  have t:=Dc hm (b:=0) (S:=16) (Or.inr rfl) (by omega) (show qp m 0 16 hd (gJ e::(ze.map gJ++gJ last::rest)) from r);have hl:(ze.map gJ++gJ last::rest).length=ze.length+1+rest.length:=by simp;omega
  rw[hl]at t;have g:=he e List.mem_cons_self;simp only[bp]at hn;rw[show(e::ze).length+1+rest.length=ze.length+1+rest.length+1 by simp;omega,ot,t.1,(nu g.1).2,g.2];simp only[aj,bN,ae];rw[Qf hm ze last rest (hd+1) n (acc++[e]) t.2 (by omega) (λy hy=>he y (cc _ hy)) h1 h2];simp[aG]
theorem KX (ps:ax fe)(c:Int):∀i,i<=ps.length->(jG ps c i).map (λx=>(x.2.2.2.1,x.2.2.1))=ps.take i
 |0,_=>by rw[List.take_zero];rfl
 |i+1,hi=>by rw[jG,cS,KX ps c i (by omega),bz (by omega),fD (by omega)];rfl
theorem Zs (l:ax Dsc):BL l l=true:=by grind[BL,FQ]
theorem Y4 {c:Int}(h:(gw ps z c).length=ps.length+1)(h0:0<ps.length):jV (gw ps z c)=(ps,z,c,true):=by
 obtain⟨e,_⟩:=Qm h;have hp:gT (gw ps z c)=ps:=by unfold gT;rw[e];show(jG ps c ps.length).map _=ps;rw[KX ps c _ (bc _),cQ]
 obtain⟨y,r,ey⟩:∃y r,jG ps c ps.length=y::r:=by cases hq:jG ps c ps.length with|nil=>grind|cons y r=>grind
 have e2:gw ps z c=(2,0,0,0,z,c)::y::r:=by rw[e,ey];rfl
 have s:=Zs (gw ps z c);rw[e2]at hp s⊢;show(bif BL (gw (gT ((2,0,0,0,z,c)::y::r)) z c) ((2,0,0,0,z,c)::y::r) then(gT ((2,0,0,0,z,c)::y::r),z,c,true) else([],0,0,false))=_;rw[hp,e2,s];rfl
theorem N4 (hm:fA m){bs:dm}:∀(ps:ax fe)(acc:Bytes),(∀x∈ps,Pg bs x)->Cf (bM 38) m 0 ps acc=(acc++Ow m ps,true)
 |[],acc,_=>by
  show(acc,true)=(acc++[],true)
  rw[bg]
 |x::ps,acc,h=>by obtain⟨b,hb,hr,e1,e2,e3⟩:=h x List.mem_cons_self;have d:=Hx hm (a:=x.1.toNat) (r:=x.2.toNat);rw[Int.toNat_of_nonneg (by omega),Int.toNat_of_nonneg e2]at d;rw[Cf,d];simp only[af];rw[N4 hm ps _ λy hy=>h y (cc _ hy)];grind[Ow]
theorem afA {c:Int}(h:(gw ps z c).length=ps.length+1):mh ps=true:=by grind[gw]
theorem abM (hm:fA m){bs:dm}{w:PZ}{c:bK}(hc:ChC m bs w c)(r:qp m 0 16 hd (c++L.flatten)):gF (bM 38) m 0 (fJ 0 16 hd (c++L.flatten).length)=(fJ 0 16 (hd+c.length) L.flatten.length,EC w.1 w.2,1):=by
 obtain⟨ps,k,hw,hd1,h0,ec,hp,amZ⟩:=hc;obtain⟨ze,last,ed,i1,i2,i3⟩:=aaE hd1 h0;have ec2:c=ze.map gJ++[gJ last]:=by grind
 have el:c.length=ze.length+1:=by rw[ec2];simp
 have hl:(c++L.flatten).length=ze.length+1+L.flatten.length:=by rw[aq,el]
 have er:c++L.flatten=ze.map gJ++gJ last::L.flatten:=by rw[ec2];simp
 have MD:=r.len;rw[hl]at MD⊢;rw[er]at r;have v:=pM (b:=0) (S:=16) (hd:=hd) (Or.inr rfl) (by omega) MD;have cl:=Qf hm ze last L.flatten hd (ze.length+1+L.flatten.length) [] r (by omega) i1 i2 i3;have cf:=J1 hm (ze.map gJ) (gJ last) L.flatten hd (ze.length+1+L.flatten.length) [] r (by rw[bX];omega) (λe he=>by grind[nu]) (by rw[(nu i2).2]) (by grind[nu]);rw[bX]at cf;have tk:eI (bM 38) m 0 (fJ 0 16 hd (ze.length+1+L.flatten.length))=(gw ps w.2 k,fJ 0 16 (hd+(ze.length+1)) L.flatten.length,true):=by unfold eI;grind
 have gt:wq (bM 38) m 0 ps=((gQ w.1).1,true):=by unfold wq;rw[afA hd1,af,N4 hm ps [] hp,amZ];rfl
 have ii:=zJ hw;have ib:=Kh hw;unfold gF;rw[v.1,v.2,show(((ze.length+1+L.flatten.length:Nat):Int)==0)=false from by rw[cq];omega,tk];simp only[Y4 hd1 h0,gt,ad9 hw,ii,ib,aj,bN,ae,show((0:Int) !=0)=false from rfl];rw[el]
def Al (m:bK):ax nq->ax PZ->ax bK->Prop
 |[],[],[]=>True
 |s::S,w::W,c::L=>ChC m s.2.2 w c/\Al m S W L
 |_,_,_=>False
theorem Al.frame:∀{S:ax nq}{W:ax PZ}{L:ax bK},Al m S W L->(∀b∈bC S,0<=b/\b<=7->∀i:Nat,256+b*128<=(i:Int)->(i:Int)<384+b*128->mB m' i=mB m i)->Al m' S W L
 |[],[],[],_,_=>trivial
 |s::S,w::W,c::L,h,f=>by unfold bC at f;rw[List.flatMap_cons]at f;exact⟨h.1.frame λb hb=>f b (aU _ hb),Al.frame h.2 λb hb=>f b (bj _ hb)⟩
 |[],[],_::_,h,_=>h.elim
 |[],_::_,_,h,_=>h.elim
 |_::_,[],_,h,_=>h.elim
 |_::_,_::_,[],h,_=>h.elim
theorem Al.snoc {s:nq}{w:PZ}{c:bK}(hc:ChC m s.2.2 w c):∀{S:ax nq}{W:ax PZ}{L:ax bK},Al m S W L->Al m (S++[s]) (W++[w]) (L++[c])
 |[],[],[],_=>⟨hc,dx⟩
 |s::S,w::W,c::L,h=>⟨h.1,Al.snoc hc h.2⟩
 |[],[],_::_,h=>h.elim
 |[],_::_,_,h=>h.elim
 |_::_,[],_,h=>h.elim
 |_::_,_::_,[],h=>h.elim
theorem Vm (hm:fA m):∀(S:ax nq)(W:ax PZ)(L:ax bK)(hd n:Nat)(fr:bK)(dn bd:Nat),Al m S W L->qp m 0 16 hd L.flatten->L.length<n->
 (kz (bM 38) m 0 n fr dn bd (fJ 0 16 hd L.flatten.length)).2.1=fr++W.flatMap λw=>EC w.1 w.2
 |[],[],[],hd,0,fr,dn,bd,_,_,h=>by simp at h
 |[],[],[],hd,n+1,fr,dn,bd,_,_,_=>by grind[pM,gF,kz]
 |s::S,w::W,c::L,hd,0,fr,dn,bd,_,_,h=>by simp at h
 |s::S,w::W,c::L,hd,n+1,fr,dn,bd,al,r,h=>by have hf:(c::L).flatten=c++L.flatten:=List.flatten_cons;rw[hf]at r⊢;simp only[bp]at h;obtain⟨ps,k,hw,hd1,h0,ec,hp,amZ⟩:=al.1;have nx:=abM hm al.1 r;have nf:=Oi hm (c:=c) (by grind[J3]) r;rw[kz,nx];simp only[show((1:Int)==0)=false from rfl,beq_self_eq_true,ae,af];rw[Vm hm S W L (hd+c.length) n (fr++EC w.1 w.2) (dn+1) bd al.2 nf.1.2 (by omega),List.flatMap_cons,aG]
 |[],[],_::_,_,_,_,_,_,h,_,_=>h.elim
 |[],_::_,_,_,_,_,_,_,h,_,_=>h.elim
 |_::_,[],_,_,_,_,_,_,h,_,_=>h.elim
 |_::_,_::_,[],_,_,_,_,_,h,_,_=>h.elim
theorem VA (hp:p.1=256/\p.2.1=128/\p.2.2.1=8)(hb:dL p=true){b:Int}(h:b∈p.2.2.2):(0<=b/\b<=7)/\kV p b=256+b*128:=by
 have hi:0<=b/\b<=7:=by unfold dL at hb;simp only[ah,aO,cP]at hb;grind[fO,Dm,aS]
 grind[kV,aS]
theorem abU (h:dL p=true):p.2.2.2.Nodup:=by
 unfold dL at h;simp only[ah,aO,cP]at h;refine List.pairwise_iff_getElem.2 λi j hi hj hij e=>?_;have:=h.2.2.2 j hj;unfold Dm at this;rw[fD hj]at this;simp only[ah,aP]at this;have hc:=this.2;rw[<-Bool.not_eq_true,List.contains_iff_mem]at hc;have hm:p.2.2.2[i]∈p.2.2.2.take j:=by
  have iA:i<(p.2.2.2.take j).length:=by rw[bt];omega
  have e2:(p.2.2.2.take j)[i]=p.2.2.2[i]:=List.getElem_take;grind
 grind
theorem TR (hp:p.1=256/\p.2.1=128/\p.2.2.1=8)(hb:dL p=true){z:Nat}(hz:z<=128):∀(q:dm)(s:Bytes)(m:bK)(a:ax fe){x},(∀b∈q,b∈p.2.2.2)->q.Nodup->fA m->s.length<=z*q.length->rh (bM 38) 0 p z q s m a=some x->∃ps,x.1=a++ps/\(∀y∈ps,Pg q y)/\Ow x.2 ps=s/\∀i:Nat,i<4864->(∀b∈q,(i:Int)<256+b*128\/384+b*128<=(i:Int))->mB x.2 i=mB m i
 |[],s,m,a,x,_,_,hm,hs,h=>by cases h;have:s=[]:=cb (by simpa using hs);exact⟨[],by simp,λy hy=>(by cases hy),by rw[this];rfl,λ_ _ _=>rfl⟩
 |b::q,s,m,a,x,hq,hn,hm,hs,h=>by
  obtain⟨hr,eA⟩:=VA hp hb (hq b List.mem_cons_self);obtain⟨A,hA⟩:=au (show 0<=256+b*128 by omega);have hl:(s.take z).length<=128:=by rw[bt];omega
  have pf:=DJ hm (a:=A) (s:=s.take z) (w:=false) (by omega) (by omega) (by simp);rw[rh,eA,hA,pf.1]at h;obtain⟨zb,hnq⟩:=dH.1 hn;rw[bp,Nat.mul_add,mF]at hs;obtain⟨ps,e1,e2,e3,e4⟩:=TR hp hb hz q (s.drop z) _ _ (λy hy=>hq y (cc _ hy)) hnq pf.2.1 (by rw[bA];omega) h;refine⟨((A:Int),((s.take z).length:Int))::ps,by rw[e1];simp[aG],λy hy=>?_,?_,λi hi ho=>?_⟩;rcases cy.1 hy with g|g;subst g;exact⟨b,List.mem_cons_self,hr,hA.symm,by show(0:Int)<=((s.take z).length:Int);omega,by show((s.take z).length:Int)<=128;omega⟩;obtain⟨b',g1,g2⟩:=e2 y g;exact⟨b',cc _ g1,g2⟩;have er:tS x.2 A (s.take z).length=s.take z:=LX λj hj=>by rw[e4 _ (by omega) λb' iq=>?_,pf.2.2 _ (by omega),zip,Nat.add_sub_cancel_left];have Fa:b'≠b:=λe=>zb (e▸iq);have h2:=(VA hp hb (hq b' (cc _ iq))).1;omega
  show tS x.2 ((A:Int)).toNat (((s.take z).length:Int)).toNat++Ow x.2 ps=s;rw[e3,aC,aC,er,cg];have h1:=ho b List.mem_cons_self;rw[e4 i hi λb' iq=>ho b' (cc _ iq),pf.2.2 i hi,lH]
theorem agT {p:aH}{z:Nat}(hz:0<z)(h:nr p z=k):(gQ p).1.length<=z*k:=by have h1:=Nat.div_add_mod ((gQ p).1.length+z-1) z;have h2:=Nat.mod_lt ((gQ p).1.length+z-1) hz;grind[nr]
theorem aiQ (hm:fA m)(s:W3 m t hd L)(ht:Hq t){W:ax PZ}(al:Al m t.2.2.1 W L)(p:aH)(c z:Int):∃L',W3 (mR (bM 38) m 0 t p c z).1 (mR (bM 38) m 0 t p c z).2.1 hd L'/\Al (mR (bM 38) m 0 t p c z).1 (mR (bM 38) m 0 t p c z).2.1.2.2.1 (W++bif (mR (bM 38) m 0 t p c z).2.2 then [(p,c)] else []) L':=by
 have Ru:∃L',W3 m t hd L'/\Al m t.2.2.1 (W++bif false then [(p,c)] else []) L':=⟨L,s,by rw[ae,bg];exact al⟩
 have hb:=ht.free;unfold mR;cases hg:Mv t&&(cC p&&(dV z 1 t.2.1.2.1&&dV c 1 128));exact Ru;simp only[ah,aS]at hg;simp only[af];have tl:=GU hg.2.1;have hz:z.toNat<=128:=by have:=hg.2.2.1.2;rw[s.pool.2.1]at this;omega
 have hk0:0<nr p z.toNat:=by unfold nr;refine Nat.div_pos ?_ (by omega);omega
 generalize hk:nr p z.toNat=k at hk0;have hcf:=agT (by omega) hk;cases hf:G7 t k;exact Ru;simp only[af];rcases hx:rh (bM 38) 0 t.2.1 z.toNat (iZ t.2.1 (k:Int)).2.1 (gQ p).1 m []with _|x;exact Ru;simp only;unfold G7 at hf;simp only[ah,aP,dh]at hf;have hti:dV (k:Int) 0 (t.2.1.2.2.2.length:Int)=true:=by have:=hf.1;unfold iZ at this;cases hq:dL t.2.1&&dV (k:Int) 0 (t.2.1.2.2.2.length:Int)with|true=>rw[ah]at hq;exact hq.2|false=>rw[hq]at this;cases this
 have et:iZ t.2.1 (k:Int)=((t.2.1.1,t.2.1.2.1,t.2.1.2.2.1,t.2.1.2.2.2.drop k),t.2.1.2.2.2.take k,true):=by unfold iZ;rw[hb,hti];rfl
 rw[et]at hx;have hti:=aS.1 hti;have hlen:(t.2.1.2.2.2.take k).length=k:=by rw[bt];omega
 have nd:(t.2.1.2.2.2++bC t.2.2.1).Nodup:=abU ht.pool;have nd2:=aN.1 nd;obtain⟨ps,p1,p2,p3,p4⟩:=TR s.pool hb hz _ _ _ _ (λb iq=>List.mem_of_mem_take iq) (nd2.1.sublist (List.take_sublist _ _)) hm (by rw[hlen];exact hcf) hx;rw[bU]at p1;subst p1;have fw:=J7 s.pool hb hz _ _ _ _ (λb iq=>List.mem_of_mem_take iq) hm hx;have fo:=Fi (bM 38) 0 t.2.1 z.toNat _ _ _ _ hx;have xl:x.1.length=k:=by rw[fo.2.1,hlen];simp
 have MD:k<=16:=by omega
 have da:=Qn (ps:=x.1) (z:=c) (c:=t.2.2.2) (by omega) (by omega) (λy hy=>by obtain⟨b,_,g1,g2,g3,g4⟩:=p2 y hy;omega) (aS.2 hg.2.2.2) (aS.2 ht.next);have dc:=J3 da (by omega);have r2:=s.row.frame (m':=x.2) (Or.inr rfl) λi _ h2=>fw.2 i (by omega) (by omega);have km:=hf.2.2.1;have v:=pM (b:=0) (S:=16) (hd:=hd) (Or.inr rfl) (by omega) s.row.len;have efr:oH t.1=((16-L.flatten.length:Nat):Int):=by have:=s.row.len;unfold oH;rw[s.ring,v.1,v.2,af];show ar ((16:Int)-(L.flatten.length:Int))=_;rw[ak (by omega) (by omega)];omega
 rw[efr]at km;obtain⟨m',g1,g2,g3,g4⟩:=H7 ((gw x.1 c t.2.2.2).map gJ) x.2 hd L.flatten fw.1 r2 dc.2 (by rw[bX,da];omega);have ep:oU (bM 38) x.2 0 t.1 ((gw x.1 c t.2.2.2).map gJ)=(m',fJ 0 16 hd (L.flatten++(gw x.1 c t.2.2.2).map gJ).length,true):=by unfold oU;rw[s.ring,g1];rfl
 unfold L2;rw[ep,et];simp only[af];have efl:L.flatten++(gw x.1 c t.2.2.2).map gJ=(L++[(gw x.1 c t.2.2.2).map gJ]).flatten:=by rw[dY];simp
 rw[efl]at g3⊢;refine⟨L++[(gw x.1 c t.2.2.2).map gJ],⟨rfl,g3,?_,λy hy=>?_,s.pool⟩,Al.snoc ⟨x.1,t.2.2.2,hg.2.1,da,by omega,rfl,p2,?_⟩ (al.frame λb iq hr i h1 h2=>?_)⟩;show(L++[_]).length=(t.2.2.1++[_]).length;rw[aq,aq,s.Eb];rfl;rcases aB.1 hy with g|g;exact s.ch y g;rw[bq.1 g];exact dc.1;refine(Ia x.1 p2 λb _ hr i h1 h2=>g4 i (by omega) (by omega)).trans p3;refine(g4 i (by omega) (by omega)).trans (p4 i (by omega) λb' hq=>?_);have hq2:=List.mem_of_mem_take hq;have Fa:=nd2.2.2 b' hq2 b iq;have h3:=(VA s.pool hb hq2).1;omega
def Ends (o:aA α)(P:α->Prop):Prop:=∃x,o=some x/\P x
theorem Ends.pure {x:α}{P:α->Prop}(h:P x):Ends (some x) P:=⟨x,rfl,h⟩
theorem Ends.bind {o:aA α}{P:α->Prop}{k:α->aA R}{Q:R->Prop}(h:Ends o P)(hk:∀x,P x->Ends (k x) Q):Ends (aa o k) Q:=by obtain⟨x,rfl,hx⟩:=h;exact hk x hx
theorem Ends.mono {o:aA α}{P Q:α->Prop}(h:Ends o P)(hq:∀x,P x->Q x):Ends o Q:=by obtain⟨x,hx,hp⟩:=h;exact⟨x,hx,hq x hp⟩
theorem Ends.cond {c:Bool}{a b:aA α}{P:α->Prop}(h1:c=true->Ends a P)(h2:c=false->Ends b P):Ends (cond c a b) P:=by grind
theorem Ends.ifn {p:Prop}[Decidable p]{a:aA α}{P:α->Prop}(h:¬p)(ha:Ends a P):Ends (if p then none else a) P:=by rw[aK h];exact ha
theorem Ends.room {n:Nat}{k:aA α}{P:α->Prop}(h:n<=1073741824)(hk:Ends k P):Ends (room n k) P:=by rw[bf h];exact hk
theorem Ends.of {o:aA α}{x:α}{P:α->Prop}(h:o=some x)(hp:P x):Ends o P:=⟨x,h,hp⟩
theorem Ends.iter {σ:Type}{T:(σ->aA R)->σ->aA R}{Q:R->Prop}(I:σ->Prop)(m:σ->Nat)(hs:∀x nx,I x->(∀y,I y->m y<m x->Ends (nx y) Q)->Ends (T nx x) Q): ∀n x,I x->m x<n->Ends (aZ T n x) Q:=by intro n;induction n with|zero=>intro x _ h;omega|succ n ih=>grind[aZ]
theorem Ends.zx {σ:Type}{T:(σ->aA R)->σ->aA R}{Q:R->Prop}(I:σ->Prop)(m:σ->Nat){x:σ}(hx:I x)(hm:m x<=1000000000000)(hs:∀x nx,I x->(∀y,I y->m y<m x->Ends (nx y) Q)->Ends (T nx x) Q):Ends (aZ T fuel x) Q:=Ends.iter I m hs fuel x hx (by have:=dD;omega)
theorem Ends.idx {xs:ax α}{i:Int}{k:α->aA R}{Q:R->Prop}(h0:0<=i)(h1:i<(xs.length:Int))(hk:∀(h:i.toNat<xs.length),Ends (k xs[i.toNat]) Q):Ends (aa (idx xs i) k) Q:=by grind[bw,ab]
abbrev W2:=dm×Int×Int
variable {c:W2}
def Cu (c:W2):Prop:=0<=c.2.1/\c.2.1<=(c.1.length:Int)/\c.1.length<=1048576
theorem agM (x y:Int)(n:Nat)(hy:(gm y).toNat=n)(hn:n<9223372036854775808):0<=ar (BitVec.toNat (gm x&&&gm y))/\ar (BitVec.toNat (gm x&&&gm y))<=n:=by grind[Nat.and_le_right,ak]
theorem alX {a:dm}(ha:a.length<=1048576):Ends (EJ a) Cu:=by unfold EJ;refine Ends.zx (λx=>0<=x.2/\x.2<=4000) (λx=>(4000-x.2).toNat) ⟨by omega,by omega⟩ (by simp) λx nx hx hn=>?_;unfold DU;refine Ends.bind (P:=λb=>b=true->x.2<(a.length:Int)/\x.2<4000) (Ends.cond (λh=>Ends.pure λh2=>⟨bS h,bS h2⟩) λh=>Ends.pure λh2=>by cases h2) λq hq=>?_;refine Ends.cond (λh=>?_) (λh=>Ends.pure ⟨iH _,by simp,ha⟩);grind[Ends.idx,ak]
theorem IC (h:Cu c):Ends (mm c) λr=>(0<=r.1/\r.1<=255)/\Cu r.2:=by
 unfold mm;refine Ends.ifn (by decide) (Ends.ifn (by decide) (Ends.cond (λh1=>?_) λh1=>?_))
 ·have h1:=bS h1;refine Ends.idx h.1 h1 λ_=>Ends.pure ⟨agM _ 255 255 rfl (by decide),?_⟩;refine⟨?_,?_,h.2.2⟩;all_goals simp only[ak (n:=c.2.1+1) (by have:=h.1;omega) (by have:=h.2.2;omega)]
  have:=h.1;omega;omega
 exact Ends.pure ⟨agM _ 255 255 rfl (by decide),h.1,h.2.1,h.2.2⟩
theorem iV (h:Cu c){n:Int}(hn:0<n:=by omega):Ends (cO c n) λr=>(0<=r.1/\r.1<n)/\Cu r.2:=by unfold cO;rw[ie];simp only[ae];refine Ends.cond (λh1=>?_) λh1=>?_;refine(IC h).bind λr hr=>Ends.ifn (by omega) (Ends.pure ⟨⟨Int.tmod_nonneg _ hr.1.1,Int.tmod_lt_of_pos _ hn⟩,hr.2⟩);refine(IC h).bind λr2 h2=>(IC h2.2).bind λr3 h3=>(IC h3.2).bind λr4 h4=>(IC h4.2).bind λr5 h5=>Ends.ifn (by omega) (Ends.pure ⟨⟨Int.tmod_nonneg _ ?_,Int.tmod_lt_of_pos _ hn⟩,h5.2⟩);have a2:=h2.1;have a3:=h3.1;have a4:=h4.1;have a5:=h5.1;rw[ak (n:=r2.1*16777216) (by omega) (by omega),ak (n:=r3.1*65536) (by omega) (by omega),ak (n:=r4.1*256) (by omega) (by omega)];rw[ak (n:=r2.1*16777216+r3.1*65536) (by omega) (by omega)];rw[ak (n:=r2.1*16777216+r3.1*65536+r4.1*256) (by omega) (by omega)];rw[ak (by omega) (by omega)];omega
theorem KP (h:Cu c)(n:Int):Ends (cO c n) λr=>(0<=r.1/\(r.1<n\/r.1=0))/\Cu r.2:=by
 rcases Int.lt_or_le 0 n with hn|hn;exact(iV h hn).mono λr hr=>⟨⟨hr.1.1,Or.inl hr.1.2⟩,hr.2⟩
 unfold cO;rw[az hn];exact Ends.pure ⟨⟨iH _,Or.inr rfl⟩,h⟩
theorem AB (h:Cu c)(n:Int):Ends (iT c n) λr=>Cu r.2:=by unfold iT;exact(KP h n).bind λr hr=>Ends.pure hr.2
theorem kg (h:Cu c){l:dm}{P:Int->Prop}(hl:0<l.length)(hp:∀x∈l,P x):Ends (cY c l) λr=>P r.1/\Cu r.2:=by unfold cY;exact(iV h).bind λr hr=>Ends.idx hr.1.1 hr.1.2 λhi=>Ends.pure ⟨hp _ (bn hi),hr.2⟩
theorem Mp (h:Cu c)(n:Int):Ends (oh c n) λr=>(r.1.length<=5000/\(0<=n->n<=5000->(r.1.length:Int)=n)/\(n<=0->r.1=[]))/\Cu r.2:=by
 have key:∀v:Int,v<=5000->∀Q:(Bytes×W2)->Prop,(∀x c,((x.length:Int)=v\/(v<=0/\x=[]))->Cu c->Q (aR x,c))->Ends (aZ (rJ (λy _ z=>some (aR y,z)) v) fuel (([]:dm),0,c)) Q:=by
  intro v hv Q hQ;refine Ends.zx (λx=>(x.1.length:Int)=x.2.1/\(x.2.1<=v\/x.2.1=0)/\Cu x.2.2) (λx=>(v-x.2.1).toNat) ⟨rfl,Or.inr rfl,h⟩ (by simp;omega) λx nx hx hn=>?_;unfold rJ;refine Ends.cond (λh1=>?_) λh1=>Ends.pure (hQ _ _ ?_ hx.2.2)
  ·have h1:=bS h1;refine(IC hx.2.2).bind λr hr=>Ends.room (by simp;omega) (hn _ ⟨?_,?_,hr.2⟩ ?_);all_goals simp only[ak (n:=x.2.1+1) (by omega) (by omega)]
   simp;omega;omega;omega
  have h1:=fG h1;rcases hx.2.1 with h2|h2;exact Or.inl (by omega);rcases Int.lt_or_le 0 v with h3|h3;omega;exact Or.inr ⟨h3,cb (by omega)⟩
 have hb:∀x:dm,(aR x).length=x.length:=λx=>by simp[aR]
 unfold oh;refine Ends.cond (λh1=>?_) λh1=>?_;have h1:=bS h1;refine key 5000 (by omega) _ λx c hx hc=>⟨⟨by rw[hb];rcases hx with hx|hx<;>omega,λ_ _=>by omega,λ_=>by omega⟩,hc⟩
 have h1:=fG h1;refine key n (by omega) _ λx c hx hc=>⟨⟨?_,λh0 _=>?_,λh0=>?_⟩,hc⟩
 rw[hb];rcases hx with hx|hx;omega;rw[hx.2];simp;rw[hb];rcases hx with hx|hx;omega;rw[hx.2];simp;omega;rcases hx with hx|hx;have:x=[]:=cb (by omega);rw[this];rfl;rw[hx.2];rfl
theorem QT (h:Cu c):Ends (uZ c) λr=>(167772161<=r.1/\r.1<=167772163)/\Cu r.2:=by unfold uZ;refine(iV h (by decide)).bind λr hr=>Ends.pure ⟨?_,hr.2⟩;grind[ak]
theorem aeb (h:Cu c):Ends (AW c) λr=>(0<=r.1/\r.1<=31)/\Cu r.2:=by unfold AW;exact(kg (P:=λx=>0<=x/\x<=31) h (by decide) (by decide)).bind λr hr=>Ends.pure hr
theorem amb (h:Cu c){m:Int}(h0:0<=m)(h1:m<=320):Ends (wR c m) λr=>(ru r.1=true/\(r.1.2.2.2.2.2.2.2.length:Int)<=m)/\Cu r.2:=by
 unfold wR;refine(iV h (by decide)).bind λr1 p1=>(iV p1.2 (by decide)).bind λr2 p2=>?_;refine(kg (P:=λx=>0<=x/\x<=4294967295) p2.2 (by simp) ?_).bind λr3 p3=>?_;have:=p2.1;intro x hx;simp only[cy,List.not_mem_nil,or_false]at hx;omega;refine(kg (P:=λx=>0<=x/\x<=4294967295) p3.2 (by decide) (by decide)).bind λr4 p4=>(aeb p4.2).bind λr5 p5=>?_;refine(kg (P:=λx=>0<=x/\x<=65535) p5.2 (by decide) (by decide)).bind λr6 p6=>?_;rw[ak (n:=m+1) (by omega) (by omega)];refine(iV p6.2).bind λr7 p7=>(Mp p7.2 r7.1).bind λr8 p8=>(AB p8.2 4).bind λr9 p9=>?_;have a1:=p1.1;have a7:=p7.1;have a8:=p8.1.2.1 a7.1 (by omega);rw[ak (n:=1000+r1.1) (by omega) (by omega)];refine Ends.cond (λ_=>Ends.pure ⟨⟨aiM (by omega) (by omega) (by omega),?_⟩,p9⟩) λ_=>Ends.pure ⟨⟨Zt (by omega) (by omega) p3.1 p4.1 p5.1 p6.1 (by omega),?_⟩,p9⟩;all_goals show(r8.1.length:Int)<=m
 all_goals omega
theorem UH (h:Cu c){m:Int}(h0:0<=m:=by omega)(h1:m<=320:=by omega):Ends (mU c m) λr=>(cC r.1=true/\(r.1.2.2.2.2.2.2.2.2.2.2.2.2.2.2.2.length:Int)<=m/\(r.1.2.2.2.2.2.2.2.2.1=6\/r.1.2.2.2.2.2.2.2.2.1=17))/\Cu r.2:=by
 unfold mU;refine(kg (P:=λx=>0<=x/\x<=281474976710655) h (by decide) (by decide)).bind λr1 p1=>?_;refine(kg (P:=λx=>0<=x/\x<=281474976710655) p1.2 (by decide) (by decide)).bind λr2 p2=>?_;refine(kg (P:=λx=> -1<=x/\x<=4095) p2.2 (by decide) (by decide)).bind λr3 p3=>?_;refine(kg (P:=λx=>0<=x/\x<=255) p3.2 (by decide) (by decide)).bind λr4 p4=>?_;refine(kg (P:=λx=>0<=x/\x<=65535) p4.2 (by decide) (by decide)).bind λr5 p5=>?_;refine(kg (P:=λx=>0<=x/\x<=255) p5.2 (by decide) (by decide)).bind λr6 p6=>?_;refine(QT p6.2).bind λr7 p7=>?_;refine(amb p7.2 (m:=if 128<m then 128 else m) (by split<;>omega) (by split<;>omega)).bind λr8 p8=>?_;have hh:∀g:fu,ru g=true->sI (r1.1,r2.1,r3.1,r4.1,r5.1,r6.1,r7.1,167772161,g)=true:=λg hg=>ahm p1.1 p2.1 p3.1 p4.1 p5.1 p6.1 (by have:=p7.1;omega) (by omega) hg;have hk:∀g:fu,ru g=true->g.1=6\/g.1=17:=by grind[ru]
 have hl:(r8.1.2.2.2.2.2.2.2.length:Int)<=128/\(r8.1.2.2.2.2.2.2.2.length:Int)<=m:=by omega
 have short:∀c':W2,Cu c'->Ends (some ((r1.1,r2.1,r3.1,r4.1,r5.1,r6.1,r7.1,(167772161:Int),r8.1),c')) λr:aH×W2=>(cC r.1=true/\(r.1.2.2.2.2.2.2.2.2.2.2.2.2.2.2.2.length:Int)<=m/\(r.1.2.2.2.2.2.2.2.2.1=6\/r.1.2.2.2.2.2.2.2.2.1=17))/\Cu r.2:=by grind[Ends.pure,cC]
 refine Ends.cond (λk1=>Ends.cond (λk2=>Ends.cond (λk3=>?_) λ_=>short _ p8.2) λ_=>short _ p8.2) λ_=>short _ p8.2;have k3:=bS k3;refine(AB p8.2 2).bind λr9 p9=>Ends.cond (λ_=>?_) λ_=>short _ p9;rw[ak (n:=m-128) (by omega) (by omega),ak (n:=m-128+1) (by omega) (by omega)];refine(iV p9).bind λoM p10=>?_;have a10:=p10.1;rw[ak (n:=128+oM.1) (by omega) (by omega)];refine(Mp p10.2 _).bind λue p11=>?_;have a11:=p11.1.2.1 (by omega) (by omega);have hs:=afR p8.1.1 (x:=ue.1) (by omega);grind[Ends.pure,cC,J8,I5]
def Plain (p:aH):Prop:=sI p=true/\p.2.2.2.2.2.2.2.2.2.2.2.2.2.2.2.length<=40
theorem Plain.ok {p:aH}(h:Plain p):gI p=true:=(YX p).2 ⟨h.1,by have:=h.2;omega⟩
theorem LN (h:Cu c):Ends (mU c 40) λr=>Plain r.1/\Cu r.2:=(UH h).mono λr hr=>⟨⟨by grind[cC],by omega⟩,hr.2⟩
theorem ah4 {Q:R->Prop}{k0:ax aH->W2->aH->aA R}{l:ax aH}{n:Int}{p:aH}(hl:l.length<=1000)(hc:Cu c)(hp:Plain p)(hk:∀c' p',Cu c'->Plain p'->Ends (k0 (l++[p]) c' p') Q):Ends (qi k0 l z n c p) Q:=by
 unfold qi;have hi:=aj7 (QO hp.1);have hs:=xP hp.1;refine Ends.room (by simp;omega) (Ends.ifn (by decide) (Ends.cond (λh6=>?_) λ_=>hk _ _ hc ⟨Ft (p:=p) hp.1 hi hs,hp.2⟩));have h6:p.2.2.2.2.2.2.2.2.1=6:=by simpa using h6
 refine(AB hc 8).bind λr hr=>Ends.cond (λ_=>Ends.ifn (by decide) (hk _ _ hr ⟨Ft (p:=p) hp.1 hi ?_,hp.2⟩)) λ_=>hk _ _ hr ⟨Ft (p:=p) hp.1 hi hs,hp.2⟩;have k:=ado hs h6;have hlen:p.2.2.2.2.2.2.2.2.2.2.2.2.2.2.2.length<=320:=by have:=hp.2;omega
 exact RV hs h6 (aii k.2.2.1 hlen) k.2.2.2.2.1 hlen
theorem ah3 {Q:R->Prop}{k0:ax aH->W2->aH->aA R}{l:ax aH}{n:Int}{p:aH}(hl:l.length<=1000)(hz:1<=z/\z<=40)(hc:Cu c)(hp:Plain p)(hk:∀q c' p',Plain q->Cu c'->Plain p'->Ends (k0 (l++[q]) c' p') Q):Ends (qh k0 l z n c p) Q:=by
 unfold qh;refine Ends.cond (λh6=>?_) λ_=>ah4 hl hc hp λc' p' h1 h2=>hk _ _ _ hp h1 h2;have h6:p.2.2.2.2.2.2.2.2.1=6:=by simpa using h6
 refine(kg (P:=λx=>0<=x/\x<=31) hc (by decide) (by decide)).bind λr8 p8=>(Mp p8.2 z).bind λr9 p9=>?_;have a9:=p9.1.2.1 (by omega) (by omega);have hs:=xP hp.1;have hq:Plain (p.1,p.2.1,p.2.2.1,p.2.2.2.1,p.2.2.2.2.1,p.2.2.2.2.2.1,p.2.2.2.2.2.2.1,p.2.2.2.2.2.2.2.1,p.2.2.2.2.2.2.2.2.1,p.2.2.2.2.2.2.2.2.2.1,p.2.2.2.2.2.2.2.2.2.2.1,p.2.2.2.2.2.2.2.2.2.2.2.1,p.2.2.2.2.2.2.2.2.2.2.2.2.1,r8.1,p.2.2.2.2.2.2.2.2.2.2.2.2.2.2.1,r9.1):=⟨Ft hp.1 (QO hp.1) (RV hs h6 (ado hs h6).2.2.1 p8.1 (by omega)),by grind⟩
 grind[ah4]
theorem ak2 {Q:R->Prop}{k0:ax aH->Int->W2->aH->aA R}{l:ax aH}{n:Int}{p:aH}(hl:l.length<=1000)(hz:1<=z/\z<=40)(hc:Cu c)(hp:Plain p)(hk:∀q z' c' p',Plain q->(1<=z'/\z'<=40)->Cu c'->Plain p'->Ends (k0 (l++[q]) z' c' p') Q):Ends (rL k0 l z n c p) Q:=by unfold rL;refine(AB hc 6).bind λr6 p6=>Ends.cond (λ_=>?_) λ_=>ah3 hl hz p6 hp λq c' p' h1 h2 h3=>hk _ _ _ _ h1 hz h2 h3;refine(iV p6 (by decide)).bind λr7 p7=>?_;grind[ak,ah3]
theorem ana {Q:R->Prop}{k0:ax aH->Int->Int->W2->aH->aA R}{l:ax aH}{n:Int}{p:aH}(hl:l.length<=1000)(hz:1<=z/\z<=40)(hn:0<n/\n<=1000)(hc:Cu c)(hp:Plain p)(hk:∀q z' c' p',Plain q->(1<=z'/\z'<=40)->Cu c'->Plain p'->Ends (k0 (l++[q]) z' (n-1) c' p') Q):Ends (wS k0 l z n c p) Q:=by unfold wS;have e:ar (n-1)=n-1:=ak (by omega) (by omega);refine(AB hc 5).bind λr4 p4=>Ends.cond (λ_=>?_) λ_=>?_;refine(LN p4).bind λr5 p5=>ak2 hl hz p5.2 p5.1 λq z' c' p' h1 h2 h3 h4=>?_;unfold rK;rw[e];exact hk _ _ _ _ h1 h2 h3 h4;refine ak2 hl hz p4 hp λq z' c' p' h1 h2 h3 h4=>?_;unfold rK;rw[e];exact hk _ _ _ _ h1 h2 h3 h4
theorem aj2 (h:Cu c){m:Int}(h0:0<m)(h1:m<=100):Ends (CG c m) λr=>((∀p∈r.1,Plain p)/\0<r.1.length/\(r.1.length:Int)<=m)/\Cu r.2:=by unfold CG;refine(LN h).bind λr1 p1=>(iV p1.2 (by decide)).bind λr2 p2=>(iV p2.2 h0).bind λr3 p3=>?_;have a2:=p2.1;have a3:=p3.1;rw[ak (n:=r2.1*8) (by omega) (by omega),ak (n:=8+r2.1*8) (by omega) (by omega),ak (n:=1+r3.1) (by omega) (by omega)];refine Ends.zx (λx=>(∀p∈x.1,Plain p)/\(1<=x.2.1/\x.2.1<=40)/\0<=x.2.2.1/\(x.1.length:Int)+x.2.2.1=1+r3.1/\Cu x.2.2.2.1/\Plain x.2.2.2.2) (λx=>x.2.2.1.toNat) ⟨by simp,(by dsimp only;omega),(by dsimp only;omega),by simp,p3.2,p1.1⟩ (by simp;omega) λx nx hx hn=>?_;unfold BP;refine Ends.cond (λk=>?_) λk=>?_;have k:=bS k;refine ana (by omega) hx.2.1 (by omega) hx.2.2.2.2.1 hx.2.2.2.2.2 λq z' c' p' h1 h2 h3 h4=>hn _ ⟨?_,h2,?_,?_,h3,h4⟩ ?_;intro y hy;rcases aB.1 hy with hy|hy;exact hx.1 y hy;simp only[bq]at hy;rw[hy];exact h1;show 0<=x.2.2.1-1;omega;show((x.1++[q]).length:Int)+(x.2.2.1-1)=1+r3.1;have:=hx.2.2.2.1;simp;omega;show(x.2.2.1-1).toNat<x.2.2.1.toNat;omega;have k:=fG k;have:=hx.2.2.2.1;have:=hx.2.2.1;exact Ends.pure ⟨⟨hx.1,(by dsimp only;omega),(by dsimp only;omega)⟩,hx.2.2.2.2.1⟩
theorem aka (h:Cu c){l:ax aH}(hl:l.length<=1000000):Ends (CH c l) λr=>(r.1.length<=l.length/\∀s∈r.1,s.2.2.1=[])/\Cu r.2:=by unfold CH;refine Ends.zx (λx=>0<=x.2.1/\(x.1.length:Int)<=x.2.1/\x.2.1<=(l.length:Int)/\(∀s∈x.1,s.2.2.1=[])/\Cu x.2.2) (λx=>((l.length:Int)-x.2.1).toNat) ⟨by simp,by simp,by simp,by simp,h⟩ (by simp;omega) λx nx hx hn=>?_;have e:x.2.1<(l.length:Int)->ar (x.2.1+1)=x.2.1+1:=λ_=>ak (by omega) (by omega);unfold BQ;refine Ends.cond (λk=>?_) λk=>Ends.pure ⟨⟨(by dsimp only;omega),hx.2.2.2.1⟩,hx.2.2.2.2⟩;have k:=bS k;rw[e k];have skip:∀c',Cu c'->Ends (nx (x.1,x.2.1+1,c')) _:=λc' BF=>hn _ ⟨by show 0<=x.2.1+1;omega,by show(x.1.length:Int)<=x.2.1+1;omega,by show x.2.1+1<=_;omega,hx.2.2.2.1,BF⟩ (by show((l.length:Int)-(x.2.1+1)).toNat<_;omega);refine Ends.idx hx.1 k λhi=>?_;rw[Mb,ab];refine Ends.cond (λ_=>?_) λ_=>skip _ hx.2.2.2.2;rw[ZL _ _ (by omega),ab];refine Ends.cond (λ_=>?_) λ_=>skip _ hx.2.2.2.2;refine(AB hx.2.2.2.2 6).bind λr4 p4=>Ends.cond (λ_=>?_) λ_=>skip _ p4;refine Ends.idx hx.1 k λhi=>(kg (P:=λ_=>True) p4 (by decide) (by simp)).bind λr6 p6=>Ends.room (by simp;omega) (hn _ ⟨by show 0<=x.2.1+1;omega,?_,by show x.2.1+1<=_;omega,?_,p6.2⟩ (by show((l.length:Int)-(x.2.1+1)).toNat<_;omega));show((x.1++[_]).length:Int)<=x.2.1+1;simp;omega;intro s hs;rcases aB.1 hs with hs|hs;exact hx.2.2.2.1 s hs;simp only[bq]at hs;rw[hs]
theorem alT (h:Cu c):Ends (EK c) λr=>r.1.length=16/\Cu r.2:=by unfold EK;exact(Mp h 16).bind λr hr=>Ends.pure ⟨by omega,hr.2⟩
theorem aec (h:Cu c):Ends (CI c) λr=>Cu r.2:=by unfold CI;refine(kg (P:=λ_=>True) h (by decide) (by simp)).bind λr1 p1=>(QT p1.2).bind λr2 p2=>(iV p2.2 (by decide)).bind λr3 p3=>?_;exact(kg (P:=λ_=>True) p3.2 (by decide) (by simp)).bind λr4 p4=>Ends.pure p4.2
theorem agh (h:Cu c):Ends (yP c) λr=>(r.1.1.1.length=16/\r.1.1.2.length<=8/\1<=r.1.2/\r.1.2<=4)/\Cu r.2:=by unfold yP;refine(iV h (by decide)).bind λr1 p1=>(alT p1.2).bind λr2 p2=>(kg (P:=λx=>0<=x/\x<=8) p2.2 (by decide) (by decide)).bind λr3 p3=>?_;have a1:=p1.1;have a3:=p3.1;rw[ak (n:=1+r1.1) (by omega) (by omega)];refine Ends.zx (λx=>0<=x.1/\x.1+(x.2.2.2.length:Int)=r3.1/\x.2.2.1.length=16/\Cu x.2.1) (λx=>x.1.toNat) ⟨by omega,by simp,p2.1,p3.2⟩ (by simp;omega) λx nx hx hn=>?_;unfold yQ;refine Ends.cond (λk=>?_) λk=>Ends.pure ⟨⟨hx.2.2.1,by have:=hx.1;have:=hx.2.1;show x.2.2.2.length<=8;omega,by show(1:Int)<=1+r1.1;omega,by show 1+r1.1<=(4:Int);omega⟩,hx.2.2.2⟩;have k:=bS k;rw[ak (n:=x.1-1) (by omega) (by have:=hx.2.1;omega)];refine(KP hx.2.2.2 _).bind λr4 p4=>Ends.room (by have:=hx.2.1;simp;omega) (hn _ ⟨?_,?_,hx.2.2.1,p4.2⟩ ?_);show 0<=x.1-1;omega;show x.1-1+((x.2.2.2++[r4.1]).length:Int)=r3.1;have:=hx.2.1;simp;omega;show(x.1-1).toNat<x.1.toNat;omega
theorem akl (h:Cu c):Ends (CK c) λr=>Cu r.2:=by unfold CK;refine(iV h (by decide)).bind λr1 p1=>(kg (P:=λ_=>True) p1.2 (by decide) (by simp)).bind λr2 p2=>(QT p2.2).bind λr3 p3=>?_;refine(kg (P:=λ_=>True) p3.2 (by decide) (by simp)).bind λr4 p4=>(kg (P:=λ_=>True) p4.2 (by decide) (by simp)).bind λr5 p5=>(kg (P:=λ_=>True) p5.2 (by decide) (by simp)).bind λr6 p6=>?_;refine(kg (P:=λ_=>True) p6.2 (by decide) (by simp)).bind λr7 p7=>(kg (P:=λ_=>True) p7.2 (by decide) (by simp)).bind λr8 p8=>?_;exact Ends.cond (λ_=>(iV p8.2 (by decide)).bind λr9 p9=>Ends.pure p9.2) λ_=>Ends.pure p8.2
theorem aiJ (h:Cu c):Ends (AX c) λr=>r.1.length<=4/\Cu r.2:=by unfold AX;refine(iV h (by decide)).bind λr1 p1=>?_;have a1:=p1.1;refine Ends.zx (λx=>0<=x.2.1/\x.2.1+(x.1.length:Int)=r1.1/\Cu x.2.2) (λx=>x.2.1.toNat) ⟨a1.1,by simp,p1.2⟩ (by simp;omega) λx nx hx hn=>?_;unfold zW;refine Ends.cond (λk=>?_) λk=>Ends.pure ⟨by have:=hx.1;have:=hx.2.1;show x.1.length<=4;omega,hx.2.2⟩;have k:=bS k;rw[ak (n:=x.2.1-1) (by omega) (by have:=hx.2.1;omega)];refine(akl hx.2.2).bind λr2 p2=>Ends.room (by have:=hx.2.1;simp;omega) (hn _ ⟨?_,?_,p2⟩ ?_);show 0<=x.2.1-1;omega;show x.2.1-1+((x.1++[r2.1]).length:Int)=r1.1;have:=hx.2.1;simp;omega;show(x.2.1-1).toNat<x.2.1.toNat;omega
theorem Ss (t:ax Slot)(f:iB):∀n k,walk t f n k= -1\/(0<=walk t f n k/\walk t f n k<8)
 |0,_=>Or.inl rfl
 |n+1,k=>by rw[walk];have:=Ji f k;split;exact Or.inl rfl;split;exact Or.inr ⟨by omega,by omega⟩;exact Ss t f n (k+1)
theorem ago {t:ax Slot}(h:sD t=true):t.length=8:=by grind[sD]
theorem al6 (t:ax Slot)(f:iB)(q:Int)(hl:t.length<=1000):Ends (CD t f q) λr=>r.1.length=t.length:=by
 unfold CD;rw[JK _ (by omega),ab,NK,ab];refine Ends.bind (P:=λb=>b=false->sD t=true) ?_ λb hb=>Ends.cond (λ_=>Ends.pure rfl) λSB=>?_;refine Ends.cond (λ_=>Ends.pure λh=>by cases h) λh=>?_;rw[cR,ab];exact Ends.pure λ_=>by simpa using h
 ·have h8:=ago (hb SB);rw[R2 _ _ h8,ab];have hw:=Ss t f 8 0;refine Ends.zx (λx=>(x.1= -1\/(0<=x.1/\x.1<8))/\0<=x.2/\x.2<=8) (λx=>(8-x.2).toNat) ⟨hw,by simp,by simp⟩ (by simp) λx nx hx hn=>?_;unfold BN;refine Ends.bind (P:=λb=>b=true->x.2<8) (Ends.cond (λh=>Ends.pure λ_=>bS h) λh=>Ends.pure λh=>by cases h) λb hb=>Ends.cond (λSB=>?_) λ_=>?_
  ·have hb:=hb SB;rw[ZE,ab];have hh:=QS f;rw[ak (n:=Fv f+x.2) (by omega) (by omega),ak (n:=x.2+1) (by omega) (by omega)];have m1:=Int.tmod_nonneg 8 (a:=Fv f+x.2) (by omega);have m2:=Int.tmod_lt_of_pos (Fv f+x.2) (b:=8) (by omega);refine Ends.ifn (by decide) (Ends.idx m1 (by omega) λ_=>Ends.cond (λ_=>hn _ ⟨Or.inr ⟨m1,m2⟩,?_,?_⟩ ?_) λ_=>hn _ ⟨hx.1,?_,?_⟩ ?_);all_goals simp only
   all_goals omega
  refine Ends.cond (λ_=>Ends.pure rfl) λh=>?_;have h:=fG h;have h0:0<=x.1/\x.1<8:=by omega
  exact Ends.idx h0.1 (by omega) λ_=>Ends.idx h0.1 (by omega) λ_=>Ends.pure (by simp)
structure Ae (s:cX):Prop where
 r:s.1.length<=100
 t:s.2.1.length<=100
 k:s.2.2.1.length=16
 p:s.2.2.2.length<=100
theorem ai4 (h:Cu c):Ends (vc c) λr=>(Ae r.1.1/\1<=r.1.2/\r.1.2<=4)/\Cu r.2:=by
 unfold vc;have Ya:sv=some (List.replicate 8 (0,(0,0,0,0,0),0)):=by unfold sv;rw[aI (by decide),bf (by decide)];rfl
 rw[Ya,ab];refine(agh h).bind λr2 p2=>(AB p2.2 2).bind λr3 p3=>?_;have t11:∀(n:Int)(s:cX)(c':W2),n<=4->Ae s->Cu c'->Ends (aZ (jA (λ(_:Int) Jp MB=>some ((MB,r2.1.2),Jp)) r2.1.2 (([]:ax jX),([]:ax Slot),([]:Bytes),([]:dm))) fuel (n,c',s)) λr:(cX×Int)×W2=>(Ae r.1.1/\1<=r.1.2/\r.1.2<=4)/\Cu r.2:=by intro n s c' hn hs hc;refine Ends.zx (λx=>x.1<=4/\Ae x.2.2/\Cu x.2.1) (λx=>x.1.toNat) ⟨hn,hs,hc⟩ (by simp;omega) λx nx hx hn=>?_;unfold jA;refine Ends.cond (λk=>?_) λk=>Ends.pure ⟨⟨hx.2.1,p2.1.2.2⟩,hx.2.2⟩;have k:=bS k;rw[ak (n:=x.1-1) (by omega) (by have:=hx.1;omega)];refine(aec hx.2.2).bind λue p11=>(KP p11 _).bind λre p12=>(al6 _ _ _ (by have:=hx.2.1.t;omega)).bind λBB p13=>hn _ ⟨?_,⟨hx.2.1.r,by have:=hx.2.1.t;show BB.1.length<=100;omega,hx.2.1.k,hx.2.1.p⟩,p12.2⟩ ?_;show x.1-1<=4;have:=hx.1;omega;show(x.1-1).toNat<x.1.toNat;omega
 have t7:∀(s:cX)(c' b:W2),Ae s->s.1.length<=4->Cu c'->Ends (aZ (lU (λ(_:Int) y9=>aa (cO c' 4) λoM=>aZ (jA (λ(_:Int) Jp MB=>some ((MB,r2.1.2),Jp)) r2.1.2 (([]:ax jX),([]:ax Slot),([]:Bytes),([]:dm))) fuel (oM.1,oM.2,y9)) r2.1.2 b (([]:ax jX),([]:ax Slot),([]:Bytes),([]:dm))) fuel (0,s)) λr:(cX×Int)×W2=>(Ae r.1.1/\1<=r.1.2/\r.1.2<=4)/\Cu r.2:=by intro s c' b hs hl hc;refine Ends.zx (λx=>0<=x.1/\x.2.1.length=s.1.length/\Ae x.2) (λx=>((s.1.length:Int)-x.1).toNat) ⟨by simp,rfl,hs⟩ (by simp;omega) λx nx hx hn=>?_;unfold lU;refine Ends.cond (λk=>?_) λk=>(iV hc (by decide)).bind λoM p10=>t11 _ _ _ (by have:=p10.1;omega) hx.2.2 p10.2;have k:=bS k;rw[ak (n:=x.1+1) (by omega) (by have:=hx.2.1;omega)];refine Ends.idx hx.1 k λ_=>Ends.ifn (by have:=p2.1.2.2;omega) (Ends.idx hx.1 k λ_=>Ends.idx hx.1 k λ_=>hn _ ⟨?_,?_,⟨?_,hx.2.2.t,hx.2.2.k,hx.2.2.p⟩⟩ ?_);show 0<=x.1+1;have:=hx.1;omega;show(List.set _ _ _).length=_;rw[aL];exact hx.2.1;show(List.set _ _ _).length<=100;rw[aL];exact hx.2.2.r;show((s.1.length:Int)-(x.1+1)).toNat<_;have:=hx.2.1;omega
 refine Ends.cond (λ_=>(aiJ p3).bind λr4 p4=>t7 _ _ _ ⟨by have:=p4.1;show r4.1.length<=100;omega,by simp,p2.1.1,by have:=p2.1.2.1;show r2.1.1.2.length<=100;omega⟩ p4.1 p4.2) λ_=>t7 _ _ _ ⟨by simp,by simp,p2.1.1,by have:=p2.1.2.1;show r2.1.1.2.length<=100;omega⟩ (by simp) p3
theorem XF (h:Cu c):Ends (yU c) λr=>(r.1.1=2/\(r.1.2.2=[7]\/r.1.2.2=[]))/\Cu r.2:=by unfold yU;exact(AB h 4).bind λr1 p1=>(AB p1 2).bind λr2 p2=>Ends.cond (λ_=>Ends.pure ⟨⟨rfl,Or.inl rfl⟩,p2⟩) λ_=>Ends.pure ⟨⟨rfl,Or.inr rfl⟩,p2⟩
theorem alU:fW (bM 38)=true:=by decide+kernel
def B5 (f:Filter)(s:cX)(c:Bool):ax Vector->Host
 |[]=>Yb f s c 38
 |v::vs=>Ok ((B5 f s c vs).1,(B5 f s c vs).2.1,(B5 f s c vs).2.2.1,(B5 f s c vs).2.2.2.1++[((0,0,0,0),(0,0,0),(0,0,0),((0,0,0,0,0,0,0,0,0,0,0,0,0,0,0,([]:Bytes)),0,0),false,0)],(B5 f s c vs).2.2.2.2.1++[(0,0,0,([]:dm))],(B5 f s c vs).2.2.2.2.2.1++[v],(B5 f s c vs).2.2.2.2.2.2.1++[false],(B5 f s c vs).2.2.2.2.2.2.2) vs.length
def TF (h:Host):=(h.1,h.2.1,h.2.2.1,h.2.2.2.1,h.2.2.2.2.1,h.2.2.2.2.2.1,h.2.2.2.2.2.2.1)
structure Made (f:Filter) (s:cX) (c:Bool) (k:Nat) (h:Host):Prop where
 mem:dk h.1=true
 ml:h.1.length=38
 maps:h.2.1=bM 38
 tx:h.2.2.1=So
 rx:h.2.2.2.1.length=k
 rxs:∀r∈h.2.2.2.1,zg 0 r/\r.2.2.2.2.1=false
 pl:h.2.2.2.2.1.length=k
 pls:∀p∈h.2.2.2.2.1,dL p=true/\p.2.2.2.length<=1000
 vec:h.2.2.2.2.2.1.length=k
 agt:∀v∈h.2.2.2.2.2.1,fy v=true
 pol:h.2.2.2.2.2.2.1.length=k
 rest:h.2.2.2.2.2.2.2=(f,s,([]:List Stream),c,([]:List Bytes),([]:List Int),([]:List Int),0,0,0,0,0)
 is:∃vs,vs.length=k/\h=B5 f s c vs/\∀v∈vs,v.2.1<=3/\v.2.2.2.2.1=false
theorem Zw (l:ax α)(x y:α):(l++[x]).set l.length y=l++[y]:=by simp
theorem aj5 {n:Nat}(h:n<=64):dk (O2 n)=true:=sn.2 ⟨λx hx=>by rw[(List.mem_replicate.1 hx).2];exact xF 128,by simp[O2];exact h⟩
theorem ae3 {f:Filter}{s:cX}{c:Bool}(m:Made f s c k h)(hk:k<=8){v:Vector}(hv:fy v=true)(h3:v.2.1<=3/\v.2.2.2.2.1=false):Ends (qY (h.1,h.2.1,h.2.2.1,h.2.2.2.1++[((0,0,0,0),(0,0,0),(0,0,0),((0,0,0,0,0,0,0,0,0,0,0,0,0,0,0,([]:Bytes)),0,0),false,0)],h.2.2.2.2.1++[(0,0,0,([]:dm))],h.2.2.2.2.2.1++[v],h.2.2.2.2.2.2.1++[false],h.2.2.2.2.2.2.2) (k:Int)) λr=>Made f s c (k+1) r.2:=by
 refine Ends.of (aiX _ k hk (by simp[m.rx]) (by simp[m.pl]) (by show h.2.1.length<=_;rw[m.maps,Ni];omega) (by show h.1.length<=_;rw[m.ml];omega)) ?_;have o:=afp m.mem h.2.1 hk;have e1:(h.2.2.2.1++[(((0,0,0,0),(0,0,0),(0,0,0),((0,0,0,0,0,0,0,0,0,0,0,0,0,0,0,([]:Bytes)),0,0),false,0):aW)])[k]?=some ((0,0,0,0),(0,0,0),(0,0,0),((0,0,0,0,0,0,0,0,0,0,0,0,0,0,0,([]:Bytes)),0,0),false,0):=by rw[<-m.rx];simp
 have e2:∀y:aW,(h.2.2.2.1++[(((0,0,0,0),(0,0,0),(0,0,0),((0,0,0,0,0,0,0,0,0,0,0,0,0,0,0,([]:Bytes)),0,0),false,0):aW)]).set k y=h.2.2.2.1++[y]:=λy=>by rw[<-m.rx];exact Zw _ _ _
 have e3:∀y:dq,(h.2.2.2.2.1++[(((0,0,0,([]:dm))):dq)]).set k y=h.2.2.2.2.1++[y]:=λy=>by rw[<-m.pl];exact Zw _ _ _
 obtain⟨vs,vl,ve,vb⟩:=m.is;have is0:Ok (h.1,h.2.1,h.2.2.1,h.2.2.2.1++[((0,0,0,0),(0,0,0),(0,0,0),((0,0,0,0,0,0,0,0,0,0,0,0,0,0,0,([]:Bytes)),0,0),false,0)],h.2.2.2.2.1++[(0,0,0,([]:dm))],h.2.2.2.2.2.1++[v],h.2.2.2.2.2.2.1++[false],h.2.2.2.2.2.2.2) k=B5 f s c (v::vs):=by rw[B5,<-ve,vl]
 unfold Ok at is0⊢;simp only[e1,e2,e3]at is0⊢;have hp:(tO h.2.1 h.1 k).2.2.1.2.2.2.length<=1000:=by unfold tO;exact bF (Qw ..) (Gs _ _ _)
 refine⟨o.1,?_,m.maps,m.tx,by show(_++[_]).length=_;rw[aq,m.rx];rfl,?_,by show(_++[_]).length=_;rw[aq,m.pl];rfl,?_,by show(_++[_]).length=_;rw[aq,m.vec];rfl,?_,by show(_++[_]).length=_;rw[aq,m.pol];rfl,m.rest,⟨v::vs,by simp[vl],is0,λw hw=>?_⟩⟩;show(tO h.2.1 h.1 k).1.length=38;rw[afo,m.ml];intro r hr;rcases aB.1 hr with hr|hr;exact m.rxs r hr;rw[bq.1 hr];exact⟨aiK hk o.2.1 ⟨iH _,iH _⟩,rfl⟩;intro p hp';rcases aB.1 hp' with hp'|hp';exact m.pls p hp';rw[bq.1 hp'];exact⟨o.2.2,hp⟩;intro w hw;rcases aB.1 hw with hw|hw;exact m.agt w hw;rw[bq.1 hw];exact hv;rcases cy.1 hw with e|e;rw[e];exact h3;exact vb w e
def Kz (h:Host):cX:=h.2.2.2.2.2.2.2.2.1
structure KM (h:Host):Prop where
 QK:Good 0 h
 sz:BW 2000 h
 maps:∀m∈h.2.1,m.2.2.1<(h.1.length:Int)
 led:h.2.2.1.2.2.1=[]/\h.2.2.2.2.2.2.2.2.2.2.2.1=[]/\h.2.2.2.2.2.2.2.2.2.2.2.2.1=[]/\h.2.2.2.2.2.2.2.2.2.2.2.2.2.1=[]
 is:∃f s c vs,vs.length<=2/\TF h=TF (B5 f s c vs)/\∀v∈vs,v.2.1<=3/\v.2.2.2.2.1=false
theorem abz {f:Filter}{s:cX}{c:Bool}(m:Made f s c k h)(hk:1<=k/\k<=2)(hf:mY f=true)(F1:f.2.2.length<=1000)(hs:eX s (k:Int)=true)(hz:Ae s):KM h:=by have h4:=Gs 256 128 8;obtain⟨vs,vl,ve,vb⟩:=m.is;obtain⟨m1,m2,m3,m4,m5,m6,m7,m8,m9,m10,m11,m12,_⟩:=m;obtain⟨mem,maps,tx,rx,pl,vec,pol,rest⟩:=h;simp only at m1 m2 m3 m4 m5 m6 m7 m8 m9 m10 m11 m12;subst m12 m3 m4;refine⟨⟨m1,alU,amf 0 (by omega),hf,?_,by show eX s (rx.length:Int)=true;rw[m5];exact hs,λr hr=>(m6 r hr).1,λp hp=>(m8 p hp).1,m10,?_⟩,⟨?_,?_⟩,?_,⟨rfl,rfl,rfl,rfl⟩,⟨f,s,c,vs,by omega,congrArg TF ve,vb⟩⟩;unfold qv;simp only[ah,aS,bD];omega;intro x hx;simp only[iI,cy,List.not_mem_nil,or_false,or_self]at hx;omega;have hm:=(sn.1 m1).1;refine⟨⟨by show mem.length<=2000;omega,λx hx=>by show x.length<=2000;rw[hm x hx];omega⟩,⟨by show(bM 38).length<=2000;rw[Ni];omega,λ_ _=>⟨dx,dx,dx,dx⟩⟩,?_,?_,?_,?_,?_,⟨dx,dx,by show f.2.2.length<=2000;omega,λ_ _=>trivial⟩,?_,⟨cU _,λx hx=>by cases hx⟩,dx,⟨cU _,λx hx=>by cases hx⟩,⟨cU _,λx hx=>by cases hx⟩,⟨cU _,λx hx=>by cases hx⟩,dx,dx,dx,dx,dx⟩;exact⟨⟨dx,dx,dx,dx⟩,⟨dx,dx,dx,by show List.length (mP 256 128 8).1.2.2.2<=2000;omega,λ_ _=>trivial⟩,⟨cU _,λx hx=>by cases hx⟩,dx⟩;refine⟨by show rx.length<=2000;omega,λx hx=>?_⟩;have e:=(m6 x hx).1.free (m6 x hx).2;refine⟨⟨dx,dx,dx,dx⟩,⟨dx,dx,dx⟩,⟨dx,dx,dx⟩,?_,dx,dx⟩;rw[e];exact⟨⟨dx,dx,dx,dx,dx,dx,dx,dx,dx,dx,dx,dx,dx,dx,dx,cU _⟩,dx,dx⟩;exact⟨by show pl.length<=2000;omega,λx hx=>⟨dx,dx,dx,by have:=(m8 x hx).2;show x.2.2.2.length<=2000;omega,λ_ _=>trivial⟩⟩;exact⟨by show vec.length<=2000;omega,λx hx=>⟨dx,dx,dx,dx,dx,dx⟩⟩;exact⟨by show pol.length<=2000;omega,λx hx=>trivial⟩;exact⟨⟨by have:=hz.r;show s.1.length<=2000;omega,λ_ _=>⟨dx,dx,dx,dx,dx,dx,dx,dx,dx⟩⟩,⟨by have:=hz.t;show s.2.1.length<=2000;omega,λ_ _=>⟨dx,⟨dx,dx,dx,dx,dx⟩,dx⟩⟩,by have:=hz.k;show s.2.2.1.length<=2000;omega,by have:=hz.p;show s.2.2.2.length<=2000;omega,λ_ _=>trivial⟩;show List.length (mP 256 128 8).1.2.2.2+0<=2000;omega;intro m hm;have hm:m∈bM 38:=hm;simp only[bM,dZ,cP]at hm;obtain⟨i,hi,rfl⟩:=hm;show 37-(i:Int)<(mem.length:Int);omega
theorem afm {b:Int}(h:(BJ a b).2=true):fy (BJ a b).1=true:=by grind[BJ]
theorem aif {b:Int}(h:(BJ a b).2=true)(hb:b<=3):(BJ a b).1.2.1<=3/\(BJ a b).1.2.2.2.2.1=false:=by grind[BJ]
theorem Rs (q:Int)(f:Filter)(s:cX)(c:Bool)(a b:Int)(hf:f.2.2.length<=1000)(hs:Ae s)(hb3:b<=3):Ends (yG q f s c a b) λr=>(r.2=true->KM r.1/\Kz r.1=s)/\((1<=q/\q<=2)->mY f=true->eX s q=true->(BJ a b).2=true->r.2=true):=by
 have z1:=hs.r;have z2:=hs.t;have z3:=hs.p;unfold yG;rw[ace,ab,cR,ab];refine Ends.bind (P:=λx=>(x=false->(1<=q/\q<=2)/\mY f=true/\eX s q=true/\(BJ a b).2=true)/\(x=true->(1<=q/\q<=2)->mY f=true->eX s q=true->(BJ a b).2=true->False)) ?_ λx hx=>Ends.cond (λhx2=>Ends.pure ⟨(λh=>by cases h),λg1 g2 g3 g4=>(hx.2 hx2 g1 g2 g3 g4).elim⟩) λh=>?_;refine Ends.cond (λk=>Ends.pure ⟨(λh=>by cases h),λ_ g1 _ _ _=>by rw[aS.2 g1]at k;cases k⟩) λh1=>?_;rw[GG f (by omega),ab];refine Ends.cond (λk=>Ends.pure ⟨(λh=>by cases h),λ_ _ g2 _ _=>by rw[g2]at k;cases k⟩) λh2=>?_;rw[Cx s q (by omega) (by omega) (by omega),ab];refine Ends.cond (λk=>Ends.pure ⟨(λh=>by cases h),λ_ _ _ g3 _=>by rw[g3]at k;cases k⟩) λh3=>Ends.pure ⟨λh4=>?_,λk _ _ _ g4=>by rw[g4]at k;cases k⟩;exact⟨aS.1 (by simpa using h1),by simpa using h2,by simpa using h3,by simpa using h4⟩;obtain⟨hq,h1,h2,h3⟩:=hx.1 h;have hm:ua 38=some (O2 38):=acd 38 (by omega);rw[hm,ab,age,ab,yx f (by omega),ab,AE s (by omega) (by omega) (by omega),ab];have hv:=afm h3;refine Ends.zx (λx=>0<=x.1/\x.1<=38/\x.2=Yb f s c x.1.toNat) (λx=>(38-x.1).toNat) ⟨by simp,by simp,rfl⟩ (by simp) λx nx hx hn=>?_;obtain⟨i,y⟩:=x;obtain⟨x1,x2,x3⟩:=hx;simp only at x1 x2 x3;unfold BM;refine Ends.cond (λk=>?_) λk=>?_;have k:=bS k;have hl:=Ni i.toNat;simp only at k;rw[cR,ab];simp only;rw[ak (n:=i+1) (by omega) (by omega),ak (n:=37-i) (by omega) (by omega)];subst x3;refine Ends.room (by show(bM i.toNat).length+1<=_;omega) (hn _ ⟨by show 0<=i+1;omega,by show i+1<=38;omega,?_⟩ (by show(38-(i+1)).toNat<(38-i).toNat;omega));have e:(i+1).toNat=i.toNat+1:=by omega
 show(O2 38,bM i.toNat++_,_)=Yb f s c (i+1).toNat;rw[e];unfold Yb;rw[abA,show((i.toNat:Nat):Int)=i by omega];have k:=fG k;simp only at k;have e:i.toNat=38:=by omega
 rw[e]at x3;have hm0:Made f s c 0 y:=by rw[x3];exact⟨aj5 (by omega),by show(O2 38).length=38;simp[O2],rfl,rfl,rfl,(λ_ hr=>by cases hr),rfl,(λ_ hr=>by cases hr),rfl,(λ_ hr=>by cases hr),rfl,rfl,⟨[],rfl,rfl,λ_ hv=>by cases hv⟩⟩
 simp only;refine Ends.zx (λx=>0<=x.1/\x.1<=q/\Made f s c x.1.toNat x.2) (λx=>(q-x.1).toNat) ⟨by simp,by show(0:Int)<=q;omega,hm0⟩ (by simp;omega) λx nx hx hn=>?_;obtain⟨i,y⟩:=x;obtain⟨x1,x2,m⟩:=hx;simp only at x1 x2 m;unfold zT;refine Ends.cond (λk=>?_) λk=>Ends.pure ⟨λ_=>?_,λ_ _ _ _=>rfl⟩;have k:=bS k;simp only at k;have l1:=m.rx;have l2:=m.pl;have l3:=m.vec;have l4:=m.pol;refine Ends.room (by simp;omega) (Ends.room (by simp;omega) (Ends.room (by simp;omega) (Ends.room (by simp;omega) ?_)));have ho:=ae3 m (by omega) hv (aif h3 hb3);rw[show((i.toNat:Nat):Int)=i by omega]at ho;refine ho.bind λr hr=>?_;simp only;rw[ak (n:=i+1) (by omega) (by omega)];refine hn _ ⟨by show 0<=i+1;omega,by show i+1<=q;omega,?_⟩ (by show(q-(i+1)).toNat<(q-i).toNat;omega);show Made f s c (i+1).toNat r.2;rw[show(i+1).toNat=i.toNat+1 by omega];exact hr;have k:=fG k;simp only at k;have hi:i=q:=by omega
 subst hi;exact⟨abz m (by omega) h1 hf (by rw[show((i.toNat:Nat):Int)=i by omega];exact h2) hs,congrArg (λx=>x.2.1) m.rest⟩
def Xd (a:Act):Prop:=a.2.1.2.2.2.2.2.2.2.2.2.2.2.2.2.2.2.length<=1000/\a.2.2.2.2.1.length<=382/\0<=a.1/\a.1<=6
def KL (r:Bool)(a:Act):Prop:=Xd a/\(a.1=6->r=true)
theorem PW {r:Bool}{l:ax Act}{a:Act}(h:KL r a):(l++[a]).length<=l.length+1/\∀y∈l++[a],y∈l\/KL r y:=by grind
theorem aaf {Q:R->Prop}{k0:ax Act->W2->aA R}{r:Bool}{l:ax Act}{ps:ax aH}{i x:Int}{b:Bool}(hl:l.length<=1000)(hc:Cu c)(hk:∀l' c',l'.length<=l.length+1->(∀y∈l',y∈l\/KL r y)->Cu c'->Ends (k0 l' c') Q):Ends (mC k0 r l ps i x b c) Q:=by
 have add:∀(a:Act)(c':W2),KL r a->Cu c'->Ends (k0 (l++[a]) c') Q:=λa c' ha BF=>by grind
 have iC:∀c',Cu c'->Ends (k0 l c') Q:=λc' BF=>hk _ _ (by omega) (λy hy=>Or.inl hy) BF;unfold mC;refine Ends.cond (λ_=>(iV hc (by decide)).bind λr9 p9=>Ends.room (by simp;omega) (by grind[KL,Xd])) λ_=>?_;refine Ends.cond (λ_=>(UH hc).bind λoM p10=>(iV p10.2 (by decide)).bind λue p11=>(kg (P:=λ_=>True) p11.2 (by decide) (by simp)).bind λre p12=>Ends.room (by simp;omega) (by exact add _ _ ⟨⟨by grind,by simp⟩,by simp⟩ p12.2)) λ_=>?_;grind[Ends.room,KL,Xd]
theorem agK {Q:R->Prop}{k0:ax Act->W2->aA R}{r:Bool}{l:ax Act}{ps:ax aH}{i x:Int}{b:Bool}(hl:l.length<=1000)(hc:Cu c)(hk:∀l' c',l'.length<=l.length+1->(∀y∈l',y∈l\/KL r y)->Cu c'->Ends (k0 l' c') Q):Ends (qj k0 r l ps i x b c) Q:=by unfold qj;refine Ends.cond (λ_=>Ends.room (by simp;omega) ?_) λ_=>?_;have k:=PW (r:=r) (l:=l) (a:=(4,(0,0,0,0,0,0,0,0,0,0,0,0,0,0,0,([]:Bytes)),0,0,([]:Bytes),0)) (by simp[KL,Xd]);exact hk _ _ k.1 k.2 hc;exact Ends.cond (λ_=>aaf hl hc hk) λ_=>Ends.cond (λ_=>aaf hl hc hk) λ_=>aaf hl hc hk
theorem akN {Q:R->Prop}{k0:ax Act->W2->aA R}{r:Bool}{l:ax Act}{ps:ax aH}{i:Int}(hl:l.length<=900)(hx:x.length<=382)(hc:Cu c)(hk:∀l' c',l'.length<=l.length+2->(∀y∈l',y∈l\/KL r y)->Cu c'->Ends (k0 l' c') Q):Ends (rN k0 r l ps i x c) Q:=by unfold rN;have k:=PW (r:=r) (l:=l) (a:=(2,(0,0,0,0,0,0,0,0,0,0,0,0,0,0,0,([]:Bytes)),0,0,x,0)) ⟨⟨by simp,hx,by simp,by simp⟩,by simp⟩;generalize hL:l++[((2,(0,0,0,0,0,0,0,0,0,0,0,0,0,0,0,([]:Bytes)),0,0,x,0):Act)]=L at k⊢;have hk2:∀l' c',l'.length<=L.length+1->(∀y∈l',y∈L\/KL r y)->Cu c'->Ends (k0 l' c') Q:=λl' c' h1 h2 h3=>hk _ _ (by omega) (λy hy=>by rcases h2 y hy with h|h;exact k.2 y h;exact Or.inr h) h3;refine Ends.room (by simp;omega) ((iV hc (by decide)).bind λr8 p8=>?_);refine Ends.cond (λ_=>Ends.room (by simp;omega) ?_) λ_=>?_;have k:=PW (r:=r) (l:=L) (a:=(3,(0,0,0,0,0,0,0,0,0,0,0,0,0,0,0,([]:Bytes)),0,0,([]:Bytes),0)) (by simp[KL,Xd]);exact hk2 _ _ k.1 k.2 p8.2;exact Ends.cond (λ_=>agK (by omega) p8.2 hk2) λ_=>agK (by omega) p8.2 hk2
theorem ams {Q:R->Prop}{k0:ax Act->Int->W2->aA R}{r:Bool}{l:ax Act}{ps:ax aH}{i:Int}(hl:l.length<=900)(h0:0<=i)(h1:i<(ps.length:Int))(hn:ps.length<=1000)(hc:Cu c)(hk:∀l' c',l'.length<=l.length+2->(∀y∈l',y∈l\/KL r y)->Cu c'->Ends (k0 l' (i+1) c') Q):Ends (wY k0 r l ps i c) Q:=by
 have e:ar (i+1)=i+1:=ak (by omega) (by omega);unfold wY;refine Ends.idx h0 h1 λhi=>?_;have hf:=T4 ps[i.toNat];rw[U8,ab];refine(AB hc 12).bind λr4 p4=>Ends.cond (λ_=>?_) λ_=>akN hl hf p4 λl' c' g1 g2 g3=>by grind[rM]
 refine(KP p4 _).bind λr5 p5=>(Mp p5.2 1).bind λr6 p6=>?_;grind[EG,ab,akN,vS,rM]
theorem ajm (h:Cu c)(r:Bool):Ends (CO c r) λx=>(x.1.length<=20/\∀a∈x.1,KL r a)/\Cu x.2:=by unfold CO;refine(aj2 h (m:=10) (by omega) (by omega)).bind λr1 p1=>?_;have hn:=p1.1.2.2;refine Ends.zx (λx=>0<=x.2.1/\(x.1.length:Int)<=2*x.2.1/\x.2.1<=(r1.1.length:Int)/\(∀a∈x.1,KL r a)/\Cu x.2.2) (λx=>((r1.1.length:Int)-x.2.1).toNat) ⟨by simp,by simp,by simp,by simp,p1.2⟩ (by simp;omega) λx nx hx hn=>?_;unfold BU;refine Ends.cond (λk=>?_) λk=>Ends.pure ⟨⟨by have:=hx.2.1;have:=hx.2.2.1;show x.1.length<=20;omega,hx.2.2.2.1⟩,hx.2.2.2.2⟩;have k:=bS k;have h2:=hx.2.1;refine ams (by omega) hx.1 k (by omega) hx.2.2.2.2 λl' c' g1 g2 g3=>hn _ ⟨?_,?_,?_,?_,g3⟩ ?_;show 0<=x.2.1+1;have:=hx.1;omega;show(l'.length:Int)<=2*(x.2.1+1);omega;show x.2.1+1<=(r1.1.length:Int);omega;intro a ha;rcases g2 a ha with h|h;exact hx.2.2.2.1 a h;exact h;show((r1.1.length:Int)-(x.2.1+1)).toNat<((r1.1.length:Int)-x.2.1).toNat;omega
theorem aj3 (n x:Int)(h0:0<=n)(h1:n<=1000000):Ends (jT n x) λr=>(r.length:Int)=n:=by unfold jT;rw[aI ⟨h0,iH _⟩];refine Ends.room (by omega) (Ends.zx (λy=>(y.1.length:Int)=n/\0<=y.2/\y.2<=n) (λy=>(n-y.2).toNat) ⟨by simp;omega,by simp,h0⟩ (by simp;omega) λy nx hy hn=>?_);grind[rH,Ends.pure,aR,ak,Ends.idx]
theorem YV:sv=some (List.replicate 8 (0,(0,0,0,0,0),0)):=by rfl
theorem abr {k:Bytes}(hk:k.length=16):eX (([]:ax jX),List.replicate 8 (0,(0,0,0,0,0),0),k,[0]) 1=true:=by
 have ht:sD (List.replicate 8 (0,(0,0,0,0,0),0))=true:=by decide+kernel
 have hs:wZ (k,[0]) 1=true:=by unfold wZ;simp only[hk];decide+kernel
 grind[eX,BK]
def Vl (l:ax jX):Prop:=∀r∈l,r.2.2.2.2.2.2.1= -2
theorem aeo (h:Cu c):Ends (CN c) λr=>(KM r.1/\Vl (Kz r.1).1)/\Cu r.2:=by
 unfold CN;refine Ends.zx (λx=>0<=x.1/\x.1<=4/\Cu x.2) (λx=>(4-x.1).toNat) ⟨by simp,by simp,h⟩ (by simp) λx nx hx hn=>?_;unfold BS;refine Ends.cond (λk=>?_) λk=>?_;have k:=bS k;refine(ai4 hx.2.2).bind λr1 p1=>?_;refine Ends.zx (λy=>(0<=y.1/\∀(j:Nat) r,(j:Int)<y.1->y.2.1[j]?=some r->r.2.2.2.2.2.2.1= -2)/\Ae y.2) (λy=>((y.2.1.length:Int)-y.1).toNat) ⟨⟨by simp,λj r hj=>by simp at hj;omega⟩,p1.1.1⟩ (by have:=p1.1.1.r;simp;omega) λy ny hy hm=>?_;unfold BT;refine Ends.cond (λk2=>?_) λk2=>?_;have k2:=bS k2;have hr:=hy.2.r;rw[ak (n:=y.1+1) (by omega) (by omega)];refine Ends.idx hy.1.1 k2 λ_=>Ends.idx hy.1.1 k2 λ_=>hm _ ⟨⟨?_,λj r hj hr'=>?_⟩,⟨?_,hy.2.t,hy.2.k,hy.2.p⟩⟩ ?_;show 0<=y.1+1;have:=hy.1.1;omega;have hj:(j:Int)<y.1+1:=hj;have h0:=hy.1.1;by_cases hjy:j=y.1.toNat;subst hjy;rw[bL (by omega)]at hr';rw[<-bQ hr'];rw[aM (λe=>hjy e.symm)]at hr';exact hy.1.2 j r (by omega) hr';show(List.set _ _ _).length<=100;rw[aL];exact hr;show(((List.set _ _ _).length:Int)-(y.1+1)).toNat<_;rw[aL];omega;refine(XF p1.2).bind λr6 p6=>(iV p6.2 (by decide)).bind λr7 p7=>(iV p7.2 (by decide)).bind λr8 p8=>(iV p8.2 (by decide)).bind λr9 p9=>?_;have hf:r6.1.2.2.length<=1000:=by rcases p6.1.2 with e|e<;>rw[e]<;>simp
 have vl:Vl y.2.1:=λr hr=>by obtain⟨j,hj⟩:=List.getElem?_of_mem hr;obtain⟨iA,_⟩:=aD.1 hj;exact hy.1.2 j r (by have:=fG k2;omega) hj
 refine(Rs _ _ _ _ _ _ hf hy.2 (by have:=p9.1;omega)).bind λoM p10=>Ends.cond (λk3=>Ends.pure ⟨⟨(p10.1 k3).1,by rw[(p10.1 k3).2];exact vl⟩,p9.2⟩) λ_=>?_;rw[ak (n:=x.1+1) (by omega) (by have:=hx.2.1;omega)];refine hn _ ⟨by show 0<=x.1+1;have:=hx.1;omega,by show x.1+1<=4;omega,p9.2⟩ (by show(4-(x.1+1)).toNat<(4-x.1).toNat;omega);simp only[YV,ab];refine(aj3 16 5 (by omega) (by omega)).bind λRN p14=>?_;refine(Rs 1 (2,false,([]:dm)) (([]:ax jX),List.replicate 8 (0,(0,0,0,0,0),0),RN,[0]) true 1 0 (by simp) ⟨by simp,by simp,by show RN.length=16;omega,by simp⟩ (by omega)).bind λBr p15=>?_;have f15:=p15.1 (p15.2 (by omega) (by decide+kernel) (abr (by omega)) (by decide+kernel));exact Ends.pure ⟨⟨f15.1,by rw[f15.2];exact λr hr=>by cases hr⟩,hx.2.2⟩
def Z9 (h:Host)(s:ax Stream):Host:=(h.1,h.2.1,h.2.2.1,h.2.2.2.1,h.2.2.2.2.1,h.2.2.2.2.2.1,h.2.2.2.2.2.2.1,h.2.2.2.2.2.2.2.1,h.2.2.2.2.2.2.2.2.1,s,h.2.2.2.2.2.2.2.2.2.2)
theorem SO (f:KM h){s:ax Stream}(h1:s.length<=2000)(h2:∀x∈s,x.2.2.1=[]):KM (Z9 h s):=by have g:=f.QK;have z:=f.sz.z;refine⟨⟨g.mem,g.maps,g.tx,g.Fj,g.lens,g.Jf,g.rx,g.pool,g.vec,g.Eb⟩,⟨⟨z.1,z.2.1,z.2.2.1,z.2.2.2.1,z.2.2.2.2.1,z.2.2.2.2.2.1,z.2.2.2.2.2.2.1,z.2.2.2.2.2.2.2.1,z.2.2.2.2.2.2.2.2.1,⟨h1,λx hx=>?_⟩,z.2.2.2.2.2.2.2.2.2.2⟩,f.sz.t⟩,f.maps,f.led,f.is⟩;refine⟨⟨dx,dx,dx,dx,dx⟩,dx,?_,dx⟩;show x.2.2.1.length<=2000;rw[h2 x hx];simp
theorem aaP (h:Cu c){l:ax Act}(hl:l.length<=20)(ha:∀a∈l,Xd a):Ends (Ba c l) λr=>(KM r.1/\Vl (Kz r.1).1)/\Cu r.2:=by unfold Ba;refine(aeo h).bind λr1 p1=>?_;refine Ends.zx (λx=>0<=x.2/\(x.1.length:Int)<=x.2/\x.2<=(l.length:Int)) (λx=>((l.length:Int)-x.2).toNat) ⟨by simp,by simp,by simp⟩ (by simp;omega) λx nx hx hn=>?_;unfold zX;refine Ends.cond (λk=>?_) λk=>?_;have k:=bS k;rw[ak (n:=x.2+1) (by omega) (by omega)];refine Ends.idx hx.1 k λhi=>?_;have hx2:=ha _ (bn hi);replace hx2:=hx2.2.1;rw[NJ _ (by omega),ab];refine Ends.cond (λ_=>Ends.room (by simp;omega) (hn _ ⟨?_,?_,?_⟩ ?_)) λ_=>hn _ ⟨?_,?_,?_⟩ ?_;show 0<=x.2+1;omega;show((x.1++[_]).length:Int)<=x.2+1;simp;omega;show x.2+1<=_;omega;show((l.length:Int)-(x.2+1)).toNat<_;omega;show 0<=x.2+1;omega;show(x.1.length:Int)<=x.2+1;omega;show x.2+1<=_;omega;show((l.length:Int)-(x.2+1)).toNat<_;omega;exact(aka p1.2 (by omega)).bind λr6 p6=>Ends.pure ⟨⟨SO p1.1.1 (by omega) p6.1.2,p1.1.2⟩,p6.2⟩
theorem akq {n:Int}(g:Good n h)(hn:n<=1000000000000):FV h=(h.2.2.2.2.2.2.2.1,h.2.2.2.2.2.2.2.2.1,(h.2.2.2.1.length:Int),h.2.2.2.2.2.2.2.2.2.1,([]:bK))/\FU (FV h)=true:=by
 have e:FV h=(h.2.2.2.2.2.2.2.1,h.2.2.2.2.2.2.2.2.1,(h.2.2.2.1.length:Int),h.2.2.2.2.2.2.2.2.2.1,([]:bK)):=by unfold FV;rw[g.ok hn];rfl
 refine⟨e,?_⟩;rw[e];unfold FU;rw[ah];exact⟨g.Fj,g.Jf⟩
theorem Tf {a:dm}(ha:a.length<=1048576):Ends (sZ a) λr=>(KM r.1/\Vl (Kz r.1).1)/\r.2.length<=20/\∀x∈r.2,Xd x/\x.1≠6:=by unfold sZ;exact(alX ha).bind λr1 p1=>(ajm p1 false).bind λr2 p2=>(aaP p2.2 p2.1.1 λx hx=>(p2.1.2 x hx).1).bind λr3 p3=>Ends.pure ⟨p3.1,p2.1.1,λx hx=>⟨(p2.1.2 x hx).1,λe=>by cases (p2.1.2 x hx).2 e⟩⟩
def iM (k:Nat):Nat:=1280+1792*k
def xM (k c:Nat):Dd:=(3,0,384,((iM k+128+384*c:Nat):Int),0,(c:Int))
theorem VB {c:Nat}(hk:k<=1)(hc:c<4):mr (xM k c)=true:=by grind[mr,xM,iM,aS]
abbrev NV (C:ax Ho):fi:=C.map λc=>c.1.toNat
structure Iy (m:List Bytes) (k:Nat) (q:aW) (p:dq) (hd x:Nat) (P:List Nat) (C:List Ho) (F:List Nat):Prop where
 ring:q.1=fJ (iM k) 4 hd P.length
 row:qp m (iM k) 4 hd (P.map λc=>gJ (xM k c))
 dev:q.2.1=zh (iM k+64) (x+C.length)
 TM:q.2.2.1=zh (iM k+64) x
 com:PL m (iM k+64) x C
 pool:p=(((iM k+128:Nat):Int),384,4,F.map λc:Nat=>(c:Int))
 perm:(NV C++P++F).Perm [0,1,2,3]
 cok:∀c∈C,0<=c.1
theorem Iy.len {q:aW}{x:Nat}(s:Iy m k q p hd x P C F):C.length+P.length+F.length=4:=by have:=s.perm.length_eq;grind
theorem Iy.lt {q:aW}{x:Nat}(s:Iy m k q p hd x P C F){c:Nat}(h:c∈NV C++P++F):c<4:=by have:=s.perm.mem_iff.1 h;simp at this;omega
theorem Iy.frame {q:aW}{x:Nat}(s:Iy m k q p hd x P C F)(h:∀i,iM k<=i->i<iM k+128->mB m' i=mB m i):Iy m' k q p hd x P C F:=⟨s.ring,s.row.frame (Or.inl rfl) λi h1 h2=>h i h1 (by omega),s.dev,s.TM,s.com.frame λi h1 h2=>h i (by omega) (by omega),s.pool,s.perm,s.cok⟩
theorem Iy.held {q:aW}{x:Nat}(s:Iy m k q p hd x P C F)(u:lJ×Bool×Int):Iy m k (q.1,q.2.1,q.2.2.1,u) p hd x P C F:=⟨s.ring,s.row,s.dev,s.TM,s.com,s.pool,s.perm,s.cok⟩
theorem Kq {l:fi}(h:l.Perm [0,1,2,3]):l.Nodup:=h.nodup_iff.2 (by decide)
theorem adi {b:Nat}(hb:b<=130944)(h1:∀c∈F,c<4)(h2:F.Nodup):dL ((b:Int),384,4,F.map λc:Nat=>(c:Int))=true:=by unfold dL;grind[Dm,aS,fO,List.pairwise_iff_getElem]
theorem Iy.Y7 {q:aW}{x:Nat}(hk:k<=1)(s:Iy m k q p hd x P C F):dL p=true:=by rw[s.pool];refine adi (by unfold iM;omega) (λc hc=>s.lt (by simp[hc])) ?_;have n:=Kq s.perm;exact(aN.1 n).2.1
theorem XX {s v:Bytes}(hs:s.length=16)(hv:v.length<=12):0<=xn s v/\xn s v<=4294967295:=by grind[K4,xn]
theorem Vg {q:aW}{k s:Bytes}{D:Dd}(h:dC s=(D,true))(h3:D.1=3)(hl:¬D.2.2.1<((dv q.2.2.2.1.1).1.length:Int))(hp:(jF l m d D.2.2.2.1 (dv q.2.2.2.1.1).1 true).2=true):gM l m d q k s=rr l (jF l m d D.2.2.2.1 (dv q.2.2.2.1.1).1 true).1 d q.2.1 (D.2.2.2.2.2,((dv q.2.2.2.1.1).1.length:Int),q.2.2.2.1.2.1,q.2.2.2.1.2.2,xn k (tD (dJ q.2.2.2.1.1))):=by grind[gM]
theorem acr (hm:fA m)(hk:k<=1){q:aW}{x:Nat}{c:Nat}(s:Iy m k q p hd x (c::P) C F)(hq:FP q=true)(hh:q.2.2.2.2.1=true)(key:Bytes)(Hi:key.length=16): ∃y:Ho,y.1=(c:Int)/\(gM (bM 38) m 0 q key (gJ (xM k c))).2=(zh (iM k+64) (x+C.length+1),true)/\fA (gM (bM 38) m 0 q key (gJ (xM k c))).1/\PL (gM (bM 38) m 0 q key (gJ (xM k c))).1 (iM k+64) x (C++[y])/\∀i,i<4864->(i<iM k+64\/iM k+1792<=i)->mB (gM (bM 38) m 0 q key (gJ (xM k c))).1 i=mB m i:=by
 have hc:c<4:=s.lt (by simp);have hl:=s.len;simp only[bp]at hl;have db:=nu (VB hk hc);have r:=(Ib _).1 hq;have hs:=r.held hh;have hi:=nv q.2.2.2.1.1;have hn:iM k=1280+1792*k:=rfl;have pf:=DJ hm (a:=iM k+128+384*c) (s:=(dv q.2.2.2.1.1).1) (w:=true) (by omega) (by omega) (λ_=>by omega);generalize hy:(((c),((dv q.2.2.2.1.1).1.length),q.2.2.2.1.2.1,q.2.2.2.1.2.2,xn key (tD (dJ q.2.2.2.1.1))):Ho)=y;have ok:vu y=true:=by grind[vu,aS,XX,T7]
 have cm:=s.com.frame (m':=(jF (bM 38) m 0 ((iM k+128+384*c)) (dv q.2.2.2.1.1).1 true).1) λi h1 h2=>by grind
 have pc:=UM pf.2.1 (by omega) cm (by omega) ok;have eA:(xM k c).2.2.2.1=((iM k+128+384*c:Nat)):=rfl;have eL:(xM k c).2.2.1=384:=rfl;have eC:(xM k c).2.2.2.2.2=(c):=rfl;have e:gM (bM 38) m 0 q key (gJ (xM k c))=rr (bM 38) (jF (bM 38) m 0 ((iM k+128+384*c:Nat)) (dv q.2.2.2.1.1).1 true).1 0 (zh (iM k+64) (x+C.length)) y:=by rw[Vg db.2 rfl (by omega) (by exact pf.1),eA,eC,s.dev,hy]
 grind
structure Vt (m:List Bytes) (k:Nat) (p:dq) (x:Nat) (C:List Ho) (F:List Nat) (h:Bool) (f:List Bytes×aW) (n:Nat):Prop where
 mem:fA f.1
 st:∃hd P C',Iy f.1 k f.2 p hd x P C' F/\C'.length=C.length+n
 hold:f.2.2.2.2.2.1=h
 out:∀i,i<4864->(i<iM k\/iM k+1792<=i)->mB f.1 i=mB m i
theorem zH (hm:fA m)(hk:k<=1){q:aW}{x:Nat}(s:Iy m k q p hd x P C F)(hq:FP q=true)(key:Bytes)(Hi:key.length=16):∃n,n<=1/\Vt m k p x C F false (gy (bM 38) m 0 q key) n:=by
 have hn:iM k=1280+1792*k:=rfl;unfold gy;rw[hq,Hi];cases hh:q.2.2.2.2.1 with
 |false=>exact⟨0,by omega,hm,⟨hd,P,C,s,rfl⟩,hh,λ_ _ _=>rfl⟩
 |true=>
  simp only[aj,cM,show(((16:Nat):Int) !=16)=false from rfl,ae];cases P with
  |nil=>
   have t:=Vk (m:=m) (b:=iM k) (hd:=hd) (Or.inl rfl);have e:bI (bM 38) m 0 q.1=([],q.1,false):=by rw[s.ring];exact t
   rw[e];exact⟨0,by omega,hm,⟨hd,[],C,s.held _,rfl⟩,rfl,λ_ _ _=>rfl⟩
  |cons c P=>
   have t:=Dc hm (Or.inl rfl) (by omega) (s.row);have e:bI (bM 38) m 0 q.1=(gJ (xM k c),fJ (iM k) 4 (hd+1) P.length,true):=by rw[s.ring];have:=t.1;rw[bX]at this;exact this
   obtain⟨y,y1,y2,y3,y4,y5⟩:=acr hm hk s hq hh key Hi;rw[e,y2];simp only[du,af];refine⟨1,by omega,y3,⟨hd+1,P,C++[y],⟨rfl,?_,by simp;rfl,s.TM,y4,s.pool,?_,λz hz=>?_⟩,by simp⟩,rfl,λi hi ho=>y5 i hi (by omega)⟩;exact t.2.frame (Or.inl rfl) λi h1 h2=>y5 i (by omega) (by omega);refine List.Perm.trans ?_ s.perm;have ey:y.1.toNat=c:=by rw[y1];simp
   simp only[NV,cS,fb,List.map_nil,ey,aG,ig,bU];exact List.Perm.refl _;rcases aB.1 hz with g|g;exact s.cok z g;rw[bq.1 g,y1];omega
theorem Ht (hm:fA m)(hk:k<=1){q:aW}{x:Nat}(s:Iy m k q p hd x P C F){N:Int}(hN:N<=500000000000)(hq:zg N q)(key:Bytes)(Hi:key.length=16)(w:aH)(c:Bool):∃n h,n<=2/\Vt m k p x C F h (iE (bM 38) m 0 q key w c) n:=by have Pw:=(Ib _).2 (hq.mono);unfold iE;rw[Pw,Hi];cases hw:gI w with|false=>exact⟨0,q.2.2.2.2.1,by omega,hm,⟨hd,P,C,s,rfl⟩,rfl,λ_ _ _=>rfl⟩|true=>cases c&&(q.2.2.2.2.1&&EP q.2.2.2.1 w)with|true=>exact⟨0,q.2.2.2.2.1,by omega,hm,⟨hd,P,C,s.held _,rfl⟩,rfl,λ_ _ _=>rfl⟩|false=>obtain⟨n,hn,fl⟩:=zH hm hk s Pw key Hi;obtain⟨SP,P2,C2,s2,l2⟩:=fl.st;have hd3:Iy (gy (bM 38) m 0 q key).1 k (Jx (gy (bM 38) m 0 q key).2 (kA w)) p SP x P2 C2 F:=s2.held _;cases c with|true=>exact⟨n,true,by omega,fl.mem,⟨SP,P2,C2,hd3,l2⟩,rfl,fl.out⟩|false=>have so:=I6 hw;have hq2:=(Ib _).2 ((VW (Dl (by omega) hq hm.ok (bM 38) 0 key).2 so.1 so.2.1 so.2.2).mono);obtain⟨n3,hn3,f3⟩:=zH fl.mem hk hd3 hq2 key Hi;obtain⟨hd4,P4,C4,s4,l4⟩:=f3.st;exact⟨n+n3,false,by omega,f3.mem,⟨hd4,P4,C4,s4,by omega⟩,f3.hold,λi hi ho=>(f3.out i hi ho).trans (fl.out i hi ho)⟩
theorem acQ (hk:k<=1)(hp:dL (((iM k+128:Nat):Int),384,4,F.map λc:Nat=>(c:Int))=true){c:Nat}(hc:c<4):kV (((iM k+128:Nat):Int),384,4,F.map λc:Nat=>(c:Int)) (c:Int)=((iM k+128+384*c:Nat):Int):=by unfold kV;rw[hp,aS.2 ⟨by omega,by grind⟩];grind
theorem Qu (hk:k<=1){G:fi}(hp:dL (((iM k+128:Nat):Int),384,4,G.map λc:Nat=>(c:Int))=true):∀(F:fi)(m:bK)(P:fi),fA m->qp m (iM k) 4 hd (P.map λc=>gJ (xM k c))->P.length+F.length<=4->(∀c∈F,c<4)->
 (lL (bM 38) 0 (((iM k+128:Nat):Int),384,4,G.map λc:Nat=>(c:Int)) (F.map λc:Nat=>(c:Int)) m (fJ (iM k) 4 hd P.length)).1=F.length/\
 (lL (bM 38) 0 (((iM k+128:Nat):Int),384,4,G.map λc:Nat=>(c:Int)) (F.map λc:Nat=>(c:Int)) m (fJ (iM k) 4 hd P.length)).2.2=fJ (iM k) 4 hd (P++F).length/\
 fA (lL (bM 38) 0 (((iM k+128:Nat):Int),384,4,G.map λc:Nat=>(c:Int)) (F.map λc:Nat=>(c:Int)) m (fJ (iM k) 4 hd P.length)).2.1/\
 qp (lL (bM 38) 0 (((iM k+128:Nat):Int),384,4,G.map λc:Nat=>(c:Int)) (F.map λc:Nat=>(c:Int)) m (fJ (iM k) 4 hd P.length)).2.1 (iM k) 4 hd ((P++F).map λc=>gJ (xM k c))/\
 ∀i,i<4864->(i<iM k\/iM k+64<=i)->mB (lL (bM 38) 0 (((iM k+128:Nat):Int),384,4,G.map λc:Nat=>(c:Int)) (F.map λc:Nat=>(c:Int)) m (fJ (iM k) 4 hd P.length)).2.1 i=mB m i
 |[],m,P,hm,r,_,_=>by rw[bg];exact⟨rfl,rfl,hm,r,λ_ _ _=>rfl⟩
 |c::F,m,P,hm,r,hl,hF=>by
  have hn:iM k=1280+1792*k:=rfl;have hc:=hF c (by simp);simp only[bp]at hl;have ed:gC (((iM k+128:Nat)),384,4,G.map λc:Nat=>(c)) (c)=gJ (xM k c):=by unfold gC;rw[acQ hk hp hc];rfl
  have pr:=Zc hm (Or.inl rfl) (by omega) r (by rw[bX];omega) (nu (VB hk hc)).1;rw[bX]at pr;rw[fb,lL,ed,pr.1];have e1:P.length+1=(P++[c]).length:=by simp
  have r2:qp (dr (bM 38) m 0 (fJ (iM k) 4 hd P.length) (gJ (xM k c))).1 (iM k) 4 hd ((P++[c]).map λc=>gJ (xM k c)):=by grind
  have ih:=Qu hk hp F _ (P++[c]) pr.2.1 r2 (by omega) λy hy=>hF y (by simp[hy]);grind
theorem TV (hm:fA m)(hk:k<=1){q:aW}{x:Nat}(s:Iy m k q p hd x P C F): fA (qu (bM 38) m 0 q.1 p).1/\Iy (qu (bM 38) m 0 q.1 p).1 k ((qu (bM 38) m 0 q.1 p).2.1,q.2) (qu (bM 38) m 0 q.1 p).2.2.1 hd x (P++F) C []/\∀i,i<4864->(i<iM k\/iM k+64<=i)->mB (qu (bM 38) m 0 q.1 p).1 i=mB m i:=by
 have hn:iM k=1280+1792*k:=rfl;have hp:=s.Y7 hk;have hl:=s.len;rw[s.pool]at hp;have fl:=Qu hk hp F m P hm s.row (by omega) λc hc=>s.lt (by simp[hc]);have vo:=pM (b:=iM k) (hd:=hd) (n:=P.length) (Or.inl rfl) (by omega) (by omega);have e:qu (bM 38) m 0 q.1 p=((lL (bM 38) 0 (((iM k+128)),384,4,F.map λc:Nat=>(c)) (F.map λc:Nat=>(c)) m (fJ (iM k) 4 hd P.length)).2.1,fJ (iM k) 4 hd (P++F).length,(((iM k+128):Int),384,4,[]),((F.length):Int)):=by unfold qu;rw[s.pool,s.ring,vo.1,hp];simp_all
 rw[e];refine⟨fl.2.2.1,⟨rfl,fl.2.2.2.1,s.dev,s.TM,s.com.frame λi h1 h2=>fl.2.2.2.2 i (by omega) (by omega),rfl,?_,s.cok⟩,fl.2.2.2.2⟩;have:=s.perm;grind
theorem aeg {c:Nat}(hp:dL (((iM k+128:Nat):Int),384,4,F.map λc:Nat=>(c:Int))=true)(hp2:dL (((iM k+128:Nat):Int),384,4,(F++[c]).map λc:Nat=>(c:Int))=true):(Dp (((iM k+128:Nat):Int),384,4,F.map λc:Nat=>(c:Int)) [(c:Int)]).1=(((iM k+128:Nat):Int),384,4,(F++[c]).map λc:Nat=>(c:Int)):=by simp_all[jE,Dp,Fo]
theorem RI (hm:fA m)(hk:k<=1){x:Nat}{c:Ho}(r:Iy m k s.2.1 s.2.2 hd x P (c::C) F):(kC (bM 38) m 0 s.2.1.2.2.1).2.2=true/\Iy m k (tP (bM 38) m 0 s).2.1 (tP (bM 38) m 0 s).2.2 hd (x+1) P C (F++[c.1.toNat])/\(tP (bM 38) m 0 s).2.1.2.2.2=s.2.1.2.2.2:=by
 have hn:iM k=1280+1792*k:=rfl;have nx:=No hm (by omega) r.com;have en:kC (bM 38) m 0 s.2.1.2.2.1=(c,zh (iM k+64) (x+1),true):=by rw[r.TM];exact nx.1
 have hc:=Int.toNat_of_nonneg (r.cok c (by simp));have pm:(NV C++P++(F++[c.1.toNat])).Perm [0,1,2,3]:=by refine List.Perm.trans ?_ r.perm;grind
 have nd:=Kq pm;have hp:=r.Y7 hk;rw[r.pool]at hp;have hp2:=adi (b:=iM k+128) (by omega) (λy hy=>by have:=pm.mem_iff.1 (aB.2 (Or.inr hy));simp at this;omega) (aN.1 nd).2.1;have eg:(Dp s.2.2 [c.1]).1=(((iM k+128):Int),384,4,(F++[c.1.toNat]).map λc:Nat=>(c:Int)):=by rw[r.pool,<-hc];grind[aeg]
 refine⟨by rw[en],?_,rfl⟩;unfold tP;rw[en];refine⟨r.ring,r.row,?_,rfl,nx.2,eg,pm,λy hy=>r.cok y (by simp[hy])⟩;rw[show x+1+C.length=x+(c::C).length by simp;omega];exact r.dev
theorem Ks (hm:fA m)(hk:k<=1):∀(n:Nat)(s:ax Stream×aW×dq)(x:Nat)(C:ax Ho)(F:fi),Iy m k s.2.1 s.2.2 hd x P C F->
 (il (bM 38) m 0 n s).1=min n C.length/\(il (bM 38) m 0 n s).2.2.1.2.2.2=s.2.1.2.2.2/\∃F',Iy m k (il (bM 38) m 0 n s).2.2.1 (il (bM 38) m 0 n s).2.2.2 hd (x+min n C.length) P (C.drop n) F'
 |0,s,x,C,F,r=>⟨by rfl,rfl,F,by exact r⟩
 |n+1,s,x,[],F,r=>by
  have hn:iM k=1280+1792*k:=rfl;have nx:=Np hm (by omega) r.com;have en:(kC (bM 38) m 0 s.2.1.2.2.1).2.2=false:=by rw[r.TM,nx]
  rw[il,en];exact⟨by simp,rfl,F,r⟩
 |n+1,s,x,c::C,F,r=>by have ps:=RI hm hk r;have ih:=Ks hm hk n (tP (bM 38) m 0 s) (x+1) C _ ps.2.1;rw[il,ps.1];obtain⟨F',hf⟩:=ih.2.2;refine⟨by grind,ih.2.1.trans ps.2.2,F',?_⟩;grind
theorem IZ (hm:fA m)(hk:k<=1){q:aW}{x:Nat}(s:Iy m k q p hd x P C F)(hq:FP q=true)(st:ax Stream){b:Nat}(hb:b<=1000:=by omega): fA (gP (bM 38) m 0 q p st (b:Int)).1/\(∃x' P',Iy (gP (bM 38) m 0 q p st (b:Int)).1 k (gP (bM 38) m 0 q p st (b:Int)).2.1 (gP (bM 38) m 0 q p st (b:Int)).2.2.1 hd x' P' (C.drop b) [])/\(gP (bM 38) m 0 q p st (b:Int)).2.2.2.2=((min b C.length:Nat):Int)/\(gP (bM 38) m 0 q p st (b:Int)).2.1.2.2.2.2.1=q.2.2.2.2.1/\∀i,i<4864->(i<iM k\/iM k+64<=i)->mB (gP (bM 38) m 0 q p st (b:Int)).1 i=mB m i:=by have hp:=s.Y7 hk;have pl:=Ks hm hk b (st,q,p) x C F s;obtain⟨l1,l2,F',sf⟩:=pl;have ff:=TV hm hk sf;grind[gP,aS,aC]
theorem P0 (k:Nat):mG k=((iM k:Nat):Int):=by unfold mG iM;omega
theorem agx (n j:Nat):(zA n).getD j 0=0:=by grind[zA,aR]
theorem ajh {a:Nat}(h:∀j,j<16->mB m (a+j)=0):(nE (tS m a 16)).2.1=0:=by
 have e:tS m a 16=List.replicate 16 0:=by unfold tS;refine List.ext_getElem (by simp) λj g1 g2=>?_;grind
 rw[e];decide
theorem UE (hm:fA m)(hk:k<=1)(u:lJ×Bool×Int):fA (tO (bM 38) m k).1/\(∃P,Iy (tO (bM 38) m k).1 k ((tO (bM 38) m k).2.1,(mG k+64,4,0),(mG k+64,4,0),u) (tO (bM 38) m k).2.2.1 0 0 P [] [])/\∀i,i<4864->(i<iM k\/iM k+1792<=i)->mB (tO (bM 38) m k).1 i=mB m i:=by
 have hn:iM k=1280+1792*k:=rfl;have pf:=DJ hm (a:=iM k) (s:=zA 128) (w:=false) (by rw[xF];omega) (by rw[xF];omega) (by simp);rw[xF]at pf;have np:=(RJ (a:=mG k+128) (b:=384) (n:=4) (by rw[P0];omega)).1;have ep:(mP (mG k+128) 384 4).1=(((iM k+128:Nat):Int),384,4,[0,1,2,3].map λc:Nat=>(c:Int)):=by rw[np,P0];rfl
 have er:((mG k,4,0,0))=fJ (iM k) 4 0 0:=by rw[P0];rfl
 have ec:((mG k+64,4,0))=zh (iM k+64) 0:=by rw[P0];rfl
 have s:Iy (jF (bM 38) m 0 ((iM k)) (zA 128) false).1 k (fJ (iM k) 4 0 0,zh (iM k+64) 0,zh (iM k+64) 0,u) (((iM k+128:Nat)),384,4,[0,1,2,3].map λc:Nat=>(c)) 0 0 [] [] [0,1,2,3]:=by refine⟨rfl,⟨by simp,λj hj=>by simp at hj⟩,rfl,rfl,⟨by simp,λj hj=>by simp at hj,λj _ hj=>?_⟩,rfl,List.Perm.refl _,λc hc=>by cases hc⟩;rw[ajh λi hi=>?_];unfold phN;rw[zip];decide;rw[pf.2.2 _ (by omega),zip];exact agx ..
 have f:=TV pf.2.1 hk s;unfold tO;rw[ep,er,ec,P0];refine⟨f.1,⟨_,f.2.1⟩,λi hi ho=>?_⟩;rw[f.2.2 i hi (by omega),pf.2.2 i hi,lH]
def QI (A:ax Ho->aW->Vector->Bool->Prop)(m:bK)(k:Nat)(q:aW)(p:dq)(v:Vector)(b:Bool):Prop:=
 ∃hd x P C F,Iy m k q p hd x P C F/\v.2.1<=3/\v.2.2.2.2.1=b/\(b=false->C≠[]->1<=v.2.2.1)/\A C q v b
theorem QI.frame {A:ax Ho->aW->Vector->Bool->Prop}{q:aW}{v:Vector}{b:Bool}(s:QI A m k q p v b)(h:∀i,iM k<=i->i<iM k+128->mB m' i=mB m i):QI A m' k q p v b:=by obtain⟨hd,x,P,C,F,s,t⟩:=s;exact⟨hd,x,P,C,F,s.frame h,t⟩
theorem QI.zn {A B:ax Ho->aW->Vector->Bool->Prop}{q:aW}{v:Vector}{b:Bool}(s:QI A m k q p v b)(h:∀C q v b,A C q v b->B C q v b):QI B m k q p v b:=by obtain⟨hd,x,P,C,F,s,t1,t2,t3,t4⟩:=s;exact⟨hd,x,P,C,F,s,t1,t2,t3,h _ _ _ _ t4⟩
def agC (A:ax Ho->aW->Vector->Bool->Prop)(h:Host)(k:Nat):Prop:=∃q p v b,h.2.2.2.1[k]?=some q/\h.2.2.2.2.1[k]?=some p/\h.2.2.2.2.2.1[k]?=some v/\h.2.2.2.2.2.2.1[k]?=some b/\QI A h.1 k q p v b
structure Live (Q:Nat->List Ho->aW->Vector->Bool->Prop) (h:Host):Prop where
 maps:h.2.1=bM 38
 mem:fA h.1
 tx:∃hd L,W3 h.1 h.2.2.1 hd L
 rx:∀k,k<h.2.2.2.1.length->agC (Q k) h k
abbrev F3:Nat->ax Ho->aW->Vector->Bool->Prop:=λ_ _ _ _ _=>True
theorem Live.step {Q':Nat->ax Ho->aW->Vector->Bool->Prop}{h':Host}(f:Live Q h)(hk:k<h.2.2.2.1.length)(h2:h.2.2.2.1.length<=2)(hm:fA h'.1)(e1:h'.2.1=h.2.1)(e2:h'.2.2.1=h.2.2.1)(e3:h'.2.2.2.1.length=h.2.2.2.1.length)(hq:∀j,j≠k->h'.2.2.2.1[j]?=h.2.2.2.1[j]?/\h'.2.2.2.2.1[j]?=h.2.2.2.2.1[j]?/\h'.2.2.2.2.2.1[j]?=h.2.2.2.2.2.1[j]?/\h'.2.2.2.2.2.2.1[j]?=h.2.2.2.2.2.2.1[j]?)(out:∀i,i<4864->(i<iM k\/iM k+1792<=i)->mB h'.1 i=mB h.1 i)(hQ:∀j,j≠k->∀C q v b,Q j C q v b->Q' j C q v b)(hF:agC (Q' k) h' k):Live Q' h':=by have hn:iM k=1280+1792*k:=rfl;obtain⟨hd,L,s⟩:=f.tx;refine⟨e1.trans f.maps,hm,⟨hd,L,by rw[e2];exact s.frame λi hi=>out i (by omega) (by omega)⟩,λj hj=>?_⟩;by_cases V1:j=k;subst V1;exact hF;rw[e3]at hj;have hj2:iM j=1280+1792*j:=rfl;obtain⟨q,p,v,b,g1,g2,g3,g4,g5⟩:=f.rx j hj;have e:=hq j V1;exact⟨q,p,v,b,by rw[e.1];exact g1,by rw[e.2.1];exact g2,by rw[e.2.2.1];exact g3,by rw[e.2.2.2];exact g4,(g5.zn (hQ j V1)).frame λi h1 h2=>out i (by omega) (by omega)⟩
theorem Live.same {h':Host}(f:Live Q h)(hm:fA h'.1)(e1:h'.2.1=h.2.1)(e3:h'.2.2.2.1=h.2.2.2.1)(e4:h'.2.2.2.2.1=h.2.2.2.2.1)(e5:h'.2.2.2.2.2.1=h.2.2.2.2.2.1)(e6:h'.2.2.2.2.2.2.1=h.2.2.2.2.2.2.1)(ht:∃hd L,W3 h'.1 h'.2.2.1 hd L)(out:∀i,i<4864->1280<=i->mB h'.1 i=mB h.1 i)(h2:h.2.2.2.1.length<=2):Live Q h':=by refine⟨e1.trans f.maps,hm,ht,λk hk=>?_⟩;rw[e3]at hk;have hn:iM k=1280+1792*k:=rfl;obtain⟨q,p,v,b,g1,g2,g3,g4,g5⟩:=f.rx k hk;exact⟨q,p,v,b,by rw[e3];exact g1,by rw[e4];exact g2,by rw[e5];exact g3,by rw[e6];exact g4,g5.frame λi h1 h2=>out i (by omega) (by omega)⟩
theorem Ca (v:Vector):(sA v).1=v.1/\(sA v).2.1=v.2.1/\(sA v).2.2.1=v.2.2.1/\(sA v).2.2.2.1=v.2.2.2.1/\(sA v).2.2.2.2.1=v.2.2.2.2.1:=by grind[sA]
theorem ad6 {v:Vector}(hv:fy v=true):(evV v).2.1=v.2.1/\(evV v).2.2.2.2.1=v.2.2.2.2.1/\1<=(evV v).2.2.1:=by have w:=(CR v).1 hv;have u:=acx w.2.2.1;grind[Ca,evV]
def evN:Nat->Vector->Vector
 |0,v=>v
 |n+1,v=>evV (evN n v)
theorem ag9 {v:Vector}(hv:fy v=true):∀n,fy (evN n v)=true/\(evN n v).2.1=v.2.1/\(evN n v).2.2.2.2.1=v.2.2.2.2.1/\(1<=n->1<=(evN n v).2.2.1)
 |0=>⟨hv,rfl,rfl,λh=>by omega⟩
 |n+1=>by have i:=ag9 hv n;have s:=ad6 i.1;exact⟨aje i.1,s.1.trans i.2.1,s.2.1.trans i.2.2.1,λ_=>s.2.2⟩
theorem aaG {v:Vector}(hv:h.2.2.2.2.2.1[k]?=some v):∀n,OT k n h=(h.1,h.2.1,h.2.2.1,h.2.2.2.1,h.2.2.2.2.1,h.2.2.2.2.2.1.set k (evN n v),h.2.2.2.2.2.2)
 |0=>by obtain⟨iA,e⟩:=aD.1 hv;show h=_;rw[evN,<-e,List.set_getElem_self]
 |n+1=>by obtain⟨iA,e⟩:=aD.1 hv;rw[OT,aaG hv n];unfold evS;simp only[bL iA,List.set_set];rfl
theorem YC (f:Live Q h)(h2:h.2.2.2.1.length<=2)(hk:k<h.2.2.2.1.length){q:aW}(hq:h.2.2.2.1[k]?=some q)(hp:h.2.2.2.2.1[k]?=some p){v:Vector}(hv:h.2.2.2.2.2.1[k]?=some v){b:Bool}(hb:h.2.2.2.2.2.2.1[k]?=some b){x:Nat}(s:Iy h.1 k q p hd x P C F)(w3:v.2.1<=3)(wm:v.2.2.2.2.1=b)(wc:b=false->C≠[]->1<=v.2.2.1)(hvb:fy v=true){g:bK×aW}{H:Bool}{n:Nat}(hn:n<=4)(fl:Vt h.1 k p x C F H g n): Live (λj C q v b=>(j=k->q.2.2.2.2.1=H)/\(j≠k->Q j C q v b)) (qZ h k q.2.1.2.2 g):=by
 obtain⟨HI,P',C',s',l'⟩:=fl.st;have hc4:=s.com.len;have atk:=s'.com.len;have ed:q.2.1.2.2=(((x+C.length)%8:Nat):Int):=by rw[s.dev];rfl
 have ed':g.2.2.1.2.2=(((x+C'.length)%8:Nat):Int)/\g.2.2.1.2.1=4:=by rw[s'.dev];exact⟨rfl,rfl⟩
 have ec:((g.2.2.1.2.2-q.2.1.2.2)%(2*g.2.2.1.2.1)).toNat=n:=by rw[ed'.1,ed'.2,ed,l'];omega
 have Uc:(EA h k g).2.2.2.2.2.1[k]?=some v:=hv;have e:qZ h k q.2.1.2.2 g=(g.1,h.2.1,h.2.2.1,h.2.2.2.1.set k g.2,h.2.2.2.2.1,h.2.2.2.2.2.1.set k (evN n v),h.2.2.2.2.2.2):=by unfold qZ;rw[ec,aaG Uc n];rfl
 have vk:=ag9 hvb n;obtain⟨hvl,_⟩:=aD.1 hv;rw[e];refine Live.step (Q:=Q) (Q':=λj C q v b=>(j=k->q.2.2.2.2.1=H)/\(j≠k->Q j C q v b)) f hk h2 fl.mem rfl rfl (aL ..) (λj hj=>⟨aM (cE hj),rfl,aM (cE hj),rfl⟩) fl.out (λj hj C q v b hA=>⟨λe=>absurd e hj,λ_=>hA⟩) ?_;refine⟨g.2,p,evN n v,b,bL hk,hp,bL hvl,hb,HI,x,P',C',F,s',by rw[vk.2.1];exact w3,by rw[vk.2.2.1];exact wm,λiq BF=>?_,λ_=>fl.hold,λe=>absurd rfl e⟩;rcases Nat.eq_zero_or_pos n with g0|g0;subst g0;refine wc iq λe0=>BF ?_;rw[e0]at l';exact cb (by simpa using l');exact vk.2.2.2 g0
theorem Et {n:Int}(g:Good n h):h.2.2.2.2.2.2.2.2.1.2.2.1.length=16:=by have:=g.Jf;grind[eX,wZ]
theorem nt {n:Int}(g:Good n h):h.2.2.2.1.length<=2:=(qI g.lens).1
theorem HZ {n:Int}(hn:n<=500000000000)(g:Good n h)(f:Live Q h)(hk:k<h.2.2.2.1.length:=by omega):Live (λj C q v b=>(j=k->q.2.2.2.2.1=false)/\(j≠k->Q j C q v b)) (eH k h):=by
 have h2:=nt g;obtain⟨q,p,v,b,g1,g2,g3,g4,hd,x,P,C,F,s,w1,w2,w3,_⟩:=f.rx k hk;have rx:=g.rx q (aX g1);obtain⟨c,hc,fl⟩:=zH f.mem (by omega) s (rx.rx (by omega)) h.2.2.2.2.2.2.2.2.1.2.2.1 (Et g);have e:eH k h=qZ h k q.2.1.2.2 (gy (bM 38) h.1 0 q h.2.2.2.2.2.2.2.2.1.2.2.1):=by unfold eH;rw[g1,f.maps]
 rw[e];exact YC f h2 hk g1 g2 g3 g4 s w1 w2 w3 (g.vec v (aX g3)) (by omega) fl
theorem Live.zn {Q':Nat->ax Ho->aW->Vector->Bool->Prop}(f:Live Q h)(hq:∀k,k<h.2.2.2.1.length->∀C q v b,Q k C q v b->Q' k C q v b):Live Q' h:=by refine⟨f.maps,f.mem,f.tx,λk hk=>?_⟩;obtain⟨q,p,v,b,g1,g2,g3,g4,g5⟩:=f.rx k hk;exact⟨q,p,v,b,g1,g2,g3,g4,g5.zn (hq k hk)⟩
abbrev ak3:Nat->ax Ho->aW->Vector->Bool->Prop:=λ_ _ q _ _=>q.2.2.2.2.1=false
theorem Kn {n:Int}(hn:n<=400000000000)(g:Good n h)(f:Live Q h):Live ak3 (jh h):=by
 have h2:=nt g;have key:∀k:Nat,k<=h.2.2.2.1.length->Good (n+320*(k:Int)) (dX eH k h)/\(dX eH k h).2.2.2.1.length=h.2.2.2.1.length/\Live (λj _ q _ _=>j<k->q.2.2.2.2.1=false) (dX eH k h):=by intro k;induction k with|zero=>intro _;exact⟨g.mono,rfl,f.zn λk _ C q v b _ e=>by omega⟩|succ k ih=>intro hk;obtain⟨i1,i2,i3⟩:=ih (by omega);have st:=HZ (by omega) i1 i3 (k:=k);have gl:=Ej (by omega) i1 k;have e2:(eH k (dX eH k h)).2.2.2.1.length=(dX eH k h).2.2.2.1.length:=(nH k _).rx;refine⟨gl.mono (by push_cast;omega),e2.trans i2,st.zn λj hj C q v b hA V1=>?_⟩;grind
 unfold jh;rw[g.ok (by omega),af];obtain⟨i1,i2,i3⟩:=key h.2.2.2.1.length (bc _);exact i3.zn λj hj C q v b hA=>hA (by omega)
theorem Wg {n:Int}(hn:n<=400000000000)(g:Good n h)(f:Live Q h)(y:Bytes):Live F3 (iY h y):=by
 have h2:=nt g;have loose:Live F3 h:=f.zn λ_ _ _ _ _ _ _=>trivial;have Eb:∀a b c d,Live F3 (po h a b c d):=λa b c d=>loose.same (h':=po h a b c d) f.mem rfl rfl rfl rfl rfl f.tx (λ_ _ _=>rfl) h2;unfold iY;rw[g.ok (by omega)];simp only[aj,ae];cases (fF y).2 !=0;case true=>exact Eb ..
 cases !kj h.2.2.2.2.2.2.2.1 (fF y).1;case true=>exact Eb ..
 cases gA h.2.2.2.2.2.2.2.2.1 (h.2.2.2.1.length:Int) (fF y).1== -1;case true=>exact Eb ..
 simp only[ae];generalize (gA h.2.2.2.2.2.2.2.2.1 (h.2.2.2.1.length:Int) (fF y).1).toNat=k;rcases hq:h.2.2.2.1[k]? with _|q;exact loose;simp only;obtain⟨hk,_⟩:=aD.1 hq;obtain⟨q',p,v,b,g1,g2,g3,g4,hd,x,P,C,F,s,w1,w2,w3,_⟩:=loose.rx k hk;rw[hq]at g1;have g1:=bQ g1;subst g1;obtain⟨c,H,hc,fl⟩:=Ht f.mem (by omega) s (by omega) (g.rx q (aX hq)) h.2.2.2.2.2.2.2.2.1.2.2.1 (Et g) (fF y).1 h.2.2.2.2.2.2.2.2.2.2.1;rw[f.maps];have:=YC (Eb h.2.2.2.2.2.2.2.2.2.2.2.2.2.2.2.1 h.2.2.2.2.2.2.2.2.2.2.2.2.2.2.2.2.1 h.2.2.2.2.2.2.2.2.2.2.2.2.2.2.2.2.2.1 (ar (h.2.2.2.2.2.2.2.2.2.2.2.2.2.2.2.2.2.2+1))) h2 hk hq g2 g3 g4 s w1 w2 w3 (g.vec v (aX g3)) (by omega) fl;exact this.zn λ_ _ _ _ _ _ _=>trivial
theorem ae0 {n:Int}(g:Good n h)(f:Live Q h)(p:aH)(c z:Int):Live Q (vr h p c z).1:=by obtain⟨hd,L,s⟩:=f.tx;obtain⟨a,⟨L',b⟩,c'⟩:=U3 f.mem s g.tx p c z;unfold vr;cases eU h with|false=>exact f|true=>rw[f.maps];exact f.same a f.maps.symm rfl rfl rfl rfl ⟨hd,L',b⟩ c' (nt g)
theorem EY {n:Int}(hn:n<=1000000000000)(g:Good n h)(f:Live Q h):Live Q (dj h)/\(dj h).2.2.1.2.2.1=[]:=by
 obtain⟨hd,L,s⟩:=f.tx;obtain⟨a,HI,b⟩:=JR g hn f.maps f.mem s;refine⟨?_,a⟩;have e1:(dj h).1=h.1:=by unfold dj;rw[g.ok hn];rfl
 have e2:(dj h).2.1=h.2.1:=by unfold dj;rw[g.ok hn];rfl
 have e3:(dj h).2.2.2.1=h.2.2.2.1:=by unfold dj;rw[g.ok hn];rfl
 have e4:(dj h).2.2.2.2.1=h.2.2.2.2.1:=by unfold dj;rw[g.ok hn];rfl
 have e5:(dj h).2.2.2.2.2.1=h.2.2.2.2.2.1:=by unfold dj;rw[g.ok hn];rfl
 have e6:(dj h).2.2.2.2.2.2.1=h.2.2.2.2.2.2.1:=by unfold dj;rw[g.ok hn];rfl
 exact f.same (by rw[e1];exact f.mem) e2 e3 e4 e5 e6 ⟨HI,[],by rw[e1];exact b⟩ (λi _ _=>by rw[e1]) (nt g)
theorem OJ {v:Vector}(hv:fy v=true):(yX v).1=v.1/\(yX v).2.1=v.2.1/\(yX v).2.2.1=v.2.2.1/\(yX v).2.2.2.2.1=v.2.2.2.2.1/\(1<=v.2.2.1->v.2.2.2.2.1=false->(yX v).2.2.2.2.2=true\/v.2.2.2.1+1<=(yX v).2.2.2.1/\(yX v).2.2.2.1<v.2.1):=by
 have w:=(CR v).1 hv;have vt:=Sq hv;unfold yX at vt⊢;rw[hv]at vt⊢;simp only[af]at vt⊢;by_cases h:v.2.2.1>0;rw[az h]at vt⊢;simp only[af]at vt⊢;have c:=Ca (v.1,v.2.1,v.2.2.1,WY v.2.2.2.1,v.2.2.2.2);refine⟨c.1,c.2.1,c.2.2.1,c.2.2.2.2,λ_ hm=>?_⟩;have eu:WY v.2.2.2.1=v.2.2.2.1+1\/WY v.2.2.2.1=1000000:=by unfold WY;rw[ak (by omega) (by omega)];split<;>omega
 have t3:(sA (v.1,v.2.1,v.2.2.1,WY v.2.2.2.1,v.2.2.2.2)).2.2.2.1=WY v.2.2.2.1:=c.2.2.2.1;cases hd:KY (v.1,v.2.1,v.2.2.1,WY v.2.2.2.1,v.2.2.2.2)with
 |true=>left;unfold sA;rw[hd,hm];rfl
 |false=>
  right;have nd:¬(1<=v.2.2.1/\(v.1<=v.2.2.1\/v.2.1<=WY v.2.2.2.1)):=by rw[<-Pq (v.1,v.2.1,v.2.2.1,WY v.2.2.2.1,v.2.2.2.2),hd];simp
  rw[t3];omega
 rw[aw h]at vt⊢;simp only[ae]at vt⊢;have c:=Ca v;exact⟨c.1,c.2.1,c.2.2.1,c.2.2.2.2,λh1=>by omega⟩
theorem abx {n:Int}(g:Good n h){B:Nat->ax Ho->aW->Vector->Bool->Prop}(f:Live Q h)(hk:k<h.2.2.2.1.length)(hB:∀C q v b,fy v=true->v.2.1<=3->v.2.2.2.2.1=b->(b=false->C≠[]->1<=v.2.2.1)->Q k C q v b->B k C q (yX v) b):Live (λj C q v b=>(j=k->B k C q v b)/\(j≠k->Q j C q v b)) (jB k h):=by
 obtain⟨q,p,v,b,g1,g2,g3,g4,hd,x,P,C,F,s,w1,w2,w3,w4⟩:=f.rx k hk;have hv:=g.vec v (aX g3);have ts:=OJ hv;obtain⟨hvl,_⟩:=aD.1 g3;have e:jB k h=(h.1,h.2.1,h.2.2.1,h.2.2.2.1,h.2.2.2.2.1,h.2.2.2.2.2.1.set k (yX v),h.2.2.2.2.2.2):=by unfold jB;rw[g3]
 rw[e];refine Live.step (Q:=Q) (Q':=λj C q v b=>(j=k->B k C q v b)/\(j≠k->Q j C q v b)) f hk (nt g) f.mem rfl rfl rfl (λj hj=>⟨rfl,rfl,aM (cE hj),rfl⟩) (λ_ _ _=>rfl) (λj hj C q v b hA=>⟨λe=>absurd e hj,λ_=>hA⟩) ?_;exact⟨q,p,yX v,b,g1,g2,bL hvl,g4,hd,x,P,C,F,s,by omega,by grind,λe1 e2=>by grind,λ_=>hB C q v b hv w1 w2 w3 w4,λe=>absurd rfl e⟩
theorem aaR {n:Int}(g:Good n h)(k:Nat):Good n (jB k h):=by unfold jB;cases hv:h.2.2.2.2.2.1[k]? with|none=>exact g|some v=>exact⟨g.mem,g.maps,g.tx,g.Fj,by have:=g.lens;grind[qv],g.Jf,g.rx,g.pool,D7 g.vec (Sq (g.vec v (aX hv))),g.Eb⟩
theorem Ng {n:Int}(hn:n<=1000000000000)(g:Good n h){B:Nat->ax Ho->aW->Vector->Bool->Prop}(f:Live Q h)(hB:∀k C q v b,fy v=true->v.2.1<=3->v.2.2.2.2.1=b->(b=false->C≠[]->1<=v.2.2.1)->Q k C q v b->B k C q (yX v) b):Live B (om h):=by
 have hl:=qI g.lens;have key:∀k:Nat,k<=h.2.2.2.1.length->Good n (dX jB k h)/\(dX jB k h).2.2.2.1.length=h.2.2.2.1.length/\Live (λj C q v b=>(j<k->B j C q v b)/\(¬j<k->Q j C q v b)) (dX jB k h):=by intro k;induction k with|zero=>intro _;exact⟨g,rfl,f.zn λk _ C q v b hA=>⟨λe=>by omega,λ_=>hA⟩⟩|succ k ih=>intro hk;obtain⟨i1,i2,i3⟩:=ih (by omega);have st:=abx (B:=B) i1 i3 (k:=k) (by omega) (λC q v b a1 a2 a3 a4 hA=>hB k C q v b a1 a2 a3 a4 (hA.2 (by omega)));refine⟨aaR i1 k,((xi k _).rx).trans i2,st.zn λj hj C q v b hA=>⟨λV1=>?_,λV1=>?_⟩⟩;by_cases h1:j=k;subst h1;exact hA.1 rfl;exact(hA.2 h1).1 (by omega);exact(hA.2 (by omega)).2 (by omega)
 unfold om;rw[g.ok hn,af,hl.2.2.1];obtain⟨i1,i2,i3⟩:=key h.2.2.2.1.length (bc _);exact i3.zn λj hj C q v b hA=>hA.1 (by omega)
theorem ZV {v:Vector}(hv:fy v=true):(oJ v).1.2.1=v.2.1/\(oJ v).2=v.2.2.2.2.2/\(v.2.2.2.2.2=true->(oJ v).1.2.2.2.2.1=true)/\(v.2.2.2.2.2=false->(oJ v).1=v):=by grind[oJ]
theorem Tr {v:Vector}(hv:fy v=true):(yZ v).2.1=v.2.1/\(yZ v).2.2.2.2.1=false:=by grind[yZ,Ca]
theorem H0 {n:Int}(hn:n<=1000000000000)(t:Int)(g:Good n h){B:Nat->ax Ho->aW->Vector->Bool->Prop}(f:Live Q h)(hk:k<h.2.2.2.1.length){c:Nat}(hc:1<=c/\c<=1000)(hB:∀C q v b q' v' b',fy v=true->v.2.1<=3->v.2.2.2.2.1=b->(b=false->C≠[]->1<=v.2.2.1)->q'.2.2.2.2.1=q.2.2.2.2.1->Q k C q v b-> ((b=false/\v.2.2.2.2.2=false->b'=false->v'=v->B k C q' v' b')/\(b=true\/v.2.2.2.2.2=true->C.length<c->b'=false->B k [] q' v' b')/\(b=true\/v.2.2.2.2.2=true->¬C.length<c->b'=true->B k (C.drop c) q' v' b'))):Live (λj C q v b=>(j=k->B k C q v b)/\(j≠k->Q j C q v b)) (qL (c:Int) k (t,h)).2:=by
 have D5:iM k=1280+1792*k:=rfl;have h2:=nt g;obtain⟨q,p,v,b,g1,g2,g3,g4,hd,x,P,C,F,s,w1,w2,w3,w4⟩:=f.rx k hk;have hv:=g.vec v (aX g3);have tv:=ZV hv;have vt:=Z2 hv;have rq:=(g.rx q (aX g1)).rx hn;obtain⟨m1,⟨x',P',s'⟩,m3,m4,m5⟩:=IZ f.mem (by omega) s rq h.2.2.2.2.2.2.2.2.2.1 (b:=c);obtain⟨hql,_⟩:=aD.1 g1;obtain⟨C1,_⟩:=aD.1 g2;obtain⟨hvl,_⟩:=aD.1 g3;obtain⟨hbl,_⟩:=aD.1 g4;unfold qL;simp only[g1,g2,g3,g4,f.maps];generalize hR:gP (bM 38) h.1 0 q p h.2.2.2.2.2.2.2.2.2.1 (c:Int)=R at m1 s' m3 m4 m5;cases hpt:b||(oJ v).2 with
 |false=>
  simp only[de]at hpt;have hr:v.2.2.2.2.2=false:=by rw[<-tv.2.1];exact hpt.2
  have ev:=tv.2.2.2 hr;simp only[ae];refine Live.step (Q:=Q) (Q':=λj C q v b=>(j=k->B k C q v b)/\(j≠k->Q j C q v b)) f hk h2 f.mem f.maps.symm rfl rfl (λj hj=>⟨rfl,rfl,aM (cE hj),aM (cE hj)⟩) (λ_ _ _=>rfl) (λj hj C q v b hA=>⟨λe=>absurd e hj,λ_=>hA⟩) ?_;refine⟨q,p,(oJ v).1,false,g1,g2,bL hvl,bL hbl,hd,x,P,C,F,s,by rw[ev];exact w1,by rw[ev,w2];exact hpt.1,λ_ e2=>by rw[ev];exact w3 hpt.1 e2,λ_=>?_,λe=>absurd rfl e⟩;exact(hB C q v b q (oJ v).1 false hv w1 w2 w3 rfl w4).1 ⟨hpt.1,hr⟩ rfl ev
 |true=>
  simp only[dE]at hpt;have hpt:b=true\/v.2.2.2.2.2=true:=by rw[<-tv.2.1];exact hpt
  have msk:(oJ v).1.2.2.2.2.1=true:=by cases hr:v.2.2.2.2.2 with|true=>exact tv.2.2.1 hr|false=>rw[tv.2.2.2 hr,w2];rcases hpt with e|e;exact e;rw[hr]at e;cases e
  simp only[af,m3];have um:=Tr vt;refine Live.step (Q:=Q) (Q':=λj C q v b=>(j=k->B k C q v b)/\(j≠k->Q j C q v b)) f hk h2 m1 f.maps.symm rfl (aL ..) (λj hj=>⟨aM (cE hj),aM (cE hj),aM (cE hj),aM (cE hj)⟩) (λi hi ho=>m5 i hi (by omega)) (λj hj C q v b hA=>⟨λe=>absurd e hj,λ_=>hA⟩) ?_;by_cases hcl:C.length<c;have ed:C.drop c=[]:=cW (by omega);rw[ed]at s';have e1:decide (((min c C.length:Nat):Int)<(c:Int))=true:=kW;rw[e1];refine⟨R.2.1,R.2.2.1,yZ (oJ v).1,false,bL hql,bL C1,bL hvl,bL hbl,hd,x',P',[],[],s',by rw[um.1,tv.1];exact w1,um.2,λ_ e=>absurd rfl e,λ_=>?_,λe=>absurd rfl e⟩;exact(hB C q v b R.2.1 _ false hv w1 w2 w3 m4 w4).2.1 hpt hcl rfl;have e1:decide (((min c C.length:Nat):Int)<(c:Int))=false:=ie;rw[e1];refine⟨R.2.1,R.2.2.1,(oJ v).1,true,bL hql,bL C1,bL hvl,bL hbl,hd,x',P',C.drop c,[],s',by rw[tv.1];exact w1,msk,(λe=>by cases e),λ_=>?_,λe=>absurd rfl e⟩;exact(hB C q v b R.2.1 _ true hv w1 w2 w3 m4 w4).2.2 hpt hcl rfl
theorem Lz {n:Int}(hn:n<=1000000000000)(g:Good n h){B:Nat->ax Ho->aW->Vector->Bool->Prop}(f:Live Q h){c:Nat}(hc:1<=c/\c<=1000)(hB:∀k C q v b q' v' b',fy v=true->v.2.1<=3->v.2.2.2.2.1=b->(b=false->C≠[]->1<=v.2.2.1)->q'.2.2.2.2.1=q.2.2.2.2.1->Q k C q v b-> ((b=false/\v.2.2.2.2.2=false->b'=false->v'=v->B k C q' v' b')/\(b=true\/v.2.2.2.2.2=true->C.length<c->b'=false->B k [] q' v' b')/\(b=true\/v.2.2.2.2.2=true->¬C.length<c->b'=true->B k (C.drop c) q' v' b'))):Live B (gi h (c:Int)).1:=by
 have key:∀k:Nat,k<=h.2.2.2.1.length->Good n (gu (c:Int) k h).2/\(gu (c:Int) k h).2.2.2.2.1.length=h.2.2.2.1.length/\Live (λj C q v b=>(j<k->B j C q v b)/\(¬j<k->Q j C q v b)) (gu (c:Int) k h).2:=by intro k;induction k with|zero=>intro _;exact⟨g,rfl,f.zn λk _ C q v b hA=>⟨λe=>by omega,λ_=>hA⟩⟩|succ k ih=>intro hk;obtain⟨i1,i2,i3⟩:=ih (by omega);have st:=H0 (B:=B) hn (gu (c:Int) k h).1 i1 i3 (k:=k) (by omega) hc (λC q v b q' v' b' a1 a2 a3 a4 a5 hA=>hB k C q v b q' v' b' a1 a2 a3 a4 a5 (hA.2 (by omega)));refine⟨El (c:Int) k i1,((ED (c:Int) k _).rx).trans i2,st.zn λj hj C q v b hA=>⟨λV1=>?_,λV1=>?_⟩⟩;by_cases h1:j=k;subst h1;exact hA.1 rfl;exact(hA.2 h1).1 (by omega);exact(hA.2 (by omega)).2 (by omega)
 unfold gi;rw[g.ok hn,aS.2 ⟨by omega,by omega⟩];obtain⟨i1,i2,i3⟩:=key h.2.2.2.1.length (bc _);exact i3.zn λj hj C q v b hA=>hA.1 (by show j<_;rw[<-i2];exact hj)
structure Xg (a b:Host):Prop where
 maps:b.2.1=a.2.1
 mem:b.1.length=a.1.length
theorem Xg.refl (a:Host):Xg a a:=⟨rfl,rfl⟩
theorem Xg.trans {a b c:Host}(h:Xg a b)(g:Xg b c):Xg a c:=⟨g.maps.trans h.maps,g.mem.trans h.mem⟩
theorem Xg.of {a b:Host}(h:mE k a b):Xg a b:=⟨h.maps,h.mem⟩
theorem akz (l:ax aE)(m:bK)(d:Int)(q:aW)(k s:Bytes):(gM l m d q k s).1.length=m.length:=by unfold gM;cases !(dC s).2||(((dC s).1.1 !=3)||decide ((dC s).1.2.2.1<((dv q.2.2.2.1.1).1.length:Int)));all_goals grind[rr,nT]
theorem ajC (l:ax aE)(m:bK)(d:Int)(q:aW)(k:Bytes):(gy l m d q k).1.length=m.length:=by unfold gy;cases !FP q||(!q.2.2.2.2.1||((k.length:Int) !=16));all_goals grind[akz]
theorem agN (l:ax aE)(m:bK)(d:Int)(q:aW)(k:Bytes)(p:aH)(c:Bool):(iE l m d q k p c).1.length=m.length:=by unfold iE;cases !FP q||(!gI p||((k.length:Int) !=16));all_goals grind[ajC]
abbrev afi:Nat->ax Ho->aW->Vector->Bool->Prop:=λ_ C q _ b=>C=[]/\b=false/\q.2.2.2.2.1=false/\cw q.1=4
theorem aj9 (hm:fA m)(hk:k<=1)(u:lJ×Bool×Int)(hu:u.2.1=false){v:Vector}(h1:v.2.1<=3)(h2:v.2.2.2.2.1=false):QI (afi k) (tO (bM 38) m k).1 k ((tO (bM 38) m k).2.1,(mG k+64,4,0),(mG k+64,4,0),u) (tO (bM 38) m k).2.2.1 v false:=by
 obtain⟨_,⟨P,s⟩,_⟩:=UE hm hk u;have hl:P.length=4:=by have:=s.perm.length_eq;simpa[NV]using this
 have hr:=s.ring;simp only at hr;exact⟨0,0,P,[],[],s,h1,h2,λ_ e=>absurd rfl e,rfl,rfl,hu,by grind[pM,iM]⟩
structure NP (k:Nat) (h:Host):Prop where
 maps:h.2.1=bM 38
 mem:fA h.1
 tx:∃hd L,W3 h.1 h.2.2.1 hd L
 lens:h.2.2.2.1.length<=2/\h.2.2.2.2.1.length=h.2.2.2.1.length/\h.2.2.2.2.2.1.length=h.2.2.2.1.length/\h.2.2.2.2.2.2.1.length=h.2.2.2.1.length
 vec:∀v∈h.2.2.2.2.2.1,v.2.1<=3
 rx:∀j,j<k->agC (afi j) h j
theorem NP.new (r:NP h.2.2.2.1.length h):Live afi h:=⟨r.maps,r.mem,r.tx,λk hk=>r.rx k hk⟩
theorem NP.live (r:NP h.2.2.2.1.length h):Live F3 h:=r.new.zn λ_ _ _ _ _ _ _=>trivial
theorem JF {n:Int}(hn:n<=1000000000000)(g:Good n h)(f:Live Q h)(b:Int):Live F3 (gi h b).1:=by
 cases hb:dV b 1 1000 with
 |true=>have hb:=aS.1 hb;obtain⟨c,rfl⟩:=au (show 0<=b by omega);grind[Lz]
 |false=>unfold gi;rw[hb,iv];exact f.zn λ_ _ _ _ _ _ _=>trivial
abbrev UP (r:Nat):Nat->ax Ho->aW->Vector->Bool->Prop:=λ_ C q v b=>q.2.2.2.2.1=false/\(C≠[]->C.length+(bif b then 0 else(v.2.1-v.2.2.2.1).toNat)<=r)
abbrev ank (r:Nat):Nat->ax Ho->aW->Vector->Bool->Prop:=λ_ C q v b=>q.2.2.2.2.1=false/\(C≠[]->C.length<=r/\(b=false->v.2.2.2.2.2=false->C.length+(v.2.1-v.2.2.2.1).toNat+1<=r))
theorem aeZ {n:Int}(g:Good n h)(f:Live ak3 h):Live (UP 7) h:=by refine⟨f.maps,f.mem,f.tx,λk hk=>?_⟩;obtain⟨q,p,v,b,g1,g2,g3,g4,hd,x,P,C,F,s,w1,w2,w3,w4⟩:=f.rx k hk;have hv:=(CR v).1 (g.vec v (aX g3));have hc:=s.com.len;refine⟨q,p,v,b,g1,g2,g3,g4,hd,x,P,C,F,s,w1,w2,w3,w4,λ_=>?_⟩;grind
theorem abw {n:Int}(hn:n<=1000000000000)(g:Good n h){r c:Nat}(hc:1<=c/\c<=1000)(f:Live (UP r) h):Live (UP (r-1)) (gi (om h) (c:Int)).1:=by
 have t:Live (ank r) (om h):=by
  refine Ng hn g f λk C q v b hv w1 w2 w3 hA=>⟨hA.1,λhC=>?_⟩
  have ts:=OJ hv;have hr:=hA.2 hC;cases b with|true=>have hr:C.length+0<=r:=hr;exact⟨by omega,λe=>by cases e⟩|false=>have hr:C.length+(v.2.1-v.2.2.2.1).toNat<=r:=hr;refine⟨by omega,λ_ e=>?_⟩;rcases ts.2.2.2.2 (w3 rfl hC) w2 with g1|g1;rw[e]at g1;cases g1;rw[ts.2.1];omega
 refine Lz hn (Fp g) t hc λk C q v b q' v' b' hv w1 w2 w3 hq hA=>⟨λhb iq Uc=>⟨hq.trans hA.1,λhC=>?_⟩,λ_ _ _=>⟨hq.trans hA.1,λe=>absurd rfl e⟩,λ_ hl iq=>⟨hq.trans hA.1,λhC=>?_⟩⟩
 have:=(hA.2 hC).2 hb.1 hb.2;subst iq Uc;show C.length+(v'.2.1-v'.2.2.2.1).toNat<=r-1;omega;subst iq;have hC':C≠[]:=λe=>hC (by rw[e];simp);have:=(hA.2 hC').1;have:0<C.length:=List.length_pos_iff.2 hC';show(C.drop c).length+0<=r-1;rw[bA];omega
theorem Ek (b:Int){n:Int}(g:Good n h):∀k,Good n (vw b k h)
 |0=>g
 |k+1=>K3 (Fp (Ek b g k)) b
theorem Og {n:Int}(hn:n<=1000000000000)(g:Good n h){r c:Nat}(hc:1<=c/\c<=1000)(f:Live (UP r) h):∀k,Live (UP (r-k)) (vw (c:Int) k h)
 |0=>f
 |k+1=>by have i:=Og hn g hc f k;have:=abw hn (Ek (c:Int) g k) hc i;rw[show r-(k+1)=r-k-1 by omega];exact this
theorem adH (h:Host):(om h).2.2.1=h.2.2.1:=by unfold om;cases eU h with|false=>rfl|true=>exact(mD xi h _).tx
theorem RZ (h:Host)(b:Int):(gi h b).1.2.2.1=h.2.2.1:=by unfold gi;cases eU h&&dV b 1 1000 with|false=>rfl|true=>exact(xA b h _).tx
theorem XP (h:Host):(jh h).2.2.1=h.2.2.1:=by unfold jh;cases eU h with|false=>rfl|true=>exact(mD nH h _).tx
theorem UT (h:Host)(b:Int):∀k,(vw b k h).2.2.1=h.2.2.1
 |0=>rfl
 |k+1=>(RZ _ b).trans ((adH _).trans (UT h b k))
theorem Hy {n:Int}(hn:n<=300000000000)(g:Good n h)(f:Live Q h){c r:Nat}(hc:1<=c/\c<=1000)(hr:7<=r/\r<=200):Good (n+640) (ku h (c:Int) (r:Int))/\Live (UP 0) (ku h (c:Int) (r:Int))/\Nx (ku h (c:Int) (r:Int))=true:=by
 have gt:=EU g;obtain⟨ft,wt⟩:=EY (by omega) g f;have gf:=Ke (by omega) gt;have ff:=Kn (by omega) gt ft;have e:ku h (c:Int) (r:Int)=vw (c:Int) r (jh (dj h)):=by unfold ku;rw[g.ok (by omega),aS.2 ⟨by omega,by omega⟩,aS.2 ⟨by omega,by omega⟩];rfl
 have gd:=Ek (c:Int) gf r;have fd:=Og (by omega) gf hc (aeZ gf ff) r;have tx:=(UT (jh (dj h)) (c:Int) r).trans (XP _);rw[show 7-r=0 by omega]at fd;rw[e];refine⟨gd,fd,?_⟩;unfold Nx;rw[gd.ok (by omega),tx,wt];simp only[eO,bH];rw[ie,cA,bH,aO];intro q hq;obtain⟨k,hk⟩:=List.getElem?_of_mem hq;obtain⟨iA,_⟩:=aD.1 hk;have h2:=nt gd;obtain⟨q',p,v,b,g1,g2,g3,g4,hd,x,P,C,F,s,w1,w2,w3,w4,w5⟩:=fd.rx k iA;rw[hk]at g1;have g1:=bQ g1;subst g1;have hC:C=[]:=by simp_all
 subst hC;have nx:=Np fd.mem (b:=iM k+64) (by unfold iM;omega) s.com;have W6:Gb (vw (c:Int) r (jh (dj h))).2.1 (vw (c:Int) r (jh (dj h))).1 0 q=false:=by unfold Gb;rw[fd.maps,s.TM,nx,iv]
 rw[W6,w4];rfl
end
end Go.Pu
