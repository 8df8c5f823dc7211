import Derived.KernelRfl
import Derived.Test.YtbebkmajekhclaaGreatPure
import Derived.Test.YtbebkmajekhclaaGreatPuX2
namespace Go.Pu
open Go.Dn
open List (range)
open Int (tmod)
set_option linter.unusedSimpArgs false
set_option linter.unusedVariables false
noncomputable section
variable {cb v2:Bool} {s x:Bytes} {b2 c:de} {a:dZ} {h:Host} {d n v1 v9 z:Int} {b:bJ} {i k:Nat} {p:aJ} {q:cp} {g:fU} {st:df} {t:dU} {R α:Type} {v:Vector} {ms:aw bJ} {ps:aw Port} {l:aw aR} {f m:bN} {r:lB}
/- A host's service of its interrupts: the program's and the reference's results are one. -/
theorem adL (l:aw aE)(m:bN)(d:Int)(rx:cp)(pl:dj)(st:aw Stream)(c:Int):(kj l m d rx pl st c).1.length=m.length:=by unfold kj;cases !HQ rx||(!dI pl|| !cS c 0 1000)with|true=>rfl|false=>exact adm ..
def EE (b:Int)(k:Nat)(s:Int×Host):Int×Host:=
 match s.2.2.2.2.2.2.1[k]?,s.2.2.2.2.2.2.2.1[k]?,s.2.2.2.2.1[k]?,s.2.2.2.2.2.1[k]? with
 |some v,some p,some x,some pl=>
  bif p||(Fg v).2 then
   (ar (s.1+(kj s.2.2.1 s.2.1 0 x pl s.2.2.2.2.2.2.2.2.2.2.1 b).2.2.2.2),
    (kj s.2.2.1 s.2.1 0 x pl s.2.2.2.2.2.2.2.2.2.2.1 b).1,s.2.2.1,s.2.2.2.1,s.2.2.2.2.1.set k (kj s.2.2.1 s.2.1 0 x pl s.2.2.2.2.2.2.2.2.2.2.1 b).2.1,s.2.2.2.2.2.1.set k (kj s.2.2.1 s.2.1 0 x pl s.2.2.2.2.2.2.2.2.2.2.1 b).2.2.1,
    s.2.2.2.2.2.2.1.set k (bif decide ((kj s.2.2.1 s.2.1 0 x pl s.2.2.2.2.2.2.2.2.2.2.1 b).2.2.2.2<b) then KD (Fg v).1 else(Fg v).1),
    s.2.2.2.2.2.2.2.1.set k (!decide ((kj s.2.2.1 s.2.1 0 x pl s.2.2.2.2.2.2.2.2.2.2.1 b).2.2.2.2<b)),s.2.2.2.2.2.2.2.2.1,s.2.2.2.2.2.2.2.2.2.1,(kj s.2.2.1 s.2.1 0 x pl s.2.2.2.2.2.2.2.2.2.2.1 b).2.2.2.1,s.2.2.2.2.2.2.2.2.2.2.2)
  else(s.1,s.2.1,s.2.2.1,s.2.2.2.1,s.2.2.2.2.1,s.2.2.2.2.2.1,s.2.2.2.2.2.2.1.set k (Fg v).1,s.2.2.2.2.2.2.2.1.set k false,s.2.2.2.2.2.2.2.2)
 |_,_,_,_=>s
theorem YN (b:Int)(k:Nat)(s:Int×Host):lC (k+1) s.2 (EE b k s).2:=by unfold EE;rcases s.2.2.2.2.2.2.1[k]? with _|v;exact lC.refl _ _;rcases s.2.2.2.2.2.2.2.1[k]? with _|p;exact lC.refl _ _;rcases s.2.2.2.2.1[k]? with _|x;exact lC.refl _ _;rcases s.2.2.2.2.2.1[k]? with _|pl;exact lC.refl _ _;simp only;cases p||(Fg v).2 with|true=>exact⟨adL ..,rfl,rfl,aB ..,λj hj=>aP (by omega),aB ..,aB ..,λj hj=>aP (by omega),aB ..,rfl,rfl⟩|false=>exact⟨rfl,rfl,rfl,rfl,λ_ _=>rfl,rfl,aB ..,λj hj=>aP (by omega),aB ..,rfl,rfl⟩
theorem acw (b:Int)(k:Nat)(s:Int×Host){n:Nat}(hn:1000<=n)(z:dh n dk s.2):dh (n+322000) dk (EE b k s).2:=by have z':dh (n+322000) dk s.2:=z.mono;unfold EE;rcases s.2.2.2.2.2.2.1[k]? with _|v;exact z';rcases s.2.2.2.2.2.2.2.1[k]? with _|p;exact z';rcases h1:s.2.2.2.2.1[k]? with _|x;exact z';rcases h2:s.2.2.2.2.2.1[k]? with _|pl;exact z';simp only;cases p||(Fg v).2 with|true=>have hp:=SR (by omega) (l:=s.2.2.1) (d:=0) b z.1 (z.2.2.2.1.2 _ (aW h1)) (z.2.2.2.2.1.2 _ (aW h2)) z.2.2.2.2.2.2.2.2.2.1;exact⟨hp.1.mono,z'.2.1,z'.2.2.1,mZ z'.2.2.2.1 (hp.2.1.mono),mZ z'.2.2.2.2.1 hp.2.2.1,NT z'.2.2.2.2.2.1,mZ z'.2.2.2.2.2.2.1 trivial,z'.2.2.2.2.2.2.2.1,z'.2.2.2.2.2.2.2.2.1,hp.2.2.2.1,z'.2.2.2.2.2.2.2.2.2.2⟩|false=>exact⟨z'.1,z'.2.1,z'.2.2.1,z'.2.2.2.1,z'.2.2.2.2.1,NT z'.2.2.2.2.2.1,mZ z'.2.2.2.2.2.2.1 trivial,z'.2.2.2.2.2.2.2⟩
def tR (b:Int):Nat->Host->Int×Host
 |0,h=>(0,h)
 |k+1,h=>EE b k (tR b k h)
theorem Bv (b:Int)(h:Host):∀k,lC k h (tR b k h).2
 |0=>lC.refl 0 h
 |k+1=>((Bv b h k).up (by omega)).trans (YN b k _)
theorem IE (b:Int){n:Nat}(hn:1000<=n)(z:dh n dk h):∀k,dh (n+322000*k) dk (tR b k h).2
 |0=>z
 |k+1=>(acw b k _ (by omega) (IE b hn z k)).mono
def oG (h:Host)(b:Int):Host×Int:=bif dN h&&cS b 1 1000 then((tR b h.2.2.2.1.length h).2,(tR b h.2.2.2.1.length h).1) else(h,0)
theorem YO {n:Nat}(hn:1000<=n)(b:Int)(k:BB n h):BB (n+644000) (oG h b).1:=by unfold oG;cases hb:dN h&&cS b 1 1000 with|false=>exact k.mono|true=>simp only[ae]at hb;have hl:=nQ (by have:=hb.1;simp only[dN,ae]at this;exact this.2.2.2.2.1:nB h=true);refine⟨(IE b hn k.z _).mono,?_⟩;simp only[ah];rw[(Bv b h _).tx];exact bq k.t (by omega)
theorem XC (h:Host)(b:Int)(k:BB 400000000 h):sI h b=some (oG h b):=by
 have Df:=eo;unfold sI oG;rw[jI h (k.z.mono),ab,wx h (k.sz),ab,cl];cases hb:dN h;rfl;cases hi0:cS b 1 1000;rfl;have hl:=nQ (by simp only[dN,ae]at hb;exact hb.2.2.2.2.1:nB h=true);simp only[aj,af,ab,cG,ah];refine dC (λi=>((tR b i h).1,(i:Int),(tR b i h).2)) h.2.2.2.1.length (by omega) (λi nx hi=>?_) (λnx=>?_);have kk:=Bv b h i;have zz:dh 500000000 dk (tR b i h).2:=(IE b (by omega) k.z i).mono;have i1:i<(tR b i h).2.2.2.2.1.length:=by rw[kk.rx];exact hi
 have i2:i<(tR b i h).2.2.2.2.2.1.length:=by rw[kk.pl];omega
 have i3:i<(tR b i h).2.2.2.2.2.2.1.length:=by rw[kk.vec];omega
 have i4:i<(tR b i h).2.2.2.2.2.2.2.1.length:=by rw[kk.pol];omega
 rw[show tR b (i+1) h=EE b i (tR b i h) from rfl];generalize tR b i h=s at zz i1 i2 i3 i4⊢;have gp:∀(V:aw Vector)(P:aw Bool),kX (s.2.1,s.2.2.1,s.2.2.2.1,s.2.2.2.2.1,s.2.2.2.2.2.1,V,P,s.2.2.2.2.2.2.2.2) (i:Int) b=some ((kj s.2.2.1 s.2.1 0 s.2.2.2.2.1[i] s.2.2.2.2.2.1[i] s.2.2.2.2.2.2.2.2.2.2.1 b).2.2.2.2,(kj s.2.2.1 s.2.1 0 s.2.2.2.2.1[i] s.2.2.2.2.2.1[i] s.2.2.2.2.2.2.2.2.2.2.1 b).1,s.2.2.1,s.2.2.2.1,s.2.2.2.2.1.set i (kj s.2.2.1 s.2.1 0 s.2.2.2.2.1[i] s.2.2.2.2.2.1[i] s.2.2.2.2.2.2.2.2.2.2.1 b).2.1,s.2.2.2.2.2.1.set i (kj s.2.2.1 s.2.1 0 s.2.2.2.2.1[i] s.2.2.2.2.2.1[i] s.2.2.2.2.2.2.2.2.2.2.1 b).2.2.1,V,P,s.2.2.2.2.2.2.2.2.1,s.2.2.2.2.2.2.2.2.2.1,(kj s.2.2.1 s.2.1 0 s.2.2.2.2.1[i] s.2.2.2.2.2.1[i] s.2.2.2.2.2.2.2.2.2.2.1 b).2.2.2.1,s.2.2.2.2.2.2.2.2.2.2.2):=by intro V P;have GZ:s.2.2.2.2.2.1[i].2.2.2.length<=500000000:=(zz.2.2.2.2.1.2 _ (aI i2)).2.2.2.1;have hm:s.2.1.length<=500000000:=zz.1.1;have hp:s.2.2.1.length<=500000000:=zz.2.1.1;unfold kX;simp only[bj i1,bj i2,ab,Xz s.2.2.1 s.2.1 0 _ _ _ b (show s.2.2.1.length<=10^9 by omega) (show s.2.1.length<=10^9 by omega) GZ zz.2.2.2.2.2.2.2.2.2.1,ax]
 have FX:∀V:Vector,s.2.2.2.2.2.2.1.set i V=s.2.2.2.2.2.2.1.set i V:=λ_=>rfl;unfold EE;rw[ak i1,ak i2,ak i3,ak i4];simp only[nJ];rw[iU,ah];simp only[bj i3,bj i4,ab,aft,ax,gp];generalize Fg s.2.2.2.2.2.2.1[i]=w;generalize kj s.2.2.1 s.2.1 0 s.2.2.2.2.1[i] s.2.2.2.2.2.1[i] s.2.2.2.2.2.2.2.2.2.2.1 b=pr;have i5:∀V:Vector,i<(s.2.2.2.2.2.2.1.set i V).length:=λV=>by rw[aB];exact i3
 have i6:∀q:Bool,i<(s.2.2.2.2.2.2.2.1.set i q).length:=λq=>by rw[aB];exact i4
 have e5:∀V:Vector,idx (s.2.2.2.2.2.2.1.set i V) (i:Int)=some V:=λV=>by rw[bj (i5 V),List.getElem_set_self]
 have e6:∀q:Bool,idx (s.2.2.2.2.2.2.2.1.set i q) (i:Int)=some q:=λq=>by rw[bj (i6 q),List.getElem_set_self]
 rw[al (n:=(i:Int)+1)];have CM:s.2.2.2.2.2.2.2.1.set i (s.2.2.2.2.2.2.2.1[i])=s.2.2.2.2.2.2.2.1:=List.set_getElem_self ..;generalize hp:s.2.2.2.2.2.2.2.1[i]=p at CM⊢;cases hw:w.2 with
 |true=>simp only[iA,ah,e6,e5,ab,aj,af,Pf,List.set_set];cases decide (pr.2.2.2.2<b)<;>rfl
 |false=>
  simp only[Bool.or_false,af];cases p with
  |false=>rw[CM];rfl
  |true=>
   have e7:idx s.2.2.2.2.2.2.2.1 (i:Int)=some true:=by rw[bj i4,hp]
   simp only[ah,aj,af,e5,e7,ab,Pf,List.set_set];cases decide (pr.2.2.2.2<b)with|true=>rfl|false=>simp only[af,bw,CM];rfl
 simp only[nJ];rw[cz,af]
theorem Zp {n:Nat}(hn:1000<=n)(k:BB n h):BB n (xB h):=by have:=akC hn k.z;exact⟨this.1,by rw[this.2];exact k.t⟩
def txt (_:Int):Bytes:=[]
def IT:(t:CT)->t.D->Nat
 | .int _,_=>1
 | .bool,_=>1
 | .str,_=>1
 | .sl e,xs=>(xs.map (IT e)).sum
 | .pair a b,x=>IT a x.1+IT b x.2
def mkL (f:α->Int->α)(c:α->Nat):aw α->Int->aw α
 |[],_=>[]
 |x::xs,k=>f x k::mkL f c xs (k+c x)
def mk:(t:CT)->t.D->Int->t.D
 | .int _,_,k=>k
 | .bool,_,k=>tmod k 3==0
 | .str,_,k=>txt k
 | .sl e,xs,k=>mkL (mk e) (IT e) xs k
 | .pair a b,x,k=>(mk a x.1 k,mk b x.2 (k+IT a x.1))
structure NX (h:Host):Prop where
 pl:h.2.2.2.2.1.length<=2
 w:h.2.2.1.2.2.1.length<=16
theorem aaW (hb:dN h=true):NX h:=by have hl:=nQ (by have:=hb;simp only[dN,ae]at this;exact this.2.2.2.2.1:nB h=true);have ht:=IK (t:=h.2.2.1) (by simp only[dN,ae]at hb;exact hb.2.2.1);exact⟨by omega,ht⟩
theorem OC {a b:Host}(f:NX a)(h:lC k a b):NX b:=⟨by rw[h.pl];exact f.pl,by rw[h.tx];exact f.w⟩
theorem aic (f:NX h):NX (xB h):=by unfold xB;cases dN h with|false=>exact f|true=>exact OC f (oW Cm h _)
theorem aeK (f:NX h):NX (xP h):=by unfold xP;cases dN h with|false=>exact f|true=>exact OC f (oW zy h _)
theorem aeL (b:Int)(f:NX h):NX (oG h b).1:=by unfold oG;cases dN h&&cS b 1 1000 with|false=>exact f|true=>exact OC f (Bv b h _)
theorem Ui (f:NX h):NX (fW h):=by unfold fW;cases dN h with|false=>exact f|true=>refine⟨f.pl,?_⟩;simp only[ah];generalize (if(h.2.2.1.2.2.1.length:Int)<ar ((lU h.2.1 h.1 0 h.2.2.1.1).2.2.1+(lU h.2.1 h.1 0 h.2.2.1.1).2.2.2) then(h.2.2.1.2.2.1.length:Int) else ar ((lU h.2.1 h.1 0 h.2.2.1.1).2.2.1+(lU h.2.1 h.1 0 h.2.2.1.1).2.2.2))=q;unfold mu;cases M6 ((lU h.2.1 h.1 0 h.2.2.1.1).1,h.2.2.1.2)&&cS q 0 (h.2.2.1.2.2.1.length:Int)with|false=>exact f.w|true=>show(h.2.2.1.2.2.1.drop q.toNat).length<=16;rw[aL];have:=f.w;omega
def ahd (a:Act):ay Bool:=
 aa (aa (some (cS a.1 0 6)) λr1=>cond (!r1) (some true) (some (decide ((a.2.2.2.2.1.length:Int)>600)))) λq2=>
 cond q2 (some false) (
 aa (cond (a.1 !=0) (cond (!((a.2.1.1==0)&&((a.2.1.2.1==0)&&((a.2.1.2.2.1==0)&&((a.2.1.2.2.2.1==0)&&((a.2.1.2.2.2.2.1==0)&&((a.2.1.2.2.2.2.2.1==0)&&((a.2.1.2.2.2.2.2.2.1==0)&&((a.2.1.2.2.2.2.2.2.2.1==0)&&((a.2.1.2.2.2.2.2.2.2.2.1==0)&&((a.2.1.2.2.2.2.2.2.2.2.2.1==0)&&((a.2.1.2.2.2.2.2.2.2.2.2.2.1==0)&&((a.2.1.2.2.2.2.2.2.2.2.2.2.2.1==0)&&((a.2.1.2.2.2.2.2.2.2.2.2.2.2.2.1==0)&&((a.2.1.2.2.2.2.2.2.2.2.2.2.2.2.2.1==0)&&((a.2.1.2.2.2.2.2.2.2.2.2.2.2.2.2.2.1==0)&&((a.2.1.2.2.2.2.2.2.2.2.2.2.2.2.2.2.2==([]:Bytes))&&true))))))))))))))))) (some true) (cond (a.2.2.1 !=0) (some true) (some (a.2.2.2.1 !=0)))) (some false)) λq3=>
 cond q3 (some false) (
 aa (cond (a.1==2) (cond (a.1==5) (some true) (some (a.2.2.2.2.2==0))) (cond (a.2.2.2.2.1==([]:Bytes)) (cond (a.1==5) (some true) (some (a.2.2.2.2.2==0))) (some false))) λq4=>some q4))
theorem aep (a:Act):∃b,ahd a=some b:=by simp only[ahd,br,ab];exact⟨_,rfl⟩
def Hl (a:Act):Bool:=(ahd a).getD false
theorem akW (a:Act):ahd a=some (Hl a):=by obtain⟨b,hb⟩:=aep a;simp[Hl,hb]
theorem ads (a:Act):BT a=some (Hl a):=by rw[<-akW];unfold BT;rw[cl];rfl
theorem BB.tx {n:Nat}(k:BB n h)(hn:n<=10^9):akV h.2.2.1:=
 have z:dh 1000000000 dk h:=k.z.mono hn
 ⟨z.2.2.1.2.1.2.2.2.1,z.2.2.1.2.2.1.1,λx hx=>(z.2.2.1.2.2.1.2 x hx).2.2.1⟩
def Cd (h:Host)(p:aJ)(c z:Int):Host×Bool:=
 bif dN h then(((yd h.2.1 h.1 0 h.2.2.1 p c z).1,h.2.1,(yd h.2.1 h.1 0 h.2.2.1 p c z).2.1,h.2.2.2),(yd h.2.1 h.1 0 h.2.2.1 p c z).2.2) else(h,false)
theorem afk (h:Host)(p:aJ)(c z:Int)(k:BB 900000000 h):yD h p c z=some (Cd h p c z):=by have zz:dh 1000000000 dk h:=k.z.mono;unfold yD Cd;rw[jI h zz,ab,wx h (k.sz),ab];cases dN h;rfl;simp only[aj,af,ah,afl _ _ _ _ _ _ _ zz.2.1.1 zz.1.1 (k.tx (by omega)) zz.2.2.1.2.2.1.1 (bq k.t (by omega)),ab]
theorem RS {n:Nat}(hn:128<=n)(l:aw aE)(d:Int)(p:dj)(z:Nat):∀(q:bP)(s:Bytes)(m:bN)(a:aw hY){x},dh n (.sl .str) m->zx l d p z q s m a=some x->dh n (.sl .str) x.2
 |[],s,m,a,x,hm,h=>by cases h;exact hm
 |b::q,s,m,a,x,hm,h=>by rw[zx]at h;cases hq:(iM l m d (pX p b) (s.take z) false).2 with|false=>rw[hq]at h;cases h|true=>rw[hq]at h;exact RS hn l d p z q _ _ _ (Ge hn hm ..) h
theorem MB {n:Nat}(hn:128<=n)(l:aw aE)(d:Int):∀(q:bN)(m:bN)(r:lB){x},dh n (.sl .str) m->tc l d q m r=some x->dh n (.sl .str) x.1
 |[],m,r,x,hm,h=>by cases h;exact hm
 |s::q,m,r,x,hm,h=>by rw[tc]at h;cases hq:(di l m d r s).2.2 with|false=>rw[hq]at h;cases h|true=>rw[hq]at h;exact MB hn l d q _ _ (Kd hn hm ..) h
theorem Yw {n:Nat}(hn:128<=n){l:aw aE}{q:bN}(hm:dh n (.sl .str) m):dh n (.sl .str) (xf l m d r q).1:=by unfold xf;cases hx:tc l d q m r with|none=>exact hm|some x=>exact MB hn l d q m r hm hx
theorem agR (p:dj)(n:Int):(lg p n).1.2.2.2.length+(lg p n).2.1.length=p.2.2.2.length:=by unfold lg;cases dI p&&cS n 0 (p.2.2.2.length:Int)with|false=>rfl|true=>simp only[ah,aL,aV];omega
theorem aez (a:aw pa)(x:pa):(bA (a++[x])).length=(bA a).length+x.2.2.length:=by simp[bA]
theorem YM:∀l:aw pa,(∀x∈l,1<=x.2.1)->(l.length:Int)<=dL l
 |[],_=>by simp[dL]
 |y::l,h=>by have h1:=YM l (λx hx=>h x (eR _ hx));have h2:=h y (List.mem_cons_self ..);simp only[dL,da,fi,ba]at h1⊢;omega
structure amp (n:Nat) (m:List Bytes) (t:dU) (r:List Bytes×dU×Bool):Prop where
 mem:dh n (.sl .str) r.1
 tx:dh (n+1) mD r.2.1
 sum:r.2.1.2.1.2.2.2.length+(bA r.2.1.2.2.1).length<=n
 w:r.2.1.2.2.1.length<=16\/r.2.1.2.2.1=t.2.2.1
theorem S0 {n:Nat}(hn:128<=n){l:aw aE}{c:Int}(d:Int)(hm:dh n (.sl .str) m)(ht:dh n mD t)(hs:t.2.1.2.2.2.length+(bA t.2.2.1).length<=n):amp n m t (yd l m d t p c z):=by
 have old:amp n m t (m,t,false):=⟨hm,ht.mono,hs,Or.inr rfl⟩
 unfold yd;cases hg:M6 t&&(dJ p&&(cS z 1 t.2.1.2.1&&cS c 1 128));exact old;simp only[ae]at hg;simp only[ah];generalize BF p z.toNat=k;cases hk:L9 t k;exact old;simp only[ah];rcases hx:zx l d t.2.1 z.toNat (lg t.2.1 (k:Int)).2.1 (kS p).1 m []with _|x;exact old;simp only;unfold P7;have hpm:=Yw (n:=n) hn (l:=l) (d:=d) (q:=(rL x.1 c t.2.2.2).map Av) (r:=t.1) (RS hn l d t.2.1 z.toNat _ _ _ _ hm hx);generalize xf l x.2 d t.1 ((rL x.1 c t.2.2.2).map Av)=w at hpm⊢;cases w.2.2;exact old;have hl:=agR t.2.1 (k:Int);have hb:=aez t.2.2.1 (t.2.2.2,(k:Int)+1,(lg t.2.1 (k:Int)).2.1);have hb:(bA (t.2.2.1++[(t.2.2.2,(k:Int)+1,(lg t.2.1 (k:Int)).2.1)])).length=(bA t.2.2.1).length+(lg t.2.1 (k:Int)).2.1.length:=hb;refine⟨hpm,⟨⟨cy,cy,cy,cy⟩,⟨cy,cy,cy,?_,λ_ _=>trivial⟩,?_,cy⟩,?_,Or.inl ?_⟩;show(lg t.2.1 (k:Int)).1.2.2.2.length<=n+1;omega;exact DR (t:=kU) (k:=1) ht.2.2.1 (λy hy=>by rw[bF.1 hy];exact⟨cy,cy,by show(lg t.2.1 (k:Int)).2.1.length<=n;omega,λ_ _=>trivial⟩) (by simp);show(lg t.2.1 (k:Int)).1.2.2.2.length+(bA (t.2.2.1++[(t.2.2.2,(k:Int)+1,(lg t.2.1 (k:Int)).2.1)])).length<=n;omega;show(t.2.2.1++[_]).length<=16;have hq:=hg.1;simp only[M6,ae]at hq;have ZF:=md hq.1;have hc:=YM t.2.2.1 (λx hx=>by have:=aD.1 hq.2.2.2.1 x hx;simp only[jN,ae,aX]at this;omega);unfold L9 at hk;simp only[ae,aK,cY]at hk;rw[ai,bf];omega
theorem ajN {n:Nat}(hn:1000<=n)(p:aJ)(c z:Int)(k:BB n h):BB (n+1) (Cd h p c z).1:=by unfold Cd;cases dN h;exact k.mono;have zz:=k.z;have s:=S0 (by omega) (l:=h.2.1) (p:=p) (c:=c) (z:=z) 0 zz.1 zz.2.2.1 k.t;have z1:dh (n+1) dk h:=zz.mono;exact⟨⟨s.mem.mono,z1.2.1,s.tx,z1.2.2.2⟩,bq s.sum (by omega)⟩
theorem aib {n:Nat}(hn:1000<=n)(p:aJ)(c z:Int)(k:BB n h)(f:NX h):NX (Cd h p c z).1:=by unfold Cd;cases dN h;exact f;have s:=S0 (by omega) (l:=h.2.1) (p:=p) (c:=c) (z:=z) 0 k.z.1 k.z.2.2.1 k.t;refine⟨f.pl,?_⟩;rcases s.w with w|w;exact w;show(yd h.2.1 h.1 0 h.2.2.1 p c z).2.1.2.2.1.length<=16;rw[w];exact f.w
theorem Ww {n:Nat}(hn:1000<=n)(x:Bytes)(k:BB n h)(f:NX h):NX (lR h x):=by have:=Gg hn x k;exact⟨by rw[this.2.2];exact f.pl,by rw[this.2.1];exact f.w⟩
theorem MC (h:Host):∀k,(iO h k).2.2.1=h.2.2.1
 |0=>rfl
 |k+1=>by show(yc k (iO h k)).2.2.1=_;rw[<-MC h k];generalize iO h k=s;unfold yc;rcases h1:s.2.2.2.1[k]? with _|x;rfl;cases h2:s.2.2.2.2.2.1[k]? with|none=>rfl|some v=>rfl
theorem LM {n:Nat}(hn:1000<=n)(k:BB n h)(f:NX h):BB (n+645000) (tQ h)/\NX (tQ h):=by
 unfold tQ;cases hb:dN h;exact⟨k.mono,f⟩;have hl:=nQ (O0 hb);have e:=L7 hn k.z hl.1;have hw:=f.w;have hp:=Ey (n:=n) (by omega) k.z h.2.2.2.1.length;have ht:=(zO (n:=n+322000*h.2.2.2.1.length) (h:=h) hp.2 h.2.2.1.2.2.1.length).1.e;have h4:=pL 256 128 8;simp only[ah];have hx:=MC (sy h) h.2.2.2.1.length;have hk:=(yM (sy h) h.2.2.2.1.length).pl;have GZ:(sy h).2.2.2.2.1.length=h.2.2.2.2.1.length:=by show(returned h h.2.2.1.2.2.1.length).2.2.2.2.1.length=_;rw[ht];exact hp.1.pl
 refine⟨⟨(EC (by omega) e _).mono,?_⟩,?_,?_⟩;rw[hx];show(iz 256 128 8).1.2.2.2.length+0<=_;omega;rw[hk,GZ];exact f.pl;rw[hx];show 0<=16;omega
def aid (f:kG):aw Stream->Int->Int
 |[],_=> -1
 |s::r,i=>if s.1=f then i else aid f r (i+1)
def ahf (a b:aw Stream)(f:kG):Bool:=
 match idx a (aid f a 0),idx b (aid f b 0)with
 |some x,some y=>decide (x=y)
 |_,_=>false
def av1 (b:Bool):Int:=bif b then 1 else 0
def I1 (h:Host)(a:Act):Host×Int:=
 bif !dN h|| !Hl a then(h, -1) else
 bif a.1==0 then((Cd h a.2.1 a.2.2.1 a.2.2.2.1).1,av1 (Cd h a.2.1 a.2.2.1 a.2.2.2.1).2) else
 bif a.1==1 then(fW h,0) else
 bif a.1==2 then(lR h a.2.2.2.2.1,0) else
 bif a.1==3 then(xP h,0) else
 bif a.1==4 then(xB h,0) else
 bif a.1==5 then oG h a.2.2.2.2.2 else(tQ h,0)
theorem afa (h:Host)(a:Act)(k:BB 90000000 h)(hx:a.2.2.2.2.1.length<=10^9):En h a=some (I1 h a):=by
 have z:dh 1000000000 dk h:=k.z.mono;unfold En I1;rw[wx h (k.sz),ab,ads,ab];cases dN h;simp only[bw,ah,iB,ab,jI h z];cases Hl a;simp only[aj,bw,ah,af,iA,ab,jI h z];simp only[aj,af,cB,ab,afk h _ _ _ (k.mono),JP h (k.mono),JK h _ (k.mono) hx,abn h (k.mono),XF h (k.sz) z,XC h _ (k.mono),HG h (k.sz) (k.z.mono)];cases a.1==0;case true=>(simp only[ah];cases (Cd h a.2.1 a.2.2.1 a.2.2.2.1).2<;>rfl)
 cases a.1==1;case true=>rfl
 cases a.1==2;case true=>rfl
 cases a.1==3;case true=>rfl
 cases a.1==4;case true=>rfl
 cases a.1==5<;>rfl
theorem akX {n:Nat}(hn:1000<=n)(a:Act)(k:BB n h)(f:dN h=true\/NX h):BB (n+645000) (I1 h a).1/\(dN h=true\/NX h->NX (I1 h a).1\/(I1 h a).1=h):=by
 have f:NX h:=f.elim aaW id;unfold I1;cases !dN h|| !Hl a;case true=>exact⟨k.mono,λ_=>Or.inr rfl⟩
 simp only[af];cases a.1==0;case true=>exact⟨(ajN hn _ _ _ k).mono,λ_=>Or.inl (aib hn _ _ _ k f)⟩
 cases a.1==1;case true=>exact⟨(ET (by omega) k).mono,λ_=>Or.inl (Ui f)⟩
 cases a.1==2;case true=>exact⟨(Gg hn _ k).1.mono,λ_=>Or.inl (Ww hn _ k f)⟩
 cases a.1==3;case true=>exact⟨(aeR hn k).mono,λ_=>Or.inl (aeK f)⟩
 cases a.1==4;case true=>exact⟨(Zp hn k).mono,λ_=>Or.inl (aic f)⟩
 cases a.1==5 with|true=>exact⟨(YO hn _ k).mono,λ_=>Or.inl (aeL _ f)⟩|false=>exact⟨(LM hn k f).1,λ_=>Or.inl (LM hn k f).2⟩
theorem ahe {n:Nat}(hn:1000<=n)(a:Act)(k:BB n h)(f:NX h):BB (n+645000) (I1 h a).1/\NX (I1 h a).1:=by have g:=akX hn a k (Or.inr f);refine⟨g.1,?_⟩;rcases g.2 (Or.inr f)with h1|h1;exact h1;rw[h1];exact f
theorem abT (h:cV m=true)(a:Int)(s:Bytes):cV (pU m a s).1=true:=by unfold pU;cases hw:gM m a (s.length:Int);exact h;simp only[gM,ae,aF]at hw;exact qI.2 (Bm s.length (qI.1 hw.1) (by omega)).1
theorem X9:∀(q:aw (Int×Int)){m:bN}(s:Bytes),cV m=true->cV (LG q m s)=true
 |[],_,_,h=>h
 |p::q,m,s,h=>by rw[LG];exact X9 q _ (abT h _ _)
theorem F9 (h:cV m=true)(l:aw aE)(d a:Int)(s:Bytes)(w:Bool):cV (iM l m d a s w).1=true:=by unfold iM;cases (kZ l m d a (s.length:Int) w).2 with|false=>exact h|true=>exact X9 _ _ h
theorem Mr (h:cV m=true)(l:aw aE)(d:Int)(r:lB)(s:Bytes):cV (di l m d r s).1=true:=by
 unfold di;cases (pZ r==0)||((s.length:Int) !=16);case true=>exact h
 cases (iM l m d (ql r r.2.2.2) s true).2 with|false=>exact h|true=>exact F9 h ..
theorem Gi {b x y:Int}(hb:0<=b/\b<=130944:=by omega)(hn:n=2\/n=4\/n=8\/n=16:=by omega)(hx:0<=x/\x<=2*n-1:=by omega)(hy:0<=y/\y<=2*n-1:=by omega)(hu:(y-x)%(2*n)<=n:=by omega):dx (b,n,x,y)=true:=by have hs:jy n=true:=gV.2 hn;simp only[dx,bR,hs,aX.2 hb,aX.2 hx,aX.2 hy,cg,bl,aF];exact hu
theorem Ha (h:dx r=true):bR r=(r.2.2.2-r.2.2.1)%(2*r.2.1)/\0<=bR r/\bR r<=r.2.1:=by
 have k:=md h;have e:bR r=(r.2.2.2-r.2.2.1)%(2*r.2.1):=by unfold bR;rw[aH (gV.2 k.2.2.1)]
 simp only[dx,ae,aF]at h;exact⟨e,by rw[e];exact fC _ (by omega),h.2.2.2.2⟩
theorem LY {x:Int}(hn:0<n:=by omega)(hx:0<=x/\x<=n-1:=by omega):tmod (x+1) n=if x+1=n then 0 else x+1:=by rw[dG (by omega)];split;rename_i h;rw[h];exact Int.emod_self;exact Int.emod_eq_of_lt (by omega) (by omega)
theorem agm (h:dx r=true)(hf:bR r<r.2.1):dx (r.1,r.2.1,r.2.2.1,tmod (r.2.2.2+1) (2*r.2.1))=true/\bR (r.1,r.2.1,r.2.2.1,tmod (r.2.2.2+1) (2*r.2.1))=bR r+1:=by
 have k:=md h;have u:=Ha h;have e:=LY (x:=r.2.2.2) (n:=2*r.2.1);have u2:(tmod (r.2.2.2+1) (2*r.2.1)-r.2.2.1)%(2*r.2.1)=bR r+1:=by
  have h1:(tmod (r.2.2.2+1) (2*r.2.1)-r.2.2.1)%(2*r.2.1)=(r.2.2.2+1-r.2.2.1)%(2*r.2.1):=by rw[e];split;rename_i hh;rw[<-hh,show(r.2.2.2+1-r.2.2.1)=(0-r.2.2.1)+(r.2.2.2+1) by omega,Int.add_emod_right];rfl
  rw[h1,show r.2.2.2+1-r.2.2.1=(r.2.2.2-r.2.2.1)+1 by omega];have h0:=u.1;generalize r.2.2.2-r.2.2.1=d at h0⊢;rw[Int.add_emod,<-h0,Int.emod_eq_of_lt (a:=1) (by omega) (by omega),Int.emod_eq_of_lt (by omega) (by omega)]
 refine⟨Gi ⟨k.1,k.2.1⟩ k.2.2.1 ⟨k.2.2.2.1,k.2.2.2.2.1⟩ (by rw[e];split<;>omega) (by rw[u2];omega),?_⟩;unfold bR;rw[aH (gV.2 k.2.2.1)];exact u2
theorem ajE (h:dx r=true)(hf:bR r≠0):dx (r.1,r.2.1,tmod (r.2.2.1+1) (2*r.2.1),r.2.2.2)=true/\bR (r.1,r.2.1,tmod (r.2.2.1+1) (2*r.2.1),r.2.2.2)=bR r-1:=by
 have k:=md h;have u:=Ha h;have e:=LY (x:=r.2.2.1) (n:=2*r.2.1);have u2:(r.2.2.2-tmod (r.2.2.1+1) (2*r.2.1))%(2*r.2.1)=bR r-1:=by
  have h1:(r.2.2.2-tmod (r.2.2.1+1) (2*r.2.1))%(2*r.2.1)=(r.2.2.2-(r.2.2.1+1))%(2*r.2.1):=by rw[e];split;rename_i hh;rw[<-hh,show(r.2.2.2-0)=(r.2.2.2-(r.2.2.1+1))+(r.2.2.1+1) by omega,Int.add_emod_right];rfl
  rw[h1,show r.2.2.2-(r.2.2.1+1)=(r.2.2.2-r.2.2.1)-1 by omega];have h0:=u.1;generalize r.2.2.2-r.2.2.1=d at h0⊢;rw[Int.sub_emod,<-h0,Int.emod_eq_of_lt (a:=1) (by omega) (by omega),Int.emod_eq_of_lt (by omega) (by omega)]
 refine⟨Gi ⟨k.1,k.2.1⟩ k.2.2.1 (by rw[e];split<;>omega) ⟨k.2.2.2.2.2.1,k.2.2.2.2.2.2⟩ (by rw[u2];omega),?_⟩;unfold bR;rw[aH (gV.2 k.2.2.1)];exact u2
theorem aeU (h:dx r=true):pZ r=r.2.1-bR r:=by have k:=md h;have u:=Ha h;unfold pZ;rw[h,ah,al]
theorem YF (h:dx r=true)(l:aw aE)(m:bN)(d:Int)(s:Bytes):dx (di l m d r s).2.1=true/\(di l m d r s).2.1.2.1=r.2.1:=by
 unfold di;cases hc:(pZ r==0)||((s.length:Int) !=16);case true=>exact⟨h,rfl⟩
 cases (iM l m d (ql r r.2.2.2) s true).2 with
 |false=>exact⟨h,rfl⟩
 |true=>
  simp only[cu]at hc;have h1:pZ r≠0:=by simpa using hc.1
  rw[aeU h]at h1;have u:=Ha h;exact⟨(agm h (by omega)).1,rfl⟩
theorem SV (h:dx r=true)(l:aw aE)(m:bN)(d:Int):dx (bB l m d r).2.1=true/\(bB l m d r).2.1.2.1=r.2.1:=by
 unfold bB;cases hc: !dx r||(bR r==0);case true=>exact⟨h,rfl⟩
 cases (tM l m d (ql r r.2.2.1) 16).2 with|false=>exact⟨h,rfl⟩|true=>simp only[cu]at hc;exact⟨(ajE h (by simpa using hc.2)).1,rfl⟩
theorem aik {l:bP}:(range l.length).all (FL n l)=true↔(∀x∈l,0<=x/\x<=n-1)/\l.Nodup:=by
 rw[aD];constructor;intro h;have k:∀i (hi:i<l.length),(0<=l[i]/\l[i]<=n-1)/\l[i]∉l.take i:=by intro i hi;have:=h i (bD.2 hi);unfold FL at this;rw[cH hi,ae,aX]at this;exact⟨this.1,by simpa using this.2⟩
 refine⟨λx hx=>?_,?_⟩;obtain⟨i,hi,rfl⟩:=List.getElem_of_mem hx;exact(k i hi).1;rw[List.Nodup,List.pairwise_iff_getElem];intro i j hi hj hij he;refine(k j hj).2 ?_;rw[<-he];exact List.mem_take_iff_getElem.2 ⟨i,by omega,rfl⟩;rintro⟨h1,h2⟩ i hi;have hi:=bD.1 hi;unfold FL;rw[cH hi,ae,aX];refine⟨h1 _ (aI hi),?_⟩;have:l[i]∉l.take i:=by intro hm;obtain⟨j,hj,he⟩:=List.mem_take_iff_getElem.1 hm;rw[List.Nodup,List.pairwise_iff_getElem]at h2;exact h2 j i (by omega) hi (by omega) he
 simpa using this
theorem DZ {p:dj}:dI p=true↔(0<=p.1/\p.1<=130944)/\(1<=p.2.1/\p.2.1<=512)/\(0<=p.2.2.1/\p.2.2.1<=16)/\(∀x∈p.2.2.2,0<=x/\x<=p.2.2.1-1)/\p.2.2.2.Nodup:=by unfold dI;simp only[ae,aX,aik]
theorem Gd {p:dj}(h:dI p=true){l:bP}(hl:l.Sublist p.2.2.2):dI (p.1,p.2.1,p.2.2.1,l)=true:=by have k:=DZ.1 h;exact DZ.2 ⟨k.1,k.2.1,k.2.2.1,λx hx=>k.2.2.2.1 x (hl.subset hx),k.2.2.2.2.sublist hl⟩
theorem agc {p:dj}(h:dI p=true)(l:bP):dI (FN p l).1=true:=by unfold FN;cases hg:Ao p l with|false=>exact h|true=>unfold Ao at hg;simp only[ae]at hg;exact hg.2
theorem Kj {s:pa}:jN n s=true↔(1<=s.2.1/\s.2.1<=n)/\0<=s.1/\s.1<=65535:=by unfold jN;simp only[ae,aX]
structure I0 (t:dU):Prop where
 ring:dx t.1=true
 next:0<=t.2.2.2/\t.2.2.2<=65535
 sent:∀x∈t.2.2.1,(1<=x.2.1/\x.2.1<=t.1.2.1)/\0<=x.1/\x.1<=65535
 pool:dI (hG t.2.1 (bA t.2.2.1))=true
 IT:dL t.2.2.1<=t.1.2.1
theorem I0.free (h:I0 t):dI t.2.1=true:=Gd h.pool (List.sublist_append_left _ _)
theorem apo:M6 t=true↔I0 t:=by constructor;intro h;unfold M6 at h;simp only[ae,aX,aD,Kj,aF]at h;obtain⟨h1,h2,h3,h4,h5,h6⟩:=h;unfold Ao at h5;simp only[ae]at h5;exact⟨h1,h3,h4,h5.2,h6⟩;·intro h;unfold M6 Ao;simp only[ae,aX,aD,Kj,aF];exact⟨h.ring,h.free,h.next,h.sent,⟨h.free,h.pool⟩,h.IT⟩
theorem L2 (a b:aw pa):bA (a++b)=bA a++bA b:=by simp[bA]
theorem RG (a b:aw pa):dL (a++b)=dL a+dL b:=by simp[dL]
theorem R3:∀(l:aw pa)(p:dj),dI (hG p (bA l))=true->rN p l=hG p (bA l)
 |[],p,_=>by simp[rN,bA,hG]
 |x::l,p,h=>by
  have e:bA (x::l)=x.2.2++bA l:=by simp[bA]
  rw[e]at h;have h1:dI (hG p x.2.2)=true:=Gd (p:=hG p (x.2.2++bA l)) h (by show(p.2.2.2++x.2.2).Sublist (p.2.2.2++(x.2.2++bA l));rw[<-aY];exact List.sublist_append_left _ _);have h0:dI p=true:=Gd (p:=hG p x.2.2) h1 (List.sublist_append_left _ _);have hg:(FN p x.2.2).1=hG p x.2.2:=by unfold FN Ao;rw[h0,h1];rfl
  have ea:hG (hG p x.2.2) (bA l)=hG p (x.2.2++bA l):=by simp[hG]
  rw[rN,hg,R3 l _ (by rw[ea];exact h),ea,e]
theorem ame (h:I0 t)(hr:dx r=true)(hn:r.2.1=t.1.2.1):I0 (r,t.2):=
 ⟨hr,h.next,λx hx=>by show(1<=x.2.1/\x.2.1<=r.2.1)/\_;rw[hn];exact h.sent x hx,h.pool,by show dL t.2.2.1<=r.2.1;rw[hn];exact h.IT⟩
theorem Zs (h:I0 t)(n:Int):I0 (mu t n).1:=by
 unfold mu;cases hc:M6 t&&cS n 0 (t.2.2.1.length:Int);exact h;simp only[ae,aX]at hc;have hs:t.2.2.1.take n.toNat++t.2.2.1.drop n.toNat=t.2.2.1:=cE _ _;have hb:bA t.2.2.1=bA (t.2.2.1.take n.toNat)++bA (t.2.2.1.drop n.toNat):=by rw[<-L2,hs]
 have hp:dI (hG t.2.1 (bA (t.2.2.1.take n.toNat)))=true:=Gd (p:=hG t.2.1 (bA t.2.2.1)) h.pool (by show(t.2.1.2.2.2++_).Sublist (t.2.1.2.2.2++_);rw[hb];exact(List.sublist_append_left _ _).append_left _);have hg:=R3 _ _ hp;refine⟨h.ring,h.next,λx hx=>h.sent x (List.mem_of_mem_drop hx),?_,?_⟩;show dI (hG (rN t.2.1 (t.2.2.1.take n.toNat)) (bA (t.2.2.1.drop n.toNat)))=true;rw[hg,show hG (hG t.2.1 (bA (t.2.2.1.take n.toNat))) (bA (t.2.2.1.drop n.toNat))=hG t.2.1 (bA t.2.2.1) by rw[hb];simp[hG]];exact h.pool;show dL (t.2.2.1.drop n.toNat)<=t.1.2.1;have h1:dL t.2.2.1=dL (t.2.2.1.take n.toNat)+dL (t.2.2.1.drop n.toNat):=by rw[<-RG,hs]
 have h2:0<=dL (t.2.2.1.take n.toNat):=Au t.1.2.1 _ (by rw[aD];exact λx hx=>Kj.2 (h.sent x (List.mem_of_mem_take hx)));have:=h.IT;omega
theorem Of (l:aw aE)(m:bN)(d:Int):∀(n:Nat)(acc:aw GG)(r:lB),dx r=true->dx (wg l m d n acc r).2.1=true/\(wg l m d n acc r).2.1.2.1=r.2.1
 |0,acc,r,h=>⟨h,rfl⟩
 |n+1,acc,r,h=>by have k:=md h;have ht:=SV h l m d;rw[wg];cases !(bB l m d r).2.2|| !(dw (bB l m d r).1).2 with|true=>exact⟨Gi ⟨k.1,k.2.1⟩ k.2.2.1 ⟨k.2.2.2.2.2.1,k.2.2.2.2.2.2⟩ ⟨k.2.2.2.2.2.1,k.2.2.2.2.2.2⟩ (by rw[Int.sub_self,Int.zero_emod];omega),rfl⟩|false=>cases aaT (dw (bB l m d r).1).1 with|true=>exact ht|false=>have:=Of l m d n (acc++[(dw (bB l m d r).1).1]) _ ht.1;exact⟨this.1,this.2.trans ht.2⟩
theorem aad (h:dx r=true)(l:aw aE)(m:bN)(d:Int):dx (dF l m d r).2.1=true/\(dF l m d r).2.1.2.1=r.2.1:=by unfold dF;cases !dx r||(bR r==0)with|true=>exact⟨h,rfl⟩|false=>exact Of l m d _ _ _ h
theorem Yk (h:dx r=true)(l:aw aE)(m:bN)(d:Int):dx (jq l m d r).1=true/\(jq l m d r).1.2.1=r.2.1:=by
 have hc:=aad h l m d;unfold jq;cases !dx r||(bR r==0);case true=>exact⟨h,rfl⟩
 cases !(dF l m d r).2.2|| !(gk (dF l m d r).1).2.2.2;case true=>exact hc
 cases !(nG l m d (gk (dF l m d r).1).1).2||(!(Am (nG l m d (gk (dF l m d r).1).1).1).2||((kl (Am (nG l m d (gk (dF l m d r).1).1).1).1).2 !=0))with|true=>exact hc|false=>exact hc
theorem Gz (l:aw aE)(m:bN)(d:Int):∀(n:Nat)(fr:bN)(dn bd:Nat)(r:lB),dx r=true->dx (qR l m d n fr dn bd r).1=true/\(qR l m d n fr dn bd r).1.2.1=r.2.1
 |0,fr,dn,bd,r,h=>⟨h,rfl⟩
 |n+1,fr,dn,bd,r,h=>by
  have k:=Yk h l m d;rw[qR];cases (jq l m d r).2.2==0;case true=>exact⟨h,rfl⟩
  cases (jq l m d r).2.2==1 with|true=>have:=Gz l m d n (fr++(jq l m d r).2.1) (dn+1) bd _ k.1;exact⟨this.1,this.2.trans k.2⟩|false=>have:=Gz l m d n (fr++(jq l m d r).2.1) dn (bd+1) _ k.1;exact⟨this.1,this.2.trans k.2⟩
theorem Kc (l:aw aE)(d:Int):∀(q:bN)(m:bN)(r:lB){x},tc l d q m r=some x->(dx r=true->dx x.2=true/\x.2.2.1=r.2.1)/\(cV m=true->cV x.1=true)
 |[],m,r,x,h=>by cases h;exact⟨λh=>⟨h,rfl⟩,λh=>h⟩
 |s::q,m,r,x,h=>by rw[tc]at h;cases hq:(di l m d r s).2.2 with|false=>rw[hq]at h;cases h|true=>rw[hq]at h;have k:=Kc l d q _ _ h;refine⟨λhr=>?_,λhm=>k.2 (Mr hm ..)⟩;have hp:=YF hr l m d s;have:=k.1 hp.1;exact⟨this.1,this.2.trans hp.2⟩
theorem SB (l:aw aE)(d:Int)(p:dj)(z:Nat):∀(q:bP)(s:Bytes)(m:bN)(a:aw hY){x},zx l d p z q s m a=some x->cV m=true->cV x.2=true
 |[],s,m,a,x,h,hm=>by cases h;exact hm
 |b::q,s,m,a,x,h,hm=>by rw[zx]at h;cases hq:(iM l m d (pX p b) (s.take z) false).2 with|false=>rw[hq]at h;cases h|true=>rw[hq]at h;exact SB l d p z q _ _ _ h (F9 hm ..)
theorem agd {p:dj}(h:dI p=true){l:bP}(hl:l.Perm p.2.2.2):dI (p.1,p.2.1,p.2.2.1,l)=true:=by have k:=DZ.1 h;exact DZ.2 ⟨k.1,k.2.1,k.2.2.1,λx hx=>k.2.2.2.1 x (hl.mem_iff.1 hx),hl.nodup_iff.2 k.2.2.2.2⟩
theorem agw (h:I0 t)(hm:cV m=true)(l:aw aE)(d c:Int){n:Nat}(hf:L9 t n=true)(x:aw hY×bN)(hx:cV x.2=true):cV (P7 l m d t c n x).1=true/\I0 (P7 l m d t c n x).2.1:=by
 unfold P7 xf;cases hp:tc l d ((rL x.1 c t.2.2.2).map Av) x.2 t.1 with
 |none=>exact⟨hm,h⟩
 |some y=>
  have k:=Kc l d _ _ _ hp;have kr:=k.1 h.ring;refine⟨k.2 hx,?_⟩;unfold L9 at hf;simp only[ae,aK,cY]at hf;have ht:lg t.2.1 (n:Int)=((t.2.1.1,t.2.1.2.1,t.2.1.2.2.1,t.2.1.2.2.2.drop n),t.2.1.2.2.2.take n,true):=by have h1:=hf.1;unfold lg at h1⊢;cases hc:dI t.2.1&&cS (n:Int) 0 (t.2.1.2.2.2.length:Int)with|false=>rw[hc]at h1;cases h1|true=>simp only[ah,ax]
  have h0:0<=dL t.2.2.1:=Au t.1.2.1 _ (by rw[aD];exact λx hx=>Kj.2 (h.sent x hx));show I0 (y.2,(lg t.2.1 (n:Int)).1,t.2.2.1++[(t.2.2.2,(n:Int)+1,(lg t.2.1 (n:Int)).2.1)],tmod (t.2.2.2+1) 65536);rw[ht];have hn:=h.next
  refine⟨kr.1,?_,?_,?_,?_⟩;have:=LY (x:=t.2.2.2) (n:=65536);show 0<=tmod (t.2.2.2+1) 65536/\tmod (t.2.2.2+1) 65536<=65535;rw[this];split<;>omega;intro s hs;show(1<=s.2.1/\s.2.1<=y.2.2.1)/\0<=s.1/\s.1<=65535;rw[kr.2];rcases az.1 hs with hs|hs;exact h.sent s hs;rw[bF.1 hs];show(1<=(n:Int)+1/\(n:Int)+1<=t.1.2.1)/\0<=t.2.2.2/\t.2.2.2<=65535;omega;refine agd (p:=hG t.2.1 (bA t.2.2.1)) h.pool ?_;show(t.2.1.2.2.2.drop n++bA (t.2.2.1++[_])).Perm (t.2.1.2.2.2++bA t.2.2.1);rw[L2,show bA [(t.2.2.2,(n:Int)+1,t.2.1.2.2.2.take n)]=t.2.1.2.2.2.take n by simp[bA]];refine(List.perm_append_comm_assoc _ _ _).trans ?_;refine(List.perm_append_comm).trans ?_;exact((List.perm_append_comm.trans (by rw[cE])).append_right _);show dL (t.2.2.1++[_])<=y.2.2.1;rw[RG,kr.2,show dL [(t.2.2.2,(n:Int)+1,t.2.1.2.2.2.take n)]=(n:Int)+1 by simp[dL]];omega
theorem agv (h:I0 t)(hm:cV m=true)(l:aw aE)(d:Int)(p:aJ)(c z:Int):cV (yd l m d t p c z).1=true/\I0 (yd l m d t p c z).2.1:=by unfold yd;cases M6 t&&(dJ p&&(cS z 1 t.2.1.2.1&&cS c 1 128));exact⟨hm,h⟩;cases hf:L9 t (BF p z.toNat);exact⟨hm,h⟩;simp only[ah];cases hw:zx l d t.2.1 z.toNat (lg t.2.1 (BF p z.toNat:Int)).2.1 (kS p).1 m []with|none=>exact⟨hm,h⟩|some x=>exact agw h hm l d c hf x (SB l d _ _ _ _ _ _ hw hm)
theorem YK {a b s k f w:Int}(h1:0<=a/\a<=65535)(h2:0<=b/\b<=65535)(h3:0<=s/\s<=4294967295)(h4:0<=k/\k<=4294967295)(h5:0<=f/\f<=31)(h6:0<=w/\w<=65535)(hx:x.length<=320):uA (6,a,b,s,k,f,w,x)=true:=by have Cp:decide ((x.length:Int)>320)=false:=cz;simp only[uA,aX.2 h1,aX.2 h2,aX.2 h3,aX.2 h4,aX.2 h5,aX.2 h6,Cp];rfl
theorem ajJ {a b:Int}(h1:0<=a/\a<=65535)(h2:0<=b/\b<=65535)(hx:x.length<=320):uA (17,a,b,0,0,0,0,x)=true:=by have Cp:decide ((x.length:Int)>320)=false:=cz;simp only[uA,aX.2 h1,aX.2 h2,Cp];rfl
theorem ags (h:uA g=true)(hx:x.length<=320):uA (g.1,g.2.1,g.2.2.1,g.2.2.2.1,g.2.2.2.2.1,g.2.2.2.2.2.1,g.2.2.2.2.2.2.1,x)=true:=by have e:decide ((x.length:Int)>320)=false:=cz;unfold uA at h⊢;simp only[ae]at h⊢;exact⟨h.1,h.2.1,by rw[e];rfl,h.2.2.2⟩
theorem ais {a b v t i l s:Int}(h1:0<=a/\a<=281474976710655)(h2:0<=b/\b<=281474976710655)(h3: -1<=v/\v<=4095)(h4:0<=t/\t<=255)(h5:0<=i/\i<=65535)(h6:0<=l/\l<=255)(h7:0<=s/\s<=4294967295)(h8:0<=d/\d<=4294967295)(hg:uA g=true):qW (a,b,v,t,i,l,s,d,g)=true:=by simp only[qW,aX.2 h1,aX.2 h2,aX.2 h3,aX.2 h4,aX.2 h5,aX.2 h6,aX.2 h7,aX.2 h8,hg];rfl
theorem Yl (p:aJ):eJ p=true↔qW p=true/\p.2.2.2.2.2.2.2.2.2.2.2.2.2.2.2.length<=128:=by unfold eJ dJ;rw[ae,ae,cQ,aF];constructor;rintro⟨⟨h1,_⟩,h2⟩;exact⟨h1,by omega⟩;rintro⟨h1,h2⟩;exact⟨⟨h1,Or.inl (by omega)⟩,by omega⟩
theorem adT (h:uA g=true)(h6:g.1=6):(0<=g.2.1/\g.2.1<=65535)/\(0<=g.2.2.1/\g.2.2.1<=65535)/\(0<=g.2.2.2.1/\g.2.2.2.1<=4294967295)/\(0<=g.2.2.2.2.1/\g.2.2.2.2.1<=4294967295)/\(0<=g.2.2.2.2.2.1/\g.2.2.2.2.2.1<=31)/\(0<=g.2.2.2.2.2.2.1/\g.2.2.2.2.2.2.1<=65535)/\g.2.2.2.2.2.2.2.length<=320:=by have hl:=Gl h;unfold uA at h;rw[h6]at h;simp only[ae,aX,show((6:Int)==17)=false from rfl,af]at h;exact⟨h.1,h.2.1,h.2.2.2.2.1,h.2.2.2.2.2.1,h.2.2.2.2.2.2.1,h.2.2.2.2.2.2.2,hl⟩
theorem P4 (h:uA g=true)(h6:g.1=6){s f:Int}(hs:0<=s/\s<=4294967295)(hf:0<=f/\f<=31)(hx:x.length<=320):uA (g.1,g.2.1,g.2.2.1,s,g.2.2.2.2.1,f,g.2.2.2.2.2.2.1,x)=true:=by have k:=adT h h6;rw[h6];exact YK k.1 k.2.1 hs k.2.2.2.1 hf k.2.2.2.2.2.1 hx
theorem DF (h:qW p=true){i:Int}(hi:0<=i/\i<=65535)(hg:uA g=true):qW (p.1,p.2.1,p.2.2.1,p.2.2.2.1,i,p.2.2.2.2.2.1,p.2.2.2.2.2.2.1,p.2.2.2.2.2.2.2.1,g)=true:=by unfold qW at h⊢;simp only[ae]at h⊢;exact⟨h.1,h.2.1,h.2.2.1,h.2.2.2.1,h.2.2.2.2.1,aX.2 hi,h.2.2.2.2.2.2.1,h.2.2.2.2.2.2.2.1,hg⟩
theorem OV (h:qW p=true):0<=p.2.2.2.2.1/\p.2.2.2.2.1<=65535:=by unfold qW at h;simp only[ae]at h;exact aX.1 h.2.2.2.2.2.1
theorem alQ {i:Int}(h:0<=i/\i<=65535):0<=tmod (ar (i+1)) 65536/\tmod (ar (i+1)) 65536<=65535:=by rw[al];have h1:=Int.tmod_nonneg 65536 (a:=i+1) (by omega);have h2:=Int.tmod_lt_of_pos (i+1) (b:=65536) (by omega);omega
theorem ajm {s:Int}{n:Nat}(h:0<=s/\s<=4294967295)(hn:n<=320):0<=tmod (ar (s+(n:Int))) 4294967296/\tmod (ar (s+(n:Int))) 4294967296<=4294967295:=by rw[al];have h1:=Int.tmod_nonneg 4294967296 (a:=s+(n:Int)) (by omega);have h2:=Int.tmod_lt_of_pos (s+(n:Int)) (b:=4294967296) (by omega);omega
theorem GL (v:Vector):FB v=true↔1<=v.2.2.1/\(v.1<=v.2.2.1\/v.2.1<=v.2.2.2.1):=by unfold FB;by_cases h1:v.2.2.1>=1;rw[au h1,ah];by_cases h2:v.2.2.1>=v.1;rw[au h2];simp;omega;rw[aq h2,af,aF];omega;rw[aq h1];simp;omega
theorem apq (v:Vector):fg v=(cS v.1 1 64&&(cS v.2.1 0 64&&(cS v.2.2.1 0 1000000&&(cS v.2.2.2.1 0 1000000&&((decide (v.2.2.1>0)||(v.2.2.2.1==0))&&(v.2.2.2.2.2==(FB v&& !v.2.2.2.2.1))))))):=by have h:=EH v;unfold lf at h;simp only[dq,al0,ab]at h;generalize fg v=w at h⊢;revert h;cases cS v.1 1 64;(intro h;cases h;rfl);cases cS v.2.1 0 64;(intro h;cases h;rfl);cases cS v.2.2.1 0 1000000;(intro h;cases h;rfl);cases cS v.2.2.2.1 0 1000000;(intro h;cases h;rfl);cases decide (v.2.2.1>0)<;>cases (v.2.2.2.1==0)<;>cases FB v<;>(intro h;cases h;rfl)
theorem zn (v:Vector):fg v=true↔(1<=v.1/\v.1<=64)/\(0<=v.2.1/\v.2.1<=64)/\(0<=v.2.2.1/\v.2.2.1<=1000000)/\(0<=v.2.2.2.1/\v.2.2.2.1<=1000000)/\(v.2.2.1>0\/v.2.2.2.1=0)/\v.2.2.2.2.2=(FB v&& !v.2.2.2.2.1):=by rw[apq];simp only[ae,aX,cQ,aF,aZ]
theorem Ja (h1:1<=v.1/\v.1<=64)(h2:0<=v.2.1/\v.2.1<=64)(h3:0<=v.2.2.1/\v.2.2.1<=1000000)(h4:0<=v.2.2.2.1/\v.2.2.2.1<=1000000)(h5:v.2.2.1>0\/v.2.2.2.1=0)(hr:v.2.2.2.2.2=true->FB v=true/\v.2.2.2.2.1=false):fg (Fo v)=true:=by unfold Fo;cases hd:FB v&& !v.2.2.2.2.1 with|true=>exact(zn _).2 ⟨h1,h2,h3,h4,h5,by show true=(FB v&& !v.2.2.2.2.1);rw[hd]⟩|false=>refine(zn _).2 ⟨h1,h2,h3,h4,h5,?_⟩;rw[af,hd];cases hv:v.2.2.2.2.2 with|false=>rfl|true=>have:=hr hv;rw[this.1,this.2]at hd;cases hd
theorem EA (h:fg v=true)(hr:v.2.2.2.2.2=true):FB v=true/\v.2.2.2.2.1=false:=by have:=((zn v).1 h).2.2.2.2.2;rw[hr]at this;cases hd:FB v with|false=>rw[hd]at this;cases this|true=>rw[hd]at this;cases hm:v.2.2.2.2.1 with|true=>rw[hm]at this;cases this|false=>exact⟨rfl,rfl⟩
theorem akG (h:0<=n/\n<=1000000):n<=upM n/\0<upM n/\upM n<=1000000:=by unfold upM;rw[al];split<;>omega
theorem apr (h:fg v=true):fg (evV v)=true:=by have k:=(zn v).1 h;have u:=akG k.2.2.1;unfold evV;rw[h,ah];refine Ja (v:=(v.1,v.2.1,upM v.2.2.1,v.2.2.2)) k.1 k.2.1 ⟨by show 0<=upM v.2.2.1;omega,u.2.2⟩ k.2.2.2.1 (Or.inl u.2.1) λhr=>?_;have d:=EA h hr;have d1:=(GL v).1 d.1;exact⟨(GL _).2 ⟨by show 1<=upM v.2.2.1;omega,by show v.1<=upM v.2.2.1\/v.2.1<=v.2.2.2.1;omega⟩,d.2⟩
theorem akK (h:fg v=true):fg (Zq v)=true:=by have k:=(zn v).1 h;have u:=akG k.2.2.2.1;unfold Zq;rw[h,ah];by_cases h0:v.2.2.1>0;rw[au h0,ah];refine Ja (v:=(v.1,v.2.1,v.2.2.1,upM v.2.2.2.1,v.2.2.2.2)) k.1 k.2.1 k.2.2.1 ⟨by show 0<=upM v.2.2.2.1;omega,u.2.2⟩ (Or.inl h0) λhr=>?_;have d:=EA h hr;have d1:=(GL v).1 d.1;exact⟨(GL _).2 ⟨d1.1,by show v.1<=v.2.2.1\/v.2.1<=upM v.2.2.2.1;omega⟩,d.2⟩;rw[aq h0,af];exact Ja k.1 k.2.1 k.2.2.1 k.2.2.2.1 k.2.2.2.2.1 λhr=>EA h hr
theorem akJ (h:fg v=true):fg (Fg v).1=true:=by have k:=(zn v).1 h;unfold Fg;cases fg v&&v.2.2.2.2.2 with|false=>exact h|true=>exact(zn _).2 ⟨k.1,k.2.1,⟨cX _,by show(0:Int)<=1000000;omega⟩,⟨cX _,by show(0:Int)<=1000000;omega⟩,Or.inr rfl,by show false=(_&& !true);simp⟩
theorem acS (h:fg v=true):fg (KD v)=true:=by have k:=(zn v).1 h;unfold KD;rw[h,ah];refine Ja (v:=(v.1,v.2.1,v.2.2.1,v.2.2.2.1,false,v.2.2.2.2.2)) k.1 k.2.1 k.2.2.1 k.2.2.2.1 k.2.2.2.2.1 λhr=>?_;exact⟨(GL _).2 ((GL v).1 (EA h hr).1),rfl⟩
theorem agW (h:fg v=true):fg (v.1,v.2.1,0,0,false,false)=true:=by have k:=(zn v).1 h;exact(zn _).2 ⟨k.1,k.2.1,⟨cX _,by show(0:Int)<=1000000;omega⟩,⟨cX _,by show(0:Int)<=1000000;omega⟩,Or.inr rfl,by simp[FB]⟩
structure Cs (n:Int) (r:cp):Prop where
 ring:dx r.1=true
 dev:fY r.2.1=true
 drv:fY r.2.2.1=true
 base:r.2.1.1=r.2.2.1.1
 size:r.2.1.2.1=r.2.2.1.2.1
 drop:0<=r.2.2.2.2.2/\r.2.2.2.2.2<=n
 held:r.2.2.2.2.1=true->dJ r.2.2.2.1.1=true/\(0<=r.2.2.2.1.2.1/\r.2.2.2.1.2.1<=320)/\1<=r.2.2.2.1.2.2/\r.2.2.2.1.2.2<=320
 free:r.2.2.2.2.1=false->r.2.2.2.1=agQ
theorem ajI (r:cp):HQ r=true↔Cs 1000000000000 r:=by constructor;intro h;unfold HQ at h;rw[ae]at h;simp only[ae,aZ,aX]at h;obtain⟨⟨h1,h2,h3,h4,h5,h6⟩,h7⟩:=h;refine⟨h1,h2,h3,h4,h5,h6,λhh=>?_,λhh=>?_⟩;rw[hh,ah]at h7;simp only[ae,aX]at h7;exact⟨h7.1,h7.2.1,h7.2.2⟩;rw[hh,af]at h7;exact(aj7 _).1 h7;intro h;unfold HQ;rw[ae];simp only[ae,aZ,aX];refine⟨⟨h.ring,h.dev,h.drv,h.base,h.size,h.drop⟩,?_⟩;cases hh:r.2.2.2.2.1 with|true=>have:=h.held hh;simp only[ah,ae,aX];exact⟨this.1,this.2.1,this.2.2⟩|false=>rw[af];exact(aj7 _).2 (h.free hh)
theorem Cs.mono {m:Int}{r:cp}(h:Cs n r)(hn:n<=m:=by omega):Cs m r:=⟨h.ring,h.dev,h.drv,h.base,h.size,⟨h.drop.1,by have:=h.drop.2;omega⟩,h.held,h.free⟩
theorem Cs.rx {r:cp}(h:Cs n r)(hn:n<=1000000000000):HQ r=true:=(ajI r).2 (h.mono hn)
theorem afK (h:cV m=true)(l:aw aE)(d:Int)(q:tX)(x:IS):cV (CW l m d q x).1=true:=by
 unfold CW;cases !fY q|| !BG x;case true=>exact h
 cases (iM l m d (tK q) (Uf x (B6 q)) true).2 with|false=>exact h|true=>exact F9 h ..
theorem afL (h:cV m=true)(l:aw aE)(d:Int)(q:cp)(k s:Bytes):cV (iT l m d q k s).1=true:=by
 unfold iT;cases !(dw s).2||(((dw s).1.1 !=3)||decide ((dw s).1.2.2.1<((dM q.2.2.2.1.1).1.length:Int)));case true=>exact h
 cases (iM l m d (dw s).1.2.2.2.1 (dM q.2.2.2.1.1).1 true).2 with|false=>exact h|true=>exact afK (F9 h ..) ..
theorem ama {l:aw aE}{k:Bytes}(hm:cV m=true)(hq:fY q.2.1=true):fY (iT l m d q k s).2.1=true/\(iT l m d q k s).2.1.1=q.2.1.1/\(iT l m d q k s).2.1.2.1=q.2.1.2.1:=(Th (n:=128) (by omega) (SN (by omega) (qI.1 hm)) hq).2.2
theorem Ih (hn:n<=900000000000)(h:Cs n q)(hm:cV m=true)(l:aw aE)(d:Int)(k:Bytes):cV (jo l m d q k).1=true/\Cs (n+320) (jo l m d q k).2:=by
 unfold jo;cases hc: !HQ q||(!q.2.2.2.2.1||((k.length:Int) !=16));case true=>exact⟨hm,h.mono⟩
 simp only[cu,dV]at hc;have hh:=h.held hc.2.1;have hd:=h.drop;have hr:=SV h.ring l m d;have hs:=ama (l:=l) (d:=d) (k:=k) (s:=(bB l m d q.1).1) hm h.dev;simp only[af];cases (bB l m d q.1).2.2&&(iT l m d q k (bB l m d q.1).1).2.2 with|true=>exact⟨afL hm ..,hr.1,hs.1,h.drv,hs.2.1.trans h.base,hs.2.2.trans h.size,⟨hd.1,by show q.2.2.2.2.2<=n+320;omega⟩,λhf=>(by cases hf),λ_=>rfl⟩|false=>refine⟨hm,hr.1,h.dev,h.drv,h.base,h.size,?_,λhf=>(by cases hf),λ_=>rfl⟩;show 0<=ar (q.2.2.2.2.2+q.2.2.2.1.2.2)/\ar (q.2.2.2.2.2+q.2.2.2.1.2.2)<=n+320;rw[al];omega
theorem alA {s:tF}(h:KR s p=true):dJ (HI s p).1=true/\(0<=(HI s p).2.1/\(HI s p).2.1<=320)/\1<=(HI s p).2.2/\(HI s p).2.2<=320:=by
 have hl:=TJ h;unfold HI;rw[h,ah];simp only[KR,ait,adY,ae,aF,aX,aZ]at h;obtain⟨⟨hs,hp,aqt,h6,h16,hf⟩,⟨hz,hc,hn,GZ,awi⟩,_⟩:=h;have awf:s.2.2+1<=320:=by
  have:s.2.2<=s.2.1*s.2.2:=by have:=Int.mul_le_mul_of_nonneg_right hz (show 0<=s.2.2 by omega);omega
  omega
 have aqC:s.2.1<=320:=by
  have:s.2.1<=s.2.1*s.2.2:=by have:=Int.mul_le_mul_of_nonneg_left hc.1 (show 0<=s.2.1 by omega);omega
  omega
 refine⟨?_,⟨by show 0<=s.2.1;omega,aqC⟩,?_⟩;have hh:qW s.1=true:=by unfold dJ at hs;simp only[ae]at hs;exact hs.1
 have hk:s.1.2.2.2.2.2.2.2.2.1=6:=by
  have e:s.1.2.2.2.2.2.2.2.2.1=p.2.2.2.2.2.2.2.2.1:=by have h2:=aqt;unfold Yo at h2;simp only[ae,aZ]at h2;exact h2.2.2.2.2.2.2.2.1
  rw[e];exact h6
 have hsg:=BO hh;have hfl:cS p.2.2.2.2.2.2.2.2.2.2.2.2.2.1 0 31=true:=J7 hp (by rw[h6];rfl);have hg:=P4 hsg hk (adT hsg hk).2.2.1 (aX.1 hfl) (x:=s.1.2.2.2.2.2.2.2.2.2.2.2.2.2.2.2++p.2.2.2.2.2.2.2.2.2.2.2.2.2.2.2) (by rw[ai];omega);unfold dJ;rw[ae];refine⟨DF hh (OV hh) hg,?_⟩;show(_||(s.1.2.2.2.2.2.2.2.2.1==6)&&Ee p.2.2.2.2.2.2.2.2.2.2.2.2.2.1)=true;rw[hk,hf];simp;show 1<=ar (s.2.2+1)/\ar (s.2.2+1)<=320;rw[al];omega
theorem alh (h:Cs n q){s:tF}(hs:dJ s.1=true)(h1:0<=s.2.1/\s.2.1<=320)(h2:1<=s.2.2/\s.2.2<=320):Cs n (OW q s):=⟨h.ring,h.dev,h.drv,h.base,h.size,h.drop,λ_=>⟨hs,h1,h2⟩,λhf=>(by cases hf)⟩
theorem agz (h:eJ p=true):dJ (nv p).1=true/\(0<=(nv p).2.1/\(nv p).2.1<=320)/\1<=(nv p).2.2/\(nv p).2.2<=320:=by
 have hl:=ID h;have hs:dJ p=true:=by unfold eJ at h;simp only[ae]at h;exact h.1
 refine⟨hs,?_,by show(1:Int)<=1/\(1:Int)<=320;omega⟩;show 0<=(p.2.2.2.2.2.2.2.2.2.2.2.2.2.2.2.length:Int)/\(p.2.2.2.2.2.2.2.2.2.2.2.2.2.2.2.length:Int)<=320;omega
theorem V0 (hn:n<=800000000000)(h:Cs n q)(hm:cV m=true)(l:aw aE)(d:Int)(k:Bytes)(p:aJ)(c:Bool):cV (mE l m d q k p c).1=true/\Cs (n+640) (mE l m d q k p c).2:=by
 unfold mE;cases hc: !HQ q||(!eJ p||((k.length:Int) !=16));case true=>exact⟨hm,h.mono⟩
 simp only[cu,dV]at hc;have hs:=agz hc.2.1;have hf:=Ih (by omega) h hm l d k;have Ax:=alh hf.2 hs.1 hs.2.1 hs.2.2;simp only[af];cases hj:c&&(q.2.2.2.2.1&&KR q.2.2.2.1 p)with|true=>simp only[ae]at hj;have j:=alA hj.2.2;exact⟨hm,h.ring,h.dev,h.drv,h.base,h.size,⟨h.drop.1,by show q.2.2.2.2.2<=n+640;have:=h.drop.2;omega⟩,λ_=>j,λhf=>(by have hf:q.2.2.2.2.1=false:=hf;rw[hj.2.1]at hf;cases hf)⟩|false=>simp only[af];cases c with|true=>exact⟨hf.1,Ax.mono⟩|false=>have:=Ih (by omega) Ax hf.1 l d k;exact⟨this.1,this.2.mono⟩
theorem ao6 {l:aw aE}{q:tX}(h:fY q=true):fY (tH l m d q).2.1=true/\(tH l m d q).2.1.1=q.1/\(tH l m d q).2.1.2.1=q.2.1:=by unfold tH;cases U4 l m d q with|false=>exact⟨h,rfl,rfl⟩|true=>have k:=xh h;refine⟨?_,rfl,rfl⟩;have e:=VE (a:=q.2.2+1) (b:=2*q.2.1);simp only[ah,amS,fY,ae,aX]at h⊢;refine⟨h.1,h.2.1,?_⟩;rw[Bw h.2.1];omega
theorem acd {s:aw Stream×cp×dj}(h:Cs n s.2.1)(hp:dI s.2.2=true)(l:aw aE)(m:bN)(d:Int):Cs n (Gc l m d s).2.1/\dI (Gc l m d s).2.2=true:=by have k:=ao6 (l:=l) (m:=m) (d:=d) h.drv;exact⟨⟨h.ring,h.dev,k.1,h.base.trans k.2.1.symm,h.size.trans k.2.2.symm,h.drop,h.held,h.free⟩,agc hp _⟩
theorem PN (l:aw aE)(m:bN)(d:Int):∀(k:Nat)(s:aw Stream×cp×dj),Cs n s.2.1->dI s.2.2=true->Cs n (kD l m d k s).2.2.1/\dI (kD l m d k s).2.2.2=true
 |0,s,h,hp=>⟨h,hp⟩
 |k+1,s,h,hp=>by rw[kD];cases (tH l m d s.2.1.2.2.1).2.2 with|false=>exact⟨h,hp⟩|true=>have e:=acd h hp l m d;exact PN l m d k _ e.1 e.2
theorem OD (l:aw aE)(d:Int)(p:dj):∀(q:bP)(m:bN)(r:lB),cV m=true->dx r=true->cV (nz l d p q m r).2.1=true/\dx (nz l d p q m r).2.2=true
 |[],m,r,hm,hr=>⟨hm,hr⟩
 |b::q,m,r,hm,hr=>by rw[nz];cases (di l m d r (fJ p b)).2.2 with|false=>exact⟨hm,hr⟩|true=>exact OD l d p q _ _ (Mr hm ..) (YF hr ..).1
theorem RT (hm:cV m=true)(hr:dx r=true){p:dj}(hp:dI p=true)(l:aw aE)(d:Int):cV (vM l m d r p).1=true/\dx (vM l m d r p).2.1=true/\dI (vM l m d r p).2.2.1=true:=by unfold vM;rw[hr,hp];have k:=OD l d p p.2.2.2 m r hm hr;exact⟨k.1,k.2,Gd hp (List.drop_sublist _ _)⟩
theorem SS {rx:cp}(h:Cs n rx)(hm:cV m=true){pl:dj}(hp:dI pl=true)(l:aw aE)(d:Int)(st:aw Stream)(c:Int):cV (kj l m d rx pl st c).1=true/\Cs n (kj l m d rx pl st c).2.1/\dI (kj l m d rx pl st c).2.2.1=true:=by
 unfold kj;cases !HQ rx||(!dI pl|| !cS c 0 1000);case true=>exact⟨hm,h,hp⟩
 have k:=PN l m d c.toNat (st,rx,pl) h hp;have f:=RT hm k.1.ring k.2 l d;exact⟨f.1,⟨f.2.1,k.1.dev,k.1.drv,k.1.base,k.1.size,k.1.drop,k.1.held,k.1.free⟩,f.2.2⟩
structure Good (n:Int) (h:Host):Prop where
 mem:cV h.1=true
 maps:eE h.2.1=true
 tx:I0 h.2.2.1
 sB:eV h.2.2.2.2.2.2.2.1=true
 lens:nB h=true
 Vu:eK h.2.2.2.2.2.2.2.2.1 (h.2.2.2.1.length:Int)=true
 rx:∀r∈h.2.2.2.1,Cs n r
 pool:∀p∈h.2.2.2.2.1,dI p=true
 vec:∀v∈h.2.2.2.2.2.1,fg v=true
 IT:∀x∈gR h,0<=x/\x<=n
theorem Good.mono {m:Int}(g:Good n h)(hn:n<=m:=by omega):Good m h:=⟨g.mem,g.maps,g.tx,g.sB,g.lens,g.Vu,λr hr=>(g.rx r hr).mono hn,g.pool,g.vec,λx hx=>⟨(g.IT x hx).1,by have:=(g.IT x hx).2;omega⟩⟩
theorem aiA (h:Host):dN h=true↔Good 1000000000000 h:=by unfold dN SW;simp only[ae,aD,aX,apo,ajI];constructor;rintro⟨h1,h2,h3,h4,h5,h6,⟨h7,h8,h9⟩,h10⟩;exact⟨h1,h2,h3,h4,h5,h6,h7,h8,h9,h10⟩;intro g;exact⟨g.mem,g.maps,g.tx,g.sB,g.lens,g.Vu,⟨g.rx,g.pool,g.vec⟩,g.IT⟩
theorem Good.ok (g:Good n h)(hn:n<=1000000000000):dN h=true:=(aiA h).2 (g.mono hn)
theorem uI {P:α->Prop}{l:aw α}{v:α}(h:∀x∈l,P x)(hv:P v):∀x∈l.set i v,P x:=by intro x hx;rcases dv hx with g|g;exact h x g;rw[g];exact hv
theorem ale (g:Good n h)(k:Nat):Good n (evS k h):=by unfold evS;cases hv:h.2.2.2.2.2.1[k]? with|none=>exact g|some v=>exact⟨g.mem,g.maps,g.tx,g.sB,by have:=g.lens;unfold nB at this⊢;rw[aB];exact this,g.Vu,g.rx,g.pool,uI g.vec (apr (g.vec v (aW hv))),g.IT⟩
theorem WW (g:Good n h)(k:Nat):∀i,Good n (evH k i h)
 |0=>g
 |i+1=>ale (WW g k i) k
theorem Mg (g:Good n h)(k:Nat)(b:Int){f:bN×cp}(h1:cV f.1=true)(h2:Cs n f.2):Good n (IP h k b f):=by refine WW (h:=Ke h k f) ⟨h1,g.maps,g.tx,g.sB,?_,?_,uI g.rx h2,g.pool,g.vec,g.IT⟩ _ _;have:=g.lens;unfold nB Ke at*;simp only[aB];exact this;show eK _ ((h.2.2.2.1.set k f.2).length:Int)=true;rw[aB];exact g.Vu
theorem WY (hn:n<=800000000000)(g:Good n h)(k:Nat):Good (n+320) (qN k h):=by unfold qN;cases hx:h.2.2.2.1[k]? with|none=>exact g.mono|some x=>have f:=Ih (by omega) (g.rx x (aW hx)) g.mem h.2.1 0 h.2.2.2.2.2.2.2.2.1.2.2.1;exact Mg (g.mono) k _ f.1 f.2
theorem aa7 (hn:n<=700000000000)(g:Good n h):Good (n+640) (xP h):=by
 unfold xP;have hl:=nQ g.lens;cases dN h with
 |false=>exact g.mono
 |true=>
  have key:∀k:Nat,k<=2->Good (n+320*(k:Int)) (mr qN k h):=by intro k;induction k with|zero=>intro _;exact g.mono|succ k ih=>intro hk;exact(WY (by omega) (ih (by omega)) k).mono
  exact(key _ hl.1).mono (by have:=hl.1;omega)
theorem R7 (g:Good n h):Good n (xB h):=by
 unfold xB;cases dN h with
 |false=>exact g
 |true=>
  have key:∀k,Good n (mr zV k h):=by intro k;induction k with|zero=>exact g|succ k ih=>show Good n (zV k (mr zV k h));generalize mr zV k h=s at ih⊢;unfold zV;cases hv:s.2.2.2.2.2.1[k]? with|none=>exact ih|some v=>exact⟨ih.mem,ih.maps,ih.tx,ih.sB,by have:=ih.lens;unfold nB at this⊢;rw[aB];exact this,ih.Vu,ih.rx,ih.pool,uI ih.vec (akK (ih.vec v (aW hv))),ih.IT⟩
  exact key _
theorem aeW (g:Good n h)(p:aJ)(c z:Int):Good n (Cd h p c z).1:=by unfold Cd;cases dN h with|false=>exact g|true=>have k:=agv g.tx g.mem h.2.1 0 p c z;exact⟨k.1,g.maps,k.2,g.sB,g.lens,g.Vu,g.rx,g.pool,g.vec,g.IT⟩
theorem Hx (g:Good n h):Good n (fW h):=by unfold fW;cases dN h with|false=>exact g|true=>have r:=Gz h.2.1 h.1 0 17 [] 0 0 h.2.2.1.1 g.tx.ring;exact⟨g.mem,g.maps,Zs (ame g.tx r.1 r.2) _,g.sB,g.lens,g.Vu,g.rx,g.pool,g.vec,g.IT⟩
theorem Fq {x:Int}(h:0<=x/\x<=n)(hn:n<=800000000000:=by omega):0<=ar (x+1)/\ar (x+1)<=n+1:=by rw[al];omega
theorem Eh (hn:n<=800000000000)(g:Good n h){a b c:Int}(ha:0<=a/\a<=n+1)(hb:0<=b/\b<=n+1)(hc:0<=c/\c<=n+1)(hd:0<=d/\d<=n+1):Good (n+1) (Da h a b c d):=by have k:=g.mono (show n<=n+1 by omega);refine⟨k.mem,k.maps,k.tx,k.sB,k.lens,k.Vu,k.rx,k.pool,k.vec,λx hx=>?_⟩;have h1:=Fq (g.IT _ (List.mem_cons_self ..)) hn;simp only[gR,Da,bM,List.not_mem_nil,or_false]at hx;rcases hx with rfl|rfl|rfl|rfl|rfl;exact h1;exact ha;exact hb;exact hc;exact hd
theorem Jr (hn:n<=700000000000)(g:Good n h)(x:Bytes):Good (n+641) (lR h x):=by
 have c1:=g.IT h.2.2.2.2.2.2.2.2.2.2.2.2.2.2.2.1 (by simp[gR]);have c2:=g.IT h.2.2.2.2.2.2.2.2.2.2.2.2.2.2.2.2.1 (by simp[gR]);have c3:=g.IT h.2.2.2.2.2.2.2.2.2.2.2.2.2.2.2.2.2.1 (by simp[gR]);have c4:=g.IT h.2.2.2.2.2.2.2.2.2.2.2.2.2.2.2.2.2.2 (by simp[gR]);have u:∀{y:Int},0<=y/\y<=n->0<=y/\y<=n+1:=λhy=>⟨hy.1,by omega⟩
 unfold lR;cases dN h;exact g.mono;cases (gv x).2 !=0;case true=>exact(Eh (by omega) g (Fq c1) (u c2) (u c3) (u c4)).mono
 cases !zu h.2.2.2.2.2.2.2.1 (gv x).1;case true=>exact(Eh (by omega) g (u c1) (Fq c2) (u c3) (u c4)).mono
 cases tS h.2.2.2.2.2.2.2.2.1 (h.2.2.2.1.length:Int) (gv x).1== -1;case true=>exact(Eh (by omega) g (u c1) (u c2) (Fq c3) (u c4)).mono
 simp only[aj,af];cases hq:h.2.2.2.1[(tS h.2.2.2.2.2.2.2.2.1 (h.2.2.2.1.length:Int) (gv x).1).toNat]? with|none=>exact g.mono|some q=>have a:=V0 (by omega) (g.rx q (aW hq)) g.mem h.2.1 0 h.2.2.2.2.2.2.2.2.1.2.2.1 (gv x).1 h.2.2.2.2.2.2.2.2.2.2.1;exact Mg ((Eh (by omega) g (u c1) (u c2) (u c3) (Fq c4)).mono) _ _ a.1 (a.2.mono)
theorem W0 (g:Good n h)(i:Nat)(c:Int):Good n (xY h i c).2:=by unfold xY;rcases h1:h.2.2.2.1[i]? with _|rx;exact g;rcases h2:h.2.2.2.2.1[i]? with _|pl;exact g;have k:=SS (g.rx rx (aW h1)) g.mem (g.pool pl (aW h2)) h.2.1 0 h.2.2.2.2.2.2.2.2.2.1 c;refine⟨k.1,g.maps,g.tx,g.sB,?_,?_,uI g.rx k.2.1,uI g.pool k.2.2,g.vec,g.IT⟩;have:=g.lens;unfold nB at*;simp only[aB];exact this;show eK _ ((h.2.2.2.1.set i _).length:Int)=true;rw[aB];exact g.Vu
theorem W2 (b:Int)(k:Nat){s:Int×Host}(g:Good n s.2):Good n (EE b k s).2:=by unfold EE;rcases h1:s.2.2.2.2.2.2.1[k]? with _|v;exact g;rcases h2:s.2.2.2.2.2.2.2.1[k]? with _|p;exact g;rcases h3:s.2.2.2.2.1[k]? with _|x;exact g;rcases h4:s.2.2.2.2.2.1[k]? with _|pl;exact g;have hv:=akJ (g.vec v (aW h1));simp only;cases p||(Fg v).2 with|false=>refine⟨g.mem,g.maps,g.tx,g.sB,?_,g.Vu,g.rx,g.pool,uI g.vec hv,g.IT⟩;have:=g.lens;unfold nB at*;simp only[af,aB];exact this|true=>have e:=SS (g.rx x (aW h3)) g.mem (g.pool pl (aW h4)) s.2.2.1 0 s.2.2.2.2.2.2.2.2.2.2.1 b;refine⟨e.1,g.maps,g.tx,g.sB,?_,?_,uI g.rx e.2.1,uI g.pool e.2.2,uI g.vec ?_,g.IT⟩;have:=g.lens;unfold nB at*;simp only[ah,aB];exact this;show eK _ ((s.2.2.2.2.1.set k _).length:Int)=true;rw[aB];exact g.Vu;cases decide ((kj s.2.2.1 s.2.1 0 x pl s.2.2.2.2.2.2.2.2.2.2.1 b).2.2.2.2<b)with|true=>exact acS hv|false=>exact hv
theorem OS (b:Int)(g:Good n h):∀k,Good n (tR b k h).2
 |0=>g
 |k+1=>W2 b k (OS b g k)
theorem Up (g:Good n h)(b:Int):Good n (oG h b).1:=by unfold oG;cases dN h&&cS b 1 1000 with|false=>exact g|true=>exact OS b g _
theorem Jq (g:Good n h):∀k,Good n (uZ h k)
 |0=>g
 |k+1=>W0 (Jq g k) k 1000
theorem aeV (g:Good n h)(l:bP):Good n (adS h l):=⟨g.mem,g.maps,g.tx,g.sB,g.lens,g.Vu,g.rx,g.pool,g.vec,g.IT⟩
theorem Hv (g:Good n h):∀k,Good n (returned h k)
 |0=>Jq g _
 |k+1=>by show Good n (PZ h.2.2.1.2.2.1 k (returned h k));have:=Hv g k;unfold PZ;cases h.2.2.1.2.2.1[k]? with|none=>exact this|some x=>exact aeV this _
theorem Yt {a b:Int}(ha:0<=a/\a<=130944:=by omega)(hb:1<=b/\b<=512:=by omega)(hn:0<=n/\n<=16:=by omega):iz a b n=((a,b,n,upto n.toNat),true)/\dI (a,b,n,upto n.toNat)=true:=by have h1:dI (a,b,n,[])=true:=DZ.2 ⟨ha,hb,hn,by simp,List.nodup_nil⟩;refine⟨by unfold iz;rw[h1];rfl,DZ.2 ⟨ha,hb,hn,?_,?_⟩⟩;intro x hx;simp only[upto,eF,bD]at hx;obtain⟨i,hi,rfl⟩:=hx;show 0<=Int.ofNat i/\Int.ofNat i<=n-1;simp only[Int.ofNat_eq_natCast];omega;show(upto n.toNat).Nodup;unfold upto;rw[List.Nodup,List.pairwise_map];exact List.nodup_range.imp λh he=>h (Int.ofNat.inj he)
theorem akE (c:Int)(hc:0<=c/\c<=65535):I0 (Fh.1,Fh.2.1,Fh.2.2.1,c):=by
 have p:=Yt (a:=256) (b:=128) (n:=8);refine⟨Gi,hc,λx hx=>(by cases hx),?_,by show(0:Int)<=16;omega⟩;show dI (hG (iz 256 128 8).1 [])=true;rw[p.1];have e:hG (256,128,8,upto (8:Int).toNat) []=(256,128,8,upto (8:Int).toNat):=by simp[hG]
 show dI (hG (256,128,8,upto (8:Int).toNat) [])=true;rw[e];exact p.2
theorem Uo (g:Good n h):Good n (sy h):=by have k:=Hv g h.2.2.1.2.2.1.length;exact⟨k.mem,k.maps,akE _ k.tx.next,k.sB,k.lens,k.Vu,k.rx,k.pool,k.vec,k.IT⟩
theorem acZ (h:i<=8):0<=ia i/\ia i<=16000:=by unfold ia;omega
theorem SK (hm:cV m=true)(l:aw aE)(hi:i<=8):cV (tI l m i).1=true/\dx (tI l m i).2.1=true/\dI (tI l m i).2.2.1=true:=by have hb:=acZ hi;have p:=Yt (a:=ia i+128) (b:=384) (n:=4);unfold tI;rw[p.1];exact RT (F9 hm ..) (Gi) p.2 l 0
theorem YJ (hi:i<=8)(hr:dx r=true)(hd:0<=d/\d<=n):Cs n (r,(ia i+64,4,0),(ia i+64,4,0),((0,0,0,0,0,0,0,0,0,0,0,0,0,0,0,([]:Bytes)),0,0),false,d):=by
 have hb:=acZ hi;have hq:fY (ia i+64,4,0)=true:=by have hs:jy 4=true:=gV.2 (by omega);unfold fY;rw[ae,ae];exact⟨aX.2 (by omega),hs,by rw[Bw hs];rfl⟩
 exact⟨hr,hq,hq,rfl,rfl,hd,λhf=>(by cases hf),λ_=>rfl⟩
theorem W1 (hn:n<=800000000000)(g:Good n h)(hi:i<=8):Good (n+320) (yc i h):=by
 have gm:=g.mono (show n<=n+320 by omega);unfold yc;rcases h1:h.2.2.2.1[i]? with _|x;exact gm;rcases h2:h.2.2.2.2.2.1[i]? with _|v;exact gm;have o:=SK g.mem h.2.1 hi;have hx:=g.rx x (aW h1);have hd:0<=Hr x/\Hr x<=n+320:=by have d:=hx.drop;unfold Hr;cases hh:x.2.2.2.2.1 with|false=>simp only[af];omega|true=>have:=hx.held hh;rw[ah,al];omega
 refine⟨o.1,gm.maps,gm.tx,gm.sB,?_,?_,uI gm.rx (YJ hi o.2.1 hd),uI gm.pool o.2.2,uI gm.vec (agW (g.vec v (aW h2))),gm.IT⟩;have:=g.lens;unfold nB HM at*;simp only[aB];exact this;show eK _ (((HM h i (Hr x)).2.2.2.1).length:Int)=true;unfold HM;simp only[aB];exact g.Vu
theorem Hu (hn:n<=700000000000)(g:Good n h):∀k:Nat,k<=8->Good (n+320*(k:Int)) (iO h k)
 |0,_=>g.mono
 |k+1,hk=>(W1 (by omega) (Hu hn g k (by omega)) (i:=k) (by omega)).mono
theorem OQ (hn:n<=700000000000)(g:Good n h):Good (n+640) (tQ h):=by have hl:=nQ g.lens;unfold tQ;cases dN h with|false=>exact g.mono|true=>exact(Hu hn (Uo g) _ (by omega)).mono (by have:=hl.1;omega)
theorem aio (hn:n<=700000000000)(g:Good n h)(a:Act):Good (n+641) (I1 h a).1:=by
 unfold I1;cases !dN h|| !Hl a;case true=>exact g.mono
 simp only[af];cases a.1==0;case true=>exact(aeW g _ _ _).mono
 cases a.1==1;case true=>exact(Hx g).mono
 cases a.1==2;case true=>exact Jr hn g _
 cases a.1==3;case true=>exact(aa7 hn g).mono
 cases a.1==4;case true=>exact(R7 g).mono
 cases a.1==5 with|true=>exact(Up g _).mono|false=>exact(OQ hn g).mono
structure gD (n:Int) (c:de):Prop where
 vS:(du c.2.2.1).2=true
 len:c.1.length=c.2.2.1.length/\c.2.1.length=c.2.2.1.length
 fns:ij c.2.1 (du c.2.2.1).1=true
 Nb:¬iw c.2.2.2.1<0
 clock:rH c.2.2.2.2.1=true
 host:∀(i:Nat)(h:Host)(b:bJ),c.1[i]?=some h->c.2.2.1[i]?=some b->Good n h/\h.2.2.2.2.2.2.2.1=b.1
 place:∀i,i<c.1.length->Ag c.2.1 i=true
 QR:∀b∈c.2.2.1,b.2.1<=n/\b.2.2.2<=n
 fnn:∀f∈c.2.1,f.2.2.2.2.1<=n/\f.2.2.2.2.2<=n
theorem gD.mono {m:Int}(g:gD n c)(h:n<=m:=by omega):gD m c:=⟨g.vS,g.len,g.fns,g.Nb,g.clock,λi a b h1 h2=>⟨(g.host i a b h1 h2).1.mono h,(g.host i a b h1 h2).2⟩,g.place,λb hb=>⟨by have:=(g.QR b hb).1;omega,by have:=(g.QR b hb).2;omega⟩,λf hf=>⟨by have:=(g.fnn f hf).1;omega,by have:=(g.fnn f hf).2;omega⟩⟩
theorem gD.ok (g:gD n c)(hn:n<=1000000000000):lE c=true:=by
 unfold lE;rw[g.vS,g.fns,g.clock,aq g.Nb];simp only[bw,bl];rw[ae,ae,aD,aD];refine⟨?_,?_,?_⟩;unfold Pv;rw[g.len.1,g.len.2];simp;intro i hi;have hi:=bD.1 hi;have hj:i<c.2.2.1.length:=by have:=g.len.1;omega
 rw[Oc i hi hj];have q:=g.host i _ _ (ak hi) (ak hj);rw[q.1.ok hn,wi q.2];rfl;intro i hi;exact g.place i (bD.1 hi)
theorem Tg:∀(ms:aw bJ)(s:bP×aw Port),(ms.foldl Ff s).2.length=s.2.length+ms.length
 |[],s=>rfl
 |m::ms,s=>by rw[dp,Tg ms];show(s.2++[_]).length+_=_;rw[ai,bf,ba];omega
theorem lx (h:(du ms).2=true):(du ms).1=mc ms/\(mc ms).length=ms.length+1/\iS (mc ms)=true/\(∀m∈ms,jE m=true)/\1<=ms.length/\ms.length<=3:=by unfold du at h⊢;cases hq:cS (ms.length:Int) 1 3&&(ms.all jE&&iS (mc ms))with|false=>rw[hq]at h;cases h|true=>simp only[ae,aX,aD]at hq;refine⟨rfl,?_,hq.2.2,hq.2.1,by omega,by omega⟩;unfold mc;rw[ba,Tg];simp
theorem map_take {β:Type}(f:α->β)(l:aw α)(i:Nat)(hi:i<l.length):(l.take i).map f++[f l[i]]=(l.take (i+1)).map f:=by rw[bn hi,ee];rfl
theorem Ad (m:bJ)(h:m.1.2.2.length<=10^9):lu m=some m:=by simp only[lu,od _ h,ab]
theorem Nu (m:bJ)(h:m.1.2.2.length<=10^9):Bg m=some m:=by simp only[Bg,Cf _ h,ab]
theorem HD (l:aw bJ)(h:l.length<=10^9)(hx:∀m∈l,m.1.2.2.length<=10^9):rX l=some l:=by unfold rX;refine(dC (λi=>(l.take i,(i:Int))) l.length (by omega) (λi nx hi=>?_) (λnx=>?_));simp only[rp];rw[iU,bj hi,al];simp only[ah,ab,Ad _ (hx _ (aI hi))];rw[aO (by simp;omega),<-bn hi];rfl;simp only[rp];rw[cz,cO];rfl
theorem wv (l:aw aR)(h:l.length<=10^9):jw l=some l:=by simp only[jw,lS h,ch]
theorem Z9 (h:lE c=true):c.1.length=c.2.2.1.length/\c.2.1.length=c.2.2.1.length:=by unfold lE at h;simp only[ae]at h;exact G6 h.2.1
theorem UF {l:aw α}(h:k<l.length)(x:α):idx (l.set k x) (k:Int)=some x:=by rw[Ej,dA h]
theorem adW (l:aw α)(k:Nat)(x:α):(l.set k x).length=l.length:=aB ..
def zv (f:Filter)(v:Int):Filter×Bool:=bif eV f&&(!hasB f.2.2 v&&eV (f.1,f.2.1,ins v f.2.2)) then((f.1,f.2.1,ins v f.2.2),true) else(f,false)
theorem Xo (f:Filter)(v:Int)(h:f.2.2.length<=100000000):AD f v=some (zv f v):=by have hi:=US v f.2.2;simp only[AD,od f (by omega),rQ f (by omega),Az f.2.2 v (by omega),UH f.2.2 v (by omega),rQ (f.1,f.2.1,ins v f.2.2) (show(ins v f.2.2).length<=10^9 by omega),ab,zv];cases eV f<;>cases hasB f.2.2 v<;>cases eV (f.1,f.2.1,ins v f.2.2)<;>rfl
theorem Ty (f:Filter)(v:Int){n:Nat}(h:f.2.2.length<=n)(hn:8<=n):(zv f v).1.2.2.length<=n:=by unfold zv;cases hc:eV f&&(!hasB f.2.2 v&&eV (f.1,f.2.1,ins v f.2.2))with|false=>exact h|true=>simp only[ae]at hc;have:=hc.2.2;simp only[eV,ae,aF]at this;show(ins v f.2.2).length<=n;omega
def vL (f:Filter)(v:Int):Filter×Bool:=bif eV f&&hasB f.2.2 v then((f.1,f.2.1,f.2.2.filter (λx=>x !=v)),true) else(f,false)
theorem WB (p:Int->Bool)(l:bP)(i:Nat)(hi:i<l.length):(l.take (i+1)).filter p=bif p l[i] then(l.take i).filter p++[l[i]] else(l.take i).filter p:=by rw[bn hi,List.filter_append];cases hp:p l[i]<;>simp[hp]
theorem Nd (p:Int->Bool)(l:bP)(i:Nat):((l.take i).filter p).length<=l.length:=bq (List.length_filter_le _ _) (by simp;omega)
theorem UK (f:Filter)(v:Int)(h:f.2.2.length<=10^9):yx f v=some (vL f v):=by simp only[yx,od f h,rQ f h,Az f.2.2 v h,ab,vL];cases eV f;rfl;cases hasB f.2.2 v;rfl;simp only[aj,af,ab,cG,ah];refine(dC (λi=>((i:Int),f.1,f.2.1,(f.2.2.take i).filter (λx=>x !=v))) f.2.2.length (by omega) (λi nx hi=>?_) (λnx=>?_));have hl:=Nd (λx=>x !=v) f.2.2 i;simp only[sE];rw[iU,bj hi,al,WB _ _ i hi];simp only[ah,ab];rw[aO (by simp only[bf];omega)];cases f.2.2[i] !=v<;>rfl;simp only[sE];rw[cz,cO];rfl
def mH (f:Filter)(m:tX):Filter×Int:=
 bif m.2.1==1 then(bif eV (m.2.2,f.2) then((m.2.2,f.2),1) else(f,0))
 else bif m.2.1==2 then(bif (zv f m.2.2).2 then((zv f m.2.2).1,1) else(f,0))
 else bif m.2.1==3 then(bif (vL f m.2.2).2 then((vL f m.2.2).1,1) else(f,0))
 else bif m.2.1==4 then(f,f.1) else(f,0)
theorem Xr (f:Filter)(m:tX)(h:f.2.2.length<=100000000):AJ f m=some (mH f m):=by simp only[AJ,od f (by omega),rQ (m.2.2,f.2) (show f.2.2.length<=10^9 by omega),Xo f _ h,UK f _ (show f.2.2.length<=10^9 by omega),ab,mH];cases m.2.1==1<;>cases m.2.1==2<;>cases m.2.1==3<;>cases m.2.1==4<;>cases eV (m.2.2,f.2)<;>cases (zv f m.2.2).2<;>cases (vL f m.2.2).2<;>rfl
theorem TL (f:Filter)(m:tX){n:Nat}(h:f.2.2.length<=n)(hn:8<=n):(mH f m).1.2.2.length<=n:=by
 have ha:=Ty f m.2.2 h hn;have hd:(vL f m.2.2).1.2.2.length<=n:=by unfold vL;cases eV f&&hasB f.2.2 m.2.2 with|false=>exact h|true=>exact bq (List.length_filter_le _ _) h
 unfold mH;cases m.2.1==1<;>cases m.2.1==2<;>cases m.2.1==3<;>cases m.2.1==4<;>cases eV (m.2.2,f.2)<;>cases (zv f m.2.2).2<;>cases (vL f m.2.2).2<;>first|exact h|exact ha|exact hd
def mN (b:bJ)(m:tX):bJ×Int:=
 bif jE b then(bif m.1==b.2.1 then(b,b.2.2.1) else bif m.1==b.2.1+1 then(((mH b.1 m).1,m.1,(mH b.1 m).2,b.2.2.2+1),(mH b.1 m).2) else(b, -1)) else(b, -1)
theorem X6 (h:jE b=true):0<=b.2.1/\b.2.1<=1000000000000/\0<=b.2.2.2/\b.2.2.2<=1000000000000:=by simp only[jE,ae,aX]at h;omega
theorem abq (b:bJ)(m:tX)(h:b.1.2.2.length<=100000000):px b m=some (mN b m):=by simp only[px,Ad b (by omega),Xw b (by omega),Xr b.1 m h,ab,mN,bne];cases hm:jE b with|false=>rfl|true=>have tV:=X6 hm;rw[al (n:=b.2.1+1),al (n:=b.2.2.2+1)];cases m.1==b.2.1<;>cases m.1==b.2.1+1<;>rfl
def pn (ms:aw bJ)(k:Nat)(m:tX):aw bJ×Int:=
 match ms[k]? with
 |none=>(ms, -1)
 |some b=>bif (du (ms.set k (mN b m).1)).2 then(ms.set k (mN b m).1,(mN b m).2)
  else(ms.set k (b.1,m.1,0,ar (b.2.2.2+1)),0)
theorem Mh (b:bJ)(m:tX){n:Nat}(h:b.1.2.2.length<=n)(hn:8<=n):(mN b m).1.1.2.2.length<=n:=by have:=TL b.1 m h hn;unfold mN;cases jE b<;>cases m.1==b.2.1<;>cases m.1==b.2.1+1<;>first|exact h|exact this
theorem Iz {l:aw α}{x y:α}(h:y∈l.set k x):y∈l\/y=x:=dv h
theorem K8 (ms:aw bJ)(k:Nat)(m:tX)(hk:k<ms.length)(hl:ms.length<=10^9)(h:∀b∈ms,b.1.2.2.length<=100000000):rm ms (k:Int) m=some (pn ms k m):=by
 have hb:=h _ (aI hk);have hp:∀b∈ms.set k (mN ms[k] m).1,b.1.2.2.length<=10^9:=by intro b ix;rcases Iz ix with h1|rfl;have:=h b h1;omega;have:=Mh ms[k] m hb (by omega);omega
 unfold rm pn;simp only[HD ms hl (λb hb=>by have:=h b hb;omega),bj hk,abq _ m hb,ab,ak hk,ax,CO _ hp,Ad ms[k] (by omega)];have hs:∀x:bJ,k<(ms.set k x).length:=λx=>by rw[adW];exact hk
 simp only[UF hk,ab,List.set_set];cases (du (ms.set k (mN ms[k] m).1)).2<;>rfl
theorem QQ (ms:aw bJ)(k:Nat)(m:tX):(pn ms k m).1.length=ms.length:=by unfold pn;split;rfl;rename_i b _;cases (du (ms.set k (mN b m).1)).2<;>exact adW ..
theorem Z2 (ms:aw bJ)(k:Nat)(m:tX){n:Nat}(hn:8<=n)(h:∀b∈ms,b.1.2.2.length<=n):∀b∈(pn ms k m).1,b.1.2.2.length<=n:=by
 intro b hb;unfold pn at hb;split at hb;exact h b hb;rename_i b0 Us;have h0:=h b0 (aW Us);cases hp:(du (ms.set k (mN b0 m).1)).2 with
 |true=>rw[hp]at hb;rcases Iz hb with h1|rfl;exact h b h1;exact Mh b0 m h0 hn
 |false=>rw[hp]at hb;rcases Iz hb with h1|rfl;exact h b h1;exact h0
theorem wu (c:de)(z:dh 1000000000 xG c):kW c=some c:=by have h0:c.1.length<=10^9:=z.1.1;unfold kW;simp only[wv _ z.2.1.1,HD _ z.2.2.1.1 (λm hm=>(z.2.2.1.2 m hm).1.2.2.1),lO,mw _ z.2.2.2.1.1,kV _ z.2.2.2.2.2.1.1,mw _ z.2.2.2.2.2.2.1,ab];refine(dC (λi=>((i:Int),c.1.take i,c.2)) c.1.length (by omega) (λi nx hi=>?_) (λnx=>?_));simp only[sY];rw[iU,bj hi,al];simp only[ah,ab,jI _ (z.1.2 _ (aI hi))];rw[aO (by simp;omega),<-bn hi];rfl;simp only[sY];rw[cz,cO];rfl
def vF (h:Host)(f:Filter):Host:=(h.1,h.2.1,h.2.2.1,h.2.2.2.1,h.2.2.2.2.1,h.2.2.2.2.2.1,h.2.2.2.2.2.2.1,f,h.2.2.2.2.2.2.2.2)
def su (c:de)(a:Int)(m:tX):de×Int:=
 bif lE c&&cS a 0 ((c.2.2.1.length:Int)-1) then
  (match c.1[a.toNat]?,(pn c.2.2.1 a.toNat m).1[a.toNat]? with
  |some h,some b=>((c.1.set a.toNat (vF h b.1),c.2.1,(pn c.2.2.1 a.toNat m).1,c.2.2.2),(pn c.2.2.1 a.toNat m).2)
  |_,_=>(c, -1))
 else(c, -1)
theorem Nj (c:de)(a:Int)(m:tX)(z:dh 100000000 xG c)(k:ZL c):pt c a m=some (su c a m):=by
 have z9:dh 1000000000 xG c:=z.mono;have hl:c.2.2.1.length<=100000000:=z.2.2.1.1;unfold pt su;simp only[wu c z9,DL c k,cl,ab,br];rw[al (n:=(c.2.2.1.length:Int)-1)];cases hc:lE c;rfl;cases ha:cS a 0 ((c.2.2.1.length:Int)-1);rfl;have hL:=Z9 hc;have tV:=aX.1 ha;obtain⟨n,rfl⟩:=aQ tV.1;have hn:n<c.2.2.1.length:=by omega
 have IX:n<c.1.length:=by omega
 have hb:=K8 c.2.2.1 n m hn (by omega) (λb hb=>(z.2.2.1.2 b hb).1.2.2.1);have hbl:=QQ c.2.2.1 n m;have GV:=Z2 c.2.2.1 n m (n:=100000000) (by omega) (λb hb=>(z.2.2.1.2 b hb).1.2.2.1);have Dh:n<(pn c.2.2.1 n m).1.length:=by omega
 have:=GV _ (aI Dh);simp only[aj,af,cG,ah,hb,ab,bj Dh,bj IX,od (pn c.2.2.1 n m).1[n].1 (by omega),ax,ak IX,ak Dh];rfl
structure Cw (ps:List Port):Prop where
 n:ps.length<=10^9
 v:∀p∈ps,p.2.1.length<=10^9
def ain (ps:aw Port)(e:Int)(p:aJ):Bool:=iS ps&&(dJ p&&cS e 0 ((ps.length:Int)-1))
def acT (x:Port)(p:aJ):Int:=bif p.2.2.1== -1 then x.2.2.1 else p.2.2.1
def po (ps:aw Port)(e:Int)(p:aJ):Int:=
 bif !ain ps e p then-1 else
 bif !hasB (ps.getD e.toNat mh).2.1 (acT (ps.getD e.toNat mh) p)||((e !=0)&&((ps.getD e.toNat mh).2.2.2&&((ps.getD e.toNat mh).1 !=p.2.1))) then-1 else acT (ps.getD e.toNat mh) p
theorem Ir (ps:aw Port)(e:Int)(p:aJ)(z:Cw ps):oe ps e p=some (po ps e p):=by
 have hn:=z.n;unfold oe po ain;rw[G3 ps hn z.v,ab];cases hp:iS ps;rfl;rw[mx,ab];cases hs:dJ p;rfl;rw[al (n:=(ps.length:Int)-1),cl];cases he:cS e 0 ((ps.length:Int)-1);rfl;have h1:=aX.1 he;obtain⟨e,rfl⟩:=aQ h1.1;have hl:e<ps.length:=by omega
 have hv:=z.v _ (aI hl);simp only[aj,af,ab,cG,bj hl,ax,cH hl,Az _ _ hv,acT];cases p.2.2.1== -1<;>simp only[ah,af]<;>cases hasB ps[e].2.1 p.2.2.1<;>cases hasB ps[e].2.1 ps[e].2.2.1<;>cases (e:Int) !=0<;>cases ps[e].2.2.2<;>cases ps[e].1 !=p.2.1<;>rfl
def Iv (ps:aw Port)(o v:Int)(p:aJ):aJ:=
 bif iS ps&&(cS o 0 ((ps.length:Int)-1)&&(hasB (ps.getD o.toNat mh).2.1 v&&dJ p)) then
  (bif v==(ps.getD o.toNat mh).2.2.1 then(p.1,p.2.1, -1,p.2.2.2) else(p.1,p.2.1,v,p.2.2.2)) else pk0
theorem afg (ps:aw Port)(o v:Int)(p:aJ)(z:Cw ps):sK ps o v p=some (Iv ps o v p):=by
 have hn:=z.n;unfold sK Iv;rw[G3 ps hn z.v,ab];cases hp:iS ps;rfl;rw[al (n:=(ps.length:Int)-1),cl];cases he:cS o 0 ((ps.length:Int)-1);rfl;have h1:=aX.1 he;obtain⟨o,rfl⟩:=aQ h1.1;have hl:o<ps.length:=by omega
 have hv:=z.v _ (aI hl);simp only[aj,af,ab,bl,bj hl,ax,cH hl,Az _ _ hv,mx];cases hasB ps[o].2.1 v<;>cases dJ p<;>cases v==ps[o].2.2.1<;>rfl
def Pm (ps:aw Port)(e v:Int)(j:Nat):Bool:=((j:Int) !=e)&&hasB (ps.getD j mh).2.1 v
def pY (l:fE):bP:=l.map Int.ofNat
def bcB (p:aJ):Bool:=p.1==281474976710655
theorem WA {q:Nat->Bool}(l:fE)(i:Nat)(hi:i<l.length):(l.take (i+1)).filter q=bif q l[i] then(l.take i).filter q++[l[i]] else(l.take i).filter q:=by rw[bn hi,List.filter_append];cases hq:q l[i]<;>simp[hq]
theorem aaY {q:Nat->Bool}(l:fE)(i:Nat):((l.take i).filter q).length<=l.length:=bq (List.length_filter_le _ _) (by simp;omega)
theorem Pb (ps:aw Port)(e v:Int)(l:fE)(hl:l.length<=10^9)(hb:∀j∈l,j<ps.length)(z:Cw ps): bc (gI (λ(y7:bP) (y8:Int)=>some y7) ps e v (pY l) ((pY l).length:Int)) fuel (([]:bP),0)=some (pY (l.filter (Pm ps e v))):=by
 refine dC (λi=>(pY ((l.take i).filter (Pm ps e v)),(i:Int))) l.length (by omega) (λi nx hi=>?_) (λnx=>?_);have hj:=hb _ (aI hi);have hv:=z.v _ (aI hj);have hi2:i<(pY l).length:=by simpa[pY]using hi
 have e1:(pY l)[i]'hi2=(l[i]:Int):=by simp[pY]
 have hf:=aaY (q:=Pm ps e v) l i;simp only[gI];rw[au (by simpa[pY]using hi),bj hi2,e1,al];simp only[ah,ab,bj hj,Az _ _ hv];rw[WA l i hi,Pm,cH hj];have hr:∀k:ay bP,room (List.length (pY ((l.take i).filter (Pm ps e v)))+List.length ([(l[i]:Int)])) k=k:=λk=>aO (by simp only[pY,bL,bf];omega);cases (l[i]:Int) !=e with|false=>rfl|true=>cases hasB ps[l[i]].2.1 v with|false=>rfl|true=>simp only[ah,ab,cG];rw[hr];simp[pY]
 simp only[gI];rw[aq (by simp[pY]),cO];rfl
def Jv (ps:aw Port)(p:aJ):Nat->Nat
 |0=>0
 |i+1=>bif (ps.getD (i+1) mh).1==p.1 then i+1 else Jv ps p i
def C5 (ps:aw Port)(e:Int)(p:aJ):fE:=
 (range ps.length).filter λj=>Pm ps e (po ps e p) j&&((j==Jv ps p (ps.length-1))||bcB p)
def NR (ps:aw Port)(e:Int)(p:aJ):bP:=bif decide (po ps e p<0) then [] else pY (C5 ps e p)
theorem RV (q:Nat->Bool):∀l:fE,(Ed q l= -1/\∀j∈l,q j=false)\/∃j∈l,q j=true/\Ed q l=(j:Int)
 |[]=> .inl ⟨rfl,by simp⟩
 |j::l=>by rw[Ed];cases hj:q j with|true=>exact .inr ⟨j,by simp,hj,rfl⟩|false=>simp only[af];rcases RV q l with⟨h1,h2⟩|⟨k,h1,h2,h3⟩;exact .inl ⟨h1,by intro k hk;rcases bM.1 hk with rfl|hk;exact hj;exact h2 k hk⟩;exact .inr ⟨k,by simp[h1],h2,h3⟩
theorem OZ:∀i,(∀j,1<=j->j<=i->((ps.getD j mh).1==p.1)=false)->Jv ps p i=0
 |0,_=>rfl
 |i+1,h=>by rw[Jv,h (i+1) (by omega) (by omega)];exact OZ i λj h1 h2=>h j h1 (by omega)
theorem Sb (hk:1<=k)(h:((ps.getD k mh).1==p.1)=true):∀i,k<=i->(∀j,1<=j->j<=i->((ps.getD j mh).1==p.1)=true->j=k)->Jv ps p i=k
 |0,hi,_=>by omega
 |i+1,hi,hu=>by rw[Jv];by_cases he:k=i+1;rw[<-he,h];rfl;cases hq:(ps.getD (i+1) mh).1==p.1 with|true=>have:=hu (i+1) (by omega) (by omega) hq;omega|false=>exact Sb hk h i (by omega) λj h1 h2=>hu j h1 (by omega)
theorem adE (hp:iS ps=true){j:Nat}(h1:1<=i)(hij:i<j)(hj:j<ps.length):((ps.getD i mh).1==(ps.getD j mh).1)=false:=by simp only[iS,ae,aD,bD,Ka,aK]at hp;have:=(hp.2 j hj).2 i hij;simp only[Bool.and_eq_false_iff,bne_eq_false_iff_eq]at this;rcases this with h|h;omega;exact h
theorem filter_one {q:Nat->Bool}{n:Nat}(hk:k<n):(range n).filter (λj=>q j&&(j==k))=[k].filter q:=by
 have h1:(range n).filter (λj=>j==k)=[k]:=by
  induction n with
  |zero=>omega
  |succ n ih=>
   rw[gP,List.filter_append];by_cases he:k=n;subst he;have:(range k).filter (λj=>j==k)=[]:=by rw[List.filter_eq_nil_iff];intro j hj;have:=bD.1 hj;simp;omega
   rw[this];simp;rw[ih (by omega)];have:([n]:fE).filter (λj=>j==k)=[]:=by simp;omega
   rw[this];rfl
 have h2:(λj=>q j&&(j==k))=λj=>q j&&(λj=>j==k) j:=rfl;rw[h2,<-List.filter_filter,h1]
theorem F2 (ps:aw Port)(e:Int)(p:aJ)(z:Cw ps):mW ps e p=some (NR ps e p):=by
 have hn:=z.n;unfold mW NR;rw[Ir ps e p z,ab];cases hd:decide (po ps e p<0);case true=>rfl
 have hp:iS ps=true:=by cases hp:iS ps with|true=>rfl|false=>unfold po ain at hd;rw[hp]at hd;simp at hd
 have h1:1<=ps.length/\ps.length<=8:=by simp only[iS,ae,aX]at hp;omega
 have avu:∀j,j<ps.length->(ps.getD j mh).1<=281474976710654:=by intro j hj;simp only[iS,ae,aD,bD,Ka,NM,eV,aX]at hp;exact(hp.2 j hj).1.1.2.1.2
 simp only[af,XH ps p.1 hn,ab];generalize hv:po ps e p=v;have hsw:C5 ps e p=(range ps.length).filter λj=>Pm ps e v j&&((j==Jv ps p (ps.length-1))||bcB p):=by rw[C5,hv]
 rw[hsw];have anT:bcB p=true->∀j,j<ps.length->((ps.getD j mh).1==p.1)=false:=by
  intro hb j hj;have:=avu j hj;have hb:p.1=281474976710655:=by simpa[bcB]using hb
  rw[hb,cr];omega
 rcases RV (λj=>(j !=0)&&((ps.getD j mh).1==p.1)) (List.range' 0 ps.length)with⟨hf,GY⟩|⟨k,hk,hq,hf⟩;have GY:∀j,1<=j->j<ps.length->((ps.getD j mh).1==p.1)=false:=by intro j h2 h3;have:=GY j (by simp;omega);simp only[Bool.and_eq_false_iff,bne_eq_false_iff_eq]at this;rcases this with h|h;omega;exact h
 have hh:Jv ps p (ps.length-1)=0:=OZ _ λj h2 h3=>GY j h2 (by omega);rw[hf,show decide ((-1:Int)>=0)=false from rfl,af,hh];rw[show(p.1==281474976710655)=bcB p from rfl];cases hb:bcB p with|true=>simp only[ah,iA,dy];refine dC (λi=>(pY (range i),(i:Int))) ps.length (by omega) (λi nx hi=>?_) (λnx=>?_);simp only[lY];rw[iU,aO (by simp only[pY,bL,List.length_range,bf];omega),al,gP];simp only[ah,pY,ee];rfl;simp only[lY];rw[cz,af];exact Pb ps e v (range ps.length) (by simp;omega) (λj hj=>bD.1 hj) z|false=>simp only[af,Bool.or_false];rw[filter_one (by omega)];exact Pb ps e v [0] (by simp) (by simp;omega) z
 have Xa:k<ps.length:=by simp at hk;omega
 simp only[ae,bne_iff_ne]at hq;have hb:bcB p=false:=by cases hb:bcB p with|false=>rfl|true=>rw[anT hb k Xa]at hq;cases hq.2
 have hh:Jv ps p (ps.length-1)=k:=Sb (by omega) hq.2 _ (by omega) λj h2 h3 h4=>by rcases Nat.lt_trichotomy j k with g|g|g;have:=adE hp h2 g Xa;have a:=aZ.1 h4;have b:=aZ.1 hq.2;rw[a,b]at this;simp at this;exact g;have:=adE hp (show 1<=k by omega) g (show j<ps.length by omega);have a:=aZ.1 h4;have b:=aZ.1 hq.2;rw[a,b]at this;simp at this
 rw[hf,iU,ah,hh,hb];simp only[Bool.or_false];rw[filter_one Xa];exact Pb ps e v [k] (by simp) (by simp;omega) z
theorem Zk {e:Int}:∀j∈C5 ps e p,j<ps.length:=λj hj=>bD.1 (List.mem_filter.1 hj).1
theorem Gu (ps:aw Port)(e:Int)(p:aJ):(C5 ps e p).length<=ps.length:=bq (List.length_filter_le _ _) (by simp)
theorem adM (ms:aw bJ):Cw (du ms).1:=⟨(LC ms).1,(LC ms).2⟩
structure Cr (n:Nat) (c:de):Prop where
 z:dh n xG c
 h:∀x∈c.1,BB n x
theorem Cr.mono {n m:Nat}(k:Cr n c)(hn:n<=m:=by omega):Cr m c:=⟨k.z.mono hn,λx hx=>(k.h x hx).mono hn⟩
theorem Cr.sz {n:Nat}(k:Cr n c)(hn:n<=10^9:=by omega):ZL c:=by have z:dh 1000000000 xG c:=k.z.mono hn;exact⟨z.1.1,z.2.1.1,λm hm=>(z.2.2.1.2 m hm).1.2.2.1,λx hx=>(k.h x hx).sz hn⟩
theorem Cr.of (k:Rt xG c<=1048576):Cr 1048576 c:=by
 refine⟨Ky k,λh hh=>BB.of ?_⟩;have h1:=IA (Rt dk) c.1 h hh;have h2:(c.1.map (Rt dk)).sum<=Rt xG c:=by show _<=(c.1.length+(c.1.map (Rt dk)).sum)+_;omega
 omega
theorem Od (h:lE c=true):(du c.2.2.1).1.length=c.1.length+1/\(du c.2.2.1).1.length<=8/\c.1.length<=3:=by unfold lE at h;simp only[ae]at h;have hl:=(G6 h.2.1).1;have h2:=h.1;have h3:=Mz h2;unfold du at h2⊢;cases hc:cS (c.2.2.1.length:Int) 1 3&&(c.2.2.1.all jE&&iS (mc c.2.2.1))with|false=>rw[hc]at h2;cases h2|true=>simp only[ae]at hc;have:=(Jm c.2.2.1 0 ([0],[]) ⟨by simp,rfl,by simp⟩ hc.2.1).2.1;have h8:=hc.2.2;simp only[iS,ae,aX]at h8;simp only[ah];refine⟨?_,by omega,by omega⟩;simp only[mc,ba];rw[this,hl];omega
def akM (c:de)(f:Bytes):de:=(c.1,c.2.1,c.2.2.1,c.2.2.2.1,c.2.2.2.2.1,c.2.2.2.2.2.1,c.2.2.2.2.2.2++[f])
def Vl (c:de)(k:Nat)(h:Host):de:=(c.1.set k h,c.2)
def cW (ps:aw Port)(v:Int)(p:aJ)(c:de)(j:Nat):de:=
 bif j==0 then akM c (wk (Iv ps (j:Int) v p)).1 else
 match c.1[j-1]? with
 |some h=>Vl c (j-1) (lR h (wk (Iv ps (j:Int) v p)).1)
 |none=>c
theorem Kk {n:Nat}(z:Cr n c)(zh:BB n h):Cr n (Vl c k h):=by refine⟨⟨mZ z.z.1 zh.z,z.z.2⟩,λx hx=>?_⟩;rcases dv hx with g|g;exact z.h x g;rw[g];exact zh
theorem akN {n:Nat}{f:Bytes}(z:Cr n c)(hf:f.length<=n):Cr (n+1) (akM c f):=by have z':=z.mono (show n<=n+1 by omega);refine⟨⟨z'.z.1,z'.z.2.1,z'.z.2.2.1,z'.z.2.2.2.1,z'.z.2.2.2.2.1,z'.z.2.2.2.2.2.1,?_⟩,z'.h⟩;exact DR (t:=.str) (k:=1) z.z.2.2.2.2.2.2 (λy hy=>by rw[bF.1 hy];exact hf) (by simp)
theorem aj3 {n:Nat}(hn:1000<=n){v:Int}{j:Nat}(z:Cr n c):Cr (n+1) (cW ps v p c j)/\(cW ps v p c j).1.length=c.1.length:=by have hf:=GS (Iv ps (j:Int) v p);unfold cW;cases j==0 with|true=>exact⟨akN z (by omega),rfl⟩|false=>simp only[af];cases hx:c.1[j-1]? with|none=>exact⟨z.mono,rfl⟩|some h=>have hr:=Gg hn (wk (Iv ps (j:Int) v p)).1 (z.h h (aW hx));exact⟨(Kk z hr.1).mono,aB ..⟩
def Nr (ps:aw Port)(v:Int)(p:aJ)(c:de)(l:fE):de:=l.foldl (cW ps v p) c
theorem Vk {ps:aw Port}{v:Int}{p:aJ}:∀(l:fE){c:de}{n:Nat},1000<=n->Cr n c->Cr (n+l.length) (Nr ps v p c l)/\(Nr ps v p c l).1.length=c.1.length
 |[],c,n,_,z=>⟨z,rfl⟩
 |j::l,c,n,hn,z=>by have h1:=aj3 (ps:=ps) (v:=v) (p:=p) (j:=j) hn z;have:=Vk (ps:=ps) (v:=v) (p:=p) l (show 1000<=n+1 by omega) h1.1;exact⟨this.1.mono (by simp only[ba];omega),this.2.trans h1.2⟩
theorem ago (ps:aw Port)(v:Int)(p:aJ)(c:de)(l:fE)(i:Nat)(hi:i<l.length):Nr ps v p c (l.take (i+1))=cW ps v p (Nr ps v p c (l.take i)) l[i]:=by rw[bn hi,Nr,List.foldl_append];rfl
theorem Mn (K:de->ay R)(ps:aw Port)(v:Int)(p:aJ)(c B:de)(l:fE)(hl:l.length<=8)(hj:∀j∈l,j<=c.1.length)(z:Cr 800000000 c)(zp:Cw ps): bc (lI (λ(_:Int) (Fi:de)=>K Fi) ps v (pY l) ((pY l).length:Int) p B) fuel (0,c)=K (Nr ps v p c l):=by
 refine dC (λi=>((i:Int),Nr ps v p c (l.take i))) l.length (by omega) (λi nx hi=>?_) (λnx=>?_);have hi2:i<(pY l).length:=by simpa[pY]using hi
 have e1:(pY l)[i]'hi2=(l[i]:Int):=by simp[pY]
 have hz:=Vk (ps:=ps) (v:=v) (p:=p) (l.take i) (by omega) z;have hzz:=hz.1.mono (show 800000000+(l.take i).length<=900000000 by rw[aV];omega);have hji:=hj _ (aI hi);have jH:=GS (Iv ps (l[i]:Int) v p);rw[ago ps v p c l i hi];have hn:=hz.2;generalize Nr ps v p c (l.take i)=W at hn hzz⊢;have hw:W.2.2.2.2.2.2.length<=900000000:=hzz.z.2.2.2.2.2.2.1;simp only[lI];rw[au (by simpa[pY]using hi),bj hi2,e1,al (n:=(i:Int)+1)];simp only[ah,ab,afg ps _ v p zp,Sk,cW];have hcl:c.1.length<=800000000:=z.z.1.1;by_cases h0:l[i]=0;rw[show((l[i]:Int)==0)=true from by simp[h0],show(l[i]==0)=true from by simp[h0]];simp only[ah];rw[aO (by simp only[bf];omega)];rfl;rw[show((l[i]:Int)==0)=false from by simp[h0],show(l[i]==0)=false from by simp[h0]];have hk:l[i]-1<W.1.length:=by omega
 rw[al (n:=(l[i]:Int)-1),show(l[i]:Int)-1=((l[i]-1:Nat):Int) by omega];simp only[af,bj hk,ab,JK _ _ (hzz.h _ (aI hk)) (bq jH (by omega)),ax,ak hk];rfl;simp only[lI];rw[aq (by simp[pY]),af,cO]
def qy (c:de)(e:Int)(p:aJ):de:=
 bif decide (po (du c.2.2.1).1 e p<0) then c else Nr (du c.2.2.1).1 (po (du c.2.2.1).1 e p) p c (C5 (du c.2.2.1).1 e p)
def tC (c:de)(e:Int)(p:aJ):de:=bif lE c&&eJ p then qy c e p else c
theorem FZ (c:de)(e:Int)(p:aJ)(k:Cr 800000000 c):my c e p=some (tC c e p):=by have z9:dh 1000000000 xG c:=k.z.mono;unfold my tC;simp only[wu c z9,DL c (k.sz),xS,ab];cases h:lE c;rfl;cases eJ p;rfl;have hn:=Od h;have zp:=adM c.2.2.1;unfold qy;simp only[aj,af,ab,cG,ah,CO _ (λm hm=>(z9.2.2.1.2 m hm).1.2.2.1),Ir _ e p zp,F2 _ e p zp];generalize (du c.2.2.1).1=ps at hn zp⊢;unfold NR;cases decide (po ps e p<0)with|true=>exact Mn (λc=>some c) ps (po ps e p) p c _ [] (by simp) (by simp) k zp|false=>exact Mn (λc=>some c) ps (po ps e p) p c _ (C5 ps e p) (by have:=Gu ps e p;omega) (λj hj=>by have:=Zk j hj;omega) k zp
theorem ML {n:Nat}(hn:1000<=n){e:Int}(z:Cr n c)(h:lE c=true):Cr (n+8) (qy c e p)/\(qy c e p).1.length=c.1.length:=by have h3:=Od h;unfold qy;generalize (du c.2.2.1).1=ps at h3⊢;cases decide (po ps e p<0)with|true=>exact⟨z.mono,rfl⟩|false=>have h8:=Gu ps e p;have:=Vk (ps:=ps) (v:=po ps e p) (p:=p) (C5 ps e p) hn z;exact⟨this.1.mono,this.2⟩
def EK (c:de):de:=(c.1,c.2.1,c.2.2.1,c.2.2.2.1,c.2.2.2.2.1,c.2.2.2.2.2.1++[c.2.2.2.2.1.1],c.2.2.2.2.2.2)
def sk (c:de)(x:Bytes):de:=bif !lE c then c else bif (gv x).2==0 then qy (EK c) 0 (gv x).1 else EK c
theorem Tc {n:Nat}(z:Cr n c):Cr (n+1) (EK c):=by have z':=z.mono (show n<=n+1 by omega);refine⟨⟨z'.z.1,z'.z.2.1,z'.z.2.2.1,z'.z.2.2.2.1,z'.z.2.2.2.2.1,?_,z'.z.2.2.2.2.2.2⟩,z'.h⟩;exact DR (t:=.int .i64) (k:=1) z.z.2.2.2.2.2.1 (λ_ _=>trivial) (by simp)
theorem Vf (h:((gv x).2==0)=true):eJ (gv x).1=true:=by
 unfold gv at h⊢;simp only at h⊢;cases h1:(zZ x).2 with|false=>rw[h1]at h;cases h|true=>?_
 rw[h1]at h;simp only[aj,af]at h⊢;cases h2:(kl (zZ x).1).2 !=0 with|true=>rw[h2]at h;simp only[bne,ah]at h h2;rw[h]at h2;cases h2|false=>rw[h2]at h;simp only[af]at h⊢;cases h3:eJ (kl (zZ x).1).1 with|false=>rw[h3]at h;cases h|true=>exact h3
theorem Nk (c:de)(x:Bytes)(k:Cr 700000000 c)(hx:x.length<=10^9):sD c x=some (sk c x):=by have hl:c.2.2.2.2.2.1.length<=700000000:=k.z.2.2.2.2.2.1.1;have ks:=(Tc k).mono (show 700000000+1<=800000000 by omega);unfold sD sk;rw[wu c (k.z.mono),ab,DL c (k.sz),ab];cases h:lE c;rfl;have hs:lE (EK c)=true:=h;simp only[aj,af];rw[aO (by rw[bf];omega),Lc x hx,ab];have hp:=Vf (x:=x);generalize gv x=f at hp⊢;cases hf:f.2==0;rfl;have e:=FZ (EK c) 0 f.1 ks;unfold tC at e;rw[hs,hp hf]at e;simp only[cG,ah]at e⊢;rw[show my (c.1,c.2.1,c.2.2.1,c.2.2.2.1,c.2.2.2.2.1,c.2.2.2.2.2.1++[c.2.2.2.2.1.1],c.2.2.2.2.2.2) 0 f.1=_ from e,ab]
theorem YD {n:Nat}(hn:1000<=n)(x:Bytes)(z:Cr n c):Cr (n+9) (sk c x)/\(sk c x).1.length=c.1.length:=by unfold sk;cases h:lE c;exact⟨z.mono,rfl⟩;have zs:=Tc z;simp only[aj,af];cases (gv x).2==0 with|true=>have:=ML (show 1000<=n+1 by omega) (e:=0) (p:=(gv x).1) zs (show lE (EK c)=true from h);exact⟨this.1,this.2⟩|false=>exact⟨zs.mono,rfl⟩
theorem acP {n:Nat}(hn:1000<=n)(e:Int)(p:aJ)(z:Cr n c):Cr (n+8) (tC c e p)/\(tC c e p).1.length=c.1.length:=by unfold tC;cases h:lE c;exact⟨z.mono,rfl⟩;cases eJ p with|false=>exact⟨z.mono,rfl⟩|true=>exact ML hn z h
theorem WX (g:Good n h){f:Filter}(hf:eV f=true):Good n (vF h f):=⟨g.mem,g.maps,g.tx,hf,g.lens,g.Vu,g.rx,g.pool,g.vec,g.IT⟩
def arc (s:bP×aw Port)(f:Filter):bP×aw Port:=(f.2.2.foldl xL s.1,s.2++[(f.1,f.2.2.foldl xL [0],0,true)])
theorem Qn (ms:aw bJ)(s:bP×aw Port):ms.foldl Ff s=(ms.map (·.1)).foldl arc s:=by rw[List.foldl_map];rfl
theorem Yu {ns:aw bJ}(h:ms.map (·.1)=ns.map (·.1)):mc ms=mc ns:=by unfold mc;rw[Qn,Qn,h]
theorem alZ {b':bJ}(hk:ms[k]?=some b)(h:b'.1=b.1):(ms.set k b').map (·.1)=ms.map (·.1):=by obtain⟨gF,e⟩:=aC.1 hk;rw[List.map_set,h,<-e,<-List.getElem_map (f:=λx:bJ=>x.1) (h:=by rw[bL];exact gF),List.set_getElem_self]
theorem acf (h:(du ms).2=true){b':bJ}(hk:ms[k]?=some b)(hf:b'.1=b.1)(hm:jE b'=true):(du (ms.set k b')).2=true:=by
 have p:=lx h;unfold du;rw[Yu (alZ hk hf),aB,p.2.2.1,aX.2 ⟨by omega,by omega⟩];have:(ms.set k b').all jE=true:=by rw[aD];intro x hx;rcases dv hx with g|g;exact p.2.2.2.1 x g;rw[g];exact hm
 rw[this];rfl
theorem Z3 (h:(du ms).2=true)(hk:ms[k]?=some b){m:tX}(hm:m.1=b.2.1+1)(hn:b.2.1<=n/\b.2.2.2<=n)(Dh:n<=100000000000):∃b',pn ms k m=(ms.set k b',b'.2.2.1)/\b'.2.1=m.1/\b'.2.2.2=b.2.2.2+1/\(du (ms.set k b')).2=true:=by
 have p:=lx h;have hb:jE b=true:=p.2.2.2.1 b (aW hk);have hi:=X6 hb;have hh:mN b m=(((mH b.1 m).1,m.1,(mH b.1 m).2,b.2.2.2+1),(mH b.1 m).2):=by unfold mN;rw[hb,ah,show(m.1==b.2.1)=false from by rw[cr];omega,af,show(m.1==b.2.1+1)=true from by rw[aZ];exact hm,ah]
 unfold pn;rw[hk];simp only[hh];cases hp:(du (ms.set k ((mH b.1 m).1,m.1,(mH b.1 m).2,b.2.2.2+1))).2 with|true=>exact⟨((mH b.1 m).1,m.1,(mH b.1 m).2,b.2.2.2+1),rfl,rfl,rfl,hp⟩|false=>refine⟨(b.1,m.1,0,b.2.2.2+1),?_,rfl,rfl,?_⟩;rw[af,al];refine acf h hk rfl ?_;unfold jE at hb⊢;simp only[ae,aX]at hb⊢;refine⟨hb.1,⟨?_,?_⟩,?_,?_⟩;show 0<=m.1;omega;show m.1<=_;omega;show 0<=b.2.2.2+1;omega;show b.2.2.2+1<=_;omega
theorem Z4 (h:(du ms).2=true)(hk:ms[k]?=some b){m:tX}(hm:m.1=b.2.1):pn ms k m=(ms,b.2.2.1):=by
 have p:=lx h;have hb:jE b=true:=p.2.2.2.1 b (aW hk);have hh:mN b m=(b,b.2.2.1):=by unfold mN;rw[hb,ah,show(m.1==b.2.1)=true from by rw[aZ];exact hm,ah]
 have hs:ms.set k b=ms:=by obtain⟨gF,e⟩:=aC.1 hk;rw[<-e,List.set_getElem_self]
 unfold pn;rw[hk];simp only[hh];rw[hs,h,ah]
theorem V4 (h:(du ms).2=true)(hk:ms[k]?=some b){m:tX}(h1:m.1≠b.2.1)(h2:m.1≠b.2.1+1):pn ms k m=(ms, -1):=by
 have p:=lx h;have hb:jE b=true:=p.2.2.2.1 b (aW hk);have hh:mN b m=(b, -1):=by unfold mN;rw[hb,ah,show(m.1==b.2.1)=false from by rw[cr];exact h1,af,show(m.1==b.2.1+1)=false from by rw[cr];exact h2,af]
 have hs:ms.set k b=ms:=by obtain⟨gF,e⟩:=aC.1 hk;rw[<-e,List.set_getElem_self]
 unfold pn;rw[hk];simp only[hh];rw[hs,h,ah]
def NU (c:de)(k:Nat)(h:Host)(b:bJ):de:=(c.1.set k (vF h b.1),c.2.1,c.2.2.1.set k b,c.2.2.2)
theorem aip {m:Int}(g:gD n c)(hm:n<=m)(hh:c.1[k]?=some h)(hp:(du (c.2.2.1.set k b)).2=true)(h1:b.2.1<=m/\b.2.2.2<=m):gD m (NU c k h b):=by
 have p:=lx hp;have q:=lx g.vS;obtain⟨gF,_⟩:=aC.1 hh;have hk:k<c.2.2.1.length:=by have:=g.len.1;omega
 have hb:jE b=true:=p.2.2.2.1 b (aW (dA hk));have hf:eV b.1=true:=by unfold jE at hb;simp only[ae]at hb;exact hb.1
 have gh:∀h0,c.1[k]?=some h0->Good n h0:=λh0 e=>(g.host k h0 _ e (ak hk)).1;refine⟨hp,⟨?_,?_⟩,?_,g.Nb,g.clock,λi h' b' e1 e2=>?_,λi hi=>g.place i ?_,λx hx=>?_,λf hf=>⟨by have:=(g.fnn f hf).1;omega,by have:=(g.fnn f hf).2;omega⟩⟩;show(c.1.set k _).length=(c.2.2.1.set k b).length;rw[aB,aB];exact g.len.1;show c.2.1.length=(c.2.2.1.set k b).length;rw[aB];exact g.len.2;have e:=g.fns;unfold ij at e⊢;rw[q.1,q.2.2.1,q.2.1,bl]at e;show(iS (du (c.2.2.1.set k b)).1&&(range c.2.1.length).all (fnB c.2.1 ((du (c.2.2.1.set k b)).1.length:Int)))=true;rw[p.1,p.2.2.1,bl,p.2.1,aB];exact e;have e1:(c.1.set k (vF h b.1))[i]?=some h':=e1;have e2:(c.2.2.1.set k b)[i]?=some b':=e2;by_cases hi:i=k;subst hi;rw[dA gF]at e1;rw[dA hk]at e2;rw[<-cc e1,<-cc e2];exact⟨WX ((gh h hh).mono hm) hf,rfl⟩;rw[aP (cR hi)]at e1 e2;exact⟨(g.host i h' b' e1 e2).1.mono hm,(g.host i h' b' e1 e2).2⟩;have hi:i<(c.1.set k (vF h b.1)).length:=hi;rw[aB]at hi;exact hi;rcases dv hx with e|e;have:=g.QR x e;omega;rw[e];exact h1
theorem apk {n:Nat}(hn:8<=n)(z:Cr n c)(hh:c.1[k]?=some h)(hb:b.1.2.2.length<=8):Cr n (NU c k h b):=by
 have zh:=z.h h (aW hh);have zl:dh n pk b.1:=⟨cy,cy,bq hb hn,λ_ _=>trivial⟩
 have y:=zh.z;have zf:BB n (vF h b.1):=⟨⟨y.1,y.2.1,y.2.2.1,y.2.2.2.1,y.2.2.2.2.1,y.2.2.2.2.2.1,y.2.2.2.2.2.2.1,zl,y.2.2.2.2.2.2.2.2⟩,zh.t⟩
 have s:=Kk (k:=k) z zf;exact⟨⟨s.z.1,z.z.2.1,mZ z.z.2.2.1 ⟨zl,cy,cy,cy⟩,z.z.2.2.2⟩,s.h⟩
theorem Wb (g:gD n c)(hn:n<=100000000000)(hk:c.2.2.1[k]?=some b){m:tX}(hm:m.1=b.2.1+1):∃h b',c.1[k]?=some h/\su c (k:Int) m=(NU c k h b',b'.2.2.1)/\b'.2.1=m.1/\b'.2.2.2=b.2.2.2+1/\(du (c.2.2.1.set k b')).2=true/\gD (n+1) (NU c k h b'):=by
 obtain⟨gF,_⟩:=aC.1 hk;have hx:k<c.1.length:=by have:=g.len.1;omega
 have hbn:=g.QR b (aW hk);obtain⟨b',e1,e2,e3,e4⟩:=Z3 g.vS hk hm hbn hn;refine⟨c.1[k],b',ak hx,?_,e2,e3,e4,aip g (by omega) (ak hx) e4 ⟨by omega,by omega⟩⟩;unfold su;rw[g.ok (by omega),aX.2 ⟨by omega,by omega⟩];simp only[cG,ah,ax,e1];rw[ak hx,dA gF];rfl
theorem Wc (g:gD n c)(hn:n<=100000000000)(hk:c.2.2.1[k]?=some b){m:tX}{a:Int}(he:pn c.2.2.1 k m=(c.2.2.1,a)):su c (k:Int) m=(c,a):=by
 obtain⟨gF,eb⟩:=aC.1 hk;have hx:k<c.1.length:=by have:=g.len.1;omega
 have hf:=(g.host k _ b (ak hx) hk).2;unfold su;rw[g.ok (by omega),aX.2 ⟨by omega,by omega⟩];simp only[cG,ah,ax,he];rw[ak hx,hk];simp only;have e:vF c.1[k] b.1=c.1[k]:=by rw[<-hf];rfl
 rw[e,List.set_getElem_self]
def IH (b:tX)(n:Int):tX×Bool:=bif iD b&&cS n 0 b.2.2 then((b.1,b.2.1,ar (b.2.2-n)),true) else(b,false)
theorem afo (b:tX)(n:Int):sN b n=some (IH b n):=by unfold sN IH;simp only[Io,ab,cl];cases iD b<;>cases cS n 0 b.2.2<;>rfl
def adg (f:aR):aR:=(f.1,f.2.1,f.2.2.1,f.2.2.2.1,f.2.2.2.2.1,ar (f.2.2.2.2.2+1))
def amV (f:aR)(b:tX):aR:=(f.1,f.2.1,b,f.2.2.2.1,ar (f.2.2.2.2.1+1),f.2.2.2.2.2)
def alN (ps:aw Port)(f:aR)(p:aJ):Bool:=f.2.2.2.1&&(!decide (po ps f.2.1 p<0)&&(IH f.2.2.1 ((dM p).1.length:Int)).2)
def vV (l:aw aR)(ps:aw Port)(a:Int)(p:aJ):aw aR×bP×Bool:=
 bif ij l ps&&(eJ p&&(!decide (a<0)&& !decide (a>=(l.length:Int)))) then
  match l[a.toNat]? with
  |some f=>bif alN ps f p then(l.set a.toNat (amV f (IH f.2.2.1 ((dM p).1.length:Int)).1),NR ps f.2.1 p,true) else(l.set a.toNat (adg f),[],false)
  |none=>(l,[],false)
 else(l,[],false)
theorem afm (l:aw aR)(ps:aw Port)(a:Int)(p:aJ)(h:l.length<=10^9)(z:Cw ps):yG l ps a p=some (vV l ps a p):=by
 unfold yG vV;rw[wv l h,ab,al (n:=(l.length:Int)-1)];simp only[HF l ps h z.1 z.2,xS,ab,cl];cases ij l ps;rfl;cases eJ p;rfl;rw[show cS a 0 ((l.length:Int)-1)=(!decide (a<0)&& !decide (a>=(l.length:Int))) from by rw[cq,aX];simp;omega];by_cases h0:a<0;rw[au h0];rfl;by_cases h1:a>=(l.length:Int)
 rw[aq h0,au h1];rfl;obtain⟨a,rfl⟩:=aQ (by omega:0<=a);have ha:a<l.length:=by omega
 rw[aq h0,aq h1];simp only[ax,ak ha,bj ha,ab,aj,bw,af,ah,cG,DM,afo,Ir _ _ p z,F2 _ _ p z,alN];generalize l[a]=f;cases h3:f.2.2.2.1 with|false=>simp only[bw,ah,af,dQ,ab,adg,h3]|true=>simp only[aj,af,bl,UF ha,ab,List.set_set];cases decide (po ps f.2.1 p<0)with|true=>simp only[aj,ah,dQ,af,ab,adg,h3]|false=>simp only[bw,af,bl,ab,F2 _ _ p z];cases (IH f.2.2.1 ((dM p).1.length:Int)).2 with|false=>simp only[bw,ah,af,adg,h3]|true=>simp only[aj,ah,af,amV,h3]
theorem S1 (l:aw aR)(ps:aw Port)(a:Int)(p:aJ):(vV l ps a p).1.length=l.length:=by unfold vV;cases ij l ps&&(eJ p&&(!decide (a<0)&& !decide (a>=(l.length:Int))));rfl;simp only[ah];cases l[a.toNat]? with|none=>rfl|some f=>cases h:alN ps f p<;>simp only[h,ah,af,aB]
theorem ajP {a:Int}(h:eJ p=false):vV l ps a p=(l,[],false):=by unfold vV;rw[h,dQ,ft,af]
theorem ab9:eJ pk0=false:=by decide
theorem ajB (h:((gv x).2==0)=false):eJ (gv x).1=false:=by
 unfold gv at h⊢;simp only at h⊢;cases h1:(zZ x).2;exact ab9;rw[h1]at h;simp only[aj,af]at h⊢;cases h2:(kl (zZ x).1).2 !=0;case true=>exact ab9
 rw[h2]at h;simp only[af]at h⊢;cases h3:eJ (kl (zZ x).1).1 with|false=>exact ab9|true=>rw[h3]at h;cases h
def GB (h:Host):bN:=h.2.2.2.2.2.2.2.2.2.2.2.1
theorem Tr (h:Host):(GB h).length<=(GB (fW h)).length/\(GB (fW h)).length<=(GB h).length+5440:=by have hA:=D6 h.2.1 h.1 0 17 [] 0 0 h.2.2.1.1 (λx hx=>by cases hx);unfold fW;cases dN h;exact⟨bh _,Nat.le_add_right _ _⟩;rw[show qR h.2.1 h.1 0 17 [] 0 0 h.2.2.1.1=lU h.2.1 h.1 0 h.2.2.1.1 from rfl]at hA;generalize lU h.2.1 h.1 0 h.2.2.1.1=x at hA⊢;simp only[ed]at hA;generalize (if(h.2.2.1.2.2.1.length:Int)<ar (x.2.2.1+x.2.2.2) then(h.2.2.1.2.2.1.length:Int) else ar (x.2.2.1+x.2.2.2))=q;show _<=(GB h++x.2.1).length/\(GB h++x.2.1).length<=_;rw[ai];have:=hA.1;omega
def Ms (h:Host):bN:=(GB (fW h)).drop (GB h).length
theorem Lv (h:Host):(Ms h).length<=5440:=by have:=Tr h;unfold Ms;rw[aL];omega
def CY (ps:aw Port)(k:Int)(c:de)(x:Bytes):de:=
 bif (vV c.2.1 ps k (gv x).1).2.2 then tC (c.1,(vV c.2.1 ps k (gv x).1).1,c.2.2) (ar (k+1)) (gv x).1 else(c.1,(vV c.2.1 ps k (gv x).1).1,c.2.2)
theorem adV {n:Nat}(h:l.length=c.2.1.length)(z:Cr n c):Cr n (c.1,l,c.2.2):=by refine⟨⟨z.z.1,⟨?_,λ_ _=>⟨cy,cy,⟨cy,cy,cy⟩,cy,cy,cy⟩⟩,z.z.2.2⟩,z.h⟩;have:=z.z.2.1.1;show l.length<=n;rw[h];exact this
theorem ajM {n:Nat}(hn:1000<=n){k:Int}(z:Cr n c):Cr (n+8) (CY ps k c x)/\(CY ps k c x).1.length=c.1.length:=by have zs:=adV (l:=(vV c.2.1 ps k (gv x).1).1) (S1 ..) z;unfold CY;cases (vV c.2.1 ps k (gv x).1).2.2 with|false=>exact⟨zs.mono,rfl⟩|true=>exact acP hn _ _ zs
theorem ajL {k:Int}(h:((gv x).2==0)=false):CY ps k c x=c:=by unfold CY;rw[ajP (ajB h)];rfl
def Fe (ps:aw Port)(k:Int)(c:de)(l:bN):de:=l.foldl (CY ps k) c
theorem P6 {ps:aw Port}{k:Int}:∀(l:bN){c:de}{n:Nat},1000<=n->Cr n c->Cr (n+8*l.length) (Fe ps k c l)/\(Fe ps k c l).1.length=c.1.length
 |[],c,n,_,z=>⟨z,rfl⟩
 |x::l,c,n,hn,z=>by have h1:=ajM hn (ps:=ps) (k:=k) (x:=x) z;have:=P6 (ps:=ps) (k:=k) l (show 1000<=n+8 by omega) h1.1;exact⟨this.1.mono (by simp only[ba];omega),this.2.trans h1.2⟩
theorem acv (ps:aw Port)(k:Int)(c:de)(l:bN)(i:Nat)(hi:i<l.length):Fe ps k c (l.take (i+1))=CY ps k (Fe ps k c (l.take i)) l[i]:=by rw[bn hi,Fe,List.foldl_append];rfl
theorem Xq (K:Int->de->ay R)(ps:aw Port)(k:Int)(l:bN)(c B:de)(hl:l.length<=5440)(hx:∀x∈l,x.length<=10^9)(z:Cr 700000000 c)(zp:Cw ps): bc (jV K k ps l (l.length:Int) B) fuel (0,c)=K (l.length:Int) (Fe ps k c l):=by
 have Df:=eo;refine dC (λi=>((i:Int),Fe ps k c (l.take i))) l.length (by omega) (λi nx hi=>?_) (λnx=>?_);have hz:=(P6 (ps:=ps) (k:=k) (l.take i) (by omega) z).1.mono (show 700000000+8*(l.take i).length<=800000000 by rw[aV];omega);rw[acv ps k c l i hi];generalize Fe ps k c (l.take i)=W at hz⊢;simp only[jV];rw[iU,ah,bj hi,ab,Lc _ (hx _ (aI hi)),ab,al (n:=(i:Int)+1)];cases hf:(gv l[i]).2==0 with|false=>rw[ajL hf];simp only[bne,hf,bw,ah];rfl|true=>have zs:=adV (l:=(vV W.2.1 ps k (gv l[i]).1).1) (S1 ..) hz;simp only[bne,hf,aj,af];rw[afm _ _ _ _ (bq hz.z.2.1.1 (by omega)) zp,ab,FZ _ _ _ zs,ab,CY];cases (vV W.2.1 ps k (gv l[i]).1).2.2<;>rfl
 simp only[jV];rw[cz,af,cO]
def we (c:de)(k:Int):de:=
 bif lE c&&(!decide (k<0)&& !decide (k>=(c.1.length:Int))) then
  match c.1[k.toNat]? with
  |some h=>Fe (du c.2.2.1).1 k (Vl c k.toNat (fW h)) (Ms h)
  |none=>c
 else c
theorem abk (c:de)(k:Int)(z:Cr 600000000 c):qY c k=some (we c k):=by
 have z9:dh 1000000000 xG c:=z.z.mono;have hl:c.2.1.length<=600000000:=z.z.2.1.1;unfold qY we;rw[wu c z9,ab,DL c (z.sz),ab,cl,al (n:=(c.2.1.length:Int)-1)];cases hb:lE c;rfl;have h2:c.1.length=c.2.1.length:=by unfold lE at hb;simp only[ae]at hb;have:=G6 hb.2.1;omega
 rw[show cS k 0 ((c.2.1.length:Int)-1)=(!decide (k<0)&& !decide (k>=(c.1.length:Int))) from by rw[cq,aX];simp;omega];by_cases h0:k<0;rw[au h0];rfl;by_cases h1:k>=(c.1.length:Int)
 rw[aq h0,au h1];rfl;obtain⟨k,rfl⟩:=aQ (by omega:0<=k);have hk:k<c.1.length:=by omega
 rw[aq h0,aq h1];have hz:=z.h _ (aI hk);have zt:=ET (by omega) hz;have zc:Cr 700000000 (Vl c k (fW c.1[k])):=(Kk (z.mono (show 600000000<=600005440 by omega)) zt).mono;have hg:=Tr c.1[k];have hw:∀x∈Ms c.1[k],x.length<=10^9:=λx hx=>bq (zt.z.2.2.2.2.2.2.2.2.2.2.2.1.2 x (List.mem_of_mem_drop hx)) (by omega);have hn:=Lv c.1[k];have zp:=adM c.2.2.1;simp only[ax,ak hk,bj hk,UF hk,ab,aj,bw,af,ah,cG,CO _ (λm hm=>(z9.2.2.1.2 m hm).1.2.2.1),JP _ (hz.mono)];rw[show sub (fW c.1[k]).2.2.2.2.2.2.2.2.2.2.2.1 ((c.1[k].2.2.2.2.2.2.2.2.2.2.2.1).length:Int) (((fW c.1[k]).2.2.2.2.2.2.2.2.2.2.2.1).length:Int)=some (Ms c.1[k]) from Kx _ _ hg.1];simp only[ab,mw _ (bq hn (by omega:5440<=10^9))];exact Xq (λ_ y=>some y) (du c.2.2.1).1 (k:Int) (Ms c.1[k]) (Vl c k (fW c.1[k])) _ hn hw zc zp
theorem aaa {n:Nat}(hn:1000<=n)(k:Int)(z:Cr n c):Cr (n+48960) (we c k)/\(we c k).1.length=c.1.length:=by unfold we;cases lE c&&(!decide (k<0)&& !decide (k>=(c.1.length:Int)));exact⟨z.mono,rfl⟩;simp only[ah];cases hx:c.1[k.toNat]? with|none=>exact⟨z.mono,rfl⟩|some h=>have zt:=ET (by omega) (z.h h (aW hx));have zc:=Kk (k:=k.toNat) (z.mono (show n<=n+5440 by omega)) zt;have:=P6 (ps:=(du c.2.2.1).1) (k:=k) (Ms h) (by omega) zc;have hl:=Lv h;refine⟨this.1.mono,this.2.trans ?_⟩;show(c.1.set _ _).length=_;rw[aB]
structure lj (a b:Host):Prop where
 maps:b.2.1=a.2.1
 mem:b.1.length=a.1.length
theorem lj.refl (a:Host):lj a a:=⟨rfl,rfl⟩
theorem lj.trans {a b c:Host}(h:lj a b)(g:lj b c):lj a c:=⟨g.maps.trans h.maps,g.mem.trans h.mem⟩
theorem lj.of {a b:Host}(h:lC k a b):lj a b:=⟨h.maps,h.mem⟩
theorem al9 (l:aw aE)(m:bN)(d:Int)(q:cp)(k s:Bytes):(iT l m d q k s).1.length=m.length:=by
 unfold iT;cases !(dw s).2||(((dw s).1.1 !=3)||decide ((dw s).1.2.2.1<((dM q.2.2.2.1.1).1.length:Int)));case true=>rfl
 cases (iM l m d (dw s).1.2.2.2.1 (dM q.2.2.2.1.1).1 true).2 with
 |false=>rfl
 |true=>
  simp only[af,aj];unfold CW;cases !fY q.2.1|| !BG _;case true=>exact kE ..
  cases (iM l (iM l m d (dw s).1.2.2.2.1 (dM q.2.2.2.1.1).1 true).1 d (tK q.2.1) _ true).2 with|false=>exact kE ..|true=>exact(kE ..).trans (kE ..)
theorem Um (l:aw aE)(m:bN)(d:Int)(q:cp)(k:Bytes):(jo l m d q k).1.length=m.length:=by
 unfold jo;cases !HQ q||(!q.2.2.2.2.1||((k.length:Int) !=16));case true=>rfl
 cases (bB l m d q.1).2.2&&(iT l m d q k (bB l m d q.1).1).2.2 with|true=>exact al9 ..|false=>rfl
theorem ahi (l:aw aE)(m:bN)(d:Int)(q:cp)(k:Bytes)(p:aJ)(c:Bool):(mE l m d q k p c).1.length=m.length:=by
 unfold mE;cases !HQ q||(!eJ p||((k.length:Int) !=16));case true=>rfl
 cases c&&(q.2.2.2.2.1&&KR q.2.2.2.1 p);case true=>rfl
 cases c with|true=>exact Um ..|false=>exact(Um ..).trans (Um ..)
theorem ajO (l:aw aE)(m:bN)(d:Int)(t:dU)(p:aJ)(c z:Int):(yd l m d t p c z).1.length=m.length:=by unfold yd;cases M6 t&&(dJ p&&(cS z 1 t.2.1.2.1&&cS c 1 128));rfl;cases L9 t (BF p z.toNat);rfl;simp only[ah];cases hw:zx l d t.2.1 z.toNat (lg t.2.1 (BF p z.toNat:Int)).2.1 (kS p).1 m []with|none=>rfl|some x=>have hx:=(Jj _ _ _ _ _ _ _ _ hw).1;simp only;unfold P7 xf;cases hp:tc l d ((rL x.1 c t.2.2.2).map Av) x.2 t.1 with|none=>rfl|some y=>exact(MA _ _ _ _ _ hp).trans hx
theorem agK (h:Host)(p:aJ)(c z:Int):lj h (Cd h p c z).1:=by unfold Cd;cases dN h with|false=>exact lj.refl h|true=>exact⟨rfl,ajO ..⟩
theorem HW (h:Host):lj h (fW h):=by unfold fW;cases dN h with|false=>exact lj.refl h|true=>exact⟨rfl,rfl⟩
theorem acH (h:Host):lj h (xP h):=by unfold xP;cases dN h with|false=>exact lj.refl h|true=>exact lj.of (oW zy h _)
theorem Te (h:Host):lj h (xB h):=by unfold xB;cases dN h with|false=>exact lj.refl h|true=>exact lj.of (oW Cm h _)
theorem Vs (h:Host)(b:Int):lj h (oG h b).1:=by unfold oG;cases dN h&&cS b 1 1000 with|false=>exact lj.refl h|true=>exact lj.of (Bv b h _)
theorem Kv (h:Host)(x:Bytes):lj h (lR h x):=by
 unfold lR;cases dN h;exact lj.refl h;cases (gv x).2 !=0;case true=>exact⟨rfl,rfl⟩
 cases !zu h.2.2.2.2.2.2.2.1 (gv x).1;case true=>exact⟨rfl,rfl⟩
 cases tS h.2.2.2.2.2.2.2.2.1 (h.2.2.2.1.length:Int) (gv x).1== -1;case true=>exact⟨rfl,rfl⟩
 simp only[aj,af];cases hq:h.2.2.2.1[(tS h.2.2.2.2.2.2.2.2.1 (h.2.2.2.1.length:Int) (gv x).1).toNat]? with|none=>exact lj.refl h|some q=>exact lj.trans (b:=Da h _ _ _ _) ⟨rfl,rfl⟩ (lj.of (GC (ahi ..)))
theorem Ku (h:Host):∀k,lj h (uZ h k)
 |0=>lj.refl h
 |k+1=>by refine(Ku h k).trans ?_;show lj (uZ h k) (xY (uZ h k) k 1000).2;generalize uZ h k=s;unfold xY;rcases s.2.2.2.1[k]? with _|rx;exact lj.refl s;rcases s.2.2.2.2.1[k]? with _|pl;exact lj.refl s;exact⟨rfl,adL ..⟩
theorem HU (h:Host):∀k,lj h (returned h k)
 |0=>Ku h _
 |k+1=>by refine(HU h k).trans ?_;show lj (returned h k) (PZ h.2.2.1.2.2.1 k (returned h k));unfold PZ;cases h.2.2.1.2.2.1[k]? with|none=>exact lj.refl _|some x=>exact⟨rfl,rfl⟩
theorem Qk (h:Host):lj h (tQ h):=by unfold tQ;cases dN h with|false=>exact lj.refl h|true=>have k:=yM (sy h) h.2.2.2.1.length;have r:=HU h h.2.2.1.2.2.1.length;exact⟨k.maps.trans r.maps,k.mem.trans r.mem⟩
theorem aj2 (h:Host)(a:Act):lj h (I1 h a).1:=by
 unfold I1;cases !dN h|| !Hl a;case true=>exact lj.refl h
 simp only[af];cases a.1==0;case true=>exact agK ..
 cases a.1==1;case true=>exact HW h
 cases a.1==2;case true=>exact Kv ..
 cases a.1==3;case true=>exact acH h
 cases a.1==4;case true=>exact Te h
 cases a.1==5 with|true=>exact Vs ..|false=>exact Qk h
def sB (h:Host):Filter:=h.2.2.2.2.2.2.2.1
theorem ald (k:Nat)(h:Host):sB (evS k h)=sB h:=by unfold evS;cases h.2.2.2.2.2.1[k]?<;>rfl
theorem ado (k:Nat)(h:Host):∀i,sB (evH k i h)=sB h
 |0=>rfl
 |i+1=>(ald k _).trans (ado k h i)
theorem aa4 (h:Host)(k:Nat)(b:Int)(f:bN×cp):sB (IP h k b f)=sB h:=(ado k _ _).trans rfl
theorem Mb (h:Host)(x:Bytes):sB (lR h x)=sB h:=by
 unfold lR;cases dN h;rfl;cases (gv x).2 !=0;case true=>rfl
 cases !zu h.2.2.2.2.2.2.2.1 (gv x).1;case true=>rfl
 cases tS h.2.2.2.2.2.2.2.2.1 (h.2.2.2.1.length:Int) (gv x).1== -1;case true=>rfl
 simp only[aj,af];cases h.2.2.2.1[(tS h.2.2.2.2.2.2.2.2.1 (h.2.2.2.1.length:Int) (gv x).1).toNat]? with|none=>rfl|some q=>exact aa4 ..
theorem aeQ (h:Host):sB (xP h)=sB h:=by unfold xP;cases dN h with|false=>rfl|true=>exact(oW zy h _).sB
theorem WM (h:Host):sB (xB h)=sB h:=by unfold xB;cases dN h with|false=>rfl|true=>exact(oW Cm h _).sB
theorem WL (h:Host)(b:Int):sB (oG h b).1=sB h:=by unfold oG;cases dN h&&cS b 1 1000 with|false=>rfl|true=>exact(Bv b h _).sB
theorem Jl (h:Host):sB (fW h)=sB h:=by unfold fW;cases dN h<;>rfl
theorem aif (h:Host)(p:aJ)(c z:Int):sB (Cd h p c z).1=sB h:=by unfold Cd;cases dN h<;>rfl
theorem aa2 (h:Host)(i:Nat)(c:Int):sB (xY h i c).2=sB h:=by unfold xY;rcases h.2.2.2.1[i]? with _|rx;rfl;cases h.2.2.2.2.1[i]? with|none=>rfl|some pl=>rfl
theorem Ma (h:Host):∀k,sB (uZ h k)=sB h
 |0=>rfl
 |k+1=>(aa2 _ k 1000).trans (Ma h k)
theorem Ef (h:Host):∀k,sB (returned h k)=sB h
 |0=>Ma h _
 |k+1=>by have e:returned h (k+1)=PZ h.2.2.1.2.2.1 k (returned h k):=rfl;rw[e];unfold PZ;cases h.2.2.1.2.2.1[k]? with|none=>exact Ef h k|some x=>exact(show sB (adS (returned h k) [x.1])=sB (returned h k) from rfl).trans (Ef h k)
theorem aa3 (k:Nat)(h:Host):sB (yc k h)=sB h:=by unfold yc;rcases h.2.2.2.1[k]? with _|x;rfl;cases h.2.2.2.2.2.1[k]? with|none=>rfl|some v=>rfl
theorem Jk (h:Host):∀k,sB (iO h k)=sB h
 |0=>rfl
 |k+1=>(aa3 k _).trans (Jk h k)
theorem R0 (h:Host):sB (tQ h)=sB h:=by unfold tQ;cases dN h with|false=>rfl|true=>exact(Jk _ _).trans ((show sB (sy h)=sB (returned h h.2.2.1.2.2.1.length) from rfl).trans (Ef h _))
theorem alc (h:Host)(a:Act):sB (I1 h a).1=sB h:=by
 unfold I1;cases !dN h|| !Hl a;case true=>rfl
 simp only[af];cases a.1==0;case true=>exact aif ..
 cases a.1==1;case true=>exact Jl h
 cases a.1==2;case true=>exact Mb ..
 cases a.1==3;case true=>exact aeQ h
 cases a.1==4;case true=>exact WM h
 cases a.1==5 with|true=>exact WL ..|false=>exact R0 h
theorem gD.at (g:gD n c)(hi:c.1[i]?=some h):Good n h:=by obtain⟨gF,_⟩:=aC.1 hi;exact(g.host i h _ hi (ak (by have:=g.len.1;omega))).1
theorem OP {m:Int}(g:gD n c)(hm:n<=m){hs:aw Host}(hl:hs.length=c.1.length)(h:∀(i:Nat)(h':Host),hs[i]?=some h'->∃h0,c.1[i]?=some h0/\Good m h'/\sB h'=sB h0):gD m (hs,c.2):=by have q:=g.mono hm;refine⟨q.vS,⟨hl.trans q.len.1,q.len.2⟩,q.fns,q.Nb,q.clock,λi h' b e1 e2=>?_,λi hi=>q.place i (by rw[<-hl];exact hi),q.QR,q.fnn⟩;obtain⟨h0,a,b',e⟩:=h i h' e1;exact⟨b',e.trans (q.host i h0 b a e2).2⟩
theorem K1 {m:Int}(g:gD n c)(hm:n<=m){h0:Host}(hk:c.1[k]?=some h0)(gh:Good m h)(e:sB h=sB h0):gD m (Vl c k h):=by refine OP g hm (aB ..) λi h' hi=>?_;by_cases hik:i=k;subst hik;obtain⟨gF,_⟩:=aC.1 hk;rw[dA gF]at hi;rw[<-cc hi];exact⟨h0,hk,gh,e⟩;rw[aP (cR hik)]at hi;exact⟨h',hi,(g.at hi).mono hm,rfl⟩
theorem R5 {m:Int}(g:gD n c)(hm:n<=m){f:Host->Host}(hf:∀h,Good n h->Good m (f h))(he:∀h,sB (f h)=sB h):gD m (c.1.map f,c.2):=by refine OP g hm (bL ..) λi h' hi=>?_;rw[List.getElem?_map]at hi;cases hc:c.1[i]? with|none=>rw[hc]at hi;cases hi|some h0=>rw[hc]at hi;rw[<-cc hi];exact⟨h0,rfl,hf h0 (g.at hc),he h0⟩
theorem abc (g:gD n c)(f:Bytes):gD n (akM c f):=⟨g.vS,g.len,g.fns,g.Nb,g.clock,g.host,g.place,g.QR,g.fnn⟩
theorem Mf (g:gD n c):gD n (EK c):=⟨g.vS,g.len,g.fns,g.Nb,g.clock,g.host,g.place,g.QR,g.fnn⟩
theorem aba (hn:n<=600000000000)(g:gD n c)(ps:aw Port)(v:Int)(p:aJ)(j:Nat):gD (n+641) (cW ps v p c j):=by unfold cW;cases j==0 with|true=>exact(abc g _).mono|false=>simp only[af];cases hc:c.1[j-1]? with|none=>exact g.mono|some h=>exact K1 g (by omega) hc (Jr (by omega) (g.at hc) _) (Mb ..)
theorem R6 (ps:aw Port)(v:Int)(p:aJ):∀(l:fE){n:Int}{c:de},n+641*(l.length:Int)<=600000000000->gD n c->gD (n+641*(l.length:Int)) (Nr ps v p c l)
 |[],n,c,_,g=>g.mono (by simp)
 |j::l,n,c,hn,g=>by simp only[ba]at hn;have i:=R6 ps v p l (n:=n+641) (by omega) (aba (by omega) g ps v p j);exact i.mono (by simp only[ba];push_cast;omega)
theorem Hw (hn:n<=500000000000)(g:gD n c)(e:Int)(p:aJ):gD (n+2564) (qy c e p):=by unfold qy;cases decide (po (du c.2.2.1).1 e p<0)with|true=>exact g.mono|false=>have h1:=Gu (du c.2.2.1).1 e p;have h2:=(age c.2.2.1).1;exact(R6 _ _ _ _ (by omega) g).mono
theorem Uq (hn:n<=500000000000)(g:gD n c)(e:Int)(p:aJ):gD (n+2564) (tC c e p):=by unfold tC;cases lE c&&eJ p with|true=>exact Hw hn g e p|false=>exact g.mono
theorem QW (hn:n<=500000000000)(g:gD n c)(x:Bytes):gD (n+2564) (sk c x):=by
 unfold sk;cases !lE c;case true=>exact g.mono
 cases (gv x).2==0 with|true=>exact Hw hn (Mf g) 0 _|false=>exact(Mf g).mono
theorem ail {f:aR}(hk:k<l.length):(l.set k f).getD i KY=if i=k then f else l.getD i KY:=by rw[bK,bK];by_cases h:i=k;subst h;rw[aH rfl,dA hk];rfl;rw[aG h,aP (cR h)]
theorem Un:ij l ps=true↔iS ps=true/\∀i,i<l.length->E6 (ps.length:Int) (l.getD i KY)=true/\∀j,j<i->aeS (l.getD i KY) (l.getD j KY)=false:=by unfold ij fnB;simp only[ae,aD,bD,aK]
theorem aii {l':aw aR}(h:ij l ps=true)(hl:l'.length=l.length)(hx:∀i,i<l.length->(l'.getD i KY).1=(l.getD i KY).1/\(l'.getD i KY).2.1=(l.getD i KY).2.1/\E6 (ps.length:Int) (l'.getD i KY)=true):ij l' ps=true:=by rw[Un]at h⊢;refine⟨h.1,λi hi=>⟨(hx i (by omega)).2.2,λj hj=>?_⟩⟩;have q:=(h.2 i (by omega)).2 j hj;have a:=hx i (by omega);have b:=hx j (by omega);unfold aeS at q⊢;rw[a.1,a.2.1,b.1,b.2.1];exact q
theorem aca {l':aw aR}(h:Ag l i=true)(hx:(l'.getD i KY).1=(l.getD i KY).1/\(l'.getD i KY).2.1=(l.getD i KY).2.1):Ag l' i=true:=by unfold Ag at h⊢;rw[hx.1,hx.2];exact h
theorem WZ {m:Int}(g:gD n c)(hm:n<=m)(hl:l.length=c.2.1.length)(hx:∀i,i<c.2.1.length->(l.getD i KY).1=(c.2.1.getD i KY).1/\(l.getD i KY).2.1=(c.2.1.getD i KY).2.1/\E6 ((du c.2.2.1).1.length:Int) (l.getD i KY)=true)(hc:∀f∈l,f.2.2.2.2.1<=m/\f.2.2.2.2.2<=m):gD m (c.1,l,c.2.2):=by
 have q:=g.mono hm;refine⟨q.vS,⟨q.len.1,hl.trans q.len.2⟩,aii q.fns hl hx,q.Nb,q.clock,q.host,λi hi=>?_,q.QR,hc⟩;have hi:i<c.1.length:=hi;have gF:i<c.2.1.length:=by have:=q.len;omega
 exact aca (q.place i hi) ⟨(hx i gF).1,(hx i gF).2.1⟩
theorem FJ {f:aR}:E6 n f=true↔(0<=f.1/\f.1<=7)/\(1<=f.2.1/\f.2.1<=ar (n-1))/\iD f.2.2.1=true/\(0<=f.2.2.2.2.1/\f.2.2.2.2.1<=1000000000000)/\0<=f.2.2.2.2.2/\f.2.2.2.2.2<=1000000000000:=by unfold E6;simp only[ae,aX]
theorem TH {b:tX}(h:iD b=true)(n:Int):iD (IH b n).1=true:=by unfold IH;cases hq:iD b&&cS n 0 b.2.2 with|false=>exact h|true=>simp only[ae,aX]at hq;unfold iD at h⊢;simp only[ae,aX,ah]at h⊢;rw[al];exact⟨h.1,h.2.1,by omega,by omega⟩
theorem aa9 (hn:n<=500000000000)(g:gD n c)(k:Int)(p:aJ):gD (n+1) (c.1,(vV c.2.1 (du c.2.2.1).1 k p).1,c.2.2):=by
 have same:gD (n+1) (c.1,c.2.1,c.2.2):=g.mono;unfold vV;cases hq:ij c.2.1 (du c.2.2.1).1&&(eJ p&&(!decide (k<0)&& !decide (k>=(c.2.1.length:Int))));exact same;simp only[ah];rcases hf:c.2.1[k.toNat]? with _|f;exact same;simp only;obtain⟨gF,ef⟩:=aC.1 hf;have hF:=(Un.1 g.fns).2;have R9:=g.fnn f (aW hf);have fin:E6 ((du c.2.2.1).1.length:Int) f=true:=by have:=(hF k.toNat gF).1;rw[cH gF,ef]at this;exact this
 have hi:=FJ.1 fin;have go:∀f':aR,f'.1=f.1->f'.2.1=f.2.1->E6 ((du c.2.2.1).1.length:Int) f'=true->(f'.2.2.2.2.1<=n+1/\f'.2.2.2.2.2<=n+1)->gD (n+1) (c.1,c.2.1.set k.toNat f',c.2.2):=by intro f' e1 e2 e3 e4;refine WZ g (by omega) (aB ..) (λi hi=>?_) λx hx=>?_;rw[ail gF];by_cases hik:i=k.toNat;rw[aH hik,hik,cH gF,ef];exact⟨e1,e2,e3⟩;rw[aG hik];exact⟨rfl,rfl,(hF i hi).1⟩;rcases dv hx with e|e;have:=g.fnn x e;omega;rw[e];exact e4
 cases alN (du c.2.2.1).1 f p with|true=>refine go _ rfl rfl (FJ.2 ⟨hi.1,hi.2.1,TH hi.2.2.1 _,?_,hi.2.2.2.2⟩) ?_;show 0<=ar (f.2.2.2.2.1+1)/\_;show 0<=ar (f.2.2.2.2.1+1)/\ar (f.2.2.2.2.1+1)<=1000000000000;rw[al];omega;show ar (f.2.2.2.2.1+1)<=n+1/\f.2.2.2.2.2<=n+1;rw[al];omega|false=>refine go _ rfl rfl (FJ.2 ⟨hi.1,hi.2.1,hi.2.2.1,hi.2.2.2.1,?_⟩) ?_;show 0<=ar (f.2.2.2.2.2+1)/\ar (f.2.2.2.2.2+1)<=1000000000000;rw[al];omega;show f.2.2.2.2.1<=n+1/\ar (f.2.2.2.2.2+1)<=n+1;rw[al];omega
structure qV (a b:de):Prop where
 boxes:b.2.2.1=a.2.2.1
 flash:b.2.2.2.1=a.2.2.2.1
 clock:b.2.2.2.2.1=a.2.2.2.2.1
 stamps:b.2.2.2.2.2.1=a.2.2.2.2.2.1
 len:b.1.length=a.1.length
 up:∃w,b.2.2.2.2.2.2=a.2.2.2.2.2.2++w
theorem qV.refl (a:de):qV a a:=⟨rfl,rfl,rfl,rfl,rfl,⟨[],(bI _).symm⟩⟩
theorem qV.trans {a b:de}(h:qV a b)(g:qV b c):qV a c:=by obtain⟨w,hw⟩:=h.up;obtain⟨u,hu⟩:=g.up;exact⟨g.boxes.trans h.boxes,g.flash.trans h.flash,g.clock.trans h.clock,g.stamps.trans h.stamps,g.len.trans h.len,⟨w++u,by rw[hu,hw,aY]⟩⟩
theorem abI (ps:aw Port)(v:Int)(p:aJ)(c:de)(j:Nat):qV c (cW ps v p c j):=by unfold cW;cases j==0 with|true=>exact⟨rfl,rfl,rfl,rfl,rfl,⟨_,rfl⟩⟩|false=>simp only[af];cases hc:c.1[j-1]? with|none=>exact qV.refl c|some h=>exact⟨rfl,rfl,rfl,rfl,aB ..,⟨[],(bI _).symm⟩⟩
theorem Sv (ps:aw Port)(v:Int)(p:aJ):∀(l:fE)(c:de),qV c (Nr ps v p c l)
 |[],c=>qV.refl c
 |j::l,c=>(abI ps v p c j).trans (Sv ps v p l _)
theorem HJ (c:de)(e:Int)(p:aJ):qV c (qy c e p):=by unfold qy;cases decide (po (du c.2.2.1).1 e p<0)with|true=>exact qV.refl c|false=>exact Sv ..
theorem UW (c:de)(e:Int)(p:aJ):qV c (tC c e p):=by unfold tC;cases lE c&&eJ p with|true=>exact HJ ..|false=>exact qV.refl c
theorem Pn (ps:aw Port)(k:Int)(c:de)(x:Bytes):qV c (CY ps k c x):=by
 unfold CY;have e:qV c (c.1,(vV c.2.1 ps k (gv x).1).1,c.2.2):=⟨rfl,rfl,rfl,rfl,rfl,⟨[],(bI _).symm⟩⟩
 cases (vV c.2.1 ps k (gv x).1).2.2 with|true=>exact e.trans (UW ..)|false=>exact e
theorem Po (ps:aw Port)(k:Int):∀(l:bN)(c:de),qV c (Fe ps k c l)
 |[],c=>qV.refl c
 |x::l,c=>(Pn ps k c x).trans (Po ps k l _)
theorem alK (c:de)(k:Int):qV c (we c k):=by unfold we;cases lE c&&(!decide (k<0)&& !decide (k>=(c.1.length:Int)));exact qV.refl c;simp only[ah];cases c.1[k.toNat]? with|none=>exact qV.refl c|some h=>exact(show qV c (Vl c k.toNat (fW h)) from⟨rfl,rfl,rfl,rfl,aB ..,⟨[],(bI _).symm⟩⟩).trans (Po ..)
theorem aa8 (hn:n<=400000000000)(g:gD n c)(k:Int)(x:Bytes):gD (n+2565) (CY (du c.2.2.1).1 k c x):=by have q:=aa9 (by omega) g k (gv x).1;unfold CY;cases (vV c.2.1 (du c.2.2.1).1 k (gv x).1).2.2 with|true=>exact(Uq (by omega) q _ _).mono|false=>exact q.mono
theorem OR (k:Int)(ps:aw Port):∀(l:bN){n:Int}{c:de},n+2565*(l.length:Int)<=400000000000->ps=(du c.2.2.1).1->gD n c->gD (n+2565*(l.length:Int)) (Fe ps k c l)
 |[],n,c,_,_,g=>g.mono (by simp)
 |x::l,n,c,hn,hp,g=>by simp only[ba]at hn;have s:=aa8 (by omega) g k x;rw[<-hp]at s;have i:=OR k ps l (n:=n+2565) (by omega) (by rw[(Pn ps k c x).boxes];exact hp) s;exact i.mono (by simp only[ba];push_cast;omega)
theorem alf (hn:n<=300000000000)(g:gD n c)(k:Int):gD (n+14000000) (we c k):=by unfold we;cases lE c&&(!decide (k<0)&& !decide (k>=(c.1.length:Int)));exact g.mono;simp only[ah];cases hc:c.1[k.toNat]? with|none=>exact g.mono|some h=>have q:=K1 g (cX n) hc (Hx (g.at hc)) (Jl h);have hl:=Lv h;exact(OR k (du c.2.2.1).1 (Ms h) (c:=Vl c k.toNat (fW h)) (by omega) rfl q).mono
def H4 (s:Bytes):Prop:=∀x∈s,x=0
theorem VU (h:H4 s):s=List.replicate s.length 0:=List.eq_replicate_iff.2 ⟨rfl,h⟩
theorem QG (n:Nat):H4 (xK n):=by intro x hx;simp only[xK,aM,List.map_replicate]at hx;exact(List.mem_replicate.1 hx).2
theorem akZ {t:Bytes}(h:H4 s)(k:H4 t)(e:s.length=t.length):s=t:=by rw[VU h,VU k,e]
theorem aq7 {o:Nat}{t:Bytes}(hx:H4 x)(ht:H4 t)(h:o+t.length<=x.length):DX x o t=x:=by refine akZ (λy hy=>?_) hx (SM h);unfold DX at hy;rcases az.1 hy with g|g;exact hx y (List.mem_of_mem_take g);rcases az.1 g with g|g;exact ht y g;exact hx y (List.mem_of_mem_drop g)
theorem akO:∀(n:Nat){m:bN}{a:Nat}{s:Bytes},Dm m->(∀x∈m,H4 x)->H4 s->a+s.length<=128*m.length->yq n m a s=m
 |0,m,a,s,_,_,_,_=>rfl
 |n+1,m,a,s,hp,hm,hs,hl=>by rw[yq];by_cases h0:s.length=0;rw[aH h0];rw[aG h0];obtain⟨h1,h2,_⟩:=EW hp h0 hl;have ho:DX (m[a/128]'h1) (a%128) (s.take (128-a%128))=m[a/128]'h1:=aq7 (hm _ (aI h1)) (λy hy=>hs y (List.mem_of_mem_take hy)) (by rw[h2,aV];omega);rw[cH h1,ho,List.set_getElem_self];exact akO n hp hm (λy hy=>hs y (List.mem_of_mem_drop hy)) (by rw[aL];omega)
theorem amk (a:Int)(hm:∀x∈m,H4 x)(hs:H4 s):(pU m a s).1=m:=by unfold pU;cases hw:gM m a (s.length:Int);rfl;simp only[gM,ae,aF]at hw;exact akO s.length (qI.1 hw.1) hm hs (by omega)
theorem amU:∀(q:aw (Int×Int)){m:bN}{s:Bytes},(∀x∈m,H4 x)->H4 s->LG q m s=m
 |[],m,s,_,_=>rfl
 |p::q,m,s,hm,hs=>by rw[LG,amk _ hm (λy hy=>hs y (List.mem_of_mem_take hy))];exact amU q hm (λy hy=>hs y (List.mem_of_mem_drop hy))
theorem aq9 (hm:∀x∈m,H4 x)(hs:H4 s)(l:aw aE)(d a:Int)(w:Bool):(iM l m d a s w).1=m:=by unfold iM;cases (kZ l m d a (s.length:Int) w).2 with|false=>rfl|true=>exact amU _ hm hs
def Cv (n:Nat):bN:=List.replicate n (xK 128)
theorem aoQ {n:Nat}:∀x∈Cv n,H4 x:=λx hx=>by rw[(List.mem_replicate.1 hx).2];exact QG 128
theorem afJ (n:Nat):Cv (n+1)=Cv n++[xK 128]:=List.replicate_succ'
theorem Qd (n:Nat)(h:n<=64:=by omega):oN (n:Int)=some (Cv n):=by have hz:gz 128 0=some (xK 128):=Qb 128;unfold oN;refine dC (λi=>((i:Int),Cv i)) n (by omega) (λi nx hi=>?_) (λnx=>?_);simp only[rA];rw[au (show(i:Int)<n by omega),ah,iU,ab,ah,hz,ab,aO (by simp[Cv];omega),al,afJ];rfl;simp only[rA];rw[aq (show¬(n:Int)<n by omega),af,ab,af]
def sg (a b:Int):Vector×Bool:=bif fg (a,b,0,0,false,false) then((a,b,0,0,false,false),true) else((0,0,0,0,false,false),false)
theorem Qe (a b:Int):xn a b=some (sg a b):=by unfold xn sg;rw[EH,ab];cases fg (a,b,0,0,false,false)<;>rfl
def tG (i:Nat):aw aE:=(range i).map λ(p:Nat)=>(0,(p:Int),37-(p:Int), !cS (p:Int) 2 9)
theorem Py (i:Nat):tG (i+1)=tG i++[(0,(i:Int),37-(i:Int), !cS (i:Int) 2 9)]:=by simp[tG,gP]
theorem DU (i:Nat):(tG i).length=i:=by simp[tG]
def aqr:Host:=(([]:bN),([]:aw aE),((0,0,0,0),(0,0,0,([]:bP)),([]:aw pa),0),([]:aw cp),([]:aw dj),([]:aw Vector),([]:aw Bool),(0,false,([]:bP)),(([]:aw mi),([]:aw Slot),([]:Bytes),([]:bP)),([]:aw Stream),false,([]:bN),([]:bP),([]:bP),0,0,0,0,0)
def Sc (f:Filter)(s:df)(c:Bool)(i:Nat):Host:=(Cv 38,tG i,Fh,([]:aw cp),([]:aw dj),([]:aw Vector),([]:aw Bool),f,s,([]:aw Stream),c,([]:bN),([]:bP),([]:bP),0,0,0,0,0)
def RP:bN×lB×dj×Int:=vM (tG 38) (Cv 38) 0 (Gk 0).1 (iz (ia 0+128) 384 4).1
def amN (f:Filter)(s:df)(c:Bool)(v:Vector):Host:=(RP.1,tG 38,Fh,[(RP.2.1,(Gk 0).2)],[RP.2.2.1],[v],[false],f,s,([]:aw Stream),c,([]:bN),([]:bP),([]:bP),0,0,0,0,0)
def oD (f:Filter)(s:df)(c:Bool)(a b:Int):Host×Bool:=
 bif eV f&&(eK s 1&&(sg a b).2) then(amN f s c (sg a b).1,true) else(aqr,false)
theorem MF (f:Filter)(s:df)(c:Bool)(a b:Int)(hf:f.2.2.length<=10^9)(h1:s.1.length<=10^9)(h2:s.2.1.length<=10^9)(h3:s.2.2.2.length<=10^9):tj 1 f s c a b=some (oD f s c a b):=by
 have Df:=eo;unfold tj oD;rw[Qe,ab,dq,ab,show cS (1:Int) 1 2=true from aX.2 (by omega),Cg f hf,EG s 1 h1 h2 h3];simp only[aj,af,ab];cases eV f;rfl;cases eK s 1;rfl;generalize sg a b=v;cases hv:v.2;rfl;have hm:oN 38=some (Cv 38):=Qd 38;simp only[aj,af,ab,dy,ah,hm,Ta,Cf f hf,HR s h1 h2 h3];refine dC (λi=>((i:Int),Sc f s c i)) 38 (by omega) (λi nx hi=>?_) (λnx=>?_);have hl:=DU i;simp only[qn];rw[iU,ah,dq,ab,aO (by show(tG i).length+1<=_;omega),al (n:=(i:Int)+1),al (n:=37-(i:Int))];show nx ((i:Int)+1,Cv 38,tG i++_,_)=nx (((i+1:Nat):Int),Cv 38,tG (i+1),_);rw[Py];rfl;simp only[qn];rw[cz,af];have h38:=DU 38;have Dg:(Cv 38).length<=10^9:=by rw[Cv,List.length_replicate];omega
 have ho:tI (tG 38) (Cv 38) 0=RP:=by unfold tI RP;rw[aq9 aoQ (QG 128)];rfl
 have e1:(Gk 0).2=((ia 0+64,4,0),(ia 0+64,4,0),((0,0,0,0,0,0,0,0,0,0,0,0,0,0,0,([]:Bytes)),0,0),false,0):=rfl;have hop:=YW (Cv 38,tG 38,Fh,[((0,0,0,0),(0,0,0),(0,0,0),((0,0,0,0,0,0,0,0,0,0,0,0,0,0,0,([]:Bytes)),0,0),false,0)],[(0,0,0,([]:bP))],[v.1],[false],f,s,([]:aw Stream),c,([]:bN),([]:bP),([]:bP),0,0,0,0,0) 0 (by omega) (Nat.lt_succ_self 0) (Nat.lt_succ_self 0) (by show(tG 38).length<=_;omega) Dg;unfold SJ at hop;simp only[ho,List.set_cons_zero,cC,show((0:Nat):Int)=0 from rfl]at hop;obtain⟨g,hg⟩:∃g,fuel=g+2:=⟨fuel-2,by omega⟩
 unfold Sc amN;rw[e1];generalize ia 0=bb at hop⊢;generalize RP=o at hop⊢;generalize Cv 38=m at hop⊢;generalize tG 38=l at hop⊢;rw[hg,bc,oM];rw[iU,ah];simp only;rw[aO (by simp),aO (by simp),aO (by simp),aO (by simp)];simp only[ch];rw[hop,ab,bc,oM,al,cz,af]
def ahq:de:=(([]:aw Host),([]:aw aR),([]:aw bJ),([]:bN),(0,0,0,0),([]:bP),([]:bN))
def Re (st:df)(c:Bool)(bk:tX)(x:bJ)(s:aw Host×aw aR):Except (ay (de×Bool)) (aw Host×aw aR):=
 if(oD x.1 st c 1 2).2=true then .ok (s.1++[(oD x.1 st c 1 2).1],s.2++[((s.2.length:Int),(s.2.length:Int)+1,bk,true,0,0)]) else .error (some (ahq,false))
def xc (ms:aw bJ)(st:df)(c:Bool)(bk:tX)(f:bN)(t:Int):ay (de×Bool):=
 bif (du ms).2&&(iD bk&&(!decide (iw f<0)&&rH (0,0,t,0))) then
  Dq (Re st c bk) (λs=>some ((s.1,s.2,ms,f,(0,0,t,0),([]:bP),([]:bN)),true)) ms ([],[])
 else some (ahq,false)
theorem YV (ms:aw bJ)(st:df)(c:Bool)(bk:tX)(f:bN)(t:Int)(hm:ms.length<=10^9)(hx:∀m∈ms,m.1.2.2.length<=10^9)(hf:f.length<=10^9)(h1:st.1.length<=10^9)(h2:st.2.1.length<=10^9)(h3:st.2.2.2.length<=10^9):ti ms st c bk f t=xc ms st c bk f t:=by
 have Df:=eo;unfold ti xc;rw[YX ms hx,ab,lS];simp only[Qa,ajR,S3,ab];cases hp:(du ms).2;rfl;cases iD bk;rfl;cases decide (iw f<0);case true=>rfl
 cases rH (0,0,t,0);rfl;have h3':=Mz hp;simp only[aj,af,ab,dy,bw,ah,ch];refine uz ms (λs i=>(((i:Int),s.1,s.2,ms.take i,f,(0,0,t,0),([]:bP),([]:bN)):Int×de)) (λi s=>s.1.length=i/\s.2.length=i) (Re st c bk) _ (by omega) (λi hi s nx hI=>?_) (λi hi s s' hI he=>?_) (λs nx hI=>?_) ([],[]) ⟨rfl,rfl⟩;simp only[vh];rw[iU,ah,bj hi,ab,MF _ st c 1 2 (hx _ (aI hi)) h1 h2 h3,ab];unfold Re;cases hb:(oD ms[i].1 st c 1 2).2 with|false=>rfl|true=>rw[aH rfl];simp only[aj,af];rw[aO (by rw[bf];omega),aO (by rw[bf];omega),ab,Nu _ (hx _ (aI hi)),ab,aO (by rw[bf,aV];omega),al,hI.2,bn hi];rfl
 unfold Re at he;split at he;injection he with he;rw[<-he];simp[hI.1,hI.2];cases he;simp only[vh];rw[cz,af,cO]
def Ends (o:ay α)(P:α->Prop):Prop:=∃x,o=some x/\P x
theorem Ends.pure {x:α}{P:α->Prop}(h:P x):Ends (some x) P:=⟨x,rfl,h⟩
theorem Ends.bind {o:ay α}{P:α->Prop}{k:α->ay R}{Q:R->Prop}(h:Ends o P)(hk:∀x,P x->Ends (k x) Q):Ends (aa o k) Q:=by obtain⟨x,rfl,hx⟩:=h;exact hk x hx
theorem Ends.mono {o:ay α}{P Q:α->Prop}(h:Ends o P)(hq:∀x,P x->Q x):Ends o Q:=by obtain⟨x,hx,hp⟩:=h;exact⟨x,hx,hq x hp⟩
theorem Ends.cond {c:Bool}{a b:ay α}{P:α->Prop}(h1:c=true->Ends a P)(h2:c=false->Ends b P):Ends (cond c a b) P:=by cases c with|true=>exact h1 rfl|false=>exact h2 rfl
theorem Ends.ifn {p:Prop}[Decidable p]{a:ay α}{P:α->Prop}(h:¬p)(ha:Ends a P):Ends (if p then none else a) P:=by rw[aG h];exact ha
theorem Ends.room {n:Nat}{k:ay α}{P:α->Prop}(h:n<=1073741824)(hk:Ends k P):Ends (room n k) P:=by rw[aO h];exact hk
theorem Ends.of {o:ay α}{x:α}{P:α->Prop}(h:o=some x)(hp:P x):Ends o P:=⟨x,h,hp⟩
theorem Ends.iter {σ:Type}{T:(σ->ay R)->σ->ay R}{Q:R->Prop}(I:σ->Prop)(m:σ->Nat)(hs:∀x nx,I x->(∀y,I y->m y<m x->Ends (nx y) Q)->Ends (T nx x) Q): ∀n x,I x->m x<n->Ends (bc T n x) Q:=by intro n;induction n with|zero=>intro x _ h;omega|succ n ih=>intro x hx hm;rw[bc];exact hs x _ hx λy hy gF=>ih y hy (by omega)
theorem Ends.zI {σ:Type}{T:(σ->ay R)->σ->ay R}{Q:R->Prop}(I:σ->Prop)(m:σ->Nat){x:σ}(hx:I x)(hm:m x<=1000000000000)(hs:∀x nx,I x->(∀y,I y->m y<m x->Ends (nx y) Q)->Ends (T nx x) Q):Ends (bc T fuel x) Q:=Ends.iter I m hs fuel x hx (by have:=eo;omega)
theorem Ends.idx {xs:aw α}{i:Int}{k:α->ay R}{Q:R->Prop}(h0:0<=i)(h1:i<(xs.length:Int))(hk:∀(h:i.toNat<xs.length),Ends (k xs[i.toNat]) Q):Ends (aa (idx xs i) k) Q:=by
 obtain⟨n,rfl⟩:=aQ h0;have hn:n<xs.length:=by omega
 rw[bj hn,ab];exact hk (by simpa using hn)
abbrev Ar:=bP×Int×Int
def Cu (c:Ar):Prop:=0<=c.2.1/\c.2.1<=(c.1.length:Int)/\c.1.length<=1048576
theorem ahh (x y:Int)(n:Nat)(hy:(ie y).toNat=n)(hn:n<9223372036854775808):0<=ar (BitVec.toNat (ie x&&&ie y))/\ar (BitVec.toNat (ie x&&&ie y))<=n:=by
 have h:(ie x&&&ie y).toNat<=n:=by rw[BitVec.toNat_and,hy];exact Nat.and_le_right
 generalize (ie x&&&ie y).toNat=k at h;rw[al];omega
theorem ao4 {a:bP}(ha:a.length<=1048576):Ends (C1 a) Cu:=by
 unfold C1;refine Ends.zI (λx=>0<=x.2/\x.2<=4000) (λx=>(4000-x.2).toNat) ⟨by omega,by omega⟩ (by simp) λx nx hx hn=>?_;unfold Cj;refine Ends.bind (P:=λb=>b=true->x.2<(a.length:Int)/\x.2<4000) (Ends.cond (λh=>Ends.pure λh2=>⟨bt h,bt h2⟩) λh=>Ends.pure λh2=>by cases h2) λq hq=>?_;refine Ends.cond (λh=>?_) (λh=>Ends.pure ⟨cX _,by simp,ha⟩);have hq:=hq h;refine Ends.idx hx.1 hq.1 λ_=>hn _ ⟨?_,?_⟩ ?_;all_goals simp only[al (n:=x.2+1) (by omega) (by omega)]
 all_goals omega
theorem GK {c:Ar}(h:Cu c):Ends (kP c) λr=>(0<=r.1/\r.1<=255)/\Cu r.2:=by
 unfold kP;refine Ends.ifn (by decide) (Ends.ifn (by decide) (Ends.cond (λh1=>?_) λh1=>?_))
 ·have h1:=bt h1;refine Ends.idx h.1 h1 λ_=>Ends.pure ⟨ahh _ 255 255 rfl (by decide),?_⟩;refine⟨?_,?_,h.2.2⟩;all_goals simp only[al (n:=c.2.1+1) (by have:=h.1;omega) (by have:=h.2.2;omega)]
  have:=h.1;omega;omega
 exact Ends.pure ⟨ahh _ 255 255 rfl (by decide),h.1,h.2.1,h.2.2⟩
theorem gQ {c:Ar}(h:Cu c)(hn:0<n:=by omega):Ends (cU c n) λr=>(0<=r.1/\r.1<n)/\Cu r.2:=by unfold cU;rw[cz];simp only[af];refine Ends.cond (λh1=>?_) λh1=>?_;refine(GK h).bind λr hr=>Ends.ifn (by omega) (Ends.pure ⟨⟨Int.tmod_nonneg _ hr.1.1,Int.tmod_lt_of_pos _ hn⟩,hr.2⟩);refine(GK h).bind λr2 h2=>(GK h2.2).bind λr3 h3=>(GK h3.2).bind λr4 h4=>(GK h4.2).bind λr5 h5=>Ends.ifn (by omega) (Ends.pure ⟨⟨Int.tmod_nonneg _ ?_,Int.tmod_lt_of_pos _ hn⟩,h5.2⟩);have a2:=h2.1;have a3:=h3.1;have a4:=h4.1;have a5:=h5.1;rw[al (n:=r2.1*16777216),al (n:=r3.1*65536),al (n:=r4.1*256)];rw[al (n:=r2.1*16777216+r3.1*65536)];rw[al (n:=r2.1*16777216+r3.1*65536+r4.1*256)];rw[al];omega
theorem ahj {c:Ar}(h:Cu c)(n:Int):Ends (cU c n) λr=>(0<=r.1/\(r.1<n\/r.1=0))/\Cu r.2:=by
 rcases Int.lt_or_le 0 n with hn|hn;exact(gQ h hn).mono λr hr=>⟨⟨hr.1.1,Or.inl hr.1.2⟩,hr.2⟩
 unfold cU;rw[au hn];exact Ends.pure ⟨⟨cX _,Or.inr rfl⟩,h⟩
theorem uX {c:Ar}(h:Cu c)(n:Int):Ends (gA c n) λr=>Cu r.2:=by unfold gA;exact(ahj h n).bind λr hr=>Ends.pure hr.2
theorem ki {c:Ar}(h:Cu c){l:bP}{P:Int->Prop}(hl:0<l.length)(hp:∀x∈l,P x):Ends (cZ c l) λr=>P r.1/\Cu r.2:=by unfold cZ;exact(gQ h).bind λr hr=>Ends.idx hr.1.1 hr.1.2 λhi=>Ends.pure ⟨hp _ (aI hi),hr.2⟩
theorem Hj {c:Ar}(h:Cu c)(n:Int):Ends (kQ c n) λr=>(r.1.length<=5000/\(0<=n->n<=5000->(r.1.length:Int)=n)/\(n<=0->r.1=[]))/\Cu r.2:=by
 have key:∀v:Int,v<=5000->∀Q:(Bytes×Ar)->Prop,(∀x c,((x.length:Int)=v\/(v<=0/\x=[]))->Cu c->Q (aM x,c))->Ends (bc (qt (λy _ z=>some (aM y,z)) v) fuel (([]:bP),0,c)) Q:=by
  intro v hv Q hQ;refine Ends.zI (λx=>(x.1.length:Int)=x.2.1/\(x.2.1<=v\/x.2.1=0)/\Cu x.2.2) (λx=>(v-x.2.1).toNat) ⟨rfl,Or.inr rfl,h⟩ (by simp;omega) λx nx hx hn=>?_;unfold qt;refine Ends.cond (λh1=>?_) λh1=>Ends.pure (hQ _ _ ?_ hx.2.2)
  ·have h1:=bt h1;refine(GK hx.2.2).bind λr hr=>Ends.room (by simp;omega) (hn _ ⟨?_,?_,hr.2⟩ ?_);all_goals simp only[al (n:=x.2.1+1) (by omega) (by omega)]
   simp;omega;omega;omega
  have h1:=dX h1;rcases hx.2.1 with h2|h2;exact Or.inl (by omega);rcases Int.lt_or_le 0 v with h3|h3;omega;exact Or.inr ⟨h3,cm (by omega)⟩
 have hb:∀x:bP,(aM x).length=x.length:=λx=>by simp[aM]
 unfold kQ;refine Ends.cond (λh1=>?_) λh1=>?_;have h1:=bt h1;refine key 5000 (by omega) _ λx c hx hc=>⟨⟨by rw[hb];rcases hx with hx|hx<;>omega,λ_ _=>by omega,λ_=>by omega⟩,hc⟩
 have h1:=dX h1;refine key n (by omega) _ λx c hx hc=>⟨⟨?_,λh0 _=>?_,λh0=>?_⟩,hc⟩
 rw[hb];rcases hx with hx|hx;omega;rw[hx.2];simp;rw[hb];rcases hx with hx|hx;omega;rw[hx.2];simp;omega;rcases hx with hx|hx;have:x=[]:=cm (by omega);rw[this];rfl;rw[hx.2];rfl
theorem aiz {c:Ar}(h:Cu c):Ends (AZ c) λr=>(167772161<=r.1/\r.1<=167772163)/\Cu r.2:=by unfold AZ;refine(gQ h (by decide)).bind λr hr=>Ends.pure ⟨?_,hr.2⟩;have:=hr.1;simp only[al (n:=167772161+r.1) (by omega) (by omega)];omega
theorem aeP {c:Ar}(h:Cu c):Ends (yZ c) λr=>(0<=r.1/\r.1<=31)/\Cu r.2:=by unfold yZ;exact(ki (P:=λx=>0<=x/\x<=31) h (by decide) (by decide)).bind λr hr=>Ends.pure hr
theorem ape {c:Ar}(h:Cu c){m:Int}(h0:0<=m)(h1:m<=320):Ends (vn c m) λr=>(uA r.1=true/\(r.1.2.2.2.2.2.2.2.length:Int)<=m)/\Cu r.2:=by
 unfold vn;refine(gQ h (by decide)).bind λr1 p1=>(gQ p1.2 (by decide)).bind λr2 p2=>?_;refine(ki (P:=λx=>0<=x/\x<=4294967295) p2.2 (by simp) ?_).bind λr3 p3=>?_;have:=p2.1;intro x hx;simp only[bM,List.not_mem_nil,or_false]at hx;omega;refine(ki (P:=λx=>0<=x/\x<=4294967295) p3.2 (by decide) (by decide)).bind λr4 p4=>(aeP p4.2).bind λr5 p5=>?_;refine(ki (P:=λx=>0<=x/\x<=65535) p5.2 (by decide) (by decide)).bind λr6 p6=>?_;rw[al (n:=m+1)];refine(gQ p6.2).bind λr7 p7=>(Hj p7.2 r7.1).bind λr8 p8=>(uX p8.2 4).bind λr9 p9=>?_;have a1:=p1.1;have a7:=p7.1;have a8:=p8.1.2.1 a7.1 (by omega);rw[al (n:=1000+r1.1)];refine Ends.cond (λ_=>Ends.pure ⟨⟨ajJ (by omega) (by omega) (by omega),?_⟩,p9⟩) λ_=>Ends.pure ⟨⟨YK (by omega) (by omega) p3.1 p4.1 p5.1 p6.1 (by omega),?_⟩,p9⟩;all_goals show(r8.1.length:Int)<=m
 all_goals omega
theorem af6 {c:Ar}(h:Cu c){m:Int}(h0:0<=m)(h1:m<=320):Ends (oR c m) λr=>(dJ r.1=true/\(r.1.2.2.2.2.2.2.2.2.2.2.2.2.2.2.2.length:Int)<=m/\(r.1.2.2.2.2.2.2.2.2.1=6\/r.1.2.2.2.2.2.2.2.2.1=17))/\Cu r.2:=by
 unfold oR;refine(ki (P:=λx=>0<=x/\x<=281474976710655) h (by decide) (by decide)).bind λr1 p1=>?_;refine(ki (P:=λx=>0<=x/\x<=281474976710655) p1.2 (by decide) (by decide)).bind λr2 p2=>?_;refine(ki (P:=λx=> -1<=x/\x<=4095) p2.2 (by decide) (by decide)).bind λr3 p3=>?_;refine(ki (P:=λx=>0<=x/\x<=255) p3.2 (by decide) (by decide)).bind λr4 p4=>?_;refine(ki (P:=λx=>0<=x/\x<=65535) p4.2 (by decide) (by decide)).bind λr5 p5=>?_;refine(ki (P:=λx=>0<=x/\x<=255) p5.2 (by decide) (by decide)).bind λr6 p6=>?_;refine(aiz p6.2).bind λr7 p7=>?_;refine(ape p7.2 (m:=if 128<m then 128 else m) (by split<;>omega) (by split<;>omega)).bind λr8 p8=>?_;have hh:∀g:fU,uA g=true->qW (r1.1,r2.1,r3.1,r4.1,r5.1,r6.1,r7.1,167772161,g)=true:=λg hg=>ais p1.1 p2.1 p3.1 p4.1 p5.1 p6.1 (by have:=p7.1;omega) (by omega) hg;have hk:∀g:fU,uA g=true->g.1=6\/g.1=17:=by intro g hg;unfold uA at hg;simp only[ae]at hg;have h2:=hg.2.2.2;cases h17:g.1==17 with|true=>exact Or.inr (by simpa using h17)|false=>rw[h17]at h2;simp only[af,ae]at h2;exact Or.inl (by simpa using h2.1)
 have hl:(r8.1.2.2.2.2.2.2.2.length:Int)<=128/\(r8.1.2.2.2.2.2.2.2.length:Int)<=m:=by have:=p8.1.2;split at this<;>omega
 have short:∀c':Ar,Cu c'->Ends (some ((r1.1,r2.1,r3.1,r4.1,r5.1,r6.1,r7.1,(167772161:Int),r8.1),c')) λr:aJ×Ar=>(dJ r.1=true/\(r.1.2.2.2.2.2.2.2.2.2.2.2.2.2.2.2.length:Int)<=m/\(r.1.2.2.2.2.2.2.2.2.1=6\/r.1.2.2.2.2.2.2.2.2.1=17))/\Cu r.2:=by intro c' Co;refine Ends.pure ⟨⟨?_,hl.2,hk _ p8.1.1⟩,Co⟩;unfold dJ;rw[hh _ p8.1.1,bl];have:decide ((r8.1.2.2.2.2.2.2.2.length:Int)<=128)=true:=au hl.1;show(decide ((r8.1.2.2.2.2.2.2.2.length:Int)<=128)||_)=true;rw[this,iB]
 refine Ends.cond (λk1=>Ends.cond (λk2=>Ends.cond (λk3=>?_) λ_=>short _ p8.2) λ_=>short _ p8.2) λ_=>short _ p8.2;have k3:=bt k3;refine(uX p8.2 2).bind λr9 p9=>Ends.cond (λ_=>?_) λ_=>short _ p9;rw[al (n:=m-128),al (n:=m-128+1)];refine(gQ p9).bind λvT p10=>?_;have a10:=p10.1;rw[al (n:=128+vT.1)];refine(Hj p10.2 _).bind λyL p11=>?_;have a11:=p11.1.2.1 (by omega) (by omega);have hs:=ags p8.1.1 (x:=yL.1) (by omega);refine Ends.pure ⟨⟨?_,by show(yL.1.length:Int)<=m;omega,Or.inl (by simpa using k1)⟩,p11.2⟩;unfold dJ;rw[hh _ hs,bl];rw[OF _ (Hd p8.1.1 k1)]at k2;show(_||(r8.1.1==6)&&Ee r8.1.2.2.2.2.2.1)=true;rw[k1,k2,cG,iA]
def Plain (p:aJ):Prop:=qW p=true/\p.2.2.2.2.2.2.2.2.2.2.2.2.2.2.2.length<=40
theorem Plain.ok (h:Plain p):eJ p=true:=(Yl p).2 ⟨h.1,by have:=h.2;omega⟩
theorem J9 {c:Ar}(h:Cu c):Ends (oR c 40) λr=>Plain r.1/\Cu r.2:=(af6 h (by omega) (by omega)).mono λr hr=>⟨⟨by have:=hr.1.1;unfold dJ at this;simp only[ae]at this;exact this.1,by have:=hr.1.2.1;omega⟩,hr.2⟩
theorem ai9 {Q:R->Prop}{k0:aw aJ->Ar->aJ->ay R}{l:aw aJ}{c:Ar}(hl:l.length<=1000)(hc:Cu c)(hp:Plain p)(hk:∀c' p',Cu c'->Plain p'->Ends (k0 (l++[p]) c' p') Q):Ends (oT k0 l z n c p) Q:=by
 unfold oT;have hi:=alQ (OV hp.1);have hs:=BO hp.1;refine Ends.room (by simp;omega) (Ends.ifn (by decide) (Ends.cond (λh6=>?_) λ_=>hk _ _ hc ⟨DF (p:=p) hp.1 hi hs,hp.2⟩));have h6:p.2.2.2.2.2.2.2.2.1=6:=by simpa using h6
 refine(uX hc 8).bind λr hr=>Ends.cond (λ_=>Ends.ifn (by decide) (hk _ _ hr ⟨DF (p:=p) hp.1 hi ?_,hp.2⟩)) λ_=>hk _ _ hr ⟨DF (p:=p) hp.1 hi hs,hp.2⟩;have k:=adT hs h6;have hlen:p.2.2.2.2.2.2.2.2.2.2.2.2.2.2.2.length<=320:=by have:=hp.2;omega
 exact P4 hs h6 (ajm k.2.2.1 hlen) k.2.2.2.2.1 hlen
theorem ai8 {Q:R->Prop}{k0:aw aJ->Ar->aJ->ay R}{l:aw aJ}{c:Ar}(hl:l.length<=1000)(hz:1<=z/\z<=40)(hc:Cu c)(hp:Plain p)(hk:∀q c' p',Plain q->Cu c'->Plain p'->Ends (k0 (l++[q]) c' p') Q):Ends (oS k0 l z n c p) Q:=by
 unfold oS;refine Ends.cond (λh6=>?_) λ_=>ai9 hl hc hp λc' p' h1 h2=>hk _ _ _ hp h1 h2;have h6:p.2.2.2.2.2.2.2.2.1=6:=by simpa using h6
 refine(ki (P:=λx=>0<=x/\x<=31) hc (by decide) (by decide)).bind λr8 p8=>(Hj p8.2 z).bind λr9 p9=>?_;have a9:=p9.1.2.1 (by omega) (by omega);have hs:=BO hp.1;have hq:Plain (p.1,p.2.1,p.2.2.1,p.2.2.2.1,p.2.2.2.2.1,p.2.2.2.2.2.1,p.2.2.2.2.2.2.1,p.2.2.2.2.2.2.2.1,p.2.2.2.2.2.2.2.2.1,p.2.2.2.2.2.2.2.2.2.1,p.2.2.2.2.2.2.2.2.2.2.1,p.2.2.2.2.2.2.2.2.2.2.2.1,p.2.2.2.2.2.2.2.2.2.2.2.2.1,r8.1,p.2.2.2.2.2.2.2.2.2.2.2.2.2.2.1,r9.1):=⟨DF hp.1 (OV hp.1) (P4 hs h6 (adT hs h6).2.2.1 p8.1 (by omega)),by show r9.1.length<=40;omega⟩
 exact ai9 hl p9.2 hq λc' p' h1 h2=>hk _ _ _ hq h1 h2
theorem amR {Q:R->Prop}{k0:aw aJ->Int->Ar->aJ->ay R}{l:aw aJ}{c:Ar}(hl:l.length<=1000)(hz:1<=z/\z<=40)(hc:Cu c)(hp:Plain p)(hk:∀q z' c' p',Plain q->(1<=z'/\z'<=40)->Cu c'->Plain p'->Ends (k0 (l++[q]) z' c' p') Q):Ends (qv k0 l z n c p) Q:=by unfold qv;refine(uX hc 6).bind λr6 p6=>Ends.cond (λ_=>?_) λ_=>ai8 hl hz p6 hp λq c' p' h1 h2 h3=>hk _ _ _ _ h1 hz h2 h3;refine(gQ p6 (by decide)).bind λr7 p7=>?_;have a7:=p7.1;rw[al (n:=1+r7.1)];exact ai8 hl (by omega) p7.2 hp λq c' p' h1 h2 h3=>hk _ _ _ _ h1 (by omega) h2 h3
theorem aq0 {Q:R->Prop}{k0:aw aJ->Int->Int->Ar->aJ->ay R}{l:aw aJ}{c:Ar}(hl:l.length<=1000)(hz:1<=z/\z<=40)(hn:0<n/\n<=1000)(hc:Cu c)(hp:Plain p)(hk:∀q z' c' p',Plain q->(1<=z'/\z'<=40)->Cu c'->Plain p'->Ends (k0 (l++[q]) z' (n-1) c' p') Q):Ends (vo k0 l z n c p) Q:=by unfold vo;have e:ar (n-1)=n-1:=al;refine(uX hc 5).bind λr4 p4=>Ends.cond (λ_=>?_) λ_=>?_;refine(J9 p4).bind λr5 p5=>amR hl hz p5.2 p5.1 λq z' c' p' h1 h2 h3 h4=>?_;unfold qu;rw[e];exact hk _ _ _ _ h1 h2 h3 h4;refine amR hl hz p4 hp λq z' c' p' h1 h2 h3 h4=>?_;unfold qu;rw[e];exact hk _ _ _ _ h1 h2 h3 h4
theorem alM {c:Ar}(h:Cu c){m:Int}(h0:0<m)(h1:m<=100):Ends (Ba c m) λr=>((∀p∈r.1,Plain p)/\0<r.1.length/\(r.1.length:Int)<=m)/\Cu r.2:=by unfold Ba;refine(J9 h).bind λr1 p1=>(gQ p1.2 (by decide)).bind λr2 p2=>(gQ p2.2 h0).bind λr3 p3=>?_;have a2:=p2.1;have a3:=p3.1;rw[al (n:=r2.1*8),al (n:=8+r2.1*8),al (n:=1+r3.1)];refine Ends.zI (λx=>(∀p∈x.1,Plain p)/\(1<=x.2.1/\x.2.1<=40)/\0<=x.2.2.1/\(x.1.length:Int)+x.2.2.1=1+r3.1/\Cu x.2.2.2.1/\Plain x.2.2.2.2) (λx=>x.2.2.1.toNat) ⟨by simp,(by dsimp only;omega),(by dsimp only;omega),by simp,p3.2,p1.1⟩ (by simp;omega) λx nx hx hn=>?_;unfold Ai;refine Ends.cond (λk=>?_) λk=>?_;have k:=bt k;refine aq0 (by omega) hx.2.1 (by omega) hx.2.2.2.2.1 hx.2.2.2.2.2 λq z' c' p' h1 h2 h3 h4=>hn _ ⟨?_,h2,?_,?_,h3,h4⟩ ?_;intro y hy;rcases az.1 hy with hy|hy;exact hx.1 y hy;simp only[bF]at hy;rw[hy];exact h1;show 0<=x.2.2.1-1;omega;show((x.1++[q]).length:Int)+(x.2.2.1-1)=1+r3.1;have:=hx.2.2.2.1;simp;omega;show(x.2.2.1-1).toNat<x.2.2.1.toNat;omega;have k:=dX k;have:=hx.2.2.2.1;have:=hx.2.2.1;exact Ends.pure ⟨⟨hx.1,(by dsimp only;omega),(by dsimp only;omega)⟩,hx.2.2.2.2.1⟩
theorem aoN {c:Ar}(h:Cu c):Ends (C2 c) λr=>r.1.length=16/\Cu r.2:=by unfold C2;exact(Hj h 16).bind λr hr=>Ends.pure ⟨by have:=hr.1.2.1 (by omega) (by omega);omega,hr.2⟩
structure Cx (s:df):Prop where
 r:s.1.length<=100
 t:s.2.1.length<=100
 k:s.2.2.1.length=16
 p:s.2.2.2.length<=100
theorem Wz {c:Ar}(h:Cu c):Ends (xu c) λr=>(r.1.1=2/\(r.1.2.2=[7]\/r.1.2.2=[]))/\Cu r.2:=by unfold xu;exact(uX h 4).bind λr1 p1=>(uX p1 2).bind λr2 p2=>Ends.cond (λ_=>Ends.pure ⟨⟨rfl,Or.inl rfl⟩,p2⟩) λ_=>Ends.pure ⟨⟨rfl,Or.inr rfl⟩,p2⟩
theorem aoO:eE (tG 38)=true:=by decide+kernel
def Fa (f:Filter)(s:df)(c:Bool):aw Vector->Host
 |[]=>Sc f s c 38
 |v::vs=>SJ ((Fa f s c vs).1,(Fa f s c vs).2.1,(Fa f s c vs).2.2.1,(Fa f s c vs).2.2.2.1++[((0,0,0,0),(0,0,0),(0,0,0),((0,0,0,0,0,0,0,0,0,0,0,0,0,0,0,([]:Bytes)),0,0),false,0)],(Fa f s c vs).2.2.2.2.1++[(0,0,0,([]:bP))],(Fa f s c vs).2.2.2.2.2.1++[v],(Fa f s c vs).2.2.2.2.2.2.1++[false],(Fa f s c vs).2.2.2.2.2.2.2) vs.length
def aht (h:Host):=(h.1,h.2.1,h.2.2.1,h.2.2.2.1,h.2.2.2.2.1,h.2.2.2.2.2.1,h.2.2.2.2.2.2.1)
structure Made (f:Filter) (s:df) (c:Bool) (k:Nat) (h:Host):Prop where
 mem:cV h.1=true
 ml:h.1.length=38
 maps:h.2.1=tG 38
 tx:h.2.2.1=Fh
 rx:h.2.2.2.1.length=k
 rxs:∀r∈h.2.2.2.1,Cs 0 r/\r.2.2.2.2.1=false
 pl:h.2.2.2.2.1.length=k
 pls:∀p∈h.2.2.2.2.1,dI p=true/\p.2.2.2.length<=1000
 vec:h.2.2.2.2.2.1.length=k
 Zw:∀v∈h.2.2.2.2.2.1,fg v=true
 pol:h.2.2.2.2.2.2.1.length=k
 rest:h.2.2.2.2.2.2.2=(f,s,([]:List Stream),c,([]:List Bytes),([]:List Int),([]:List Int),0,0,0,0,0)
 is:∃vs,vs.length=k/\h=Fa f s c vs/\∀v∈vs,v.2.1<=3/\v.2.2.2.2.1=false
theorem YP (l:aw α)(x y:α):(l++[x]).set l.length y=l++[y]:=by simp
theorem alO {n:Nat}(h:n<=64):cV (Cv n)=true:=qI.2 ⟨λx hx=>by rw[(List.mem_replicate.1 hx).2];exact Hk 128,by simp[Cv];exact h⟩
theorem afF {f:Filter}{s:df}{c:Bool}(m:Made f s c k h)(hk:k<=8)(hv:fg v=true)(h3:v.2.1<=3/\v.2.2.2.2.1=false):Ends (xw (h.1,h.2.1,h.2.2.1,h.2.2.2.1++[((0,0,0,0),(0,0,0),(0,0,0),((0,0,0,0,0,0,0,0,0,0,0,0,0,0,0,([]:Bytes)),0,0),false,0)],h.2.2.2.2.1++[(0,0,0,([]:bP))],h.2.2.2.2.2.1++[v],h.2.2.2.2.2.2.1++[false],h.2.2.2.2.2.2.2) (k:Int)) λr=>Made f s c (k+1) r.2:=by
 refine Ends.of (YW _ k hk (by simp[m.rx]) (by simp[m.pl]) (by show h.2.1.length<=_;rw[m.maps,DU];omega) (by show h.1.length<=_;rw[m.ml];omega)) ?_;have o:=SK m.mem h.2.1 hk;have e1:(h.2.2.2.1++[(((0,0,0,0),(0,0,0),(0,0,0),((0,0,0,0,0,0,0,0,0,0,0,0,0,0,0,([]:Bytes)),0,0),false,0):cp)])[k]?=some ((0,0,0,0),(0,0,0),(0,0,0),((0,0,0,0,0,0,0,0,0,0,0,0,0,0,0,([]:Bytes)),0,0),false,0):=by rw[<-m.rx];simp
 have e2:∀y:cp,(h.2.2.2.1++[(((0,0,0,0),(0,0,0),(0,0,0),((0,0,0,0,0,0,0,0,0,0,0,0,0,0,0,([]:Bytes)),0,0),false,0):cp)]).set k y=h.2.2.2.1++[y]:=λy=>by rw[<-m.rx];exact YP _ _ _
 have e3:∀y:dj,(h.2.2.2.2.1++[(((0,0,0,([]:bP))):dj)]).set k y=h.2.2.2.2.1++[y]:=λy=>by rw[<-m.pl];exact YP _ _ _
 obtain⟨vs,vl,ve,vb⟩:=m.is;have is0:SJ (h.1,h.2.1,h.2.2.1,h.2.2.2.1++[((0,0,0,0),(0,0,0),(0,0,0),((0,0,0,0,0,0,0,0,0,0,0,0,0,0,0,([]:Bytes)),0,0),false,0)],h.2.2.2.2.1++[(0,0,0,([]:bP))],h.2.2.2.2.2.1++[v],h.2.2.2.2.2.2.1++[false],h.2.2.2.2.2.2.2) k=Fa f s c (v::vs):=by rw[Fa,<-ve,vl]
 unfold SJ at is0⊢;simp only[e1,e2,e3]at is0⊢;have hp:(tI h.2.1 h.1 k).2.2.1.2.2.2.length<=1000:=by unfold tI;exact bq (Ie ..) (pL _ _ _)
 refine⟨o.1,?_,m.maps,m.tx,by show(_++[_]).length=_;rw[ai,m.rx];rfl,?_,by show(_++[_]).length=_;rw[ai,m.pl];rfl,?_,by show(_++[_]).length=_;rw[ai,m.vec];rfl,?_,by show(_++[_]).length=_;rw[ai,m.pol];rfl,m.rest,⟨v::vs,by simp[vl],is0,λw hw=>?_⟩⟩;show(tI h.2.1 h.1 k).1.length=38;rw[SI,m.ml];intro r hr;rcases az.1 hr with hr|hr;exact m.rxs r hr;rw[bF.1 hr];exact⟨YJ hk o.2.1 ⟨cX _,cX _⟩,rfl⟩;intro p hp';rcases az.1 hp' with hp'|hp';exact m.pls p hp';rw[bF.1 hp'];exact⟨o.2.2,hp⟩;intro w hw;rcases az.1 hw with hw|hw;exact m.Zw w hw;rw[bF.1 hw];exact hv;rcases bM.1 hw with e|e;rw[e];exact h3;exact vb w e
def av3 (h:Host):df:=h.2.2.2.2.2.2.2.2.1
structure LZ (h:Host):Prop where
 K0:Good 0 h
 sz:BB 2000 h
 maps:∀m∈h.2.1,m.2.2.1<(h.1.length:Int)
 led:h.2.2.1.2.2.1=[]/\h.2.2.2.2.2.2.2.2.2.2.2.1=[]/\h.2.2.2.2.2.2.2.2.2.2.2.2.1=[]/\h.2.2.2.2.2.2.2.2.2.2.2.2.2.1=[]
 is:∃f s c vs,vs.length<=2/\aht h=aht (Fa f s c vs)/\∀v∈vs,v.2.1<=3/\v.2.2.2.2.1=false
theorem abQ {f:Filter}{s:df}{c:Bool}(m:Made f s c k h)(hk:1<=k/\k<=2)(hf:eV f=true)(Ax:f.2.2.length<=1000)(hs:eK s (k:Int)=true)(hz:Cx s):LZ h:=by have h4:=pL 256 128 8;obtain⟨vs,vl,ve,vb⟩:=m.is;obtain⟨m1,m2,m3,m4,m5,m6,m7,m8,m9,m10,m11,m12,_⟩:=m;obtain⟨mem,maps,tx,rx,pl,vec,pol,rest⟩:=h;simp only at m1 m2 m3 m4 m5 m6 m7 m8 m9 m10 m11 m12;subst m12 m3 m4;refine⟨⟨m1,aoO,akE 0 (by omega),hf,?_,by show eK s (rx.length:Int)=true;rw[m5];exact hs,λr hr=>(m6 r hr).1,λp hp=>(m8 p hp).1,m10,?_⟩,⟨?_,?_⟩,?_,⟨rfl,rfl,rfl,rfl⟩,⟨f,s,c,vs,by omega,congrArg aht ve,vb⟩⟩;unfold nB;simp only[ae,aX,aZ];omega;intro x hx;simp only[gR,bM,List.not_mem_nil,or_false,or_self]at hx;omega;have hm:=(qI.1 m1).1;refine⟨⟨by show mem.length<=2000;omega,λx hx=>by show x.length<=2000;rw[hm x hx];omega⟩,⟨by show(tG 38).length<=2000;rw[DU];omega,λ_ _=>⟨cy,cy,cy,cy⟩⟩,?_,?_,?_,?_,?_,⟨cy,cy,by show f.2.2.length<=2000;omega,λ_ _=>trivial⟩,?_,⟨cf _,λx hx=>by cases hx⟩,cy,⟨cf _,λx hx=>by cases hx⟩,⟨cf _,λx hx=>by cases hx⟩,⟨cf _,λx hx=>by cases hx⟩,cy,cy,cy,cy,cy⟩;exact⟨⟨cy,cy,cy,cy⟩,⟨cy,cy,cy,by show List.length (iz 256 128 8).1.2.2.2<=2000;omega,λ_ _=>trivial⟩,⟨cf _,λx hx=>by cases hx⟩,cy⟩;refine⟨by show rx.length<=2000;omega,λx hx=>?_⟩;have e:=(m6 x hx).1.free (m6 x hx).2;refine⟨⟨cy,cy,cy,cy⟩,⟨cy,cy,cy⟩,⟨cy,cy,cy⟩,?_,cy,cy⟩;rw[e];exact⟨⟨cy,cy,cy,cy,cy,cy,cy,cy,cy,cy,cy,cy,cy,cy,cy,cf _⟩,cy,cy⟩;exact⟨by show pl.length<=2000;omega,λx hx=>⟨cy,cy,cy,by have:=(m8 x hx).2;show x.2.2.2.length<=2000;omega,λ_ _=>trivial⟩⟩;exact⟨by show vec.length<=2000;omega,λx hx=>⟨cy,cy,cy,cy,cy,cy⟩⟩;exact⟨by show pol.length<=2000;omega,λx hx=>trivial⟩;exact⟨⟨by have:=hz.r;show s.1.length<=2000;omega,λ_ _=>⟨cy,cy,cy,cy,cy,cy,cy,cy,cy⟩⟩,⟨by have:=hz.t;show s.2.1.length<=2000;omega,λ_ _=>⟨cy,⟨cy,cy,cy,cy,cy⟩,cy⟩⟩,by have:=hz.k;show s.2.2.1.length<=2000;omega,by have:=hz.p;show s.2.2.2.length<=2000;omega,λ_ _=>trivial⟩;show List.length (iz 256 128 8).1.2.2.2+0<=2000;omega;intro m hm;have hm:m∈tG 38:=hm;simp only[tG,eF,bD]at hm;obtain⟨i,hi,rfl⟩:=hm;show 37-(i:Int)<(mem.length:Int);omega
theorem afY {a b:Int}(h:(sg a b).2=true):fg (sg a b).1=true:=by unfold sg at h⊢;cases hv:fg (a,b,0,0,false,false)with|false=>rw[hv]at h;cases h|true=>exact hv
theorem ajl {a b:Int}(h:(sg a b).2=true)(hb:b<=3):(sg a b).1.2.1<=3/\(sg a b).1.2.2.2.2.1=false:=by unfold sg at h⊢;cases hv:fg (a,b,0,0,false,false)with|false=>rw[hv]at h;cases h|true=>exact⟨hb,rfl⟩
theorem ab2 (q:Int)(f:Filter)(s:df)(c:Bool)(a b:Int)(hf:f.2.2.length<=1000)(hs:Cx s)(hb3:b<=3):Ends (tj q f s c a b) λr=>(r.2=true->LZ r.1/\av3 r.1=s)/\((1<=q/\q<=2)->eV f=true->eK s q=true->(sg a b).2=true->r.2=true):=by
 have z1:=hs.r;have z2:=hs.t;have z3:=hs.p;unfold tj;rw[Qe,ab,dq,ab];refine Ends.bind (P:=λx=>(x=false->(1<=q/\q<=2)/\eV f=true/\eK s q=true/\(sg a b).2=true)/\(x=true->(1<=q/\q<=2)->eV f=true->eK s q=true->(sg a b).2=true->False)) ?_ λx hx=>Ends.cond (λhx2=>Ends.pure ⟨(λh=>by cases h),λg1 g2 g3 g4=>(hx.2 hx2 g1 g2 g3 g4).elim⟩) λh=>?_;refine Ends.cond (λk=>Ends.pure ⟨(λh=>by cases h),λ_ g1 _ _ _=>by rw[aX.2 g1]at k;cases k⟩) λh1=>?_;rw[Cg f (by omega),ab];refine Ends.cond (λk=>Ends.pure ⟨(λh=>by cases h),λ_ _ g2 _ _=>by rw[g2]at k;cases k⟩) λh2=>?_;rw[EG s q (by omega) (by omega) (by omega),ab];refine Ends.cond (λk=>Ends.pure ⟨(λh=>by cases h),λ_ _ _ g3 _=>by rw[g3]at k;cases k⟩) λh3=>Ends.pure ⟨λh4=>?_,λk _ _ _ g4=>by rw[g4]at k;cases k⟩;exact⟨aX.1 (by simpa using h1),by simpa using h2,by simpa using h3,by simpa using h4⟩;obtain⟨hq,h1,h2,h3⟩:=hx.1 h;have hm:oN 38=some (Cv 38):=Qd 38;rw[hm,ab,Ta,ab,Cf f (by omega),ab,HR s (by omega) (by omega) (by omega),ab];have hv:=afY h3;refine Ends.zI (λx=>0<=x.1/\x.1<=38/\x.2=Sc f s c x.1.toNat) (λx=>(38-x.1).toNat) ⟨by simp,by simp,rfl⟩ (by simp) λx nx hx hn=>?_;obtain⟨i,y⟩:=x;obtain⟨x1,x2,x3⟩:=hx;simp only at x1 x2 x3;unfold qn;refine Ends.cond (λk=>?_) λk=>?_;have k:=bt k;have hl:=DU i.toNat;simp only at k;rw[dq,ab];simp only;rw[al (n:=i+1),al (n:=37-i)];subst x3;refine Ends.room (by show(tG i.toNat).length+1<=_;omega) (hn _ ⟨by show 0<=i+1;omega,by show i+1<=38;omega,?_⟩ (by show(38-(i+1)).toNat<(38-i).toNat;omega));have e:(i+1).toNat=i.toNat+1:=by omega
 show(Cv 38,tG i.toNat++_,_)=Sc f s c (i+1).toNat;rw[e];unfold Sc;rw[Py,show((i.toNat:Nat):Int)=i by omega];have k:=dX k;simp only at k;have e:i.toNat=38:=by omega
 rw[e]at x3;have hm0:Made f s c 0 y:=by rw[x3];exact⟨alO (by omega),by show(Cv 38).length=38;simp[Cv],rfl,rfl,rfl,(λ_ hr=>by cases hr),rfl,(λ_ hr=>by cases hr),rfl,(λ_ hr=>by cases hr),rfl,rfl,⟨[],rfl,rfl,λ_ hv=>by cases hv⟩⟩
 simp only;refine Ends.zI (λx=>0<=x.1/\x.1<=q/\Made f s c x.1.toNat x.2) (λx=>(q-x.1).toNat) ⟨by simp,by show(0:Int)<=q;omega,hm0⟩ (by simp;omega) λx nx hx hn=>?_;obtain⟨i,y⟩:=x;obtain⟨x1,x2,m⟩:=hx;simp only at x1 x2 m;unfold oM;refine Ends.cond (λk=>?_) λk=>Ends.pure ⟨λ_=>?_,λ_ _ _ _=>rfl⟩;have k:=bt k;simp only at k;have l1:=m.rx;have l2:=m.pl;have l3:=m.vec;have l4:=m.pol;refine Ends.room (by simp;omega) (Ends.room (by simp;omega) (Ends.room (by simp;omega) (Ends.room (by simp;omega) ?_)));have ho:=afF m (by omega) hv (ajl h3 hb3);rw[show((i.toNat:Nat):Int)=i by omega]at ho;refine ho.bind λr hr=>?_;simp only;rw[al (n:=i+1)];refine hn _ ⟨by show 0<=i+1;omega,by show i+1<=q;omega,?_⟩ (by show(q-(i+1)).toNat<(q-i).toNat;omega);show Made f s c (i+1).toNat r.2;rw[show(i+1).toNat=i.toNat+1 by omega];exact hr;have k:=dX k;simp only at k;have hi:i=q:=by omega
 subst hi;exact⟨abQ m (by omega) h1 hf (by rw[show((i.toNat:Nat):Int)=i by omega];exact h2) hs,congrArg (λx=>x.2.1) m.rest⟩
def ank (a:Act):Prop:=a.2.1.2.2.2.2.2.2.2.2.2.2.2.2.2.2.2.length<=1000/\a.2.2.2.2.1.length<=382/\0<=a.1/\a.1<=6
theorem J0 (n x:Int)(h0:0<=n:=by omega)(h1:n<=1000000:=by omega):Ends (gz n x) λr=>(r.length:Int)=n:=by unfold gz;rw[aH ⟨h0,cX _⟩];refine Ends.room (by omega) (Ends.zI (λy=>(y.1.length:Int)=n/\0<=y.2/\y.2<=n) (λy=>(n-y.2).toNat) ⟨by simp;omega,by simp,h0⟩ (by simp;omega) λy nx hy hn=>?_);unfold qs;refine Ends.cond (λk=>?_) λk=>Ends.pure (by simp[aM];exact hy.1);have k:=bt k;rw[al (n:=y.2+1)];refine Ends.idx hy.2.1 (by omega) λ_=>Ends.idx hy.2.1 (by omega) λ_=>hn _ ⟨?_,?_,?_⟩ ?_;show((List.set _ _ _).length:Int)=n;rw[aB];exact hy.1;show 0<=y.2+1;omega;show y.2+1<=n;omega;show(n-(y.2+1)).toNat<(n-y.2).toNat;omega
theorem Mt:uD=some (List.replicate 8 (0,(0,0,0,0,0),0)):=by unfold uD;rw[aH (by decide),aO (by decide)];rfl
theorem abL {k:Bytes}(hk:k.length=16):eK (([]:aw mi),List.replicate 8 (0,(0,0,0,0,0),0),k,[0]) 1=true:=by
 have ht:tT (List.replicate 8 (0,(0,0,0,0,0),0))=true:=by decide+kernel
 have hs:tB (k,[0]) 1=true:=by unfold tB;simp only[hk];decide+kernel
 unfold eK;rw[show Ah ([]:aw mi)=true from rfl,ht,hs];rfl
structure ael (k:Int) (b:bJ):Prop where
 mac:b.1.1=k
 vl:b.1.2.2=[7]\/b.1.2.2=[]
 last:0<=b.2.1/\b.2.1<=4
 done:0<=b.2.2.2/\b.2.2.2<=3
theorem anL {c:Ar}(h:Cu c):Ends (C3 c) λr=>((r.1.1.2.2=[7]\/r.1.1.2.2=[])/\(0<=r.1.2.1/\r.1.2.1<=4)/\0<=r.1.2.2.2/\r.1.2.2.2<=3)/\Cu r.2:=by unfold C3;refine(Wz h).bind λr1 p1=>(gQ p1.2 (by decide)).bind λr2 p2=>(gQ p2.2 (by decide)).bind λr3 p3=>(gQ p3.2 (by decide)).bind λr4 p4=>Ends.pure ⟨⟨p1.1.2,?_,?_⟩,p4.2⟩;have:=p2.1;show 0<=r2.1/\r2.1<=4;omega;have:=p4.1;show 0<=r4.1/\r4.1<=3;omega
theorem WU {P:Nat->α->Prop}{l:aw α}{a:α}(h:∀i b,l[i]?=some b->P i b)(ha:P l.length a):∀i b,(l++[a])[i]?=some b->P i b:=by
 intro i b hb;rcases cn i l.length with hi|hi;rw[bE hi]at hb;exact h i b hb;rw[bz hi]at hb;obtain⟨hj,hb⟩:=aC.1 hb;have e:i=l.length:=by simp at hj;omega
 subst e;simp at hb;rw[<-hb];exact ha
theorem aho {c:Ar}(h:Cu c):Ends (zi c) λr=>((1<=r.1.length/\r.1.length<=3)/\∀(i:Nat)(b:bJ),r.1[i]?=some b->ael (2*((i:Int)+1)) b)/\Cu r.2:=by unfold zi;refine(gQ h (n:=3) (by decide)).bind λr1 p1=>?_;have hp:=p1.1;rw[al (n:=1+r1.1)];refine Ends.zI (λx=>0<=x.2.1/\(x.1.length:Int)+x.2.1=1+r1.1/\(∀(i:Nat)(b:bJ),x.1[i]?=some b->ael (2*((i:Int)+1)) b)/\Cu x.2.2) (λx=>x.2.1.toNat) ⟨by show 0<=1+r1.1;omega,by simp,by intro i b hb;simp at hb,p1.2⟩ (by show(1+r1.1).toNat<=_;omega) λx nx hx hn=>?_;obtain⟨l,n,c'⟩:=x;obtain⟨x1,x2,x3,x4⟩:=hx;simp only at x1 x2 x3 x4;unfold ym;refine Ends.cond (λk=>?_) λk=>?_;have k:=bt k;simp only at k⊢;refine(anL x4).bind λr2 p2=>Ends.room (by simp;omega) ?_;rw[al (n:=(l.length:Int)+1),al (n:=2*((l.length:Int)+1)),al (n:=n-1)];refine hn _ ⟨by show 0<=n-1;omega,by show((l++[_]).length:Int)+(n-1)=_;simp;omega,WU x3 ⟨rfl,p2.1.1,p2.1.2.1,p2.1.2.2⟩,p2.2⟩ (by show(n-1).toNat<n.toNat;omega);have k:=dX k;simp only at k⊢;exact Ends.pure ⟨⟨⟨by show 1<=l.length;omega,by show l.length<=3;omega⟩,x3⟩,x4⟩
theorem ae6 {v:Int}{b:Bytes}:(ec v b).1.length<=96:=by unfold ec;cases hq:cS v 0 1000000&&decide (b.length<=84)with|false=>simp|true=>simp only[ae,aF]at hq;show(UG v b).length<=96;unfold UG;have h4:∀v,(gu v).length<=4:=dT;have a:=h4 v;have b1:=h4 (b.length:Int);have c:=h4 (L5 ((gu v++gu (b.length:Int))++b));simp only[ai];omega
theorem O6 {c:Ar}(h:Cu c):Ends (uG c) λr=>r.1.length<=96/\Cu r.2:=by unfold uG;refine(ki (P:=λ_=>True) h (by decide) (by simp)).bind λr1 p1=>(gQ p1.2 (by decide)).bind λr2 p2=>(Hj p2.2 r2.1).bind λr3 p3=>?_;rw[Qc _ _ (by have:=p3.1.1;omega),ab];exact Ends.pure ⟨ae6,p3.2⟩
theorem aa0 {c:Ar}(h:Cu c):Ends (ze c) λr=>(r.1.length=2/\∀x∈r.1,x.length=96)/\Cu r.2:=by
 unfold ze;refine Ends.zI (λx=>0<=x.1/\x.1<=2/\(x.2.2.length:Int)=x.1/\(∀y∈x.2.2,y.length=96)/\Cu x.2.1) (λx=>(2-x.1).toNat) ⟨by simp,by simp,by simp,by simp,h⟩ (by simp) λx nx hx hn=>?_;obtain⟨i,c',l⟩:=x;obtain⟨x1,x2,x3,x4,x5⟩:=hx;simp only at x1 x2 x3 x4 x5;unfold yi;refine Ends.cond (λk=>?_) λk=>?_;have k:=bt k;simp only at k⊢;refine(O6 x5).bind λr1 p1=>(uX p1.2 _).bind λr2 p2=>?_;have fin:∀(s t:Bytes)(c2:Ar),s.length+t.length=96->Cu c2->Ends (Go.Dn.room (List.length s+List.length t) (Go.Dn.room (List.length l+List.length [(s++t)]) (nx (ar (i+1),c2,l++[(s++t)])))) (λr=>(r.1.length=2/\∀x∈r.1,x.length=96)/\Cu r.2):=by intro s t c2 hs hc;refine Ends.room (by omega) (Ends.room (by simp;omega) ?_);rw[al (n:=i+1)];refine hn _ ⟨by show 0<=i+1;omega,by show i+1<=2;omega,by show((l++[_]).length:Int)=i+1;simp;omega,?_,hc⟩ (by show(2-(i+1)).toNat<(2-i).toNat;omega);intro y hy;rcases az.1 hy with hy|hy;exact x4 y hy;rw[bF.1 hy,ai];exact hs
 refine Ends.cond (λ_=>?_) λ_=>?_;refine(Hj p2 30).bind λr3 p3=>?_;have e:=p3.1.2.1 (by omega) (by omega);rw[al (n:=96-(r3.1.length:Int))];exact(J0 _ 255).bind λr4 p4=>fin _ _ _ (by omega) p3.2;have e:=p1.1;rw[al (n:=96-(r1.1.length:Int))];exact(J0 _ 255).bind λr4 p4=>fin _ _ _ (by omega) p2;have k:=dX k;simp only at k⊢;exact Ends.pure ⟨⟨by show l.length=2;omega,x4⟩,x5⟩
theorem Rf {f:Filter}{s:df}{c:Bool}{a b:Int}(hf:f.2.2.length<=1000)(hs:Cx s)(hb3:b<=3)(h:(oD f s c a b).2=true):LZ (oD f s c a b).1/\(oD f s c a b).1.2.2.2.2.2.2.2.1=f:=by refine⟨?_,?_⟩;obtain⟨x,e,hx⟩:=ab2 1 f s c a b hf hs hb3;rw[MF f s c a b (by omega) (by have:=hs.r;omega) (by have:=hs.t;omega) (by have:=hs.p;omega)]at e;have e:=cc e;rw[e]at h⊢;exact(hx.1 h).1;unfold oD at h⊢;cases hq:eV f&&(eK s 1&&(sg a b).2)with|true=>rfl|false=>rw[hq]at h;cases h
def B4 (bk:tX)(n:Nat):aw aR:=(range n).map λ(i:Nat)=>((i:Int),(i:Int)+1,bk,true,0,0)
theorem B5 (bk:tX)(n:Nat):(B4 bk n).length=n:=by simp[B4]
theorem Yj (bk:tX)(n:Nat):B4 bk (n+1)=B4 bk n++[((n:Int),(n:Int)+1,bk,true,0,0)]:=by simp[B4,gP]
theorem IB (bk:tX){n:Nat}(h:i<n):(B4 bk n).getD i KY=((i:Int),(i:Int)+1,bk,true,0,0):=by rw[cH (by rw[B5];exact h)];simp[B4]
structure IZ (c:de):Prop where
 vS:(du c.2.2.1).2=true
 box:∀(i:Nat)(b:bJ),c.2.2.1[i]?=some b->ael (2*((i:Int)+1)) b
 len:c.1.length=c.2.2.1.length
 host:∀(i:Nat)(h:Host)(b:bJ),c.1[i]?=some h->c.2.2.1[i]?=some b->LZ h/\h.2.2.2.2.2.2.2.1=b.1
 fns:∃bk,iD bk=true/\c.2.1=B4 bk c.2.2.1.length
 flash:c.2.2.2.1.length=2/\∀x∈c.2.2.2.1,x.length=96
 Nb:¬iw c.2.2.2.1<0
 clock:rH c.2.2.2.2.1=true
 rest:c.2.2.2.2.2=(([]:List Int),([]:List Bytes))
theorem IZ.K0 (d:IZ c):gD 4 c:=by
 obtain⟨bk,hb,hf⟩:=d.fns;have p:=lx d.vS;refine⟨d.vS,⟨d.len,by rw[hf,B5]⟩,?_,d.Nb,d.clock,λi h b h1 h2=>⟨(d.host i h b h1 h2).1.K0.mono,(d.host i h b h1 h2).2⟩,?_,?_,?_⟩;unfold ij;rw[p.1,p.2.2.1,bl,aD,hf,B5];intro i hi;have hi:=bD.1 hi;unfold fnB;rw[IB bk hi,p.2.1,ae];refine⟨?_,?_⟩;unfold E6;simp only[hb,ae,aX,bl];rw[al];push_cast;refine⟨⟨by omega,by omega⟩,⟨by omega,by omega⟩,⟨by decide,by decide⟩,by decide,by decide⟩;rw[aD];intro j hj;have hj:=bD.1 hj;rw[IB bk (by omega)];unfold aeS;simp only[aK,cu,cr,ne_eq];omega;intro i hi;unfold Ag;rw[hf,IB bk (by rw[<-d.len];exact hi)];simp;·intro b hb;obtain⟨i,hi⟩:=gb hb;have q:=d.box i b hi;exact⟨q.last.2,by have:=q.done.2;omega⟩
 intro f hh;rw[hf]at hh;simp only[B4,eF]at hh;obtain⟨i,_,rfl⟩:=hh;exact⟨by show(0:Int)<=4;omega,by show(0:Int)<=4;omega⟩
theorem adI (hs:Cx st){bk:tX}{t:Int}(hm:∀m∈ms,m.1.2.2.length<=1000):∀(l:aw bJ)(k:Nat)(s:aw Host×aw aR),k<=ms.length->ms.drop k=l->s.1.length=k->s.2=B4 bk k->(∀(i:Nat)(h:Host)(b:bJ),s.1[i]?=some h->ms[i]?=some b->LZ h/\h.2.2.2.2.2.2.2.1=b.1)->∀x,Dq (Re st cb bk) (λs=>some ((s.1,s.2,ms,f,(0,0,t,0),([]:bP),([]:bN)),true)) l s=some (x,true)->
 ∃xJ,x=(xJ,B4 bk ms.length,ms,f,(0,0,t,0),([]:bP),([]:bN))/\xJ.length=ms.length/\∀(i:Nat)(h:Host)(b:bJ),xJ[i]?=some h->ms[i]?=some b->LZ h/\h.2.2.2.2.2.2.2.1=b.1
 |[],k,s,hk,hd,h1,h2,h3,x,hx=>by
  have e:k=ms.length:=by have:=aL (i:=k) (l:=ms);rw[hd]at this;simp at this;omega
  subst e;rw[Dq]at hx;have hx:=(Prod.mk.inj (cc hx)).1;exact⟨s.1,by rw[<-hx,h2],h1,h3⟩
 |y::l,k,s,hk,hd,h1,h2,h3,x,hx=>by
  have gF:k<ms.length:=by have:=aL (i:=k) (l:=ms);rw[hd]at this;simp at this;omega
  have hy:=ca gF;rw[hd]at hy;obtain⟨e1,e2⟩:=List.cons.inj hy;rw[Dq]at hx;unfold Re at hx;by_cases hb:(oD y.1 st cb 1 2).2=true;rw[aH hb]at hx;simp only at hx;have hf:=Rf (by rw[e1];exact hm _ (aI gF)) hs (by omega) hb;refine adI hs hm l (k+1) _ (by omega) e2.symm (by simp[h1]) ?_ ?_ x hx;show s.2++[((s.2.length:Int),(s.2.length:Int)+1,bk,true,0,0)]=_;rw[h2,B5,Yj];intro i h b g1 g2;refine WU (P:=λi h=>∀b,ms[i]?=some b->LZ h/\h.2.2.2.2.2.2.2.1=b.1) (λi h g b g'=>h3 i h b g g') (λb g=>?_) i h g1 b g2;rw[h1,ak gF,<-e1]at g;rw[<-cc g];exact hf;rw[aG hb]at hx;simp at hx
theorem SF {bk:tX}{t:Int}{x:de}(hs:Cx st)(hm:∀(i:Nat)(b:bJ),ms[i]?=some b->ael (2*((i:Int)+1)) b)(hf:f.length=2/\∀y∈f,y.length=96)(h:xc ms st cb bk f t=some (x,true)):IZ x:=by
 unfold xc at h;cases hq:(du ms).2&&(iD bk&&(!decide (iw f<0)&&rH (0,0,t,0)))with
 |false=>rw[hq]at h;simp[ahq]at h
 |true=>
  rw[hq,ah]at h;simp only[ae,aK,cY]at hq;have hl:∀m∈ms,m.1.2.2.length<=1000:=by intro m hmm;obtain⟨i,hi⟩:=gb hmm;rcases(hm i m hi).vl with e|e<;>rw[e]<;>simp
  obtain⟨xJ,e,e1,e2⟩:=adI hs hl ms 0 ([],[]) (by omega) rfl rfl rfl (λi h b g=>by simp at g) x h;rw[e];exact⟨hq.1,hm,e1,e2,⟨bk,hq.2.1,rfl⟩,hf,hq.2.2.1,hq.2.2.2,rfl⟩
theorem adJ (st:df)(cb:Bool)(bk:tX)(F:aw Host×aw aR->de×Bool):∀(l:aw bJ)(s:aw Host×aw aR),∃r,Dq (Re st cb bk) (λs=>some (F s)) l s=some r
 |[],s=>⟨_,rfl⟩
 |y::l,s=>by rw[Dq];unfold Re;by_cases hb:(oD y.1 st cb 1 2).2=true;rw[aH hb];exact adJ st cb bk F l _;rw[aG hb];exact⟨_,rfl⟩
theorem Yi (ms:aw bJ)(st:df)(cb:Bool)(bk:tX)(f:bN)(t:Int):∃r,xc ms st cb bk f t=some r:=by unfold xc;cases (du ms).2&&(iD bk&&(!decide (iw f<0)&&rH (0,0,t,0)))with|false=>exact⟨_,rfl⟩|true=>exact adJ st cb bk _ ms _
theorem adH (st:df)(cb:Bool)(bk:tX)(F:aw Host×aw aR->de):∀(l:aw bJ)(s:aw Host×aw aR),(∀y∈l,(oD y.1 st cb 1 2).2=true)->∃x,Dq (Re st cb bk) (λs=>some (F s,true)) l s=some (x,true)
 |[],s,_=>⟨_,rfl⟩
 |y::l,s,h=>by rw[Dq];unfold Re;rw[aH (h y (List.mem_cons_self ..))];exact adH st cb bk F l _ λz hz=>h z (eR _ hz)
theorem S7 (hs:Cx st)(hm:∀(i:Nat)(b:bJ),ms[i]?=some b->ael (2*((i:Int)+1)) b)(hl:ms.length<=3)(hf:f.length=2)(cb:Bool)(bk:tX)(t:Int):ti ms st cb bk f t=xc ms st cb bk f t:=by refine YV ms st cb bk f t (by omega) (λm hh=>?_) (by omega) (by have:=hs.r;omega) (by have:=hs.t;omega) (by have:=hs.p;omega);obtain⟨i,hi⟩:=gb hh;rcases(hm i m hi).vl with e|e<;>rw[e]<;>simp
theorem aq3 {Q:R->Prop}{k0:Ar->ay R}{k1:Ar->de->ay R}{v:Int}{c:Ar}(hs:Cx st)(hc:Cu c)(hk0:∀c',Cu c'->Ends (k0 c') Q)(hk1:∀c' x,Cu c'->IZ x->Ends (k1 c' x) Q):Ends (so k0 k1 v c b2 st) Q:=by unfold so;refine(ki (P:=λ_=>True) hc (by decide) (by simp)).bind λr4 p4=>(ki (P:=λ_=>True) p4.2 (by decide) (by simp)).bind λr5 p5=>(aho p5.2).bind λr6 p6=>(gQ p6.2 (by decide)).bind λr7 p7=>(aa0 p7.2).bind λr8 p8=>(ki (P:=λ_=>True) p8.2 (by decide) (by simp)).bind λr9 p9=>?_;rw[S7 hs p6.1.2 p6.1.1.2 p8.1.1];obtain⟨⟨x,ok⟩,e⟩:=Yi r6.1 st (decide (r7.1>0)) (r4.1,2000,r5.1) r8.1 r9.1;rw[e,ab];refine Ends.cond (λk=>?_) λ_=>hk0 _ p9.2;have k:ok=true:=k;subst k;exact hk1 _ _ p9.2 (SF hs p6.1.2 p8.1 e)
theorem avN {Q:R->Prop}{k0:Int->Ar->ay R}{k1:Ar->de->ay R}{v:Int}{c:Ar}(hv:0<=v/\v<=100)(hc:Cu c)(hk0:∀c',Cu c'->Ends (k0 (v+1) c') Q)(hk1:∀c' x,Cu c'->IZ x->Ends (k1 c' x) Q):Ends (xz k0 k1 v c b2) Q:=by
 unfold xz;simp only[Mt,ab];refine(aoN hc).bind λr2 p2=>(uX p2.2 4).bind λr3 p3=>?_;have k3:∀c',Cu c'->Ends (sn (λzW=>k0 zW c') v c' b2) Q:=by intro c' Co;unfold sn;rw[al];exact hk0 _ Co
 refine Ends.cond (λ_=>aq3 ⟨by simp,by simp,p2.1,by simp⟩ p3 k3 λc' x h1 h2=>hk1 _ _ h1 h2) λ_=>aq3 ⟨by simp,by simp,p2.1,by simp⟩ p3 k3 λc' x h1 h2=>hk1 _ _ h1 h2
theorem aew {t u:Bytes}(ht:t.length=84)(hu:u.length=96):¬iw [(ec 1 []).1++t,u]<0:=by
 have e:(ec 1 []).1=[0,0,0,1,0,0,0,0]++gu (L5 [0,0,0,1,0,0,0,0]):=by decide+kernel
 have el:(ec 1 []).1.length=12:=by rw[e];decide+kernel
 have hv:iH ((ec 1 []).1++t)=1:=by
  have g:∀a:Nat,a+4<=12->eM ((ec 1 []).1++t) (a:Int)=eM (ec 1 []).1 (a:Int):=by
   intro a ha;unfold eM fA bV;rw[au (by rw[ai,el];omega),au (by rw[el];omega)];have b:∀i,i<12->((ec 1 []).1++t).getD i 0=(ec 1 []).1.getD i 0:=by intro i hi;rw[bK,bK,bE (by omega)]
   simp only[ax];rw[b a (by omega),b (a+1) (by omega),b (a+2) (by omega),b (a+3) (by omega)]
  have g0:eM ((ec 1 []).1++t) 0=1:=(g 0 (by omega)).trans (by decide+kernel);have g4:eM ((ec 1 []).1++t) 4=0:=(g 4 (by omega)).trans (by decide+kernel);unfold iH;rw[g4,aH (by rw[ai,el];omega)];unfold agX;have t1:(((ec 1 []).1++t).take (8+(0:Int).toNat)).drop 8=[]:=by rw[dg (by rw[aV];simp;omega)]
  have t2:((ec 1 []).1++t).take (12+(0:Int).toNat)=(ec 1 []).1:=by rw[List.take_left' (by rw[el];rfl)]
  rw[t1,t2,g0];have o:(ec 1 []).2=true:=by decide+kernel
  rw[o,beq_self_eq_true];rfl
 unfold iw;have hf:kJ [(ec 1 []).1++t,u]=true:=by unfold kJ;show((((2:Nat):Int)==2)&&(((((ec 1 []).1++t).length:Int)==96)&&((u.length:Int)==96)))=true;rw[ai,el,ht,hu];rfl
 rw[hf,ah];have h0:List.getD [(ec 1 []).1++t,u] 0 []=(ec 1 []).1++t:=rfl;rw[h0,hv];split;omega;split<;>omega
theorem ajj {c:Ar}(h:Cu c):Ends (C4 c) λr=>IZ r.1/\Cu r.2:=by
 unfold C4;refine Ends.zI (λx=>0<=x.1/\x.1<=4/\Cu x.2) (λx=>(4-x.1).toNat) ⟨by simp,by simp,h⟩ (by simp) λx nx hx hn=>?_;obtain⟨i,c'⟩:=x;obtain⟨x1,x2,x3⟩:=hx;simp only at x1 x2 x3;unfold Ck;refine Ends.cond (λk=>?_) λk=>?_;have k:=bt k;simp only at k⊢;exact avN ⟨by omega,by omega⟩ x3 (λc2 h2=>hn _ ⟨by show 0<=i+1;omega,by show i+1<=4;omega,h2⟩ (by show(4-(i+1)).toNat<(4-i).toNat;omega)) λc2 y h2 d=>Ends.pure ⟨d,h2⟩;have el:(ec 1 []).1.length=12:=by decide+kernel
 simp only[Qc 1 [] (by simp),ab];rw[el,al (n:=96-((12:Nat):Int))];refine(J0 _ 255).bind λZJ p26=>Ends.room (by omega) ((J0 96 255).bind λVO p27=>?_);simp only[Mt,ab];refine(J0 16 5).bind λr29 p29=>?_;have hs:Cx (([]:aw mi),List.replicate 8 (0,(0,0,0,0,0),0),r29,[0]):=⟨by simp,by simp,by show r29.length=16;omega,by simp⟩
 have hm:∀(j:Nat)(b:bJ),([((2,false,([]:bP)),0,0,0),((4,false,([]:bP)),0,0,0)]:aw bJ)[j]?=some b->ael (2*((j:Int)+1)) b:=by intro j b hb;match j with|0=>have e:=cc hb;rw[<-e];exact⟨rfl,Or.inr rfl,⟨by decide,by decide⟩,by decide,by decide⟩|1=>have e:=cc hb;rw[<-e];exact⟨rfl,Or.inr rfl,⟨by decide,by decide⟩,by decide,by decide⟩|j+2=>simp at hb
 have hb:=aew (t:=ZJ) (u:=VO) (by omega) (by omega);rw[S7 hs hm (by simp) rfl];have e:∃x,xc ([((2,false,([]:bP)),0,0,0),((4,false,([]:bP)),0,0,0)]:aw bJ) (([]:aw mi),List.replicate 8 (0,(0,0,0,0,0),0),r29,[0]) true (100,2000,1000) [(ec 1 []).1++ZJ,VO] 1048576=some (x,true):=by
  unfold xc;have p1:(du [((2,false,([]:bP)),0,0,0),((4,false,([]:bP)),0,0,0)]).2=true:=by decide+kernel
  have p2:iD (100,2000,1000)=true:=by decide+kernel
  have p3:rH (0,0,1048576,0)=true:=by decide+kernel
  rw[p1,p2,p3,aq hb];refine adH _ _ _ _ _ _ λy hy=>?_;have nA:=abL (k:=r29) (by omega);have hv:(sg 1 2).2=true:=by decide+kernel
  have hf:eV y.1=true:=by rcases bM.1 hy with e|hy;rw[e];decide+kernel;rw[bF.1 hy];decide+kernel
  unfold oD;rw[hf,nA,hv];rfl
 obtain⟨x,e⟩:=e;rw[e,ab];refine Ends.pure ⟨SF hs hm ⟨rfl,?_⟩ e,x3⟩;intro y hy;rcases bM.1 hy with e|hy;rw[e,ai,el];omega;rw[bF.1 hy];omega
abbrev aga:aJ:=(0,0,0,0,0,0,0,0,0,0,0,0,0,0,0,([]:Bytes))
structure qU (n:Int) (a:dZ):Prop where
 kind:0<=a.1/\a.1<=2
 fn:0<=a.2.1/\a.2.1<n
 act:ank a.2.2.1
 ok:Hl a.2.2.1=true
 msg:0<=a.2.2.2.1.1/\a.2.2.2.1.1<=6
 img:a.2.2.2.2.1.length<=96
 part:0<=a.2.2.2.2.2/\a.2.2.2.2.2<=100
theorem qU.put (h:qU n a){x:Act}(h1:ank x)(h2:Hl x=true):qU n (a.1,a.2.1,x,a.2.2.2):=⟨h.kind,h.fn,h1,h2,h.msg,h.img,h.part⟩
theorem aeo (p:aJ)(s c:Int):Hl (0,p,s,c,([]:Bytes),0)=true:=rfl
theorem NZ (b:Int):Hl (5,aga,0,0,([]:Bytes),b)=true:=rfl
theorem aen {f:Bytes}(h:f.length<=600):Hl (2,aga,0,0,f,0)=true:=by unfold Hl ahd;simp only[ab];rw[show cS (2:Int) 0 6=true from aX.2 ⟨by omega,by omega⟩,cz];rfl
theorem vH {k:Int}(h:k=1\/k=3\/k=4\/k=6\/k=0:=by omega):Hl (k,aga,0,0,([]:Bytes),0)=true:=by rcases h with rfl|rfl|rfl|rfl|rfl<;>rfl
theorem qB {k b:Int}(h:0<=k/\k<=6:=by omega):ank (k,aga,0,0,([]:Bytes),b):=⟨by simp,by simp,h.1,h.2⟩
theorem Mw {c:Ar}(h:Cu c)(p:aJ)(hn:0<=n/\n<=100):Ends (sq c p n) λr=>((0<=r.1.1/\r.1.1<=281474976710655)/\(r.1.2.1=99\/r.1.2.1=2*(n+1))/\r.1.2.2=p.2.2)/\Cu r.2:=by unfold sq;rw[al (n:=n+1),al (n:=2*(n+1))];refine(uX h 12).bind λr1 p1=>Ends.cond (λ_=>(ki (P:=λx=>0<=x/\x<=281474976710655) p1 (by decide) (by decide)).bind λr2 p2=>Ends.pure ⟨⟨p2.1,Or.inl rfl,rfl⟩,p2.2⟩) λ_=>(ki (P:=λx=>0<=x/\x<=281474976710655) p1 (by decide) (by decide)).bind λr2 p2=>Ends.pure ⟨⟨p2.1,Or.inr rfl,rfl⟩,p2.2⟩
theorem abU {c:Ar}(h:Cu c):Ends (vq c) λr=>(0<=r.1.1/\r.1.1<=6)/\Cu r.2:=by unfold vq;refine(gQ h (by decide)).bind λr1 p1=>(ki (P:=λ_=>True) p1.2 (by decide) (by simp)).bind λr2 p2=>(ki (P:=λ_=>True) p2.2 (by decide) (by simp)).bind λr3 p3=>Ends.pure ⟨?_,p3.2⟩;have:=p1.1;show 0<=r1.1/\r1.1<=6;omega
theorem N0 {l:aw dZ}(h:qU n a):∀y∈l++[a],y∈l\/qU n y:=by intro y hy;rcases az.1 hy with hy|hy;exact Or.inl hy;rw[bF.1 hy];exact Or.inr h
theorem c25 {Q:R->Prop}{k0:aw dZ->Ar->dZ->ay R}{v10 v30:Int}{v63:Bool}{l:aw dZ}{ps:aw aJ}{c:Ar}(hl:l.length<=1000)(hp:∀p∈ps,Plain p)(h9:0<=v9/\v9<(ps.length:Int))(h10:0<=v10/\v10<=100)(hc:Cu c)(ha:qU v1 a)(hk:∀l' c' a',l'.length<=l.length+1->(∀y∈l',y∈l\/qU v1 y)->Cu c'->qU v1 a'->Ends (k0 l' c' a') Q):Ends (jB k0 v1 v2 l ps v9 v10 v30 v63 c a) Q:=by have same:∀c' a',Cu c'->qU v1 a'->Ends (k0 l c' a') Q:=λc' a' h1 h2=>hk l c' a' (by omega) (λy hy=>Or.inl hy) h1 h2;unfold jB;refine Ends.cond (λ_=>?_) λ_=>?_;refine Ends.idx h9.1 h9.2 λhi=>(Mw hc _ h10).bind λr8 p8=>(gQ p8.2 (by decide)).bind λr9 p9=>(ki (P:=λ_=>True) p9.2 (by decide) (by simp)).bind λvT p10=>Ends.room (by simp;omega) ?_;refine hk _ _ _ (by simp) (N0 (ha.put ⟨?_,by simp,by simp,by simp⟩ (aeo ..))) p10.2 (ha.put (qB) (vH));show r8.1.2.2.2.2.2.2.2.2.2.2.2.2.2.2.2.length<=1000;rw[p8.1.2.2];have:=(hp _ (aI hi)).2;omega;refine Ends.cond (λ_=>same _ _ hc (ha.put (qB) (vH))) λ_=>?_;refine Ends.cond (λ_=>(gQ hc (by decide)).bind λyL p11=>same _ _ p11.2 (ha.put (qB) (NZ _))) λ_=>?_;refine Ends.cond (λ_=>same _ _ hc (ha.put (qB) (vH))) λ_=>?_;refine Ends.cond (λ_=>(abU hc).bind λtJ p12=>same _ _ p12.2 ⟨by simp,ha.fn,ha.act,ha.ok,p12.1,ha.img,ha.part⟩) λ_=>?_;refine Ends.cond (λ_=>(uX hc 2).bind λCa p13=>Ends.cond (λ_=>?_) λ_=>same _ _ p13 (ha.put (qB) (vH))) λ_=>same _ _ hc ha;refine(O6 p13).bind λVe p14=>(gQ p14.2 (by decide)).bind λAp p15=>same _ _ p15.2 ⟨by simp,ha.fn,qB,vH,ha.msg,p14.1,?_⟩;have:=p15.1;show 0<=Ap.1/\Ap.1<=100;omega
theorem c19 {Q:R->Prop}{k0:aw dZ->Ar->dZ->ay R}{v10 v30:Int}{v46:Bool}{l:aw dZ}{ps:aw aJ}{c:Ar}(hl:l.length<=1000)(hp:∀p∈ps,Plain p)(h9:0<=v9/\v9<(ps.length:Int))(h10:0<=v10/\v10<=100)(hc:Cu c)(ha:qU v1 a)(hk:∀l' c' a',l'.length<=l.length+1->(∀y∈l',y∈l\/qU v1 y)->Cu c'->qU v1 a'->Ends (k0 l' c' a') Q):Ends (jA k0 v1 v2 l ps v9 v10 v30 v46 c a) Q:=by unfold jA;refine Ends.cond (λ_=>?_) λ_=>?_;refine Ends.idx h9.1 h9.2 λhi=>(Mw hc _ (n:=5) (by omega)).bind λr5 p5=>?_;have hf:=GS r5.1;rw[agA,ab];exact hk l _ _ (by omega) (λy hy=>Or.inl hy) p5.2 (ha.put ⟨by simp,hf,by simp,by simp⟩ (aen (by omega)));exact Ends.cond (λ_=>c25 hl hp h9 h10 hc ha hk) λ_=>Ends.cond (λ_=>c25 hl hp h9 h10 hc ha hk) λ_=>Ends.cond (λ_=>c25 hl hp h9 h10 hc ha hk) λ_=>c25 hl hp h9 h10 hc ha hk
theorem c37 {Q:R->Prop}{k0:aw dZ->Ar->ay R}{l:aw dZ}{ps:aw aJ}{c:Ar}(hl:l.length<=1000)(h1:0<v1)(hc:Cu c)(ha:qU v1 a)(hk:∀l' c',l'.length<=l.length+3->(∀y∈l',y∈l\/qU v1 y)->Cu c'->Ends (k0 l' c') Q):Ends (jC k0 v1 v2 l ps v9 c a) Q:=by unfold jC;refine Ends.room (by simp;omega) ((uX hc 2).bind λVP p31=>Ends.cond (λ_=>(gQ p31 h1).bind λr32 p32=>Ends.room (by simp;omega) (Ends.room (by simp;omega) (hk _ _ (by simp) ?_ p32.2))) λ_=>hk _ _ (by simp) (N0 ha) p31);intro y hy;rcases az.1 hy with hy|hy;rcases az.1 hy with hy|hy;exact N0 ha y hy;rw[bF.1 hy];exact Or.inr ⟨by simp,p32.1,qB,NZ _,by simp,by simp,by simp⟩;rw[bF.1 hy];exact Or.inr ⟨by simp,⟨by simp,h1⟩,qB,vH,by simp,by simp,by simp⟩
theorem c6 {Q:R->Prop}{k0:aw dZ->Int->Ar->ay R}{l:aw dZ}{ps:aw aJ}{c:Ar}(hl:l.length<=900)(h1:0<v1/\v1<=3)(hp:∀p∈ps,Plain p)(h9:0<=v9/\v9<(ps.length:Int))(hn:ps.length<=1000)(hc:Cu c)(hk:∀l' c',l'.length<=l.length+4->(∀y∈l',y∈l\/qU v1 y)->Cu c'->Ends (k0 l' (v9+1) c') Q):Ends (vw k0 v1 v2 l ps v9 c) Q:=by
 unfold vw;refine(gQ hc h1.1).bind λr2 p2=>(gQ p2.2 (by decide)).bind λr3 p3=>?_;have hf:=p2.1;have a0:qU v1 (0,r2.1,(0,aga,0,0,([]:Bytes),0),(0,0,0),([]:Bytes),0):=⟨by simp,hf,qB,vH,by simp,by simp,by simp⟩
 have e:ar (v9+1)=v9+1:=al;have go:∀(v46:Bool),Ends (jA (λy28 y29 y30=>jC (λy33 y34=>mC (λy35=>k0 y33 y35 y34) v1 v2 y33 ps v9 y34) v1 v2 y28 ps v9 y29 y30) v1 v2 l ps v9 r2.1 r3.1 v46 r3.2 (0,r2.1,(0,aga,0,0,([]:Bytes),0),(0,0,0),([]:Bytes),0)) Q:=by intro v46;refine c19 (by omega) hp h9 ⟨hf.1,by omega⟩ p3.2 a0 λl1 c1 a1 g1 g2 g3 g4=>c37 (by omega) h1.1 g3 g4 λl2 c2 g5 g6 g7=>?_;unfold mC;rw[e];refine hk _ _ (by omega) (λy hy=>?_) g7;rcases g6 y hy with g|g;exact g2 y g;exact Or.inr g
 exact Ends.cond (λ_=>go _) λ_=>Ends.cond (λ_=>go _) λ_=>go _
theorem aeq {c:Ar}(h:Cu c)(hn:0<n/\n<=3)(b:Bool):Ends (Bi c n b) λr=>(r.1.length<=32/\∀a∈r.1,qU n a)/\Cu r.2:=by
 unfold Bi;refine(alM h (m:=8) (by omega) (by omega)).bind λr1 p1=>?_;have h8:=p1.1.2.2;refine Ends.zI (λx=>0<=x.2.1/\x.2.1<=(r1.1.length:Int)/\(x.1.length:Int)<=4*x.2.1/\(∀a∈x.1,qU n a)/\Cu x.2.2) (λx=>((r1.1.length:Int)-x.2.1).toNat) ⟨by simp,by simp,by simp,by simp,p1.2⟩ (by simp;omega) λx nx hx hnx=>?_;obtain⟨l,i,c'⟩:=x;obtain⟨x1,x2,x3,x4,x5⟩:=hx;simp only at x1 x2 x3 x4 x5;unfold Aj;refine Ends.cond (λk=>?_) λk=>?_;have k:=bt k;simp only at k⊢;refine c6 (by omega) hn p1.1.1 ⟨x1,k⟩ (by omega) x5 λl' c2 g1 g2 g3=>hnx _ ⟨by show 0<=i+1;omega,by show i+1<=_;omega,by show(l'.length:Int)<=4*(i+1);omega,?_,g3⟩ (by show((r1.1.length:Int)-(i+1)).toNat<((r1.1.length:Int)-i).toNat;omega);intro a ha;rcases g2 a ha with g|g;exact x4 a g;exact g;simp only;have hl:l.length<=32:=by omega
 refine Ends.zI (λy=>0<=y.2/\y.2<=(y.1.length:Int)/\y.1.length=l.length/\∀a∈y.1,qU n a) (λy=>((y.1.length:Int)-y.2).toNat) ⟨by simp,by simp,rfl,x4⟩ (by simp;omega) λy ny hy hm=>?_;obtain⟨q,j⟩:=y;obtain⟨y1,y2,y3,y4⟩:=hy;simp only at y1 y2 y3 y4;unfold yl;refine Ends.cond (λk2=>?_) λk2=>Ends.pure ⟨⟨by show q.length<=32;omega,y4⟩,x5⟩;have k2:=bt k2;simp only at k2⊢;unfold yj;have step:∀q':aw dZ,q'.length=l.length->(∀a∈q',qU n a)->Ends (tz (λy61=>ny (q',y61)) q' j c') (λr=>(r.1.length<=32/\∀a∈r.1,qU n a)/\Cu r.2):=by intro q' e1 e2;unfold tz;rw[al (n:=j+1)];exact hm _ ⟨by show 0<=j+1;omega,by show j+1<=(q'.length:Int);omega,e1,e2⟩ (by show((q'.length:Int)-(j+1)).toNat<((q.length:Int)-j).toNat;omega)
 refine Ends.bind (P:=λ_=>True) ?_ λz _=>?_;exact Ends.idx y1 k2 λ_=>Ends.cond (λ_=>Ends.idx y1 k2 λ_=>Ends.cond (λ_=>Ends.idx y1 k2 λ_=>Ends.pure trivial) λ_=>Ends.pure trivial) λ_=>Ends.pure trivial;unfold yk;refine Ends.cond (λ_=>Ends.idx y1 k2 λhi=>Ends.idx y1 k2 λ_=>step _ (by rw[aB];exact y3) ?_) λ_=>step q y3 y4;intro a ha;rcases dv ha with g|g;exact y4 a g;rw[g];exact(y4 _ (aI hi)).put (qB) (vH)
theorem aeB {a:bP}(ha:a.length<=1048576):Ends (yR a) λr=>IZ r.1/\r.2.length<=32/\∀x∈r.2,qU (r.1.1.length:Int) x:=by unfold yR;refine(ao4 ha).bind λr1 p1=>(ajj p1).bind λr2 p2=>?_;have p:=lx p2.1.vS;have hl:=p2.1.len;exact(aeq p2.2 ⟨by omega,by omega⟩ false).bind λr3 p3=>Ends.pure ⟨p2.1,p3.1.1,p3.1.2⟩
theorem ahr (d:IZ c):Cr 2000 c:=by
 have p:=lx d.vS;obtain⟨bk,_,hf⟩:=d.fns;have hh:∀h∈c.1,LZ h:=by intro h hh;obtain⟨i,hi⟩:=gb hh;obtain⟨gF,_⟩:=aC.1 hi;exact(d.host i h _ hi (ak (by rw[<-d.len];exact gF))).1
 refine⟨⟨⟨by have:=d.len;omega,λh hx=>(hh h hx).sz.z⟩,⟨by rw[hf,B5];omega,λ_ _=>⟨cy,cy,⟨cy,cy,cy⟩,cy,cy,cy⟩⟩,⟨by omega,λb hb=>?_⟩,⟨by have:=d.flash.1;omega,λx hx=>by show x.length<=2000;rw[d.flash.2 x hx];omega⟩,⟨cy,cy,cy,cy⟩,?_,?_⟩,λh hx=>(hh h hx).sz⟩;obtain⟨i,hi⟩:=gb hb;have q:=(d.box i b hi).vl;refine⟨⟨cy,cy,?_,λ_ _=>trivial⟩,cy,cy,cy⟩;show b.1.2.2.length<=2000;rcases q with e|e<;>rw[e]<;>simp;rw[show c.2.2.2.2.2.1=[] from congrArg (·.1) d.rest];exact⟨cf _,λ_ _=>trivial⟩;rw[show c.2.2.2.2.2.2=[] from congrArg (·.2) d.rest];exact⟨cf _,λx hx=>by cases hx⟩
def I6 (f:bN):Int:=if iH (f.getD 0 [])<0/\iH (f.getD 1 [])<0 then-1 else if iH (f.getD 1 [])>iH (f.getD 0 []) then iH (f.getD 1 []) else iH (f.getD 0 [])
theorem ae8 (h:kJ f=true):sC f=some (I6 f):=by obtain⟨e,h0,h1⟩:=xO h;unfold sC;rw[O7,ab];unfold iw I6;rw[h,ah];generalize f.getD 0 []=x at e h0 h1⊢;generalize f.getD 1 []=y at e h0 h1⊢;subst e;by_cases a:iH x<0/\iH y<0;rw[aH a,aH a];rfl;rw[aG a,aG a];by_cases b:iH y>iH x;rw[aH b,aH b,cz,af,show idx [x,y] 1=some y from rfl,ab,JQ y];rfl;rw[aG b,aG b,cz,af,show idx [x,y] 0=some x from rfl,ab,JQ x];rfl
theorem N7 (h:¬iw f<0):kJ f=true:=by unfold iw at h;cases hf:kJ f with|true=>rfl|false=>rw[hf,af]at h;exact absurd (by decide) h
def Rz (f g:bN):Prop:=kJ g=true/\∀i:Nat,(i:Int)=iw f->g.getD i []=f.getD i []
theorem abH {g:bN}(h:¬iw f<0)(k:Rz f g):¬iw g<0/\I6 f<=I6 g/\0<=I6 f:=by
 have hf:=N7 h;obtain⟨k1,k2⟩:=k;unfold iw at h k2;rw[hf,ah]at h k2;unfold iw I6;rw[k1,ah];by_cases a:iH (f.getD 0 [])<0/\iH (f.getD 1 [])<0;rw[aH a]at h;omega;rw[aG a]at h k2⊢;by_cases b:iH (f.getD 1 [])>iH (f.getD 0 []);rw[aH b]at k2⊢;have e:=k2 1 rfl;rw[e];have n:¬(iH (g.getD 0 [])<0/\iH (f.getD 1 [])<0):=by omega
 rw[aG n,aG n];split<;>refine⟨by omega,by omega,by omega⟩;rw[aG b]at k2⊢;have e:=k2 0 rfl;rw[e];have n:¬(iH (f.getD 0 [])<0/\iH (g.getD 1 [])<0):=by omega
 rw[aG n,aG n];split<;>refine⟨by omega,by omega,by omega⟩
theorem agM (x:ir):Ends (sH x) λb=>b=true->(0<=x.2.1/\x.2.1<=1)/\(x.1=0\/(x.2.2.2.length<=8/\0<=x.2.2.1/\x.2.2.1+(x.2.2.2.length:Int)<=96)):=by
 unfold sH;simp only[cl,ab];refine Ends.cond (λ_=>Ends.pure (by simp)) λk=>?_;have k1:cS x.2.1 0 1=true:=by simpa using k
 have k1:=aX.1 k1;refine Ends.cond (λk2=>?_) λ_=>Ends.cond (λ_=>?_) λ_=>Ends.pure (by simp);refine Ends.bind (P:=λ_=>True) (Ends.cond (λ_=>Ends.pure trivial) λ_=>Ends.pure trivial) λz _=>Ends.pure λ_=>⟨k1,Or.inl (by simpa using k2)⟩
 refine Ends.bind (P:=λb=>b=true->x.2.2.2.length<=8/\0<=x.2.2.1/\x.2.2.1+(x.2.2.2.length:Int)<=96) (Ends.cond (λk3=>Ends.pure λk4=>?_) λ_=>Ends.pure (by simp)) λz hz=>Ends.pure λhb=>⟨k1,Or.inr (hz hb)⟩
 have k3:=aX.1 k3;rw[al (n:=96-(x.2.2.2.length:Int))]at k4;have k4:=aX.1 k4;omega
theorem RY (h:kJ f=true){k:Int}(hk:0<=k/\k<=1)(hs:s.length=96):kJ (f.set k.toNat s)=true/\∀i:Nat,(i:Int)≠k->(f.set k.toNat s).getD i []=f.getD i []:=by obtain⟨e,h0,h1⟩:=xO h;refine⟨?_,λi hi=>?_⟩;rw[e];rcases(by omega:k=0\/k=1)with rfl|rfl;unfold kJ;show((((2:Nat):Int)==2)&&(((s.length:Int)==96)&&(((f.getD 1 []).length:Int)==96)))=true;rw[hs,h1];rfl;unfold kJ;show((((2:Nat):Int)==2)&&((((f.getD 0 []).length:Int)==96)&&((s.length:Int)==96)))=true;rw[hs,h0];rfl;rw[bK,bK,aP (by omega)]
theorem aa1 (h:kJ f=true)(x:ir)(part:Int)(hp:part<=1000):Ends (lp f x part) λg=>kJ g=true/\∀i:Nat,(i:Int)≠x.2.1->g.getD i []=f.getD i []:=by
 obtain⟨e,h0,h1⟩:=xO h;have hl:f.length=2:=by rw[e];rfl
 have same:kJ f=true/\∀i:Nat,(i:Int)≠x.2.1->f.getD i []=f.getD i []:=⟨h,λ_ _=>rfl⟩
 unfold lp;rw[lO,mw f,ab,K9,ab,h];simp only[ab];refine Ends.bind (P:=λb=>b=false->((0<=x.2.1/\x.2.1<=1)/\(x.1=0\/(x.2.2.2.length<=8/\0<=x.2.2.1/\x.2.2.1+(x.2.2.2.length:Int)<=96)))/\0<=part) ?_ λz hz=>?_;refine Ends.cond (λk=>by simp at k) λ_=>(agM x).bind λb hb=>Ends.cond (λ_=>Ends.pure (by simp)) λk2=>Ends.pure λk3=>⟨hb (by simpa using k2),?_⟩
 have:=dX k3;omega;refine Ends.cond (λ_=>Ends.pure same) λk=>?_;obtain⟨⟨hb,hx⟩,hp0⟩:=hz k;have hbl:x.2.1.toNat<f.length:=by omega
 have hlen:∀(i:Nat)(hi:i<f.length),f[i].length=96:=by intro i hi;have e0:f[0]'(by omega)=f.getD 0 []:=(cH (by omega) _).symm;have e1:f[1]'(by omega)=f.getD 1 []:=(cH (by omega) _).symm;rcases(by omega:i=0\/i=1)with rfl|rfl;rw[e0];exact h0;rw[e1];exact h1
 refine Ends.idx hb.1 (by omega) λhi=>?_;have h96:=hlen _ hi;refine Ends.room (by omega) (Ends.cond (λ_=>?_) λk0=>?_);refine Ends.zI (λy=>y.1.length=96/\0<=y.2/\y.2<=96) (λy=>(96-y.2).toNat) ⟨by simp[dz,h96],by simp,by simp⟩ (by simp) λy ny hy hn=>?_;unfold tO;refine Ends.cond (λk1=>?_) λ_=>Ends.idx hb.1 (by omega) λ_=>Ends.idx hb.1 (by omega) λ_=>Ends.pure (RY h hb (by simp[aM];exact hy.1));have k1:=bt k1;have k2:y.2<96:=by split at k1<;>omega
 rw[al (n:=y.2+1)];refine Ends.idx hy.2.1 (by have:=hy.1;omega) λ_=>Ends.idx hy.2.1 (by have:=hy.1;omega) λ_=>hn _ ⟨by show(List.set _ _ _).length=96;rw[aB];exact hy.1,by show 0<=y.2+1;omega,by show y.2+1<=96;omega⟩ (by show(96-(y.2+1)).toNat<(96-y.2).toNat;omega);have hx:=hx.resolve_left (by simpa using k0);refine Ends.zI (λy=>y.1.length=96/\0<=y.2/\y.2<=(x.2.2.2.length:Int)) (λy=>((x.2.2.2.length:Int)-y.2).toNat) ⟨by simp[dz,h96],by simp,by simp⟩ (by simp;omega) λy ny hy hn=>?_;unfold rR;refine Ends.cond (λk1=>?_) λ_=>Ends.idx hb.1 (by omega) λ_=>Ends.idx hb.1 (by omega) λ_=>Ends.pure (RY h hb (by simp[aM];exact hy.1));have k1:=bt k1;have k2:y.2<(x.2.2.2.length:Int):=by split at k1<;>omega
 have hy1:=hy.1;rw[al (n:=y.2+1),al (n:=x.2.2.1+y.2)];refine Ends.idx (by omega) (by omega) λ_=>Ends.idx hy.2.1 k2 λ_=>Ends.idx (by omega) (by omega) λ_=>Ends.idx (by omega) (by omega) λ_=>hn _ ⟨by show(List.set _ _ _).length=96;rw[aB];exact hy.1,by show 0<=y.2+1;omega,by show y.2+1<=_;omega⟩ (by show((x.2.2.2.length:Int)-(y.2+1)).toNat<((x.2.2.2.length:Int)-y.2).toNat;omega)
theorem aj6 {l:Bytes}{i j:Int}(h0:0<=i)(h1:i<=j)(h2:j<=(l.length:Int)):∃s,sub l i j=some s:=by unfold sub;rw[aH ⟨h0,h1,h2⟩];exact⟨_,rfl⟩
theorem Qq {k0:aw ir->Int->ay (aw ir)}{Q:aw ir->Prop}(hs:s.length<=96){b:Int}(hk:∀l i,l.length<=100->(∀x∈l,x.2.1=b)->Ends (k0 l i) Q):Ends (bc (kB k0 s b) fuel ([(0,b,0,([]:Bytes))],8)) Q:=by refine Ends.zI (λy=>8*(y.1.length:Int)<=y.2/\8<=y.2/\y.2<=104/\∀x∈y.1,x.2.1=b) (λy=>(104-y.2).toNat) ⟨by simp,by simp,by simp,by simp⟩ (by simp) λy ny hy hn=>?_;unfold kB;refine Ends.cond (λk=>?_) λ_=>hk _ _ (by have:=hy.1;have:=hy.2.2.1;omega) hy.2.2.2;have k:=bt k;have h1:=hy.1;have h2:=hy.2.1;rw[al (n:=y.2+8)];obtain⟨t,et⟩:=aj6 (l:=s) (i:=y.2) (j:=if(s.length:Int)<y.2+8 then(s.length:Int) else y.2+8) (by omega) (by split<;>omega) (by split<;>omega);rw[et,ab];refine Ends.room (by simp;omega) (hn _ ⟨by show 8*((y.1++[_]).length:Int)<=y.2+8;simp;omega,by show 8<=y.2+8;omega,by show y.2+8<=104;omega,?_⟩ (by show(104-(y.2+8)).toNat<(104-y.2).toNat;omega));intro x hx;rcases az.1 hx with hx|hx;exact hy.2.2.2 x hx;rw[bF.1 hx]
theorem aj5 (hs:s.length<=1000):Ends (sV f s) λl=>l.length<=101/\∀x∈l,x.2.1≠iw f:=by
 unfold sV;rw[K9,ab];refine Ends.bind (P:=λb=>b=false->kJ f=true/\s.length<=96) ?_ λz hz=>Ends.cond (λ_=>Ends.pure ⟨by simp,by simp⟩) λk=>?_;refine Ends.cond (λ_=>Ends.pure (by simp)) λk1=>Ends.cond (λ_=>Ends.pure (by simp)) λk2=>?_;rw[JQ s,ab];have:=dX k2;exact Ends.pure λ_=>⟨by simpa using k1,by omega⟩
 obtain⟨hf,hl⟩:=hz k;have fin:∀(l:aw ir)(b:Int),b≠iw f->l.length<=100->(∀x∈l,x.2.1=b)->Ends (aa (sub s 0 (if(s.length:Int)<8 then(s.length:Int) else 8)) λx8=>Go.Dn.room (List.length l+List.length [((1,b,0,x8):ir)]) (some (l++[(1,b,0,x8)]))) (λl=>l.length<=101/\∀x∈l,x.2.1≠iw f):=by intro l b hb h1 h2;obtain⟨t,et⟩:=aj6 (l:=s) (i:=0) (j:=if(s.length:Int)<8 then(s.length:Int) else 8) (by omega) (by split<;>omega) (by split<;>omega);rw[et,ab];refine Ends.room (by simp;omega) (Ends.pure ⟨by simp;omega,λx hx=>?_⟩);rcases az.1 hx with hx|hx;rw[h2 x hx];exact hb;rw[bF.1 hx];exact hb
 rw[O7,ab];refine Ends.cond (λk0=>?_) λk0=>?_;have e:iw f=0:=by simpa using k0
 exact Qq hl λl i h1 h2=>fin l 1 (by omega) h1 h2;have e:iw f≠0:=by simpa using k0
 exact Qq hl λl i h1 h2=>fin l 0 (by omega) h1 h2
theorem agU (h:kJ f=true){l:aw ir}(hl:l.length<=101)(hb:∀x∈l,x.2.1≠iw f)(n:Int)(hn:n<=1000):Ends (wO f l n 3) (Rz f):=by
 have hlen:f.length=2:=by rw[(xO h).1];rfl
 have same:Rz f f:=⟨h,λ_ _=>rfl⟩
 have step:∀(g:bN)(i:Nat)(hi:i<l.length)(part:Int),part<=1000->Rz f g->Ends (lp g l[i] part) (Rz f):=by
  intro g i hi part hp kg;refine(aa1 kg.1 l[i] part hp).mono λg' hg=>⟨hg.1,λj hj=>?_⟩
  rw[hg.2 j (by rw[hj];exact(hb _ (aI hi)).symm)];exact kg.2 j hj
 unfold wO;rw[lO,mw f,ab];refine Ends.bind (P:=λb=>b=false->0<=n) (Ends.cond (λ_=>Ends.pure (by simp)) λk=>Ends.pure λ_=>by have:=dX k;omega) λz hz=>Ends.cond (λ_=>Ends.pure same) λk=>?_;have h0:=hz k;refine Ends.zI (λy=>0<=y.1/\y.1<=(l.length:Int)/\Rz f y.2) (λy=>((l.length:Int)-y.1).toNat) ⟨by simp,by simp,same⟩ (by simp;omega) λy ny hy hm=>?_;unfold wP;refine Ends.bind (P:=λb=>b=true->y.1<(l.length:Int)) (Ends.cond (λk1=>Ends.pure λ_=>bt k1) λ_=>Ends.pure (by simp)) λw hw=>Ends.cond (λk2=>?_) λ_=>Ends.cond (λk3=>?_) λ_=>Ends.pure hy.2.2;have k2:=hw k2;rw[al (n:=y.1+1)];exact Ends.idx hy.1 k2 λhi=>(step y.2 _ hi 96 (by omega) hy.2.2).bind λg kg=>hm _ ⟨by show 0<=y.1+1;have:=hy.1;omega,by show y.1+1<=_;omega,kg⟩ (by show((l.length:Int)-(y.1+1)).toNat<((l.length:Int)-y.1).toNat;omega);have k3:=bt k3;exact Ends.idx h0 k3 λhi=>(step y.2 _ hi 3 (by omega) hy.2.2).bind λg kg=>Ends.pure kg
def Kf (b:tX)(n:Int):tX:=
 bif iD b&&cS n 0 1000000 then(b.1,b.2.1,if b.2.1<ar (b.2.2+ar (b.1*n)) then b.2.1 else ar (b.2.2+ar (b.1*n))) else b
theorem abx (b:tX)(n:Int):rj b n=some (Kf b n):=by unfold rj Kf;simp only[Io,ab,cl];cases iD b<;>cases cS n 0 1000000<;>rfl
def F8 (f:α->α)(l:aw α)(i:Nat):aw α:=(l.take i).map f++l.drop i
theorem Ln (f:α->α){l:aw α}(h:i<l.length):idx (F8 f l i) (i:Int)=some l[i]:=by rw[Ej,F8,bz (by simp only[bL,aV];omega),bS];rw[show i+(i-((l.take i).map f).length)=i by simp;omega];exact ak h
theorem Lo (f:α->α){l:aw α}(h:i<l.length):(F8 f l i).set i (f l[i])=F8 f l (i+1):=by
 have hl:((l.take i).map f).length=i:=by simp;omega
 rw[F8,F8,List.set_append_right _ _ (by omega),hl,jg,ca h,List.set_cons_zero,bn h,ee,aY];rfl
theorem Lm (f:α->α)(l:aw α):F8 f l l.length=l.map f:=by rw[F8,cO,ig,bI]
def aeh (n:Int)(f:aR):aR:=(f.1,f.2.1,Kf f.2.2.1 n,f.2.2.2)
theorem XG (l:aw aR)(n:Int)(h:l.length<=10^9):pH l n=some (l.map (aeh n)):=by unfold pH;rw[wv l h,ab];refine dC (λi=>(F8 (aeh n) l i,(i:Int))) l.length (by omega) (λi nx hi=>?_) (λnx=>?_);simp only[lZ];rw[iU,Ln _ hi,al];simp only[ah,ab,abx,ax];rw[<-Lo _ hi];rfl;simp only[lZ];rw[cz,af,Lm]
def ap1 (x:Bytes):Bool:=decide (22<=x.length)
theorem sum_nil (l:aw bN):((l.map (λ_=>([]:bN))).map (λq=>q.countP ap1)).sum=0:=by induction l with|nil=>rfl|cons x l ih=>simp only[da,fi,List.countP_nil,cx];exact ih
theorem QS {b:tX}(h:iD b=true)(n:Int):iD (Kf b n)=true:=by
 unfold Kf;cases hq:iD b&&cS n 0 1000000 with
 |false=>exact h
 |true=>
  simp only[ae,aX]at hq;have hi:=h;unfold iD at hi;simp only[ae,aX]at hi;have e1:0<=b.1*n/\b.1*n<=10000000000:=⟨Int.mul_nonneg hi.1.1 hq.2.1,by have:=Int.mul_le_mul hi.1.2 hq.2.2 hq.2.1 (by omega:(0:Int)<=10000);omega⟩
  rw[ah,al (n:=b.1*n),al (n:=b.2.2+b.1*n)];unfold iD;simp only[ae,aX];refine⟨hi.1,hi.2.1,?_,?_⟩;split<;>omega;split<;>omega
end
end Go.Pu
